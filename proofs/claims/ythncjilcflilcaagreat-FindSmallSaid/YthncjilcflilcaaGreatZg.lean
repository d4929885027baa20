/-
  Parts of a proof, put together: FW4, Dl, FW5, FW6, F9, Fm3, FD1, FD2, FD3, FD4, FD5, FD6, FD7, FD8.
  Conditions: none.
-/
import Derived.Test.YthncjilcflilcaaGreatZd
import Derived.Test.YthncjilcflilcaaGreatZf
namespace Go.Proofs.YthncjilcflilcaaGreat
set_option linter.all false
open Go

theorem HI.upd2{w w':World}{lo mid:Nat}{outs T:List Nat}{l:List Int}{v:Value}(h:HI w lo mid outs l v)(hu:Upd T w w')(hT:∀k∈T,k<lo∨∀cs ty,¬Blk w k cs ty):HI w' lo mid outs l v:=by
 rcases h with h | ⟨b,c,rest,ty,h1,h2,h3,h4,h5,h6,h7⟩
 ·exact .inl h
 ·exact .inr ⟨b,c,rest,ty,h1,h2,h3,h4,h5,h6,hu.blk h7 (fun hk=>by
   rcases hT b hk with h | h
   ·omega
   ·exact h _ _ h7)⟩
theorem HR.upd2{w w':World}{lo mid:Nat}{outs T:List Nat}{l:List (List Int)}{v:Value}(h:HR w lo mid outs l v)(hm:lo≤mid)(hu:Upd T w w')(hT:∀k∈T,k<lo∨∀cs ty,¬Blk w k cs ty):HR w' lo mid outs l v:=by
 rcases h with h | ⟨b,c,h1,h2,h3,h4,h5,vs,rest,ty,h6,h7,h8⟩
 ·exact .inl h
 ·refine .inr ⟨b,c,h1,h2,h3,h4,h5,vs,rest,ty,hu.blk h6 (fun hk=>?_),h7,fun j hj=>(h8 j hj).upd hu (fun hk=>?_)⟩
  ·rcases hT b hk with h | h
   ·omega
   ·exact h _ _ h6
  ·have h9:=(h8 j hj).lt
   rcases hT _ hk with h | h
   ·omega
   ·obtain⟨b',c',rest',ty',e,_,_,_,_,hB⟩:=h8 j hj
    rw[e]at h
    exact h _ _ hB
theorem HI.low{w:World}{lo lo' mid:Nat}{outs:List Nat}{l:List Int}{v:Value}(h:HI w lo mid outs l v)(hl:lo'≤lo):HI w lo' mid outs l v:=by
 rcases h with h | ⟨b,c,rest,ty,h1,h2,h3,h4⟩
 ·exact .inl h
 ·exact .inr ⟨b,c,rest,ty,h1,h2,⟨by omega,h3.2⟩,h4⟩
theorem HR.low{w:World}{lo lo' mid:Nat}{outs:List Nat}{l:List (List Int)}{v:Value}(h:HR w lo mid outs l v)(hl:lo'≤lo):HR w lo' mid outs l v:=by
 rcases h with h | ⟨b,c,h1,h2,h3,h4⟩
 ·exact .inl h
 ·exact .inr ⟨b,c,h1,h2,⟨by omega,h3.2⟩,h4⟩
section
variable {lo lo':Nat} {w w':World} {W:List Int} {s:Int} {L F:List (List Int)} {R:List Int} {vW vL vF vR:Value}
theorem OwnD.upd{T:List Nat}(h:OwnD lo w W s L F R vW vL vF vR)(hu:Upd T w w')(hT:∀k∈T,k<lo∨∀cs ty,¬Blk w k cs ty):OwnD lo w' W s L F R vW vL vF vR:=by
 obtain⟨⟨mid,outs,h1,h2,h3,h4,h5,h6,h7⟩,h8⟩:=h
 have:=hu.size
 exact⟨⟨mid,outs,h1,by omega,h3.upd2 hu hT,h4.upd2 h1 hu hT,h5.upd2 h1 hu hT,h6.upd2 hu hT,h7⟩,h8⟩
theorem OwnD.low(h:OwnD lo w W s L F R vW vL vF vR)(hl:lo'≤lo):OwnD lo' w W s L F R vW vL vF vR:=by
 obtain⟨⟨mid,outs,h1,h2,h3,h4,h5,h6,h7⟩,h8⟩:=h
 exact⟨⟨mid,outs,by omega,h2,h3.low hl,h4.low hl,h5.low hl,h6.low hl,h7⟩,h8⟩
theorem HR.shape{mid:Nat}{outs:List Nat}{l:List (List Int)}{v:Value}(h:HR w lo mid outs l v):∃a c,v=.slice a l.length c:=by
 rcases h with⟨rfl,a,c,e⟩ | ⟨b,c,e,_⟩
 ·exact⟨a,c,e⟩
 ·exact⟨_,c,e⟩
theorem OwnD.shape(h:OwnD lo w W s L F R vW vL vF vR):(∃a c,vW=.slice a W.length c)∧(∃a c,vL=.slice a L.length c)∧(∃a c,vF=.slice a F.length c)∧∃a c,vR=.slice a R.length c:=by
 obtain⟨⟨mid,outs,h1,h2,h3,h4,h5,h6,h7⟩,h8⟩:=h
 exact⟨h3.shape,h4.shape,h5.shape,h6.shape⟩
end
set_option maxHeartbeats 1000000 in
theorem Amy{N:Nat}{W:List Int}{s:Int}{L F:List (List Int)}{R:List Int}{f t:Nat}{va:Int}(hq0:withp_S N W s L F R f t va=some ((f:Int),(t:Int),va,W,s,L,F,R,0))(hq:Gq N W s L F R f t va=some ((f:Int),(t:Int),va,0,s,W,L,F,R))(hL:∀r∈L,r≠[]∧r.length≤1000000)(hF:∀r∈F,r≠[]∧r.length≤1000000)
  (hf:f<F.length) (ht:t<(F.getD f []).length) (g:Gh) (hρ:∀i,g.ρ i=none) (w:World) (hM:∀b o,g.M b=some o→w.heap[b]?=some o) (vd:Value) (hvd:RepV g (enc id shG (W,s,L,F,R,())) vd) (hfi:inR .i64 (f:Int)) (hti:inR .i64 (t:Int)) (hva:inR .i64 va) :
  Fn Tryz.prog 40 #[vd,.int .i64 (f:Int),.int .i64 (t:Int),.int .i64 va] w (fun v w'=>Ext w w'∧∃vW vL vF vR,v=.tuple #[.agg #[vW,.int .i64 s,vL,vF,vR],.int .i64 0]∧OwnD w.heap.size w' W s L (F.set f ((F.getD f []).set t va)) R vW vL vF vR):=by
 refine Akr (B:=Wj) (x:=Ox N) (ins:=⟨[shG,shI,shI,shI],[]⟩) (specs:=Zk N) (tmps:=[0,1,2,3]) (fu:=400) (fun p=>withp_S N p.1.1.1 p.1.1.2.1 p.1.1.2.2.1 p.1.1.2.2.2.1 p.1.1.2.2.2.2.1 p.1.2.1 p.1.2.2.1 p.1.2.2.2.1) A9s (fun _=>rfl) Tryz.func40 (by kernel_rfl) rfl rfl rfl (by kernel_rfl) (Aia N) mixed (by kernel_rfl) (fun p=>Ang N p.1.1.1 p.1.1.2.1 p.1.1.2.2.1 p.1.1.2.2.2.1 p.1.1.2.2.2.2.1 p.1.2.1 p.1.2.2.1 p.1.2.2.2.1)
  (((W,s,L,F,R,()),(f:Int),(t:Int),va,()),()) _ hq0 g w [vd,.int .i64 (f:Int),.int .i64 (t:Int),.int .i64 va] ⟨_,_,rfl,hvd,_,_,rfl,⟨rfl,hfi⟩,_,_,rfl,⟨rfl,hti⟩,_,_,rfl,⟨rfl,hva⟩,rfl⟩ hM hρ _ ?_
 rintro cs ⟨⟨fo,tr,va',u1,u2,u3⟩,⟨W',s',L',F',R',u4⟩,⟨u5,g0,u6,u7,u8,u9⟩,u14⟩ hq2 g' a w' hr
 have hq2:some (fo,tr,va',W',s',L',F',R',g0)=some ((f:Int),(t:Int),va,W,s,L,F,R,(0:Int)):=hq2
 cases hq2
 have h1:RepV g' (.i .i64 f) (a.tmps.getD 1 undef):=hr.tm 1 _ rfl
 have h2:RepV g' (.i .i64 t) (a.tmps.getD 2 undef):=hr.tm 2 _ rfl
 have h3:RepV g' (.i .i64 va) (a.tmps.getD 3 undef):=hr.tm 3 _ rfl
 have h4:RepV g' (.own 0 0) (a.tmps.getD 4 undef):=hr.tm 4 _ rfl
 have h8:RepV g' (.own 1 0) (a.tmps.getD 8 undef):=hr.tm 8 _ rfl
 have hB0:RepBlk g' w' 0 (.segs [.sl (.int .i64) W,.i .i64 s,.sl (.sl (.int .i64)) L,.sl (.sl (.int .i64)) F,.sl (.int .i64) R]):=hr.sim.blk 0 _ rfl
 have hB1:RepBlk g' w' 1 (.segs [.nils,.i .i64 0,.nils,.nils,.nils]):=hr.sim.blk 1 _ rfl
 simp only[RepV]at h1 h2 h3 h4 h8
 obtain⟨b0,c0,n0,us0,ty0,e0,hb0,hp0,hm0⟩:=hB0
 obtain⟨b1,c1,n1,us1,ty1,e1,hb1,hp1,hm1⟩:=hB1
 obtain⟨_,_,_,e4,h4⟩:=h4
 rw[e0]at e4;cases e4
 obtain⟨_,_,_,e8,h8⟩:=h8
 rw[e1]at e8;cases e8
 simp only[A5,PartOf]at hp0 hp1
 obtain⟨_,_,rfl,⟨xW,rfl,hxW⟩,_,_,rfl,⟨xs,rfl,hxs⟩,_,_,rfl,⟨xL,rfl,hxL⟩,_,_,rfl,⟨xF,rfl,hxF⟩,_,_,rfl,⟨xR,rfl,hxR⟩,rfl⟩:=hp0
 obtain⟨_,_,rfl,⟨z1,rfl,-⟩,_,_,rfl,⟨z2,rfl,-⟩,_,_,rfl,⟨z3,rfl,-⟩,_,_,rfl,⟨z4,rfl,-⟩,_,_,rfl,⟨z5,rfl,-⟩,rfl⟩:=hp1
 have hb0:Blk w' b0 [xW,xs,xL,xF,xR] ty0:=hb0
 have hb1:Blk w' b1 [z1,z2,z3,z4,z5] ty1:=hb1
 obtain⟨Ds,hds,hnd,hDs⟩:=hr.marks
 have e:(Ox N).at_.map (itm Wj.c)=[.code (sub W9 [1,1,1,0]),.code (sub W9 [1,1,1,1])]:=by kernel_rfl
 rw[e]
 refine St.toAt (tm:=a.tmps) (n:=58) (L:=[(1,.int .i64 (f:Int)),(2,.int .i64 (t:Int)),(3,.int .i64 va),(4,.pointer (some ⟨b0,0,none⟩)),(8,.pointer (some ⟨b1,0,none⟩))]) ?_ ⟨hr.sz,N2 _ (fun x hx=>?_)⟩
 rotate_left
 ·simp only[List.mem_cons,List.not_mem_nil,or_false]at hx
  rcases hx with rfl | rfl | rfl | rfl | rfl
  ·exact h1.1
  ·exact h2.1
  ·exact h3.1
  ·exact h4
  ·exact h8
 rw[hds]
 refine St.reg [.code (sub W9 [1,1,1,1])] [(0,true),(1,true),(2,true),(3,true),(4,false),(5,false),(6,true)] (by kernel_rfl) (by kernel_rfl) ?_
 refine RX.q 4 [(0,true,.agg #[xW,xs,xL,xF,xR])] [(53,.agg #[xW,xs,xL,xF,xR]),(54,.int .i64 (f:Int)),(55,.int .i64 (t:Int)),(56,.int .i64 va),(8,.pointer (some ⟨b1,0,none⟩))] [.cells ⟨b0,0,none⟩ [xW,xs,xL,xF,xR]] (by kernel_rfl) (Seg.row hb0 (fun j u hj=>by rw[Nat.zero_add];exact hj)) ?_
 refine RX.call 57 63 #[.agg #[xW,xs,xL,xF,xR],.int .i64 (f:Int),.int .i64 (t:Int),.int .i64 va] [(53,.agg #[xW,xs,xL,xF,xR]),(54,.int .i64 (f:Int)),(55,.int .i64 (t:Int)),(56,.int .i64 va),(8,.pointer (some ⟨b1,0,none⟩))] (fun _=>by kernel_rfl) (by kernel_rfl) ?_
 refine Fn.mono (Ah1 hq hL hF hf ht ⟨fun _=>none,g'.M⟩ (fun _=>rfl) w' hr.sim.mem (.agg #[xW,xs,xL,xF,xR]) ⟨[xW,xs,xL,xF,xR],rfl,[xW],_,rfl,⟨_,rfl,hxW⟩,[xs],_,rfl,⟨_,rfl,hxs⟩,[xL],_,rfl,⟨_,rfl,hxL⟩,[xF],_,rfl,⟨_,rfl,hxF⟩,[xR],_,rfl,⟨_,rfl,hxR⟩,rfl⟩ hfi hti hva) ?_
 rintro _ w2 ⟨hx2,vW,vL,vF,vR,rfl,hO⟩
 obtain⟨⟨aW,cW,rfl⟩,⟨aL,cL,rfl⟩,⟨aF,cF,rfl⟩,aR,cR,rfl⟩:=hO.shape
 have hb1':=hx2.blk hb1
 refine RX.store b1 0 [.slice aW W.length cW,.int .i64 s,.slice aL L.length cL,.slice aF (F.set f ((F.getD f []).set t va)).length cF,.slice aR R.length cR] [z1,z2,z3,z4,z5] [.slice aW W.length cW,.int .i64 s,.slice aL L.length cL,.slice aF (F.set f ((F.getD f []).set t va)).length cF,.slice aR R.length cR] ty1 (by kernel_rfl) rfl hb1' (by kernel_rfl) rfl ?_
 intro w3 hp
 refine RX.q 1 [] [(8,.pointer (some ⟨b1,0,none⟩)),(9,.int .i64 0)] [] (by kernel_rfl) trivial ?_
 refine RX.done [(8,.pointer (some ⟨b1,0,none⟩)),(9,.int .i64 0)] (by kernel_rfl) (by kernel_rfl) ?_
 have hD3:∀D∈Ds,w3.heap[D]?=some (.deferred (some [])):=fun D hD=>hp.upd.blk (hx2.blk (hDs D hD).2) (fun hk=>by
  simp only[List.mem_singleton]at hk
  exact I5 hb1' (hx2.blk (hDs D hD).2) hk.symm)
 refine St.retMarks Ds [.cell 8 25,.tmp 9] [.agg #[.slice aW W.length cW,.int .i64 s,.slice aL L.length cL,.slice aF (F.set f ((F.getD f []).set t va)).length cF,.slice aR R.length cR],.int .i64 0] (by kernel_rfl) Tryz.func40 (by kernel_rfl) hnd hD3 (fun w4 hu4 hs4=>?_)
 have hb4:=hu4.blk hp.blk (fun hk=>by
  have h:=hD3 _ hk
  rw[hp.blk]at h;cases h)
 have nB:∀k∈Ds,∀cs ty,¬Blk w3 k cs ty:=fun k hk cs ty h=>I5 h (hD3 k hk) rfl
 have hlt1:=A4 hb1
 refine⟨.cons (.cells (p:=⟨b1,0,none⟩) (by kernel_rfl) (by kernel_rfl) (by kernel_rfl) (Seg.row hb4 (fun j u hj=>by rw[Nat.zero_add];exact hj))) (.cons (.tmp (by kernel_rfl)) .nil),?_,_,_,_,_,rfl,?_⟩
 ·refine((hr.ext.trans hx2).trans_old hp.upd (fun k hk=>?_)).trans_old hu4 (fun k hk=>(hDs k hk).1)
  simp only[List.mem_singleton]at hk
  subst hk
  exact hr.oth _ _ _ _ e1
 ·exact((hO.upd hp.upd (fun k hk=>.inl (by simp only[List.mem_singleton]at hk;subst hk;exact hlt1))).upd hu4 (fun k hk=>.inr (nB k hk))).low hr.ext.size
end Go.Proofs.YthncjilcflilcaaGreat

namespace Go.Proofs.YthncjilcflilcaaGreat
set_option linter.all false
open Go
theorem Ah5{P:Program}{t e:TypeId}{sz by_:Nat}{z:Value}(hT:Du P t e sz by_ z)(hzf:∀x∈z.cells.toList,flat x=true){ty bty:TypeId}{w:World}{b k c n:Nat}{l:List Value}(hB:Blk w b l bty)(hn:0<n)(hl:k*sz+n*sz≤l.length) :
  (Builtin.clear_ #[t] ty #[.slice (some ⟨b,k*sz,none⟩) n c]).run P w=.ok (.tuple #[]) { w with heap:=w.heap.setIfInBounds b (.cells (l.take (k*sz)++(List.replicate n z.cells.toList).flatten++l.drop (k*sz+n*sz)).toArray bty (0,0)) }:=by
 have hz2:(Builtin.zeroCells z.cells n).toList=(List.replicate n z.cells.toList).flatten:=by
  have:=Eh z.cells n (by rw[hT.zsz];exact hT.pos)
  simp only[Builtin.zeroCells]
  rw[this]
 have hln:(List.replicate n z.cells.toList).flatten.length=n*sz:=by
  have:z.cells.toList.length=sz:=by rw[Array.length_toList,hT.zsz]
  simp[this]
 have hfl:∀x∈(List.replicate n z.cells.toList).flatten,flat x=true:=by
  intro x hx
  simp only[List.mem_flatten,List.mem_replicate]at hx
  obtain⟨y,⟨_,rfl⟩,hx⟩:=hx
  exact hzf x hx
 have hst:=Ba (P:=P) _ (k*sz) 0 l w hfl (by rw[hln];omega) hB
 rw[Nat.add_zero,hln]at hst
 obtain⟨n,rfl⟩:∃q,n=q+1:=⟨n-1,by omega⟩
 have hund:=Sem.pv_run P _ _ hT.und
 have hzr:=Sem.pv_run P _ _ hT.zero w
 simp only[Builtin.clear_,List.getElem?_toArray,List.getElem?_cons_zero,Sem.run_bind,hund,Result.andThen_ok,hzr,hz2,hst,Sem.run_pure]
theorem RepC.flat1{M:Nat→Option Obj}{t:Ty}{x:t.den}{us:List Value}(h:RepC M t x us):∀u∈us,flat u=true:=(RepL.len [x] us ⟨us,[],by simp,h,rfl⟩).2
end Go.Proofs.YthncjilcflilcaaGreat

namespace Go.Proofs.YthncjilcflilcaaGreat
set_option linter.all false
open Go

noncomputable def c6:Code:=(Tryz.f9.body).getD .skip
noncomputable def K6_6:List Item:=[.code (sub c6 [1,1,1,0]),.code (sub c6 [1,1,1,1])]
noncomputable def K6_7:List Item:=[.code (sub c6 [1,1,1,1,0]),.code (sub c6 [1,1,1,1,1])]
noncomputable def K6_8:List Item:=[.code (sub c6 [1,1,1,1,1,0,0]),.code (sub c6 [1,1,1,1,1,0,1]),.code (sub c6 [1,1,1,1,1,1])]
noncomputable def K6_9:List Item:=[.code (sub c6 [1,1,1,1,1,0,1]),.code (sub c6 [1,1,1,1,1,1])]
noncomputable def Ark:List Item:=[.code (sub c6 [1,1,1,1,1,0,1,0,0]),.code (sub c6 [1,1,1,1,1,0,1,0,1]),.code (sub c6 [1,1,1,1,1,1])]
noncomputable def Apw:List Item:=[.code (sub c6 [1,1,1,1,1,1,0]),.code (sub c6 [1,1,1,1,1,1,1])]
noncomputable def Arq:List Item:=[.code (sub c6 [1,1,1,1,1,1,1,0]),.code (sub c6 [1,1,1,1,1,1,1,1])]
noncomputable def Arr:List Item:=[.code (sub c6 [1,1,1,1,1,1,1,1,0,0]),.code (sub c6 [1,1,1,1,1,1,1,1,0,1]),.code (sub c6 [1,1,1,1,1,1,1,1,1])]
noncomputable def Ajz:List Item:=[.code (sub c6 [1,1,1,1,1,1,1,1,0,1,0,0,0]),.code (sub c6 [1,1,1,1,1,1,1,1,0,1,0,0,1]),.inLoop (sub c6 [1,1,1,1,1,1,1,1,0,1,0,0]),.inBlock 0,.code (sub c6 [1,1,1,1,1,1,1,1,1])]
noncomputable def Ao1:List Item:=[.code (sub c6 [1,1,1,1,1,1,1,1,0,1,0,0,1,0]),.code (sub c6 [1,1,1,1,1,1,1,1,0,1,0,0,1,1]),.inLoop (sub c6 [1,1,1,1,1,1,1,1,0,1,0,0]),.inBlock 0,.code (sub c6 [1,1,1,1,1,1,1,1,1])]
noncomputable def Age:List Item:=[.code (sub c6 [1,1,1,1,1,1,1,1,0,1,0,0,1,1,0,0,0]),.code (sub c6 [1,1,1,1,1,1,1,1,0,1,0,0,1,1,0,0,1]),.inBlock 1,.code (sub c6 [1,1,1,1,1,1,1,1,0,1,0,0,1,1,1]),.inLoop (sub c6 [1,1,1,1,1,1,1,1,0,1,0,0]),.inBlock 0,.code (sub c6 [1,1,1,1,1,1,1,1,1])]
noncomputable def Aas:List Item:=[.code (sub c6 [1,1,1,1,1,1,1,1,1,0]),.code (sub c6 [1,1,1,1,1,1,1,1,1,1])]
noncomputable def Art:List Item:=[.code (sub c6 [1,1,1,1,1,1,1,1,0,1,0,0,1,1,0,0,1,0,0]),.code (sub c6 [1,1,1,1,1,1,1,1,0,1,0,0,1,1,0,0,1,0,1]),.code (sub c6 [1,1,1,1,1,1,1,1,0,1,0,0,1,1,0,0,1,1]),.inBlock 1,.code (sub c6 [1,1,1,1,1,1,1,1,0,1,0,0,1,1,1]),.inLoop (sub c6 [1,1,1,1,1,1,1,1,0,1,0,0]),.inBlock 0,.code (sub c6 [1,1,1,1,1,1,1,1,1])]
noncomputable def Afe:List Item:=[.code (sub c6 [1,1,1,1,1,1,1,1,0,1,0,0,1,1,0,0,1,0,1,0,0,0]),.code (sub c6 [1,1,1,1,1,1,1,1,0,1,0,0,1,1,0,0,1,0,1,0,0,1]),.inLoop (sub c6 [1,1,1,1,1,1,1,1,0,1,0,0,1,1,0,0,1,0,1,0,0]),.inBlock 2,.code (sub c6 [1,1,1,1,1,1,1,1,0,1,0,0,1,1,0,0,1,1]),.inBlock 1,.code (sub c6 [1,1,1,1,1,1,1,1,0,1,0,0,1,1,1]),.inLoop (sub c6 [1,1,1,1,1,1,1,1,0,1,0,0]),.inBlock 0,.code (sub c6 [1,1,1,1,1,1,1,1,1])]
noncomputable def Arx:List Item:=[.code (sub c6 [1,1,1,1,1,1,1,1,0,1,0,0,1,1,0,0,1,0,1,0,0,1,0]),.code (sub c6 [1,1,1,1,1,1,1,1,0,1,0,0,1,1,0,0,1,0,1,0,0,1,1]),.inLoop (sub c6 [1,1,1,1,1,1,1,1,0,1,0,0,1,1,0,0,1,0,1,0,0]),.inBlock 2,.code (sub c6 [1,1,1,1,1,1,1,1,0,1,0,0,1,1,0,0,1,1]),.inBlock 1,.code (sub c6 [1,1,1,1,1,1,1,1,0,1,0,0,1,1,1]),.inLoop (sub c6 [1,1,1,1,1,1,1,1,0,1,0,0]),.inBlock 0,.code (sub c6 [1,1,1,1,1,1,1,1,1])]
noncomputable def Arw:List Item:=[.code (sub c6 [1,1,1,1,1,1,1,1,0,1,0,0,1,1,0,0,1,0,1,0,0,1,1,0,0,0]),.code (sub c6 [1,1,1,1,1,1,1,1,0,1,0,0,1,1,0,0,1,0,1,0,0,1,1,0,0,1]),.inBlock 3,.code (sub c6 [1,1,1,1,1,1,1,1,0,1,0,0,1,1,0,0,1,0,1,0,0,1,1,1]),.inLoop (sub c6 [1,1,1,1,1,1,1,1,0,1,0,0,1,1,0,0,1,0,1,0,0]),.inBlock 2,.code (sub c6 [1,1,1,1,1,1,1,1,0,1,0,0,1,1,0,0,1,1]),.inBlock 1,.code (sub c6 [1,1,1,1,1,1,1,1,0,1,0,0,1,1,1]),.inLoop (sub c6 [1,1,1,1,1,1,1,1,0,1,0,0]),.inBlock 0,.code (sub c6 [1,1,1,1,1,1,1,1,1])]
noncomputable def Aq6:List Item:=[.code (sub c6 [1,1,1,1,1,1,1,1,0,1,0,0,1,1,0,0,1,1]),.inBlock 1,.code (sub c6 [1,1,1,1,1,1,1,1,0,1,0,0,1,1,1]),.inLoop (sub c6 [1,1,1,1,1,1,1,1,0,1,0,0]),.inBlock 0,.code (sub c6 [1,1,1,1,1,1,1,1,1])]
noncomputable def Ars:List Item:=[.code (sub c6 [1,1,1,1,1,1,1,1,0,1,0,0,1,1,0,0,1,0,1,0,0,1,1,0,0,1]),.inBlock 3,.code (sub c6 [1,1,1,1,1,1,1,1,0,1,0,0,1,1,0,0,1,0,1,0,0,1,1,1]),.inLoop (sub c6 [1,1,1,1,1,1,1,1,0,1,0,0,1,1,0,0,1,0,1,0,0]),.inBlock 2,.code (sub c6 [1,1,1,1,1,1,1,1,0,1,0,0,1,1,0,0,1,1]),.inBlock 1,.code (sub c6 [1,1,1,1,1,1,1,1,0,1,0,0,1,1,1]),.inLoop (sub c6 [1,1,1,1,1,1,1,1,0,1,0,0]),.inBlock 0,.code (sub c6 [1,1,1,1,1,1,1,1,1])]
noncomputable def Ary:List Item:=[.code (sub c6 [1,1,1,1,1,1,1,1,0,1,0,0,1,1,1]),.inLoop (sub c6 [1,1,1,1,1,1,1,1,0,1,0,0]),.inBlock 0,.code (sub c6 [1,1,1,1,1,1,1,1,1])]
noncomputable def Arh:List Item:=[.code (sub c6 [1,1,1,1,1,1,1,1,0,1,0,0,1,1,0,0,1,0,1,0,0,1,1,1]),.inLoop (sub c6 [1,1,1,1,1,1,1,1,0,1,0,0,1,1,0,0,1,0,1,0,0]),.inBlock 2,.code (sub c6 [1,1,1,1,1,1,1,1,0,1,0,0,1,1,0,0,1,1]),.inBlock 1,.code (sub c6 [1,1,1,1,1,1,1,1,0,1,0,0,1,1,1]),.inLoop (sub c6 [1,1,1,1,1,1,1,1,0,1,0,0]),.inBlock 0,.code (sub c6 [1,1,1,1,1,1,1,1,1])]
def Shp(w w':World):Prop:=∀b cs ty,Blk w b cs ty→∃cs':List Value,cs'.length=cs.length∧Blk w' b cs' ty
theorem Shp.refl(w:World):Shp w w:=fun _ cs _ h=>⟨cs,rfl,h⟩
theorem Shp.trans{a b c:World}(h:Shp a b)(k:Shp b c):Shp a c:=fun x cs ty hx=>by
 obtain⟨cs1,e1,h1⟩:=h x cs ty hx
 obtain⟨cs2,e2,h2⟩:=k x cs1 ty h1
 exact⟨cs2,e2.trans e1,h2⟩
theorem Shp.ext{w w':World}(h:Ext w w'):Shp w w':=fun _ cs _ hx=>⟨cs,rfl,h.blk hx⟩
def Cl1(w:World)(v:Value):Prop:=(∃a c,v=.slice a 0 c)∨∃b n c cs ty,v=.slice (some ⟨b,0,none⟩) n c∧0<n∧n≤cs.length∧Blk w b cs ty
theorem Cl1.shp{w w':World}{v:Value}(h:Cl1 w v)(hs:Shp w w'):Cl1 w' v:=by
 rcases h with h | ⟨b,n,c,cs,ty,e,h1,h2,h3⟩
 ·exact .inl h
 ·obtain⟨cs',e',h4⟩:=hs b cs ty h3
  exact .inr ⟨b,n,c,cs',ty,e,h1,by omega,h4⟩
theorem Pq{P:Program}{t e:TypeId}{by_:Nat}{z:Value}(hT:Du P t e 1 by_ z)(hzf:∀x∈z.cells.toList,flat x=true){w:World}{v:Value}(h:Cl1 w v) :
  ∃w',(Builtin.clear_ #[t] 0 #[v]).run P w=.ok (.tuple #[]) w'∧w'.heap.size=w.heap.size∧(∀T,((∃a c,v=.slice a 0 c)∨blkN v∈T)→Upd T w w')∧Shp w w':=by
 rcases h with⟨a,c,rfl⟩ | ⟨b,n,c,cs,ty,rfl,h1,h2,h3⟩
 ·refine⟨w,?_,rfl,fun T _=>Upd.refl _ _,Shp.refl w⟩
  have hund:=Sem.pv_run P _ _ hT.und
  cases a<;>simp[Builtin.clear_,hund]
 ·have hr:=Ah5 (P:=P) (ty:=0) (c:=c) hT hzf h3 (k:=0) (n:=n) h1 (by omega)
  rw[Nat.zero_mul]at hr
  refine⟨_,hr,?_⟩
  have hp:=Put.mk' (.cells (cs.take 0++(List.replicate n z.cells.toList).flatten++cs.drop (0+n*1)).toArray ty (0,0)) h3
  refine⟨hp.size,fun T hT=>?_,fun b' cs' ty' hB=>?_⟩
  ·rcases hT with⟨a',c',e⟩ | hT
   ·cases e;omega
   ·exact hp.upd.mono (fun k hk=>by simp only[List.mem_singleton]at hk;subst hk;exact hT)
  ·by_cases e:b'=b
   ·subst e
    have e2:some (Obj.cells cs'.toArray ty' (0,0))=some (Obj.cells cs.toArray ty (0,0)):=(show w.heap[b']?=_ from hB).symm.trans h3
    simp only[Option.some.injEq,Obj.cells.injEq]at e2
    obtain⟨e2,rfl,_⟩:=e2
    have e3:cs'=cs:=by simpa using congrArg Array.toList e2
    subst e3
    refine⟨_,?_,hp.blk⟩
    have hz:z.cells.toList.length=1:=by rw[Array.length_toList,hT.zsz]
    simp[hz];omega
   ·exact⟨cs',rfl,hp.upd.blk hB (by simpa using e)⟩
theorem I1{lo hi k:Nat}:k∈List.range' lo (hi-lo)↔lo≤k∧k<hi:=by
 rw[List.mem_range'_1];omega
def Ip(w:World)(mid hi:Nat)(n:Nat)(v:Value):Prop:=(∃a c,n=0∧v=.slice a 0 c)∨∃b c vs rest ty,v=.slice (some ⟨b,0,none⟩) n c∧0<n∧b<mid∧Blk w b (vs++rest) ty∧vs.length=n∧∀j,j<n→Cl1 w (vs.getD j undef)∧mid≤blkN (vs.getD j undef)∧blkN (vs.getD j undef)<hi
section
variable {X:Ctx} {df:List Deferred}
set_option maxHeartbeats 1000000 in
theorem Ama(b4 b9 b59 i n mid hi:Nat)(aX:Option Addr)(cX:Nat)(hn:n≤1000000)(w0:World)(hR:Ip w0 mid hi n (.slice aX n cX))
  (hk:∀w,Upd (List.range' mid (hi-mid)) w0 w→(n=0→Upd [] w0 w)→w.heap.size=w0.heap.size→Shp w0 w→St Tryz.prog X 81 Aq6 [(16,(.slice aX n cX)),(61,.int .i64 (i:Int)),(60,.int .i64 2),(59,(.slice (some ⟨b59,0,none⟩) 2 2)),(4,.pointer (some ⟨b4,0,none⟩)),(9,.pointer (some ⟨b9,0,none⟩))] df w) :
  St Tryz.prog X 81 Afe [(67,.int .i64 0),(66,.int .i64 (n:Int)),(65,(.slice aX n cX)),(16,(.slice aX n cX)),(61,.int .i64 (i:Int)),(60,.int .i64 2),(59,(.slice (some ⟨b59,0,none⟩) 2 2)),(4,.pointer (some ⟨b4,0,none⟩)),(9,.pointer (some ⟨b9,0,none⟩))] df w0:=by
 obtain⟨-,-,by1,zv1,hT1,hZ1⟩:=Bg (P:=Tryz.prog) (t:=22) (e:=3) (y:=.int .i64) (by kernel_rfl)
 have hT1:Du Tryz.prog 22 3 1 by1 zv1:=hT1
 have loop:∀(N j:Nat) (w:World),j≤n→N=n-j→Upd (List.range' mid (hi-mid)) w0 w→(n=0→Upd [] w0 w)→w.heap.size=w0.heap.size→Shp w0 w →
   St Tryz.prog X 81 Afe [(67,.int .i64 (j:Int)),(66,.int .i64 (n:Int)),(65,(.slice aX n cX)),(16,(.slice aX n cX)),(61,.int .i64 (i:Int)),(60,.int .i64 2),(59,(.slice (some ⟨b59,0,none⟩) 2 2)),(4,.pointer (some ⟨b4,0,none⟩)),(9,.pointer (some ⟨b9,0,none⟩))] df w:=by
  intro N
  induction N using Nat.strongRecOn with
  | ind N ih=>?_
  intro j w hj hN hu hu0 hsz hs
  refine St.reg Arx [(0,true)] (by kernel_rfl) (by kernel_rfl) ?_
  refine RX.q 1 [] [(68,.bool (decide ((j:Int)<(n:Int)))),(67,.int .i64 (j:Int)),(66,.int .i64 (n:Int)),(65,(.slice aX n cX)),(16,(.slice aX n cX)),(61,.int .i64 (i:Int)),(60,.int .i64 2),(59,(.slice (some ⟨b59,0,none⟩) 2 2)),(4,.pointer (some ⟨b4,0,none⟩)),(9,.pointer (some ⟨b9,0,none⟩))] [] (by kernel_rfl) trivial ?_
  refine RX.done [(68,.bool (decide ((j:Int)<(n:Int)))),(67,.int .i64 (j:Int)),(66,.int .i64 (n:Int)),(65,(.slice aX n cX)),(16,(.slice aX n cX)),(61,.int .i64 (i:Int)),(60,.int .i64 2),(59,(.slice (some ⟨b59,0,none⟩) 2 2)),(4,.pointer (some ⟨b4,0,none⟩)),(9,.pointer (some ⟨b9,0,none⟩))] (by kernel_rfl) (by kernel_rfl) ?_
  refine St.cond (k1:=Arw) (k2:=Aq6) (decide ((j:Int)<(n:Int))) (by kernel_rfl) (fun hc=>?_) (fun _=>?_)
  rotate_left
  ·exact St.weak (L':=[(16,(.slice aX n cX)),(61,.int .i64 (i:Int)),(60,.int .i64 2),(59,(.slice (some ⟨b59,0,none⟩) 2 2)),(4,.pointer (some ⟨b4,0,none⟩)),(9,.pointer (some ⟨b9,0,none⟩))]) (by kernel_rfl) (hk w hu hu0 hsz hs)
  have hjn:j<n:=by
   have:(j:Int)<(n:Int):=by simpa using hc
   omega
  obtain⟨a,c,h0,_⟩ | ⟨b,c,vs,rest,ty,e,h0,hbm,hB,hlen,hrow⟩:=hR
  ·omega
  cases e
  obtain⟨hc1,hlo,hhi⟩:=hrow j hjn
  have hBw:Blk w b (vs++rest) ty:=hu.blk hB (fun hk=>by have:=I1.1 hk;omega)
  have ev:vs[j]?=some (vs.getD j undef):=by simp[List.getD_eq_getElem?_getD,List.getElem?_eq_getElem (show j<vs.length by omega)]
  have ev2:(vs++rest)[j]?=some (vs.getD j undef):=by rw[List.getElem?_append_left (by omega),ev]
  have hcw:=hc1.shp hs
  generalize hrv:vs.getD j undef=rv at hc1 hlo hhi ev2 hcw
  obtain⟨w1,hrun,hsz1,hup1,hsh1⟩:=Pq (t:=22) hT1 (RepC.flat1 (hZ1 (fun _=>none))) hcw
  obtain⟨ra,rn,rc,rfl⟩:∃ra rn rc,rv=.slice ra rn rc:=by
   rcases hc1 with⟨a,c,e⟩ | ⟨b,n,c,_,_,e,_⟩
   ·exact⟨_,_,_,e⟩
   ·exact⟨_,_,_,e⟩
  refine St.weak (L':=[(67,.int .i64 (j:Int)),(66,.int .i64 (n:Int)),(65,(.slice (some ⟨b,0,none⟩) n cX)),(16,(.slice (some ⟨b,0,none⟩) n cX)),(61,.int .i64 (i:Int)),(60,.int .i64 2),(59,(.slice (some ⟨b59,0,none⟩) 2 2)),(4,.pointer (some ⟨b4,0,none⟩)),(9,.pointer (some ⟨b9,0,none⟩))]) (by kernel_rfl) ?_
  refine St.reg Ars [(0,true),(1,true),(2,true)] (by kernel_rfl) (by kernel_rfl) ?_
  refine RX.q 3 [(0,true,.pointer (some ⟨b,0+j*1,none⟩)),(1,true,.slice ra rn rc)] [(18,.slice ra rn rc),(67,.int .i64 (j:Int)),(66,.int .i64 (n:Int)),(65,(.slice (some ⟨b,0,none⟩) n cX)),(16,(.slice (some ⟨b,0,none⟩) n cX)),(61,.int .i64 (i:Int)),(60,.int .i64 2),(59,(.slice (some ⟨b59,0,none⟩) 2 2)),(4,.pointer (some ⟨b4,0,none⟩)),(9,.pointer (some ⟨b9,0,none⟩))] [.raw (Instr.indexAt 23 (.slice (some ⟨b,0,none⟩) n cX) (.int .i64 (j:Int))) (.pointer (some ⟨b,0+j*1,none⟩)),.cell ⟨b,0+j*1,none⟩ (.slice ra rn rc)] (by kernel_rfl)
   ⟨K7 (e:=22) (sz:=1) (by kernel_rfl) (by kernel_rfl) b 0 n cX j hjn _,by rw[show 0+j*1=j by omega];exact Blk.cell hBw ev2⟩ ?_
  refine RX.done [(18,.slice ra rn rc),(67,.int .i64 (j:Int)),(66,.int .i64 (n:Int)),(65,(.slice (some ⟨b,0,none⟩) n cX)),(16,(.slice (some ⟨b,0,none⟩) n cX)),(61,.int .i64 (i:Int)),(60,.int .i64 2),(59,(.slice (some ⟨b59,0,none⟩) 2 2)),(4,.pointer (some ⟨b4,0,none⟩)),(9,.pointer (some ⟨b9,0,none⟩))] (by kernel_rfl) (by kernel_rfl) ?_
  refine St.reg Arh [(0,true),(1,false)] (by kernel_rfl) (by kernel_rfl) ?_
  refine RX.q 1 [] [(71,.slice ra rn rc),(67,.int .i64 (j:Int)),(66,.int .i64 (n:Int)),(65,(.slice (some ⟨b,0,none⟩) n cX)),(16,(.slice (some ⟨b,0,none⟩) n cX)),(61,.int .i64 (i:Int)),(60,.int .i64 2),(59,(.slice (some ⟨b59,0,none⟩) 2 2)),(4,.pointer (some ⟨b4,0,none⟩)),(9,.pointer (some ⟨b9,0,none⟩))] [] (by kernel_rfl) trivial ?_
  refine RX.run0 (Builtin.clear_ #[22] 0 #[.slice ra rn rc]) (by kernel_rfl) hrun ?_
  refine RX.done [(67,.int .i64 (j:Int)),(66,.int .i64 (n:Int)),(65,(.slice (some ⟨b,0,none⟩) n cX)),(16,(.slice (some ⟨b,0,none⟩) n cX)),(61,.int .i64 (i:Int)),(60,.int .i64 2),(59,(.slice (some ⟨b59,0,none⟩) 2 2)),(4,.pointer (some ⟨b4,0,none⟩)),(9,.pointer (some ⟨b9,0,none⟩))] (by kernel_rfl) (by kernel_rfl) ?_
  refine St.reg Afe [(0,true),(1,true)] (by kernel_rfl) (by kernel_rfl) ?_
  refine RX.q 2 [(0,false,.int .i64 ((j:Int)+1))] [(67,.int .i64 ((j:Int)+1)),(66,.int .i64 (n:Int)),(65,(.slice (some ⟨b,0,none⟩) n cX)),(16,(.slice (some ⟨b,0,none⟩) n cX)),(61,.int .i64 (i:Int)),(60,.int .i64 2),(59,(.slice (some ⟨b59,0,none⟩) 2 2)),(4,.pointer (some ⟨b4,0,none⟩)),(9,.pointer (some ⟨b9,0,none⟩))] [.eq (.int .i64 (IntKind.i64.wrap ((j:Int)+1))) (.int .i64 ((j:Int)+1))] (by kernel_rfl) (int64 (by omega)) ?_
  refine RX.done [(67,.int .i64 ((j:Int)+1)),(66,.int .i64 (n:Int)),(65,(.slice (some ⟨b,0,none⟩) n cX)),(16,(.slice (some ⟨b,0,none⟩) n cX)),(61,.int .i64 (i:Int)),(60,.int .i64 2),(59,(.slice (some ⟨b59,0,none⟩) 2 2)),(4,.pointer (some ⟨b4,0,none⟩)),(9,.pointer (some ⟨b9,0,none⟩))] (by kernel_rfl) (by kernel_rfl) ?_
  exact St.weak (by kernel_rfl) (ih _ (by omega) (j+1) w1 (by omega) rfl (hu.trans (hup1 _ (.inr (I1.2 ⟨hlo,hhi⟩)))) (fun e=>by omega) (by omega) (hs.trans hsh1))
 exact St.weak (by kernel_rfl) (loop _ 0 w0 (by omega) rfl (Upd.refl _ _) (fun _=>Upd.refl _ _) rfl (Shp.refl _))
theorem Ip.pres{w w':World}{mid hi n:Nat}{v:Value}{T:List Nat}(h:Ip w mid hi n v)(hu:Upd T w w')(hs:Shp w w')(hT:0<n→blkN v∉T):Ip w' mid hi n v:=by
 rcases h with h | ⟨b,c,vs,rest,ty,e,h0,h1,h2,h3,h4⟩
 ·exact .inl h
 ·exact .inr ⟨b,c,vs,rest,ty,e,h0,h1,hu.blk h2 (by have:=hT h0;rw[e]at this;exact this),h3,fun j hj=>⟨(h4 j hj).1.shp hs,(h4 j hj).2⟩⟩
theorem Ip.cl1{w:World}{mid hi n:Nat}{v:Value}(h:Ip w mid hi n v):Cl1 w v:=by
 rcases h with⟨a,c,rfl,e⟩ | ⟨b,c,vs,rest,ty,e,h0,h1,h2,h3,h4⟩
 ·exact .inl ⟨a,c,e⟩
 ·exact .inr ⟨b,n,c,vs++rest,ty,e,h0,by rw[List.length_append];omega,h2⟩
set_option maxHeartbeats 1000000 in
theorem Agl(b4 b9 b59 i n mid hi:Nat)(aX:Option Addr)(cX:Nat)(hi2:i<2)(hn:n≤1000000)(w0:World)(cs59:List Value)(ty59:TypeId)(h59:Blk w0 b59 cs59 ty59)(hc59:cs59[i]?=some (.slice aX n cX))(hb59:hi≤b59)(hmh:mid≤hi)(hR:Ip w0 mid hi n (.slice aX n cX))
  (hk:∀w,(0<n∧Upd (blkN (.slice aX n cX)::List.range' mid (hi-mid)) w0 w)∨(n=0∧Upd [] w0 w)→w.heap.size=w0.heap.size→Shp w0 w→St Tryz.prog X 81 Ajz [(61,.int .i64 ((i:Int)+1)),(60,.int .i64 2),(59,(.slice (some ⟨b59,0,none⟩) 2 2)),(4,.pointer (some ⟨b4,0,none⟩)),(9,.pointer (some ⟨b9,0,none⟩))] df w) :
  St Tryz.prog X 81 Age [(61,.int .i64 (i:Int)),(60,.int .i64 2),(59,(.slice (some ⟨b59,0,none⟩) 2 2)),(4,.pointer (some ⟨b4,0,none⟩)),(9,.pointer (some ⟨b9,0,none⟩))] df w0:=by
 obtain⟨-,-,by2,zv2,hT2,hZ2⟩:=Bg (P:=Tryz.prog) (t:=23) (e:=22) (y:=.sl (.int .i64)) (by kernel_rfl)
 have hT2:Du Tryz.prog 23 22 1 by2 zv2:=hT2
 refine St.reg Art [(0,true),(1,true),(2,true)] (by kernel_rfl) (by kernel_rfl) ?_
 refine RX.q 3 [(0,true,(.pointer (some ⟨b59,0+i*1,none⟩))),(1,true,(.slice aX n cX))] [(16,(.slice aX n cX)),(61,.int .i64 (i:Int)),(60,.int .i64 2),(59,(.slice (some ⟨b59,0,none⟩) 2 2)),(4,.pointer (some ⟨b4,0,none⟩)),(9,.pointer (some ⟨b9,0,none⟩))] [.raw (Instr.indexAt 72 (.slice (some ⟨b59,0,none⟩) 2 2) (.int .i64 (i:Int))) (.pointer (some ⟨b59,0+i*1,none⟩)),.cell ⟨b59,0+i*1,none⟩ (.slice aX n cX)] (by kernel_rfl)
  ⟨K7 (e:=23) (sz:=1) (by kernel_rfl) (by kernel_rfl) b59 0 2 2 i hi2 _,by rw[show 0+i*1=i by omega];exact Blk.cell h59 hc59⟩ ?_
 refine RX.done [(16,(.slice aX n cX)),(61,.int .i64 (i:Int)),(60,.int .i64 2),(59,(.slice (some ⟨b59,0,none⟩) 2 2)),(4,.pointer (some ⟨b4,0,none⟩)),(9,.pointer (some ⟨b9,0,none⟩))] (by kernel_rfl) (by kernel_rfl) ?_
 refine St.reg Afe [(0,true),(1,true),(2,true)] (by kernel_rfl) (by kernel_rfl) ?_
 refine RX.q 3 [] [(67,.int .i64 0),(66,.int .i64 (n:Int)),(65,(.slice aX n cX)),(16,(.slice aX n cX)),(61,.int .i64 (i:Int)),(60,.int .i64 2),(59,(.slice (some ⟨b59,0,none⟩) 2 2)),(4,.pointer (some ⟨b4,0,none⟩)),(9,.pointer (some ⟨b9,0,none⟩))] [] (by kernel_rfl) trivial ?_
 refine RX.done [(67,.int .i64 0),(66,.int .i64 (n:Int)),(65,(.slice aX n cX)),(16,(.slice aX n cX)),(61,.int .i64 (i:Int)),(60,.int .i64 2),(59,(.slice (some ⟨b59,0,none⟩) 2 2)),(4,.pointer (some ⟨b4,0,none⟩)),(9,.pointer (some ⟨b9,0,none⟩))] (by kernel_rfl) (by kernel_rfl) ?_
 refine Ama b4 b9 b59 i n mid hi aX cX hn w0 hR ?_
 intro w hu hu0 hsz hs
 obtain⟨w1,hrun,hsz1,hup1,hsh1⟩:=Pq (t:=23) hT2 (RepC.flat1 (hZ2 (fun _=>none))) (hR.cl1.shp hs)
 refine St.reg Ary [(0,true),(1,false)] (by kernel_rfl) (by kernel_rfl) ?_
 refine RX.q 1 [] [(73,(.slice aX n cX)),(61,.int .i64 (i:Int)),(60,.int .i64 2),(59,(.slice (some ⟨b59,0,none⟩) 2 2)),(4,.pointer (some ⟨b4,0,none⟩)),(9,.pointer (some ⟨b9,0,none⟩))] [] (by kernel_rfl) trivial ?_
 refine RX.run0 (Builtin.clear_ #[23] 0 #[(.slice aX n cX)]) (by kernel_rfl) hrun ?_
 refine RX.done [(61,.int .i64 (i:Int)),(60,.int .i64 2),(59,(.slice (some ⟨b59,0,none⟩) 2 2)),(4,.pointer (some ⟨b4,0,none⟩)),(9,.pointer (some ⟨b9,0,none⟩))] (by kernel_rfl) (by kernel_rfl) ?_
 refine St.reg Ajz [(0,true),(1,true)] (by kernel_rfl) (by kernel_rfl) ?_
 refine RX.q 2 [(0,false,.int .i64 ((i:Int)+1))] [(61,.int .i64 ((i:Int)+1)),(60,.int .i64 2),(59,(.slice (some ⟨b59,0,none⟩) 2 2)),(4,.pointer (some ⟨b4,0,none⟩)),(9,.pointer (some ⟨b9,0,none⟩))] [.eq (.int .i64 (IntKind.i64.wrap ((i:Int)+1))) (.int .i64 ((i:Int)+1))] (by kernel_rfl) (int64 (by omega)) ?_
 refine RX.done [(61,.int .i64 ((i:Int)+1)),(60,.int .i64 2),(59,(.slice (some ⟨b59,0,none⟩) 2 2)),(4,.pointer (some ⟨b4,0,none⟩)),(9,.pointer (some ⟨b9,0,none⟩))] (by kernel_rfl) (by kernel_rfl) ?_
 refine hk w1 ?_ (by omega) (hs.trans hsh1)
 rcases Nat.eq_zero_or_pos n with rfl | h0
 ·exact .inr ⟨rfl,(hu0 rfl).trans (hup1 _ (.inl ⟨_,_,rfl⟩))⟩
 ·exact .inl ⟨h0,(hu.mono (fun k hk=>List.mem_cons_of_mem _ hk)).trans (hup1 _ (.inr List.mem_cons_self))⟩
set_option maxHeartbeats 1000000 in
theorem Aph(b4 b9 b11 lo mid hi nL nF:Nat)(outs:List Nat)(aW aR aL aF:Option Addr)(nW nR cW cR cL cF:Nat)(vS:Value)(hnL:nL≤1000000)(hnF:nF≤1000000)(ty11:TypeId)(w0:World)(hlm:lo≤mid)(hmh:mid≤hi)(hb11:hi≤b11)
  (h11:Blk w0 b11 [.slice aW nW cW,vS,.slice aL nL cL,.slice aF nF cF,.slice aR nR cR] ty11)
  (hW:Cl1 w0 (.slice aW nW cW)) (hW2:(nW=0)∨(lo≤blkN (.slice aW nW cW)∧blkN (.slice aW nW cW)<mid∧blkN (.slice aW nW cW)∉outs)) (hR:Cl1 w0 (.slice aR nR cR)) (hR2:(nR=0)∨(lo≤blkN (.slice aR nR cR)∧blkN (.slice aR nR cR)<mid∧blkN (.slice aR nR cR)∉outs))
  (hL:Ip w0 mid hi nL (.slice aL nL cL)) (hL2:0<nL→lo≤blkN (.slice aL nL cL)∧blkN (.slice aL nL cL)<mid∧blkN (.slice aL nL cL)∈outs) (hF:Ip w0 mid hi nF (.slice aF nF cF)) (hF2:0<nF→lo≤blkN (.slice aF nF cF)∧blkN (.slice aF nF cF)<mid∧blkN (.slice aF nF cF)∈outs)
  (hLF:0<nL→0<nF→blkN (.slice aL nL cL)≠blkN (.slice aF nF cF))
  (hk:∀w,(∀b,b<w0.heap.size→(b<lo∨hi≤b)→w.heap[b]?=w0.heap[b]?)→w.os=w0.os→w.tape=w0.tape→w.output=w0.output→w0.heap.size≤w.heap.size→St Tryz.prog X 81 Aas [(4,.pointer (some ⟨b4,0,none⟩)),(9,.pointer (some ⟨b9,0,none⟩))] df w) :
  St Tryz.prog X 81 Apw [(11,.pointer (some ⟨b11,0,none⟩)),(4,.pointer (some ⟨b4,0,none⟩)),(9,.pointer (some ⟨b9,0,none⟩))] df w0:=by
 obtain⟨-,-,by1,zv1,hT1,hZ1⟩:=Bg (P:=Tryz.prog) (t:=22) (e:=3) (y:=.int .i64) (by kernel_rfl)
 have hT1:Du Tryz.prog 22 3 1 by1 zv1:=hT1
 let T:=(List.range' lo (mid-lo)).filter fun k=>decide (k∉outs)
 have mT:∀ {k},k∈T↔(lo≤k∧k<mid)∧k∉outs:=fun{k}=>by
  simp only[T,List.mem_filter,I1,decide_eq_true_eq]
 obtain⟨w1,r1,s1,u1,p1⟩:=Pq (t:=22) hT1 (RepC.flat1 (hZ1 (fun _=>none))) hW
 have u1:Upd T w0 w1:=u1 T (by
  rcases hW2 with rfl | ⟨h1,h2,h3⟩
  ·exact .inl ⟨_,_,rfl⟩
  ·exact .inr (mT.2 ⟨⟨h1,h2⟩,h3⟩))
 obtain⟨w2,r2,s2,u2,p2⟩:=Pq (t:=22) hT1 (RepC.flat1 (hZ1 (fun _=>none))) (hR.shp p1)
 have u2:Upd T w1 w2:=u2 T (by
  rcases hR2 with rfl | ⟨h1,h2,h3⟩
  ·exact .inl ⟨_,_,rfl⟩
  ·exact .inr (mT.2 ⟨⟨h1,h2⟩,h3⟩))
 have n11:b11∉T:=fun h=>by have:=mT.1 h;omega
 have h11':=u1.blk h11 n11
 have h11'':=u2.blk h11' n11
 refine St.reg Arq [(0,true),(1,true),(2,false)] (by kernel_rfl) (by kernel_rfl) ?_
 refine RX.q 2 [(1,true,.slice aW nW cW)] [(52,.slice aW nW cW),(11,.pointer (some ⟨b11,0,none⟩)),(4,.pointer (some ⟨b4,0,none⟩)),(9,.pointer (some ⟨b9,0,none⟩))] [.cell ⟨b11,0,none⟩ (.slice aW nW cW)] (by kernel_rfl) (Blk.cell h11 rfl) ?_
 refine RX.run0 (Builtin.clear_ #[22] 0 #[.slice aW nW cW]) (by kernel_rfl) r1 ?_
 refine RX.done [(11,.pointer (some ⟨b11,0,none⟩)),(4,.pointer (some ⟨b4,0,none⟩)),(9,.pointer (some ⟨b9,0,none⟩))] (by kernel_rfl) (by kernel_rfl) ?_
 refine St.reg Arr [(0,true),(1,true),(2,false)] (by kernel_rfl) (by kernel_rfl) ?_
 refine RX.q 2 [(1,true,.slice aR nR cR)] [(54,.slice aR nR cR),(11,.pointer (some ⟨b11,0,none⟩)),(4,.pointer (some ⟨b4,0,none⟩)),(9,.pointer (some ⟨b9,0,none⟩))] [.cell ⟨b11,4,none⟩ (.slice aR nR cR)] (by kernel_rfl) (Blk.cell h11' rfl) ?_
 refine RX.run0 (Builtin.clear_ #[22] 0 #[.slice aR nR cR]) (by kernel_rfl) r2 ?_
 refine RX.done [(11,.pointer (some ⟨b11,0,none⟩)),(4,.pointer (some ⟨b4,0,none⟩)),(9,.pointer (some ⟨b9,0,none⟩))] (by kernel_rfl) (by kernel_rfl) ?_
 refine St.reg Ajz [(0,true),(1,true),(2,true),(3,true),(4,false),(5,true),(6,true)] (by kernel_rfl) (by kernel_rfl) ?_
 refine RX.q 4 [(1,true,.slice aL nL cL),(3,true,.slice aF nF cF)] [(56,.slice aL nL cL),(58,.slice aF nF cF),(4,.pointer (some ⟨b4,0,none⟩)),(9,.pointer (some ⟨b9,0,none⟩))] [.cell ⟨b11,2,none⟩ (.slice aL nL cL),.cell ⟨b11,3,none⟩ (.slice aF nF cF)] (by kernel_rfl) ⟨Blk.cell h11'' rfl,Blk.cell h11'' rfl⟩ ?_
 refine RX.new 59 (.cells #[.slice aL nL cL,.slice aF nF cF] 23) (.sl 2) [(56,.slice aL nL cL),(58,.slice aF nF cF),(4,.pointer (some ⟨b4,0,none⟩)),(9,.pointer (some ⟨b9,0,none⟩))] (by kernel_rfl) ?_
 intro b59 w3 hn
 have hs3:=hn.size;have ha3:=hn.at_
 have h59:Blk w3 b59 [.slice aL nL cL,.slice aF nF cF] 23:=hn.blk
 have hlt11:=A4 h11
 have hb59:hi≤b59:=by omega
 refine RX.q 2 [] [(61,.int .i64 0),(60,.int .i64 2),(59,(.slice (some ⟨b59,0,none⟩) 2 2)),(4,.pointer (some ⟨b4,0,none⟩)),(9,.pointer (some ⟨b9,0,none⟩))] [] (by kernel_rfl) trivial ?_
 refine RX.done [(61,.int .i64 0),(60,.int .i64 2),(59,(.slice (some ⟨b59,0,none⟩) 2 2)),(4,.pointer (some ⟨b4,0,none⟩)),(9,.pointer (some ⟨b9,0,none⟩))] (by kernel_rfl) (by kernel_rfl) ?_
 have hL3:Ip w3 mid hi nL (.slice aL nL cL):=((hL.pres u1 p1 (fun h0 h=>(mT.1 h).2 (hL2 h0).2.2)).pres u2 p2 (fun h0 h=>(mT.1 h).2 (hL2 h0).2.2)).pres hn.ext (Shp.ext hn.ext) (fun _ h=>by cases h)
 have hF3:Ip w3 mid hi nF (.slice aF nF cF):=((hF.pres u1 p1 (fun h0 h=>(mT.1 h).2 (hF2 h0).2.2)).pres u2 p2 (fun h0 h=>(mT.1 h).2 (hF2 h0).2.2)).pres hn.ext (Shp.ext hn.ext) (fun _ h=>by cases h)
 have U3:Upd (List.range' lo (hi-lo)) w0 w3:=((u1.trans u2).mono (fun k h=>I1.2 (by have:=(mT.1 h).1;omega))).trans (hn.ext.mono (fun k h=>by cases h))
 have sub:∀ {v:Value} {n:Nat} {a b:World},(0<n→lo≤blkN v∧blkN v<mid∧blkN v∈outs)→0<n→Upd (blkN v::List.range' mid (hi-mid)) a b→Upd (List.range' lo (hi-lo)) a b:=fun h h0 hu=>hu.mono (fun k hk=>by
  rcases List.mem_cons.1 hk with rfl | hk
  ·have:=h h0;exact I1.2 (by omega)
  ·have:=I1.1 hk;exact I1.2 (by omega))
 refine St.reg Ao1 [(0,true)] (by kernel_rfl) (by kernel_rfl) ?_
 refine RX.q 1 [] [(62,.bool true),(61,.int .i64 0),(60,.int .i64 2),(59,(.slice (some ⟨b59,0,none⟩) 2 2)),(4,.pointer (some ⟨b4,0,none⟩)),(9,.pointer (some ⟨b9,0,none⟩))] [] (by kernel_rfl) trivial ?_
 refine RX.done [(62,.bool true),(61,.int .i64 0),(60,.int .i64 2),(59,(.slice (some ⟨b59,0,none⟩) 2 2)),(4,.pointer (some ⟨b4,0,none⟩)),(9,.pointer (some ⟨b9,0,none⟩))] (by kernel_rfl) (by kernel_rfl) ?_
 refine St.cond (k1:=Age) (k2:=Aas) true (by kernel_rfl) (fun _=>?_) (fun hc=>by cases hc)
 refine St.weak (L':=[(61,.int .i64 ((0:Nat):Int)),(60,.int .i64 2),(59,(.slice (some ⟨b59,0,none⟩) 2 2)),(4,.pointer (some ⟨b4,0,none⟩)),(9,.pointer (some ⟨b9,0,none⟩))]) (by kernel_rfl) ?_
 refine Agl b4 b9 b59 0 nL mid hi aL cL (by omega) hnL w3 _ 23 h59 rfl hb59 hmh hL3 ?_
 intro w4 u4 s4 p4
 have U4:Upd (List.range' lo (hi-lo)) w3 w4:=by
  rcases u4 with⟨h0,u4⟩ | ⟨_,u4⟩
  ·exact sub hL2 h0 u4
  ·exact u4.mono (fun k h=>by cases h)
 have hF4:Ip w4 mid hi nF (.slice aF nF cF):=by
  rcases u4 with⟨h1,u4⟩ | ⟨_,u4⟩
  ·refine hF3.pres u4 p4 (fun h0 h=>?_)
   rcases List.mem_cons.1 h with e | h
   ·exact hLF h1 h0 e.symm
   ·have:=I1.1 h
    have:=hF2 h0
    omega
  ·exact hF3.pres u4 p4 (fun _ h=>by cases h)
 have n59:b59∉List.range' lo (hi-lo):=fun h=>by have:=I1.1 h;omega
 have h59':=U4.blk h59 n59
 refine St.reg Ao1 [(0,true)] (by kernel_rfl) (by kernel_rfl) ?_
 refine RX.q 1 [] [(62,.bool true),(61,.int .i64 1),(60,.int .i64 2),(59,(.slice (some ⟨b59,0,none⟩) 2 2)),(4,.pointer (some ⟨b4,0,none⟩)),(9,.pointer (some ⟨b9,0,none⟩))] [] (by kernel_rfl) trivial ?_
 refine RX.done [(62,.bool true),(61,.int .i64 1),(60,.int .i64 2),(59,(.slice (some ⟨b59,0,none⟩) 2 2)),(4,.pointer (some ⟨b4,0,none⟩)),(9,.pointer (some ⟨b9,0,none⟩))] (by kernel_rfl) (by kernel_rfl) ?_
 refine St.cond (k1:=Age) (k2:=Aas) true (by kernel_rfl) (fun _=>?_) (fun hc=>by cases hc)
 refine St.weak (L':=[(61,.int .i64 ((1:Nat):Int)),(60,.int .i64 2),(59,(.slice (some ⟨b59,0,none⟩) 2 2)),(4,.pointer (some ⟨b4,0,none⟩)),(9,.pointer (some ⟨b9,0,none⟩))]) (by kernel_rfl) ?_
 refine Agl b4 b9 b59 1 nF mid hi aF cF (by omega) hnF w4 _ 23 h59' rfl hb59 hmh hF4 ?_
 intro w5 u5 s5 p5
 have U5:Upd (List.range' lo (hi-lo)) w4 w5:=by
  rcases u5 with⟨h0,u5⟩ | ⟨_,u5⟩
  ·exact sub hF2 h0 u5
  ·exact u5.mono (fun k h=>by cases h)
 refine St.reg Ao1 [(0,true)] (by kernel_rfl) (by kernel_rfl) ?_
 refine RX.q 1 [] [(62,.bool false),(61,.int .i64 2),(60,.int .i64 2),(59,(.slice (some ⟨b59,0,none⟩) 2 2)),(4,.pointer (some ⟨b4,0,none⟩)),(9,.pointer (some ⟨b9,0,none⟩))] [] (by kernel_rfl) trivial ?_
 refine RX.done [(62,.bool false),(61,.int .i64 2),(60,.int .i64 2),(59,(.slice (some ⟨b59,0,none⟩) 2 2)),(4,.pointer (some ⟨b4,0,none⟩)),(9,.pointer (some ⟨b9,0,none⟩))] (by kernel_rfl) (by kernel_rfl) ?_
 refine St.cond (k1:=Age) (k2:=Aas) false (by kernel_rfl) (fun hc=>by cases hc) (fun _=>?_)
 refine St.weak (L':=[(4,.pointer (some ⟨b4,0,none⟩)),(9,.pointer (some ⟨b9,0,none⟩))]) (by kernel_rfl) ?_
 have U:=(U3.trans U4).trans U5
 exact hk w5 (fun b hb hbo=>U.same b hb (fun h=>by have:=I1.1 h;omega)) U.os U.tape U.output U.size
end
end Go.Proofs.YthncjilcflilcaaGreat

namespace Go.Proofs.YthncjilcflilcaaGreat
set_option linter.all false
open Go
def fwOK(N:Nat)(W:List Int)(s:Int)(L F:List (List Int))(R:List Int)(f t v:Int)(r:List Int×Int×List (List Int)×List (List Int)×List Int×Int):Prop:=
 (r.1=[]∧r.2.1=0∧r.2.2.1=[]∧r.2.2.2.1=[]∧r.2.2.2.2.1=[]) ∨
 ∃k u:Nat,f=k∧t=u∧r=(W,s,L,F.set k ((F.getD k []).set u v),R,0)∧withp_S N W s L F R f t v=some (f,t,v,W,s,L,F,R,0)∧Gq N W s L F R f t v=some (f,t,v,0,s,W,L,F,R) ∧
  (∀r∈L,r≠[]∧r.length≤1000000)∧(∀r∈F,r≠[]∧r.length≤1000000)∧k<F.length∧u<(F.getD k []).length
theorem An2{N:Nat}{W:List Int}{s:Int}{L F:List (List Int)}{R:List Int}{fo tr va:Int}{r:List Int×Int×List (List Int)×List (List Int)×List Int×Int}(hr:with__S N W s L F R fo tr va=some r)(hok:fwOK N W s L F R fo tr va r)
  (g:Gh) (hρ:∀i,g.ρ i=none) (w:World) (hM:∀b o,g.M b=some o→w.heap[b]?=some o) (vd:Value) (hvd:RepV g (enc id shG (W,s,L,F,R,())) vd) (hfi:inR .i64 fo) (hti:inR .i64 tr) (hva:inR .i64 va) :
  Fn Tryz.prog 40 #[vd,.int .i64 fo,.int .i64 tr,.int .i64 va] w (fun v w'=>Ext w w'∧∃vW vL vF vR,v=.tuple #[.agg #[vW,.int .i64 r.2.1,vL,vF,vR],.int .i64 r.2.2.2.2.2]∧OwnD w.heap.size w' r.1 r.2.1 r.2.2.1 r.2.2.2.1 r.2.2.2.2.1 vW vL vF vR):=by
 rcases hok with⟨e1,e2,e3,e4,e5⟩ | ⟨k,u,rfl,rfl,rfl,h1,h2,h3,h4,h5,h6⟩
 ·obtain⟨oW,os,oL,oF,oR,oe⟩:=r
  dsimp only at e1 e2 e3 e4 e5
  subst e1 e2 e3 e4 e5
  have hgn:g=⟨fun _=>none,g.M⟩:=by
   obtain⟨ρ,M⟩:=g
   have:ρ=fun _=>none:=funext hρ
   rw[this]
  rw[hgn]at hvd
  refine Fn.mono (Mx (Aa4 N) rfl (p:=(((W,s,L,F,R,()),fo,tr,va,()),())) (r:=((([],0,[],[],[],()),oe,()),())) (M:=g.M) (by
   show((with__S N W s L F R fo tr va).bind fun r=>some (((r.1,r.2.1,r.2.2.1,r.2.2.2.1,r.2.2.2.2.1,()),r.2.2.2.2.2,()),()))=_
   rw[hr];rfl) hM (vs:=[vd,.int .i64 fo,.int .i64 tr,.int .i64 va]) ⟨_,_,rfl,hvd,_,_,rfl,⟨rfl,hfi⟩,_,_,rfl,⟨rfl,hti⟩,_,_,rfl,⟨rfl,hva⟩,rfl⟩) ?_
  rintro v w' ⟨hx,g',hv⟩
  refine⟨hx,?_⟩
  have hv:RepV g' (.tup [.agg [.sl (.int .i64) [],.i .i64 0,.sl (.sl (.int .i64)) [],.sl (.sl (.int .i64)) [],.sl (.int .i64) []],.i .i64 oe]) v:=hv
  simp only[RepV,RepVs]at hv
  obtain⟨vs,rfl,x1,y1,rfl,⟨ps,rfl,hp⟩,x2,y2,rfl,⟨rfl,_⟩,rfl⟩:=hv
  simp only[A5,PartOf,RepV]at hp
  obtain⟨_,_,rfl,⟨vW,rfl,_,aW,cW,rfl,_⟩,_,_,rfl,⟨vs_,rfl,rfl,_⟩,_,_,rfl,⟨vL,rfl,_,aL,cL,rfl,_⟩,_,_,rfl,⟨vF,rfl,_,aF,cF,rfl,_⟩,_,_,rfl,⟨vR,rfl,_,aR,cR,rfl,_⟩,rfl⟩:=hp
  exact⟨_,_,_,_,rfl,⟨w.heap.size,[],Nat.le_refl _,hx.size,.inl ⟨rfl,aW,cW,rfl⟩,.inl ⟨rfl,aL,cL,rfl⟩,.inl ⟨rfl,aF,cF,rfl⟩,.inl ⟨rfl,aR,cR,rfl⟩,fun h=>absurd rfl h⟩,D4 (n:=0) (by omega)⟩
 ·exact Amy h1 h2 h3 h4 h5 h6 g hρ w hM vd hvd hfi hti hva
theorem HI.rep{M:Nat→Option Obj}{w:World}{lo mid:Nat}{outs:List Nat}{l:List Int}{v:Value}(h:HI w lo mid outs l v)(hM:∀b o,M b=some o→b<lo):RepS (frzM M [] lo w) 1 (RepC (frzM M [] lo w) (.int .i64)) l v:=by
 rcases h with⟨rfl,a,c,rfl⟩ | ⟨b,c,rest,ty,rfl,h0,h1,h2,h3,h4,h5⟩
 ·exact⟨Nat.zero_le _,a,c,rfl,Nat.zero_le _,.inl rfl⟩
 ·have hMb:M b=none:=by
   cases e:M b with
   | none=>rfl
   | some o=>have:=hM b o e;omega
  refine⟨by omega,_,c,rfl,h3.1,.inr ⟨b,0,_,(ty,(0,0)),rfl,Rr hMb (.inr h1.1) h5,fun k x hk=>?_⟩⟩
  refine⟨[.int .i64 x],fun j u hj=>?_,rfl,h4 x (List.mem_of_getElem? hk)⟩
  cases j with
  | zero=>
   simp only[List.getElem?_cons_zero,Option.some.injEq]at hj
   subst hj
   simp only[Nat.mul_one,Nat.zero_add,Nat.add_zero]
   rw[List.getElem?_append_left (by have:=(List.getElem?_eq_some_iff.1 hk).1;simpa using this)]
   simp[hk]
  | succ j=>simp at hj
theorem HR.rep{M:Nat→Option Obj}{w:World}{lo mid:Nat}{outs:List Nat}{l:List (List Int)}{v:Value}(h:HR w lo mid outs l v)(hlm:lo≤mid)(hM:∀b o,M b=some o→b<lo):RepS (frzM M [] lo w) 1 (RepC (frzM M [] lo w) (.sl (.int .i64))) l v:=by
 rcases h with⟨rfl,a,c,rfl⟩ | ⟨b,c,rfl,h0,h1,h2,h3,vs,rest,ty,h4,h5,h6⟩
 ·exact⟨Nat.zero_le _,a,c,rfl,Nat.zero_le _,.inl rfl⟩
 ·have hMb:M b=none:=by
   cases e:M b with
   | none=>rfl
   | some o=>have:=hM b o e;omega
  exact I2.rep (n:=lo) ⟨vs,rest,ty,h4,h5,fun j hj=>(h6 j hj).lo hlm⟩ hM hMb (.inr h1.1) h3.2 h3.1
theorem HI.cl1{w:World}{lo mid:Nat}{outs:List Nat}{l:List Int}{v:Value}(h:HI w lo mid outs l v):Cl1 w v∧(l.length=0∨(lo≤blkN v∧blkN v<mid∧blkN v∉outs)):=by
 rcases h with⟨rfl,a,c,rfl⟩ | ⟨b,c,rest,ty,rfl,h0,h1,h2,h3,h4,h5⟩
 ·exact⟨.inl ⟨a,c,rfl⟩,.inl rfl⟩
 ·exact⟨.inr ⟨b,_,c,_,ty,rfl,List.length_pos_iff.2 h0,by rw[List.length_append,List.length_map];omega,h5⟩,.inr ⟨h1.1,h1.2,h2⟩⟩
theorem HR.rows{w:World}{lo mid hi:Nat}{outs:List Nat}{l:List (List Int)}{v:Value}(h:HR w lo mid outs l v)(hh:w.heap.size≤hi):Ip w mid hi l.length v∧(0<l.length→lo≤blkN v∧blkN v<mid∧blkN v∈outs):=by
 rcases h with⟨rfl,a,c,rfl⟩ | ⟨b,c,rfl,h0,h1,h2,h3,vs,rest,ty,h4,h5,h6⟩
 ·exact⟨.inl ⟨a,c,rfl,rfl⟩,fun h=>by simp at h⟩
 ·refine⟨.inr ⟨b,c,vs,rest,ty,rfl,List.length_pos_iff.2 h0,h1.2,h4,h5,fun j hj=>?_⟩,fun _=>⟨h1.1,h1.2,h2⟩⟩
  have h7:=(h6 j hj).lt
  obtain⟨rb,rc,rrest,rty,e,g1,g2,g3,g4,g5⟩:=h6 j hj
  refine⟨?_,h7.1,by omega⟩
  by_cases hz:(l.getD j []).length=0
  ·exact .inl ⟨_,rc,by rw[e,hz]⟩
  ·exact .inr ⟨rb,_,rc,_,rty,e,by omega,by rw[List.length_append,List.length_map];omega,g5⟩
end Go.Proofs.YthncjilcflilcaaGreat

namespace Go.Proofs.YthncjilcflilcaaGreat
set_option linter.all false
open Go

def Q1(N:Nat)(d:Li)(d2:Int)(d3 d4:Ll)(d5 own:Li)(own2:Int)(own3 own4:Ll)(own5:Li):Option Bool:=
 (Dq N own own2 own3 own4 own5 d d2 d3 d4 d5).bind fun x_13=>
 br x_13
  ((Ao N).bind fun x_14=>
  some x_14)
  (some false)
noncomputable def Ks(N:Nat)(found trait value:Int)(d:Li)(d2:Int)(d3 d4:Ll)(d5 own:Li)(own2:Int)(own3 own4:Ll)(own5 x:Li)(x2:Int)(x3 x4:Ll)(x5:Li):Option Bool:=
 (with__S N own own2 own3 own4 own5 found trait value).bind fun r_=>(Fm N x x2 x3 x4 x5 found trait value).bind fun q_=>
 @ite _ (r_=q_∧Dq N r_.1 r_.2.1 r_.2.2.1 r_.2.2.2.1 r_.2.2.2.2.1 r_.1 r_.2.1 r_.2.2.1 r_.2.2.2.1 r_.2.2.2.2.1=some true∧fwOK N own own2 own3 own4 own5 found trait value r_) (Classical.propDecidable _) (Q1 N d d2 d3 d4 d5 own own2 own3 own4 own5) none
noncomputable def Qm(N:Nat)(d:Li)(d2:Int)(d3 d4:Ll)(d5:Li)(found trait value:Int):Option Bool:=
 (E6 N d d2 d3 d4 d5).bind fun x_1=>
 br x_1
  ((Ao N).bind fun x_2=>
  some x_2)
  ((Bx N d d2 d3 d4 d5).bind fun(x_3,y_4,y_5,y_6,y_7)=>
  (Bx N d d2 d3 d4 d5).bind fun(x_8,y_9,y_10,y_11,y_12)=>
  Ks N found trait value d d2 d3 d4 d5 x_3 y_4 y_5 y_6 y_7 x_8 y_9 y_10 y_11 y_12)
noncomputable def Xb(N:Nat):List Spec:=[A9f N,A9b N,Afq N,A8k N]
theorem A1o(N:Nat):AllP (A0 Tryz.prog) (Xb N):=⟨Cc N,D1 N,Cx N,D0 N,trivial⟩
noncomputable def Ap5:Code:=(Tryz.f9.body).getD .skip
noncomputable abbrev Bi:Body:={ c:=Ap5,n:=81,res:=[.tmp 8],outs:=[⟨[.b],[]⟩],m0:=0 }
abbrev Kn:altD Bi.outs→Option Bool:=fun r=>some r.1.1
abbrev Vo:List PI:=[.c [1,1,1,1,1,1,1,1,1,0],.c [1,1,1,1,1,1,1,1,1,1]]
abbrev H6:Sta:=⟨[4,9],⟨[.own 0 0,.own 1 0],[.segs [shL,shI,shQ,shQ,shL],.segs [shL,shI,shQ,shQ,shL],.dead]⟩⟩
abbrev Zv(N:Nat):Leaf Bool:=⟨Vo,H6,fun p=>Q1 N p.2.1.1 p.2.1.2.1 p.2.1.2.2.1 p.2.1.2.2.2.1 p.2.1.2.2.2.2.1 p.2.2.1.1 p.2.2.1.2.1 p.2.2.1.2.2.1 p.2.2.1.2.2.2.1 p.2.2.1.2.2.2.2.1⟩
theorem A8v(N:Nat)(d:Li)(d2:Int)(d3:Ll)(d4:Ll)(d5:Li)(own:Li)(own2:Int)(own3:Ll)(own4:Ll)(own5:Li):ev (Z:=Bool) Tryz.prog (Xb N) Bi [] [] (some Kn) 400 true Vo (stL H6 (((),(),()),((d,d2,d3,d4,d5,()),(own,own2,own3,own4,own5,()),(),()))) (stH H6 (((),(),()),((d,d2,d3,d4,d5,()),(own,own2,own3,own4,own5,()),(),())))=Q1 N d d2 d3 d4 d5 own own2 own3 own4 own5:=by kernel_rfl
theorem A9x(N:Nat){z:Bool}{E:EE}{Xc:Ctx}(hE:EOK Bi.m0 E)(hX:CxOK true Xc)(hret:B4 Tryz.prog Bi E Xc z (some Kn)):Az Tryz.prog Bi.c Bi.n Bi.m0 E Xc z (Zv N):=Gp (B:=Bi) (loops:=[]) (leaves:=[]) (A1o N) mixed trivial hE hX trivial hret (fun p=>A8v N p.2.1.1 p.2.1.2.1 p.2.1.2.2.1 p.2.1.2.2.2.1 p.2.1.2.2.2.2.1 p.2.2.1.1 p.2.2.1.2.1 p.2.2.1.2.2.1 p.2.2.1.2.2.2.1 p.2.2.1.2.2.2.2.1)
abbrev Abu:List PI:=[.c [1,1,1,0],.c [1,1,1,1]]
abbrev Vn:Sta:=⟨[1,2,3,4,9,10],⟨[shI,shI,shI,.own 0 0,.own 1 0,.own 2 0],[.segs [shL,shI,shQ,shQ,shL],.segs [shL,shI,shQ,shQ,shL],.segs [shL,shI,shQ,shQ,shL]]⟩⟩
noncomputable abbrev Jv(N:Nat):Leaf Bool:=⟨Abu,Vn,fun p=>Ks N p.1.1 p.1.2.1 p.1.2.2.1 p.2.1.1 p.2.1.2.1 p.2.1.2.2.1 p.2.1.2.2.2.1 p.2.1.2.2.2.2.1 p.2.2.1.1 p.2.2.1.2.1 p.2.2.1.2.2.1 p.2.2.1.2.2.2.1 p.2.2.1.2.2.2.2.1 p.2.2.2.1.1 p.2.2.2.1.2.1 p.2.2.2.1.2.2.1 p.2.2.2.1.2.2.2.1 p.2.2.2.1.2.2.2.2.1⟩
set_option maxHeartbeats 2000000 in
theorem Ac4(N:Nat){z:Bool}{E:EE}{Xc:Ctx}(hE:EOK Bi.m0 E)(hX:CxOK true Xc)(hret:B4 Tryz.prog Bi E Xc z (some Kn)):Az Tryz.prog Bi.c Bi.n Bi.m0 E Xc z (Jv N):=by
 rintro ⟨⟨fo,tr,va,u1,u2,u3,u4⟩,⟨dW,ds,dL,dF,dR,u5⟩,⟨W,s,L,F,R,u6⟩,⟨xW,xs,xL,xF,xR,u7⟩,u8⟩ hfn a w hS
 have hfn:Ks N fo tr va dW ds dL dF dR W s L F R xW xs xL xF xR=some z:=hfn
 unfold Ks at hfn
 obtain⟨r,hr,hf1⟩:=bind_some hfn
 obtain⟨q,hq,hf2⟩:=bind_some hf1
 clear hfn hf1
 split at hf2
 rotate_left
 ·cases hf2
 rename_i hcc
 obtain⟨rfl,hsame,hok⟩:=hcc
 obtain⟨oW,os,oL,oF,oR,oe⟩:=r
 dsimp only at hsame
 obtain⟨⟨g,hs,htm,hi,he⟩,hsz,hm⟩:=hS
 have h1:RepV g (.i .i64 fo) (a.tmps.getD 1 undef):=htm 1 _ rfl
 have h2:RepV g (.i .i64 tr) (a.tmps.getD 2 undef):=htm 2 _ rfl
 have h3:RepV g (.i .i64 va) (a.tmps.getD 3 undef):=htm 3 _ rfl
 have h4:RepV g (.own 0 0) (a.tmps.getD 4 undef):=htm 4 _ rfl
 have h9:RepV g (.own 1 0) (a.tmps.getD 9 undef):=htm 9 _ rfl
 have h10:RepV g (.own 2 0) (a.tmps.getD 10 undef):=htm 10 _ rfl
 have hB0:RepBlk g w 0 (.segs [.sl (.int .i64) dW,.i .i64 ds,.sl (.sl (.int .i64)) dL,.sl (.sl (.int .i64)) dF,.sl (.int .i64) dR]):=hs.blk 0 _ rfl
 have hB1:RepBlk g w 1 (.segs [.sl (.int .i64) W,.i .i64 s,.sl (.sl (.int .i64)) L,.sl (.sl (.int .i64)) F,.sl (.int .i64) R]):=hs.blk 1 _ rfl
 have hB2:RepBlk g w 2 (.segs [.sl (.int .i64) xW,.i .i64 xs,.sl (.sl (.int .i64)) xL,.sl (.sl (.int .i64)) xF,.sl (.int .i64) xR]):=hs.blk 2 _ rfl
 simp only[RepV]at h1 h2 h3 h4 h9 h10
 obtain⟨b4,c0,n0,us0,ty0,e0,hb0,hp0,hm0⟩:=hB0
 obtain⟨b9,c1,n1,us1,ty1,e1,hb1,hp1,hm1⟩:=hB1
 obtain⟨b10,c2,n2,us2,ty2,e2,hb2,hp2,hm2⟩:=hB2
 obtain⟨_,_,_,e4,h4⟩:=h4
 rw[e0]at e4;cases e4
 obtain⟨_,_,_,e9,h9⟩:=h9
 rw[e1]at e9;cases e9
 obtain⟨_,_,_,e10,h10⟩:=h10
 rw[e2]at e10;cases e10
 have hp1':=hp1
 have hp2':=hp2
 simp only[A5,PartOf]at hp1' hp2'
 obtain⟨_,_,rfl,⟨yW,rfl,hyW⟩,_,_,rfl,⟨ys,rfl,hys⟩,_,_,rfl,⟨yL,rfl,hyL⟩,_,_,rfl,⟨yF,rfl,hyF⟩,_,_,rfl,⟨yR,rfl,hyR⟩,rfl⟩:=hp1'
 obtain⟨_,_,rfl,⟨zW,rfl,hzW⟩,_,_,rfl,⟨zs,rfl,hzs⟩,_,_,rfl,⟨zL,rfl,hzL⟩,_,_,rfl,⟨zF,rfl,hzF⟩,_,_,rfl,⟨zR,rfl,hzR⟩,rfl⟩:=hp2'
 have hb1':Blk w b9 [yW,ys,yL,yF,yR] ty1:=hb1
 have hb2':Blk w b10 [zW,zs,zL,zF,zR] ty2:=hb2
 have hMlt:∀b o,g.M b=some o→b<w.heap.size:=fun b o h=>A4 (hs.mem b o h)
 have hl4:=A4 hb0;have hl9:=A4 hb1;have hl10:=A4 hb2
 have e:(Jv N).at_.map (itm Bi.c)=K6_6:=by kernel_rfl
 rw[e]
 refine St.toAt (tm:=a.tmps) (n:=81) (L:=[(1,.int .i64 fo),(2,.int .i64 tr),(3,.int .i64 va),(10,.pointer (some ⟨b10,0,none⟩)),(4,.pointer (some ⟨b4,0,none⟩)),(9,.pointer (some ⟨b9,0,none⟩))]) ?_ ⟨hsz,N2 _ (fun x hx=>?_)⟩
 rotate_left
 ·simp only[List.mem_cons,List.not_mem_nil,or_false]at hx
  rcases hx with rfl | rfl | rfl | rfl | rfl | rfl
  ·exact h1.1
  ·exact h2.1
  ·exact h3.1
  ·exact h10
  ·exact h4
  ·exact h9
 -- With
 refine St.reg K6_7 [(0,true),(1,true),(2,true),(3,true),(4,false),(5,true),(6,true),(7,true),(8,false),(9,false),(10,true)] (by kernel_rfl) (by kernel_rfl) ?_
 refine RX.q 4 [(0,true,.agg #[yW,ys,yL,yF,yR])] [(27,.agg #[yW,ys,yL,yF,yR]),(28,.int .i64 fo),(29,.int .i64 tr),(30,.int .i64 va),(1,.int .i64 fo),(2,.int .i64 tr),(3,.int .i64 va),(10,.pointer (some ⟨b10,0,none⟩)),(4,.pointer (some ⟨b4,0,none⟩)),(9,.pointer (some ⟨b9,0,none⟩))] [.cells ⟨b9,0,none⟩ [yW,ys,yL,yF,yR]] (by kernel_rfl) (Seg.row hb1' (fun j u hj=>by rw[Nat.zero_add];exact hj)) ?_
 refine RX.call 31 40 #[.agg #[yW,ys,yL,yF,yR],.int .i64 fo,.int .i64 tr,.int .i64 va] [(27,.agg #[yW,ys,yL,yF,yR]),(28,.int .i64 fo),(29,.int .i64 tr),(30,.int .i64 va),(1,.int .i64 fo),(2,.int .i64 tr),(3,.int .i64 va),(10,.pointer (some ⟨b10,0,none⟩)),(4,.pointer (some ⟨b4,0,none⟩)),(9,.pointer (some ⟨b9,0,none⟩))] (fun _=>by kernel_rfl) (by kernel_rfl) ?_
 refine Fn.mono (An2 hr hok ⟨fun _=>none,g.M⟩ (fun _=>rfl) w hs.mem (.agg #[yW,ys,yL,yF,yR]) ⟨[yW,ys,yL,yF,yR],rfl,[yW],_,rfl,⟨_,rfl,hyW⟩,[ys],_,rfl,⟨_,rfl,hys⟩,[yL],_,rfl,⟨_,rfl,hyL⟩,[yF],_,rfl,⟨_,rfl,hyF⟩,[yR],_,rfl,⟨_,rfl,hyR⟩,rfl⟩ h1.2 h2.2 h3.2) ?_
 rintro _ w1 ⟨hx1,vW,vL,vF,vR,rfl,hO⟩
 obtain⟨⟨aW,cW,rfl⟩,⟨aL,cL,rfl⟩,⟨aF,cF,rfl⟩,aR,cR,rfl⟩:=hO.shape
 dsimp only at hO ⊢
 refine RX.q 3 [] [(32,.agg #[.slice aW oW.length cW,.int .i64 os,.slice aL oL.length cL,.slice aF oF.length cF,.slice aR oR.length cR]),(33,.int .i64 oe),(1,.int .i64 fo),(2,.int .i64 tr),(3,.int .i64 va),(10,.pointer (some ⟨b10,0,none⟩)),(4,.pointer (some ⟨b4,0,none⟩)),(9,.pointer (some ⟨b9,0,none⟩))] [] (by kernel_rfl) trivial ?_
 refine RX.new 11 (.cells #[.slice none 0 0,.int .i64 0,.slice none 0 0,.slice none 0 0,.slice none 0 0] 25) .ptr [(32,.agg #[.slice aW oW.length cW,.int .i64 os,.slice aL oL.length cL,.slice aF oF.length cF,.slice aR oR.length cR]),(33,.int .i64 oe),(1,.int .i64 fo),(2,.int .i64 tr),(3,.int .i64 va),(10,.pointer (some ⟨b10,0,none⟩)),(4,.pointer (some ⟨b4,0,none⟩)),(9,.pointer (some ⟨b9,0,none⟩))] (by kernel_rfl) ?_
 intro b11 w2 hn2
 have hs2:=hn2.size;have ha2:=hn2.at_
 have hB11:Blk w2 b11 [.slice none 0 0,.int .i64 0,.slice none 0 0,.slice none 0 0,.slice none 0 0] 25:=hn2.blk
 refine RX.store b11 0 [.slice aW oW.length cW,.int .i64 os,.slice aL oL.length cL,.slice aF oF.length cF,.slice aR oR.length cR] [.slice none 0 0,.int .i64 0,.slice none 0 0,.slice none 0 0,.slice none 0 0] [.slice aW oW.length cW,.int .i64 os,.slice aL oL.length cL,.slice aF oF.length cF,.slice aR oR.length cR] 25 (by kernel_rfl) rfl hB11 (by kernel_rfl) rfl ?_
 intro w3 hp3
 have hs3:=hp3.size
 refine RX.q 1 [] [(12,.int .i64 oe),(11,.pointer (some ⟨b11,0,none⟩)),(1,.int .i64 fo),(2,.int .i64 tr),(3,.int .i64 va),(10,.pointer (some ⟨b10,0,none⟩)),(4,.pointer (some ⟨b4,0,none⟩)),(9,.pointer (some ⟨b9,0,none⟩))] [] (by kernel_rfl) trivial ?_
 refine RX.done [(12,.int .i64 oe),(11,.pointer (some ⟨b11,0,none⟩)),(1,.int .i64 fo),(2,.int .i64 tr),(3,.int .i64 va),(10,.pointer (some ⟨b10,0,none⟩)),(4,.pointer (some ⟨b4,0,none⟩)),(9,.pointer (some ⟨b9,0,none⟩))] (by kernel_rfl) (by kernel_rfl) ?_
 have hz1:=hx1.size
 have hx3:Ext w w3:=(hx1.trans hn2.ext).trans_old hp3.upd (fun k hk=>by simp only[List.mem_singleton]at hk;omega)
 have hx13:Ext w1 w3:=hn2.ext.trans_old hp3.upd (fun k hk=>by simp only[List.mem_singleton]at hk;omega)
 -- the reference's With
 have hsim3:Sim ⟨fun _=>none,g.M⟩ (hOf (ss:=(A7w N).ins.blks) ()) w3:=⟨fun b o h=>hx3.blk (hs.mem b o h),fun i k hk=>(by have h:([]:List Blk')[i]?=some k:=hk;rw[List.getElem?_nil]at h;cases h),fun i j ki kj b ci ni cj nj h1=>(by have h:([]:List Blk')[i]?=some ki:=h1;rw[List.getElem?_nil]at h;cases h)⟩
 refine St.reg K6_8 [(0,true),(1,true),(2,true),(3,true),(4,false),(5,true),(6,true),(7,true),(8,false),(9,false),(10,true)] (by kernel_rfl) (by kernel_rfl) ?_
 refine RX.q 4 [(0,true,.agg #[zW,zs,zL,zF,zR])] [(35,.agg #[zW,zs,zL,zF,zR]),(36,.int .i64 fo),(37,.int .i64 tr),(38,.int .i64 va),(12,.int .i64 oe),(11,.pointer (some ⟨b11,0,none⟩)),(4,.pointer (some ⟨b4,0,none⟩)),(9,.pointer (some ⟨b9,0,none⟩))] [.cells ⟨b10,0,none⟩ [zW,zs,zL,zF,zR]] (by kernel_rfl) (Seg.row (hx3.blk hb2') (fun j u hj=>by rw[Nat.zero_add];exact hj)) ?_
 refine RX.call 39 41 #[.agg #[zW,zs,zL,zF,zR],.int .i64 fo,.int .i64 tr,.int .i64 va] [(35,.agg #[zW,zs,zL,zF,zR]),(36,.int .i64 fo),(37,.int .i64 tr),(38,.int .i64 va),(12,.int .i64 oe),(11,.pointer (some ⟨b11,0,none⟩)),(4,.pointer (some ⟨b4,0,none⟩)),(9,.pointer (some ⟨b9,0,none⟩))] (fun _=>by kernel_rfl) (by kernel_rfl) ?_
 refine Fn.mono ((W5 N).fn (((xW,xs,xL,xF,xR,()),fo,tr,va,()),()) (((oW,os,oL,oF,oR,()),oe,()),()) (by
  show((Fm N xW xs xL xF xR fo tr va).bind fun r=>some (((r.1,r.2.1,r.2.2.1,r.2.2.2.1,r.2.2.2.2.1,()),r.2.2.2.2.2,()),()))=_
  rw[hq];rfl) ⟨fun _=>none,g.M⟩ w3 [.agg #[zW,zs,zL,zF,zR],.int .i64 fo,.int .i64 tr,.int .i64 va] ⟨_,_,rfl,⟨[zW,zs,zL,zF,zR],rfl,[zW],_,rfl,⟨_,rfl,hzW⟩,[zs],_,rfl,⟨_,rfl,hzs⟩,[zL],_,rfl,⟨_,rfl,hzL⟩,[zF],_,rfl,⟨_,rfl,hzF⟩,[zR],_,rfl,⟨_,rfl,hzR⟩,rfl⟩,_,_,rfl,⟨rfl,h1.2⟩,_,_,rfl,⟨rfl,h2.2⟩,_,_,rfl,⟨rfl,h3.2⟩,rfl⟩ hsim3 (fun _ _=>rfl)) ?_
 rintro v2 w4 ⟨g2,st2,hs2',hv2⟩
 have hx4:Ext w3 w4:=⟨st2.os,st2.tape,st2.output,st2.size,fun k hk _=>st2.same k hk (by rintro ⟨i,hi,_⟩;have h:i∈([]:List Nat):=hi;cases h)⟩
 have hv2:RepV g2 (.tup [.agg [.sl (.int .i64) oW,.i .i64 os,.sl (.sl (.int .i64)) oL,.sl (.sl (.int .i64)) oF,.sl (.int .i64) oR],.i .i64 oe]) v2:=hv2
 simp only[RepV,RepVs]at hv2
 obtain⟨vs,rfl,x1,y1,rfl,⟨ps,rfl,hp⟩,x2,y2,rfl,⟨rfl,_⟩,rfl⟩:=hv2
 simp only[A5,PartOf,RepV]at hp
 obtain⟨_,_,rfl,⟨kW,rfl,hkW⟩,_,_,rfl,⟨ks,rfl,rfl,hks⟩,_,_,rfl,⟨kL,rfl,hkL⟩,_,_,rfl,⟨kF,rfl,hkF⟩,_,_,rfl,⟨kR,rfl,hkR⟩,rfl⟩:=hp
 obtain⟨kW1,kW2,rfl⟩:∃a c,kW=.slice a oW.length c:=by obtain⟨_,a,c,e,_⟩:=hkW;exact⟨a,c,e⟩
 obtain⟨kL1,kL2,rfl⟩:∃a c,kL=.slice a oL.length c:=by obtain⟨_,a,c,e,_⟩:=hkL;exact⟨a,c,e⟩
 obtain⟨kF1,kF2,rfl⟩:∃a c,kF=.slice a oF.length c:=by obtain⟨_,a,c,e,_⟩:=hkF;exact⟨a,c,e⟩
 obtain⟨kR1,kR2,rfl⟩:∃a c,kR=.slice a oR.length c:=by obtain⟨_,a,c,e,_⟩:=hkR;exact⟨a,c,e⟩
 refine RX.q 3 [] [(40,.agg #[.slice kW1 oW.length kW2,.int .i64 os,.slice kL1 oL.length kL2,.slice kF1 oF.length kF2,.slice kR1 oR.length kR2]),(41,.int .i64 oe),(12,.int .i64 oe),(11,.pointer (some ⟨b11,0,none⟩)),(4,.pointer (some ⟨b4,0,none⟩)),(9,.pointer (some ⟨b9,0,none⟩))] [] (by kernel_rfl) trivial ?_
 refine RX.new 13 (.cells #[.slice none 0 0,.int .i64 0,.slice none 0 0,.slice none 0 0,.slice none 0 0] 44) .ptr [(40,.agg #[.slice kW1 oW.length kW2,.int .i64 os,.slice kL1 oL.length kL2,.slice kF1 oF.length kF2,.slice kR1 oR.length kR2]),(41,.int .i64 oe),(12,.int .i64 oe),(11,.pointer (some ⟨b11,0,none⟩)),(4,.pointer (some ⟨b4,0,none⟩)),(9,.pointer (some ⟨b9,0,none⟩))] (by kernel_rfl) ?_
 intro b13 w5 hn5
 have hs5:=hn5.size;have ha5:=hn5.at_
 have hB13:Blk w5 b13 [.slice none 0 0,.int .i64 0,.slice none 0 0,.slice none 0 0,.slice none 0 0] 44:=hn5.blk
 refine RX.store b13 0 [.slice kW1 oW.length kW2,.int .i64 os,.slice kL1 oL.length kL2,.slice kF1 oF.length kF2,.slice kR1 oR.length kR2] [.slice none 0 0,.int .i64 0,.slice none 0 0,.slice none 0 0,.slice none 0 0] [.slice kW1 oW.length kW2,.int .i64 os,.slice kL1 oL.length kL2,.slice kF1 oF.length kF2,.slice kR1 oR.length kR2] 44 (by kernel_rfl) rfl hB13 (by kernel_rfl) rfl ?_
 intro w6 hp6
 have hs6:=hp6.size
 refine RX.q 1 [] [(14,.int .i64 oe),(12,.int .i64 oe),(13,.pointer (some ⟨b13,0,none⟩)),(11,.pointer (some ⟨b11,0,none⟩)),(4,.pointer (some ⟨b4,0,none⟩)),(9,.pointer (some ⟨b9,0,none⟩))] [] (by kernel_rfl) trivial ?_
 refine RX.done [(14,.int .i64 oe),(12,.int .i64 oe),(13,.pointer (some ⟨b13,0,none⟩)),(11,.pointer (some ⟨b11,0,none⟩)),(4,.pointer (some ⟨b4,0,none⟩)),(9,.pointer (some ⟨b9,0,none⟩))] (by kernel_rfl) (by kernel_rfl) ?_
 have hz4:=hx4.size
 have hx46:Ext w4 w6:=hn5.ext.trans_old hp6.upd (fun k hk=>by simp only[List.mem_singleton]at hk;omega)
 have hx36:Ext w3 w6:=hx4.trans hx46
 have hx16:Ext w1 w6:=hx13.trans hx36
 have hx06:Ext w w6:=hx3.trans hx36
 -- both are the same
 have hM6:∀b o,frzM g.M [] w.heap.size w6 b=some o→w6.heap[b]?=some o:=fun b o h=>by
  rcases Is h with h | ⟨_,_,h,_⟩
  ·exact hx06.blk (hs.mem b o h)
  ·exact h
 have hM2:∀b o,g2.M b=some o→frzM g.M [] w.heap.size w6 b=some o:=fun b o h=>by
  rcases st2.Mn b o h with h1 | ⟨h1,h2,h3⟩
  ·exact Dy b o h1
  ·obtain⟨cs,ty,zz,rfl⟩:=Y7 h3
   refine Rr h1 (.inr ?_) (hx46.blk (hs2'.mem b _ h))
   rcases h2 with h2 | ⟨i,hi,_⟩
   ·have:=hx3.size;omega
   ·have h:i∈([]:List Nat):=hi
    cases h
 have hO6:OwnD w.heap.size w6 oW os oL oF oR (.slice aW oW.length cW) (.slice aL oL.length cL) (.slice aF oF.length cF) (.slice aR oR.length cR):=hO.same hx16.size (fun b cs ty h=>hx16.blk h)
 have hsm:=Mx (Cx N) rfl (p:=(((oW,os,oL,oF,oR,()),(oW,os,oL,oF,oR,()),()),())) (r:=((true,()),())) (M:=frzM g.M [] w.heap.size w6) (by
  show((Dq N oW os oL oF oR oW os oL oF oR).bind fun r=>some ((r,()),()))=_
  rw[hsame];rfl) hM6 (vs:=[.agg #[.slice aW oW.length cW,.int .i64 os,.slice aL oL.length cL,.slice aF oF.length cF,.slice aR oR.length cR],.agg #[.slice kW1 oW.length kW2,.int .i64 os,.slice kL1 oL.length kL2,.slice kF1 oF.length kF2,.slice kR1 oR.length kR2]]) (by
  obtain⟨⟨mid,outs,a1,a2,HW,HL,HF,HR',hne⟩,hso⟩:=hO6
  have hge:GE g2 ⟨g2.ρ,frzM g.M [] w.heap.size w6⟩:=⟨fun _ _ h=>h,hM2⟩
  refine⟨_,_,rfl,⟨_,rfl,[_],_,rfl,⟨_,rfl,HW.rep hMlt⟩,[_],_,rfl,⟨_,rfl,rfl,hso⟩,[_],_,rfl,⟨_,rfl,HL.rep a1 hMlt⟩,[_],_,rfl,⟨_,rfl,HF.rep a1 hMlt⟩,[_],_,rfl,⟨_,rfl,HR'.rep hMlt⟩,rfl⟩,_,_,rfl,⟨_,rfl,[_],_,rfl,⟨_,rfl,RepV.mono hge (.sl (.int .i64) oW) _ hkW⟩,[_],_,rfl,⟨_,rfl,rfl,hso⟩,[_],_,rfl,⟨_,rfl,RepV.mono hge (.sl (.sl (.int .i64)) oL) _ hkL⟩,[_],_,rfl,⟨_,rfl,RepV.mono hge (.sl (.sl (.int .i64)) oF) _ hkF⟩,[_],_,rfl,⟨_,rfl,RepV.mono hge (.sl (.int .i64) oR) _ hkR⟩,rfl⟩,rfl⟩)
 have hb11w:Blk w6 b11 [.slice aW oW.length cW,.int .i64 os,.slice aL oL.length cL,.slice aF oF.length cF,.slice aR oR.length cR] 25:=hx36.blk hp3.blk
 refine St.reg K6_9 [(0,true),(1,true),(2,true),(3,true),(4,true),(5,true),(6,false),(7,true),(8,true)] (by kernel_rfl) (by kernel_rfl) ?_
 refine RX.q 6 [(2,false,.bool false),(4,true,.agg #[.slice aW oW.length cW,.int .i64 os,.slice aL oL.length cL,.slice aF oF.length cF,.slice aR oR.length cR]),(5,true,.agg #[.slice kW1 oW.length kW2,.int .i64 os,.slice kL1 oL.length kL2,.slice kF1 oF.length kF2,.slice kR1 oR.length kR2])] [(45,.bool false),(46,.agg #[.slice aW oW.length cW,.int .i64 os,.slice aL oL.length cL,.slice aF oF.length cF,.slice aR oR.length cR]),(47,.agg #[.slice kW1 oW.length kW2,.int .i64 os,.slice kL1 oL.length kL2,.slice kF1 oF.length kF2,.slice kR1 oR.length kR2]),(11,.pointer (some ⟨b11,0,none⟩)),(4,.pointer (some ⟨b4,0,none⟩)),(9,.pointer (some ⟨b9,0,none⟩))] [.eq (.bool (!((oe:Int)==oe))) (.bool false),.cells ⟨b11,0,none⟩ [.slice aW oW.length cW,.int .i64 os,.slice aL oL.length cL,.slice aF oF.length cF,.slice aR oR.length cR],.cells ⟨b13,0,none⟩ [.slice kW1 oW.length kW2,.int .i64 os,.slice kL1 oL.length kL2,.slice kF1 oF.length kF2,.slice kR1 oR.length kR2]] (by kernel_rfl)
  ⟨by show Value.bool (!((oe:Int)==oe))=.bool false;simp,Seg.row hb11w (fun j u hj=>by rw[Nat.zero_add];exact hj),Seg.row hp6.blk (fun j u hj=>by rw[Nat.zero_add];exact hj)⟩ ?_
 refine RX.call 48 19 #[.agg #[.slice aW oW.length cW,.int .i64 os,.slice aL oL.length cL,.slice aF oF.length cF,.slice aR oR.length cR],.agg #[.slice kW1 oW.length kW2,.int .i64 os,.slice kL1 oL.length kL2,.slice kF1 oF.length kF2,.slice kR1 oR.length kR2]] [(45,.bool false),(46,.agg #[.slice aW oW.length cW,.int .i64 os,.slice aL oL.length cL,.slice aF oF.length cF,.slice aR oR.length cR]),(47,.agg #[.slice kW1 oW.length kW2,.int .i64 os,.slice kL1 oL.length kL2,.slice kF1 oF.length kF2,.slice kR1 oR.length kR2]),(11,.pointer (some ⟨b11,0,none⟩)),(4,.pointer (some ⟨b4,0,none⟩)),(9,.pointer (some ⟨b9,0,none⟩))] (fun _=>by kernel_rfl) (by kernel_rfl) ?_
 refine Fn.mono hsm ?_
 rintro v w7 ⟨hx7,g7,hv⟩
 have hv:RepV g7 (.b true) v:=hv
 simp only[RepV]at hv
 subst hv
 refine RX.q 2 [] [(50,.bool false),(11,.pointer (some ⟨b11,0,none⟩)),(4,.pointer (some ⟨b4,0,none⟩)),(9,.pointer (some ⟨b9,0,none⟩))] [] (by kernel_rfl) trivial ?_
 refine RX.done [(50,.bool false),(11,.pointer (some ⟨b11,0,none⟩)),(4,.pointer (some ⟨b4,0,none⟩)),(9,.pointer (some ⟨b9,0,none⟩))] (by kernel_rfl) (by kernel_rfl) ?_
 refine St.cond (k1:=Ark) (k2:=Apw) false (by kernel_rfl) (fun hc=>by cases hc) (fun _=>?_)
 refine St.weak (L':=[(11,.pointer (some ⟨b11,0,none⟩)),(4,.pointer (some ⟨b4,0,none⟩)),(9,.pointer (some ⟨b9,0,none⟩))]) (by kernel_rfl) ?_
 have hx17:Ext w1 w7:=hx16.trans hx7
 have hx07:Ext w w7:=hx06.trans hx7
 obtain⟨⟨mid,outs,a1,a2,HW,HL,HF,HR',hne⟩,hso⟩:=hO
 obtain⟨rL1,rL2⟩:=HL.rows (Nat.le_refl _)
 obtain⟨rF1,rF2⟩:=HF.rows (Nat.le_refl _)
 obtain⟨cW1,cW2⟩:=HW.cl1
 obtain⟨cR1,cR2⟩:=HR'.cl1
 have nlen:∀ {l:Ll} {v:Value},HR w1 w.heap.size mid outs l v→l.length≤1000000:=fun{l v} h=>by
  rcases h with⟨rfl,_⟩ | ⟨_,_,_,_,_,_,h,_⟩
  ·simp
  ·exact h.2
 refine Aph b4 b9 b11 w.heap.size mid w1.heap.size oL.length oF.length outs aW aR aL aF oW.length oR.length cW cR cL cF (.int .i64 os) (nlen HL) (nlen HF) 25 w7 a1 a2 (by omega) (hx7.blk hb11w) (cW1.shp (Shp.ext hx17)) cW2 (cR1.shp (Shp.ext hx17)) cR2
  (rL1.pres hx17 (Shp.ext hx17) (fun _ h=>by cases h)) rL2 (rF1.pres hx17 (Shp.ext hx17) (fun _ h=>by cases h)) rF2 (fun h0 h1=>hne (List.length_pos_iff.1 h0) (List.length_pos_iff.1 h1)) ?_
 intro w8 hsm8 ho8 ht8 hu8 hz8
 have hz07:=hx07.size
 have hx8:Ext w w8:=⟨ho8.trans hx07.os,ht8.trans hx07.tape,hu8.trans hx07.output,by omega,fun b hb _=>(hsm8 b (by omega) (.inl hb)).trans (hx07.same b hb (fun h=>by cases h))⟩
 intro tm htm'
 have e:(Zv N).at_.map (itm Bi.c)=Aas:=by kernel_rfl
 rw[←e]
 refine A9x N hE hX hret (((),(),()),((dW,ds,dL,dF,dR,()),(W,s,L,F,R,()),(),())) hf2 _ _ ⟨⟨g,⟨fun b o h=>hx8.blk (hs.mem b o h),fun id k hk=>?_,fun i j ki kj b ci ni cj nj x1 y1 x2 y2 z1 z2=>?_⟩,?_,fun i hi'=>hi i hi',?_⟩,htm'.1,hm⟩
 ·match id,hk with
  | 0,hk=>
   cases hk
   exact⟨b4,c0,n0,us0,ty0,e0,hx8.blk hb0,hp0,hm0⟩
  | 1,hk=>
   cases hk
   exact⟨b9,c1,n1,_,ty1,e1,hx8.blk hb1,hp1,hm1⟩
  | 2,hk=>cases hk;trivial
  | n+3,hk=>cases hk
 ·have hlt:∀i k,(stH H6 (((),(),()),((dW,ds,dL,dF,dR,()),(W,s,L,F,R,()),(),())))[i]?=some k→k.mut=true→i<2:=fun i k h1 h2=>by
   match i,h1 with
   | 0,_=>omega
   | 1,_=>omega
   | 2,h=>cases h;cases h2
   | n+3,h=>cases h
  have hk:∀i,i<2→∃k,(stH Vn ((fo,tr,va,u1,u2,u3,u4),(dW,ds,dL,dF,dR,u5),(W,s,L,F,R,u6),(xW,xs,xL,xF,xR,u7),u8))[i]?=some k∧k.mut=true:=fun i hi=>by
   match i,hi with
   | 0,_=>exact⟨_,rfl,rfl⟩
   | 1,_=>exact⟨_,rfl,rfl⟩
  obtain⟨k1,q1,q2⟩:=hk i (hlt i ki x1 x2)
  obtain⟨k2,q3,q4⟩:=hk j (hlt j kj y1 y2)
  exact hs.inj i j k1 k2 b ci ni cj nj q1 q3 q2 q4 z1 z2
 ·exact Qn [4,9] _ ⟨_,_,rfl,⟨b4,c0,n0,e0,htm'.2 4 _ rfl⟩,_,_,rfl,⟨b9,c1,n1,e1,htm'.2 9 _ rfl⟩,rfl⟩
 ·exact hE.step (nw:=fun _=>False) (wr:=[]) (fun _ h=>h.elim) hs ⟨hx8.os,hx8.tape,hx8.output,hx8.size,fun b hb _=>hx8.same b hb (fun h=>by cases h),GE.refl g,fun id h0 h1=>absurd h0 h1,fun id b c n h0 h1=>(by rw[h0]at h1;cases h1),fun b o h=>.inl h⟩ he

abbrev A8m:Sta:=⟨[0,1,2,3],⟨[shG,shI,shI,shI],[]⟩⟩
theorem Ajr(N:Nat)(d:Li)(d2:Int)(d3:Ll)(d4:Ll)(d5:Li)(found:Int)(trait:Int)(value:Int):ev (Z:=Bool) Tryz.prog (Xb N) Bi [] [Jv N] (some Kn) 400 false [.c [0],.c [1]] (stL A8m (((d,d2,d3,d4,d5,()),found,trait,value,()),())) (stH A8m (((d,d2,d3,d4,d5,()),found,trait,value,()),()))=Qm N d d2 d3 d4 d5 found trait value:=by kernel_rfl
noncomputable def Amh(N:Nat):Spec:={ f:=9,ins:=⟨[shG,shI,shI,shI],[]⟩,outs:=[⟨[.b],[]⟩],run:=fun p k=>(Qm N p.1.1.1 p.1.1.2.1 p.1.1.2.2.1 p.1.1.2.2.2.1 p.1.1.2.2.2.2.1 p.1.2.1 p.1.2.2.1 p.1.2.2.2.1).bind fun r=>k ((r,()),()) }
theorem Aa2(N:Nat):A0 Tryz.prog (Amh N):=Qv (B:=Bi) (loops:=[]) (leaves:=[Jv N]) (fun p=>Qm N p.1.1.1 p.1.1.2.1 p.1.1.2.2.1 p.1.1.2.2.2.1 p.1.1.2.2.2.2.1 p.1.2.1 p.1.2.2.1 p.1.2.2.2.1) (fun r=>((r,()),())) Kn (fun _ _ _=>rfl) (fun r z h=>by cases h;rfl) Tryz.func9 (by kernel_rfl) (by kernel_rfl) (by kernel_rfl) rfl rfl (by kernel_rfl) (fun args w=>Sem.pv_run _ _ _ (by kernel_rfl) w) (A1o N) mixed trivial (fun z E Xc hE hX hret=>⟨Ac4 N hE hX hret,trivial⟩) (fun p=>Ajr N p.1.1.1 p.1.1.2.1 p.1.1.2.2.1 p.1.1.2.2.2.1 p.1.1.2.2.2.2.1 p.1.2.1 p.1.2.2.1 p.1.2.2.2.1)

end Go.Proofs.YthncjilcflilcaaGreat

namespace Go.Proofs.YthncjilcflilcaaGreat
set_option linter.all false
open Go

def up(i x:Nat):Nat:=if x<i then x else x+1
def dn(i x:Nat):Nat:=if x<i then x else x-1
def upI(k:Nat)(v:Int):Int:=if v<k then v else v+1
def dnI(k:Nat)(v:Int):Int:=if v<k then v else v-1
theorem Arv{i x n:Nat}(h:x<n-1):up i x<n:=by unfold up;split<;>omega
theorem Aru{i x n:Nat}(hi:i<n)(h:x<n)(hne:x≠i):dn i x<n-1:=by unfold dn;split<;>omega
theorem Aq1{i x:Nat}(h:x≠i):up i (dn i x)=x:=by unfold dn up;split<;>first | omega | (split<;>omega)
theorem Xu(k:Nat):upI k (-1)=-1:=by unfold upI;rw[if_pos (by omega)]
theorem Xz(k:Nat):dnI k (-1)=-1:=by unfold dnI;rw[if_pos (by omega)]
theorem Afy(k y:Nat):upI k (y:Int)=(up k y:Nat):=by unfold upI up;split<;>first | omega | (split<;>omega)
theorem Afo{k y:Nat}(h:y≠k):dnI k (y:Int)=(dn k y:Nat):=by unfold dnI dn;split<;>first | omega | (split<;>omega)
theorem Afn(k:Nat){v:Int}(h:-1≤v):dnI k (upI k v)=v:=by unfold dnI upI;split<;>first | omega | (split<;>omega)
theorem Afj{k:Nat}{v:Int}(h:v≠k):upI k (dnI k v)=v:=by unfold dnI upI;split<;>first | omega | (split<;>omega)
theorem Aqm(k:Nat)(v:Int):upI k v≠k:=by unfold upI;split<;>omega
theorem Ape{k:Nat}{a b:Int}(ha:-1≤a)(hb:-1≤b)(h:upI k a=upI k b):a=b:=by rw[←Afn k ha,h,Afn k hb]
theorem Aom{k:Nat}{a b:Int}(ha:a≠k)(hb:b≠k)(h:dnI k a=dnI k b):a=b:=by rw[←Afj ha,h,Afj hb]
section
variable {n m:Nat} {can:Nat→Nat→Bool} {t:Nat→Nat→Int}
theorem Mt.bd{J:Nat→Int}(h:Mt n m can J){i:Nat}(hi:i<n):-1≤J i∧J i<m:=by
 rcases h.ok i hi with e | ⟨k,e,hk,_⟩<;>omega
theorem Mt.dnF{J:Nat→Int}{k:Nat}(hk:k<m)(h:Mt n m can J)(hu:¬Usd n J k):Mt n (m-1) (fun x y=>can x (up k y)) (fun x=>dnI k (J x))∧wt (fun x y=>t x (up k y)) n (fun x=>dnI k (J x))=wt t n J:=by
 have hne:∀i,i<n→J i≠k:=fun i hi e=>hu ⟨i,hi,e⟩
 refine⟨⟨fun i hi=>?_,fun i j hi hj hij he=>?_⟩,Bq fun i hi=>?_⟩
 ·rcases h.ok i hi with e | ⟨y,e,hy,hc⟩
  ·exact .inl (by rw[e,Xz])
  ·have hyk:y≠k:=fun e2=>hne i hi (by rw[e,e2])
   exact .inr ⟨dn k y,by rw[e,Afo hyk],Aru hk hy hyk,by rw[Aq1 hyk];exact hc⟩
 ·have:=h.inj i j hi hj hij (Aom (hne i hi) (hne j hj) he)
  show dnI k (J i)=-1
  rw[this,Xz]
 ·show pv _ i (dnI k (J i))=pv t i (J i)
  rcases h.ok i hi with e | ⟨y,e,hy,hc⟩
  ·rw[e,Xz,Bc,Bc]
  ·have hyk:y≠k:=fun e2=>hne i hi (by rw[e,e2])
   rw[e,Afo hyk,Bm,Bm,Aq1 hyk]
theorem Mt.upF{J:Nat→Int}{k:Nat}(h:Mt n (m-1) (fun x y=>can x (up k y)) J):Mt n m can (fun x=>upI k (J x))∧(¬Usd n (fun x=>upI k (J x)) k)∧wt t n (fun x=>upI k (J x))=wt (fun x y=>t x (up k y)) n J:=by
 refine⟨⟨fun i hi=>?_,fun i j hi hj hij he=>?_⟩,fun⟨i,hi,e⟩=>Aqm k _ e,Bq fun i hi=>?_⟩
 ·rcases h.ok i hi with e | ⟨y,e,hy,hc⟩
  ·exact .inl (by rw[e,Xu])
  ·exact .inr ⟨up k y,by rw[e,Afy],Arv hy,hc⟩
 ·have:=h.inj i j hi hj hij (Ape (h.bd hi).1 (h.bd hj).1 he)
  show upI k (J i)=-1
  rw[this,Xu]
 ·show pv t i (upI k (J i))=pv _ i (J i)
  rcases h.ok i hi with e | ⟨y,e,hy,hc⟩
  ·rw[e,Xu,Bc,Bc]
  ·rw[e,Afy,Bm,Bm]
theorem Ex.uniq{fr:Nat→Prop}{v v':Int}(h:Ex n m can t fr v)(h':Ex n m can t fr v'):v=v':=by
 obtain⟨J,a,b,c⟩:=h.ex
 obtain⟨J',a',b',c'⟩:=h'.ex
 have:=h.le J' a' b'
 have:=h'.le J a b
 omega
theorem Ex.congr{fr fr':Nat→Prop}{v:Int}(h:Ex n m can t fr v)(hf:∀k,fr k↔fr' k):Ex n m can t fr' v:=by
 have:fr=fr':=funext fun k=>propext (hf k)
 rw[←this];exact h
theorem Ex.rmF{k:Nat}{v:Int}(hk:k<m)(h:Ex n (m-1) (fun x y=>can x (up k y)) (fun x y=>t x (up k y)) (fun _=>False) v):Ex n m can t (· = k) v:=by
 obtain⟨J,a,_,c⟩:=h.ex
 obtain⟨u1,u2,u3⟩:=Mt.upF (t:=t) a
 refine⟨⟨_,u1,fun x hx=>by subst hx;exact u2,by rw[u3,c]⟩,fun J hJ hu=>?_⟩
 obtain⟨d1,d2⟩:=Mt.dnF (t:=t) hk hJ (hu k rfl)
 rw[←d2]
 exact h.le _ d1 (fun _ h=>h.elim)
theorem T5{l:List Int}{u:Nat}:l∈joinsL can m n 0 u↔l.length=n∧Mt n m can (fnJ l)∧∀k,u.testBit k=true→¬Usd n (fnJ l) k:=by
 constructor
 ·intro h
  obtain⟨h1,h2,_⟩:=Agr (t:=fun _ _=>0) h
  exact⟨(Am.1 h).1,h1,h2⟩
 ·rintro ⟨h1,h2⟩
  exact Am.2 ⟨h1,Oa.2 (by rw[h1];exact h2)⟩
theorem A3b{l:List Int}(h:l.length=n):valJ t 0 l=wt t n (fnJ l):=by rw[A5b,h]
theorem Mt.congr{J J':Nat→Int}(h:Mt n m can J)(he:∀i,i<n→J i=J' i):Mt n m can J':=by
 refine⟨fun i hi=>by rw[←he i hi];exact h.ok i hi,fun i j hi hj hij e=>?_⟩
 rw[←he i hi,←he j hj]at e
 rw[←he i hi]
 exact h.inj i j hi hj hij e
end
end Go.Proofs.YthncjilcflilcaaGreat

namespace Go.Proofs.YthncjilcflilcaaGreat
set_option linter.all false
open Go

theorem drop_cons{α:Type}{l:List α}{k:Nat}(h:k<l.length)(d:α):l.drop k=l.getD k d::l.drop (k+1):=by
 rw[List.drop_eq_getElem_cons h];simp[List.getD,h]
theorem gets{α:Type}{l:List α}{k:Nat}(h:k<l.length)(d:α):l[((k:Nat):Int).toNat]?=some (l.getD k d):=by simp[List.getD,h]
theorem Ab{α:Type}{l:List α}{i:Nat}{d:α}(h:i<l.length):l.getD i d∈l:=by
 simp[List.getD,h]
theorem A9(k:Nat):((k+1:Nat):Int)=(k:Int)+1:=by omega
theorem in_v(N:Nat)(n lo hi:Int):Gi N n lo hi=some (decide (lo≤n∧n≤hi)):=by
 unfold Gi br
 by_cases h:lo≤n<;>simp[h]
theorem E5{α:Type}{f:α→Option Bool}{p:α→Bool}{s:List α}{N:Nat}(hf:∀x∈s,f x=some (p x))(hs:s.length≤1000000)(hN:s.length<N) :
  (((ixS (fun x=>(f x).bind fun c=>some (!c)) N s).bind fun x=>some (decide (0≤x))).bind fun x=>some (!x))=some (s.all p):=by
 rw[Af9 (p:=fun x=>!p x) (fun x hx=>by rw[hf x hx];rfl) hs hN]
 simp only[Option.bind_some,Ap2]
def okv(x:Int):Bool:=decide (-1≤x∧x≤5)
def okw(x:Int):Bool:=decide (1≤x∧x≤9)
def okr(x:Int):Bool:=decide (0≤x∧x≤99)
def okp(x:Int):Bool:=decide (0≤x∧x≤999)
def okl(n:Nat)(r:List Int):Bool:=decide (r.length=n)
structure Sm (W:List Int) (L F:List (List Int)) (R:List Int):Prop where
 w:W.length≤100
 l:L.length≤100
 f:F.length≤100
 r:R.length≤100
 lr:∀x∈L,x.length≤100
 fr:∀x∈F,x.length≤100
section
variable (N:Nat)
theorem Aaj:∀(n:Nat) (s:List Int) (u u2:Int),ixfv_l1 N n s u u2=ixL (Si N) n s u u2
 | 0,_,_,_=>rfl
 | n+1,s,u,u2=>by unfold ixfv_l1 ixL;simp only[Aaj n]
theorem A2f:∀(n:Nat) (s:List (List Int)) (u u2:Int),ixfva_l1 N n s u u2=ixL (Oi N) n s u u2
 | 0,_,_,_=>rfl
 | n+1,s,u,u2=>by unfold ixfva_l1 ixL;simp only[A2f n]
theorem Ab4:∀(n:Nat) (s:List Int) (u u2:Int),Qy N n s u u2=ixL (Tk N) n s u u2
 | 0,_,_,_=>rfl
 | n+1,s,u,u2=>by unfold Qy ixL;simp only[Ab4 n]
theorem Abf:∀(n:Nat) (s:List Int) (u u2:Int),Ra N n s u u2=ixL (Se N) n s u u2
 | 0,_,_,_=>rfl
 | n+1,s,u,u2=>by unfold Ra ixL;simp only[Abf n]
theorem A8p:∀(n:Nat) (s:List Int) (u u2:Int),ixfs_l1 N n s u u2=ixL (S4 N) n s u u2
 | 0,_,_,_=>rfl
 | n+1,s,u,u2=>by unfold ixfs_l1 ixL;simp only[A8p n]
end
section
variable {N:Nat} {W:List Int} {s:Int} {L F:List (List Int)} {R:List Int}
theorem Ak0{l:List Int}(h:l.length≤1000000)(hN:l.length<N):Rf N l=some (l.all okv):=by
 unfold Rf Ae1 Aeb
 rw[←E5 (f:=My N) (p:=okv) (s:=l) (N:=N) (fun x _=>?_) h hN]
 ·unfold ixS
  rw[Aaj]
  rfl
 ·unfold My okv
  rw[in_v];rfl
theorem Anv{l:List Int}(h:l.length≤1000000)(hN:l.length<N):R7 N l=some (l.all okw):=by
 unfold R7 Adg Ae2
 rw[←E5 (f:=Ry N) (p:=okw) (s:=l) (N:=N) (fun x _=>?_) h hN]
 ·unfold ixS
  rw[Ab4]
  rfl
 ·unfold Ry okw
  rw[in_v];rfl
theorem Al8{l:List Int}(h:l.length≤1000000)(hN:l.length<N):Qj N l=some (l.all okr):=by
 unfold Qj Adb Acz
 rw[←E5 (f:=Ps N) (p:=okr) (s:=l) (N:=N) (fun x _=>?_) h hN]
 ·unfold ixS
  rw[Abf]
  rfl
 ·unfold Ps okr
  rw[in_v];rfl
theorem Aa0{l:List Int}(h:l.length≤1000000)(hN:l.length<N):G9 N l=some (l.all okp):=by
 unfold G9 Adq Aeg
 rw[←E5 (f:=Rd N) (p:=okp) (s:=l) (N:=N) (fun x _=>?_) h hN]
 ·unfold ixS
  rw[A8p]
  rfl
 ·unfold Rd okp
  rw[in_v];rfl
theorem A1p{l:List (List Int)}(h:l.length≤1000000)(hN:l.length<N)(hr:∀x∈l,x.length≤1000000∧x.length<N):Ie N l=some (l.all fun r=>r.all okv):=by
 unfold Ie A6b A4b
 rw[←E5 (f:=Pu N) (p:=fun r=>r.all okv) (s:=l) (N:=N) (fun x hx=>?_) h hN]
 ·unfold ixS
  rw[A2f]
  rfl
 ·unfold Pu
  rw[Ak0 (hr x hx).1 (hr x hx).2];rfl
theorem ixflo_gen:∀(n:Nat) (l:List (List Int)) (u u2:Int),ixflo_l1 N n l u u2 (W,s,L,F,R)=(ixL (fun x=>some (!okl W.length x)) n l u u2).map fun r=>match r with | .inl i=>.inl (i,(W,s,L,F,R)) | .inr _=>.inr (W,s,L,F,R)
 | 0,_,_,_=>rfl
 | n+1,l,u,u2=>by
  have e:∀x,Jm N x (W,s,L,F,R)=some (!okl W.length x,(W,s,L,F,R)):=fun x=>by
   unfold Jm Zd okl
   simp only[Option.bind_some]
   congr 3
   exact decide_eq_decide.2 (by omega)
  unfold ixflo_l1 ixL
  simp only[e,Option.bind_some,ixflo_gen n]
  unfold br
  split
  ·unfold idx
   split
   ·cases l[u2.toNat]? with
    | none=>rfl
    | some a=>
     dsimp only
     cases okl W.length a
     ·rfl
     ·simp only[Bool.not_true,Bool.false_eq_true,if_false]
      unfold chk
      split<;>rfl
   ·rfl
  ·rfl
theorem A1n{l:List (List Int)}(h:l.length≤1000000)(hN:l.length<N):Iv N l (W,s,L,F,R)=some (l.all (okl W.length)):=by
 unfold Iv A5n ixflo_S
 rw[←E5 (f:=fun x=>some (okl W.length x)) (p:=okl W.length) (s:=l) (N:=N) (fun x _=>rfl) h hN]
 unfold ixS
 rw[ixflo_gen]
 simp only[Option.bind_some]
 cases ixL (fun x=>some (!okl W.length x)) N l l.length 0 with
 | none=>rfl
 | some r=>cases r<;>rfl
end
def errD(W:List Int)(s:Int)(L F:List (List Int))(R:List Int):Int:=
 if ¬(1≤(W.length:Int)∧(W.length:Int)≤5)then 2 else if 6<(L.length:Int)then 2 else if 6<(F.length:Int)then 2 else if L.all (okl W.length)=false then 2 else if F.all (okl W.length)=false then 2 else
 if ¬((R.length:Int)=(L.length:Int))then 2 else if(W.all okw&&decide (0≤s∧s≤3)&&R.all okr&&(L.all fun r=>r.all okv)&&F.all fun r=>r.all okv)=true then 0 else 3
section
variable {N:Nat} {W:List Int} {s:Int} {L F:List (List Int)} {R:List Int}
theorem A5g(hN:110≤N)(h:Sm W L F R):Jy N W s L F R=some (errD W s L F R):=by
 obtain⟨hw,hl,hf,hr,hlr,hfr⟩:=h
 unfold Jy errD
 rw[in_v]
 simp only[Option.bind_some]
 by_cases c1:1≤(W.length:Int)∧(W.length:Int)≤5
 rotate_left
 ·rw[A8 c1,if_pos c1]
 rw[A6 c1,if_neg (by simpa using c1)]
 by_cases c2:6<(L.length:Int)
 ·rw[A2 c2,if_pos c2]
 rw[A1 c2,if_neg c2]
 by_cases c3:6<(F.length:Int)
 ·rw[A2 c3,if_pos c3]
 rw[A1 c3,if_neg c3,A1n (by omega) (by omega),A1n (by omega) (by omega),Anv (by omega) (by omega),in_v,Al8 (by omega) (by omega),
  A1p (by omega) (by omega) (fun x hx=>⟨by have:=hlr x hx;omega,by have:=hlr x hx;omega⟩),A1p (by omega) (by omega) (fun x hx=>⟨by have:=hfr x hx;omega,by have:=hfr x hx;omega⟩)]
 simp only[Option.bind_some]
 cases L.all (okl W.length)
 ·rfl
 cases F.all (okl W.length)
 ·rfl
 by_cases c4:(R.length:Int)=(L.length:Int)
 rotate_left
 ·simp only[Bool.not_true,Ad,Bool.true_eq_false,if_false]
  rw[A8 c4,if_pos c4]
 simp only[Bool.not_true,Ad,Bool.true_eq_false,if_false]
 rw[A6 c4,if_neg (not_not_intro c4)]
 cases W.all okw<;>cases decide (0≤s∧s≤3)<;>cases R.all okr<;>cases (L.all fun r=>r.all okv)<;>cases (F.all fun r=>r.all okv)<;>rfl
theorem Ho(n lo hi:Int):Fg N n lo hi=some (!decide (lo≤n∧n≤hi)):=by
 unfold Fg
 by_cases c:n<lo
 ·rw[A2 c];congr 1;simp;omega
 ·rw[A1 c];congr 1
  by_cases d:n≤hi
  ·rw[decide_eq_false (show ¬hi<n by omega),decide_eq_true (show lo≤n∧n≤hi from⟨by omega,d⟩)];rfl
  ·rw[decide_eq_true (show hi<n by omega),decide_eq_false (fun h:lo≤n∧n≤hi=>d h.2)];rfl
def alls{α β:Type}(p:α→Bool)(s:List α)(k:Nat)(b:β):Option (Unit⊕β):=some (if(s.drop k).all p then .inr b else .inl ())
theorem Ga{α β:Type}{p:α→Bool}{s:List α}{k:Nat}{b:β}(d:α)(h:k<s.length)(hp:p (s.getD k d)=true):alls p s k b=alls p s (k+1) b:=by
 unfold alls;rw[drop_cons h d,List.all_cons,hp,Bool.true_and]
theorem Jf{α β:Type}{p:α→Bool}{s:List α}{k:Nat}{b:β}(d:α)(h:k<s.length)(hp:p (s.getD k d)=false):alls p s k b=some (.inl ()):=by
 unfold alls;rw[drop_cons h d,List.all_cons,hp,Bool.false_and];rfl
theorem H2{α β:Type}{p:α→Bool}{s:List α}{k:Nat}{b:β}(h:s.length≤k):alls p s k b=some (.inr b):=by
 unfold alls;rw[List.drop_of_length_le h];rfl
theorem L0(hw:W.length≤1000000){l:List (List Int)}(hl:l.length≤1000000):∀(n k:Nat),l.length<n+k→k≤l.length→described_l1 N n l k W s L F R=alls (okl W.length) l k ()
 | 0,k,h,_=>by omega
 | n+1,k,h,hk=>by
  unfold described_l1
  by_cases c:k<l.length
  ·have ih:=L0 hw hl n (k+1) (by omega) (by omega)
   rw[A9]at ih
   rw[A2 (by omega),idx_eq (by omega) (gets c [])]
   by_cases c1:((l.getD k []).length:Int)=W.length
   ·rw[A6 c1,A3 (by omega),ih,Ga [] c (by unfold okl;rw[decide_eq_true_eq];omega)]
   ·rw[A8 c1,Jf [] c (by unfold okl;rw[decide_eq_false_iff_not];omega)]
  ·rw[A1 (by omega),H2 (by omega)]
theorem V8(hw:W.length≤1000000){l:List (List Int)}(hl:l.length≤1000000)(hN:l.length<N):F5 N W s L F R l=some (l.all (okl W.length)):=by
 unfold F5
 have:=L0 (N:=N) (s:=s) (L:=L) (F:=F) (R:=R) hw hl N 0 (by omega) (by omega)
 rw[show((0:Nat):Int)=0 from rfl]at this
 rw[this]
 unfold alls
 simp only[List.drop_zero,Option.bind_some]
 cases l.all (okl W.length)<;>rfl
theorem Vh{l:List (List Int)}{i:Nat}(hi:i<l.length)(hr:(l.getD i []).length≤1000000):∀(n k:Nat),(l.getD i []).length<n+k→k≤(l.getD i []).length→valued_l2 N n l i k=alls okv (l.getD i []) k (l,(i:Int))
 | 0,k,h,_=>by omega
 | n+1,k,h,hk=>by
  unfold valued_l2
  rw[idx_eq (by omega) (gets hi [])]
  by_cases c:k<(l.getD i []).length
  ·have ih:=Vh hi hr n (k+1) (by omega) (by omega)
   rw[A9]at ih
   rw[A2 (by omega),idx_eq (by omega) (gets hi []),idx_eq (by omega) (gets c 0),Ho]
   simp only[Option.bind_some]
   by_cases c1:-1≤(l.getD i []).getD k 0∧(l.getD i []).getD k 0≤5
   ·rw[A6 c1,A3 (by omega),ih,Ga 0 c (by simp only[okv,c1,and_self,decide_true])]
   ·rw[A8 c1,Jf 0 c (by simp only[okv,c1,decide_false])]
  ·rw[A1 (by omega),H2 (by omega)]
theorem V4{l:List (List Int)}(hl:l.length≤1000000)(hr:∀x∈l,x.length≤1000000∧x.length<N):∀(n k:Nat),l.length<n+k→k≤l.length→valued_l1 N n l k=alls (fun r=>r.all okv) l k ()
 | 0,k,h,_=>by omega
 | n+1,k,h,hk=>by
  unfold valued_l1
  by_cases c:k<l.length
  ·have ih:=V4 hl hr n (k+1) (by omega) (by omega)
   rw[A9]at ih
   have e:=Vh (N:=N) c (hr _ (Ab c)).1 N 0 (by have:=(hr _ (Ab (d:=[]) c)).2;omega) (by omega)
   rw[show((0:Nat):Int)=0 from rfl]at e
   rw[A2 (by omega),e]
   by_cases hb:(l.getD k []).all okv=true
   ·rw[Ga (p:=fun r=>r.all okv) [] c hb,←ih]
    unfold alls
    rw[List.drop_zero,if_pos hb]
    exact A3 (by omega)
   ·rw[Jf (p:=fun r=>r.all okv) [] c (Bool.eq_false_iff.2 hb)]
    unfold alls
    rw[List.drop_zero,if_neg hb]
    rfl
  ·rw[A1 (by omega),H2 (by omega)]
theorem A7i{l:List (List Int)}(hl:l.length≤1000000)(hN:l.length<N)(hr:∀x∈l,x.length≤1000000∧x.length<N):Ki N l=some (l.all fun r=>r.all okv):=by
 unfold Ki
 have:=V4 (N:=N) hl hr N 0 (by omega) (by omega)
 rw[show((0:Nat):Int)=0 from rfl]at this
 rw[this]
 unfold alls
 simp only[List.drop_zero,Option.bind_some]
 cases (l.all fun r=>r.all okv)<;>rfl
theorem Uh(hw:W.length≤1000000):∀(n k:Nat),W.length<n+k→k≤W.length→rcheck_l1 N n k W s L F R=alls okw W k (W,s,L,F,R)
 | 0,k,h,_=>by omega
 | n+1,k,h,hk=>by
  unfold rcheck_l1
  by_cases c:k<W.length
  ·have ih:=Uh hw n (k+1) (by omega) (by omega)
   rw[A9]at ih
   rw[A2 (by omega),idx_eq (by omega) (gets c 0),Ho]
   simp only[Option.bind_some]
   by_cases c1:1≤W.getD k 0∧W.getD k 0≤9
   ·rw[A6 c1,A3 (by omega),ih,Ga 0 c (by simp only[okw,c1,and_self,decide_true])]
   ·rw[A8 c1,Jf 0 c (by simp only[okw,c1,decide_false])]
  ·rw[A1 (by omega),H2 (by omega)]
theorem Vv(hw:R.length≤1000000):∀(n k:Nat),R.length<n+k→k≤R.length→Ic N n k W s L F R=alls okr R k (W,s,L,F,R)
 | 0,k,h,_=>by omega
 | n+1,k,h,hk=>by
  unfold Ic
  by_cases c:k<R.length
  ·have ih:=Vv hw n (k+1) (by omega) (by omega)
   rw[A9]at ih
   rw[A2 (by omega),idx_eq (by omega) (gets c 0),Ho]
   simp only[Option.bind_some]
   by_cases c1:0≤R.getD k 0∧R.getD k 0≤99
   ·rw[A6 c1,A3 (by omega),ih,Ga 0 c (by simp only[okr,c1,and_self,decide_true])]
   ·rw[A8 c1,Jf 0 c (by simp only[okr,c1,decide_false])]
  ·rw[A1 (by omega),H2 (by omega)]
theorem Ca(hN:110≤N)(h:Sm W L F R):rcheck_S N W s L F R=some (errD W s L F R):=by
 obtain⟨hw,hl,hf,hr,hlr,hfr⟩:=h
 unfold rcheck_S errD
 rw[Ho]
 simp only[Option.bind_some]
 by_cases c1:1≤(W.length:Int)∧(W.length:Int)≤5
 rotate_left
 ·rw[A8 c1,if_pos c1]
 rw[A6 c1,if_neg (by simpa using c1)]
 by_cases c2:6<(L.length:Int)
 ·rw[A2 c2,if_pos c2]
 rw[A1 c2,if_neg c2]
 by_cases c3:6<(F.length:Int)
 ·rw[A2 c3,if_pos c3]
 have e1:=Uh (N:=N) (s:=s) (L:=L) (F:=F) (R:=R) (W:=W) (by omega) N 0 (by omega) (by omega)
 have e2:=Vv (N:=N) (s:=s) (L:=L) (F:=F) (W:=W) (R:=R) (by omega) N 0 (by omega) (by omega)
 rw[show((0:Nat):Int)=0 from rfl]at e1 e2
 rw[A1 c3,if_neg c3,V8 (by omega) (by omega) (by omega),V8 (by omega) (by omega) (by omega),e1]
 unfold alls at e2 ⊢
 simp only[List.drop_zero,Option.bind_some]at e2 ⊢
 cases L.all (okl W.length)
 ·rfl
 cases F.all (okl W.length)
 ·rfl
 by_cases c4:(R.length:Int)=(L.length:Int)
 rotate_left
 ·simp only[Bool.not_true,Ad,Bool.true_eq_false,if_false]
  rw[A8 c4,if_pos c4]
 simp only[Bool.not_true,Ad,Bool.true_eq_false,if_false]
 rw[A6 c4,if_neg (not_not_intro c4)]
 by_cases d1:W.all okw=true
 rotate_left
 ·rw[if_neg d1,if_neg (by rw[Bool.eq_false_iff.2 d1];simp)]
 rw[if_pos d1,d1]
 dsimp only
 rw[e2]
 simp only[Option.bind_some]
 by_cases d2:R.all okr=true
 rotate_left
 ·rw[if_neg d2,if_neg (by rw[Bool.eq_false_iff.2 d2];simp)]
 rw[if_pos d2,d2]
 dsimp only
 rw[Ho,A7i (N:=N) (l:=L) (by omega) (by omega) (fun x hx=>⟨by have:=hlr x hx;omega,by have:=hlr x hx;omega⟩),A7i (N:=N) (l:=F) (by omega) (by omega) (fun x hx=>⟨by have:=hfr x hx;omega,by have:=hfr x hx;omega⟩)]
 simp only[Option.bind_some]
 cases decide (0≤s∧s≤3)<;>cases (L.all fun r=>r.all okv)<;>cases (F.all fun r=>r.all okv)<;>rfl
end
section
variable {N:Nat}
theorem Jt{l:List Int}(h:l.length≤1000000):E8 N l=some l:=by
 unfold E8
 rw[Av (K1.2 (by omega))]
 simp
theorem Gj{α:Type}{l:List α}{k:Nat}(c:k<l.length)(d:α):l.take (k+1)=l.take k++[l.getD k d]:=by
 rw[List.take_add_one];simp[List.getD,c]
theorem Fs{l:List Int}(h:l.length≤1000)(hN:l.length<N):Bl N l l=some true:=by
 have e:∀(n k:Nat),l.length<n+k→k≤l.length→equali_l1 N n l l l.length k=some (.inr ()):=by
  intro n
  induction n with
  | zero=>intro k h _;omega
  | succ n ih=>
   intro k h2 hk
   unfold equali_l1
   by_cases c:k<l.length
   ·have:=ih (k+1) (by omega) (by omega)
    rw[show((k+1:Nat):Int)=(k:Int)+1 by omega]at this
    rw[A2 (by omega),idx_eq (by omega) (gets c 0),idx_eq (by omega) (gets c 0),A6 rfl,A3 (by omega),this]
   ·rw[A1 (by omega)]
 have e0:=e N 0 (by omega) (by omega)
 simp only[Int.natCast_zero]at e0
 unfold Bl Ix
 rw[A6 rfl,e0];rfl
end
end Go.Proofs.YthncjilcflilcaaGreat

namespace Go.Proofs.YthncjilcflilcaaGreat
set_option linter.all false
open Go

def tabA(g:Nat→Int):List Int:=(List.range 36).map g
theorem Ck(g:Nat→Int):(tabA g).length=36:=by simp[tabA]
theorem Q8{g:Nat→Int}{x:Nat}(h:x<36):(tabA g).getD x 0=g x:=by simp[tabA,List.getD,h]
theorem Xe(g:Nat→Int)(x:Nat)(v:Int):(tabA g).set x v=tabA (upd g x v):=by
 refine List.ext_getElem (by simp[tabA]) fun i h1 h2=>?_
 simp only[tabA,List.getElem_set,List.getElem_map,List.getElem_range,upd]
 by_cases e:x=i
 ·rw[if_pos e,if_pos e.symm]
 ·rw[if_neg e,if_neg (Ne.symm e)]
theorem Acf{g h:Nat→Int}(e:∀x,x<36→g x=h x):tabA g=tabA h:=by
 unfold tabA
 refine List.map_congr_left fun x hx=>e x (by simpa using hx)
def agA(W a b:List Int)(t:Nat):Int:=if a.getD t 0=b.getD t 0∧a.getD t 0≠-1 then W.getD t 0 else 0
def slA(a b:List Int)(t:Nat):Int:=if a.getD t 0≠-1∧b.getD t 0≠-1∧a.getD t 0≠b.getD t 0 then 1 else 0
def agP(W a b:List Int)(k:Nat):Int:=sumN (agA W a b) k
def slP(a b:List Int)(k:Nat):Int:=sumN (slA a b) k
def agF(W:List Int)(L F:List (List Int))(i k:Nat):Int:=if i<L.length∧k<F.length then agP W (L.getD i []) (F.getD k []) W.length else 0
def slF(W:List Int)(L F:List (List Int))(i k:Nat):Int:=if i<L.length∧k<F.length then slP (L.getD i []) (F.getD k []) W.length else 0
theorem Oh{f:Nat→Int}{m:Int}(h:∀i,0≤f i∧f i≤m)(hm:0≤m∧m≤10):∀n:Nat,n≤1000→0≤sumN f n∧sumN f n≤10*n
 | 0,_=>by simp[sumN]
 | n+1,hn=>by
  have h1:=Oh h hm n (by omega)
  have h2:=h n
  rw[sumN];omega
structure Fine (W:List Int) (s:Int) (L F:List (List Int)) (R:List Int):Prop where
 w1:1≤W.length
 w5:W.length≤5
 l6:L.length≤6
 f6:F.length≤6
 lw:∀x∈L,x.length=W.length
 fw:∀x∈F,x.length=W.length
 rl:R.length=L.length
 w:∀x∈W,1≤x∧x≤9
 s:0≤s∧s≤3
 r:∀x∈R,0≤x∧x≤99
 lv:∀r∈L,∀x∈r,-1≤x∧x≤5
 fv:∀r∈F,∀x∈r,-1≤x∧x≤5
section
variable {W:List Int} {s:Int} {L F:List (List Int)} {R:List Int}
theorem Ac:errD W s L F R=0↔Fine W s L F R:=by
 unfold errD
 constructor
 ·intro h
  split at h
  ·cases h
  rename_i c1
  split at h
  ·cases h
  rename_i c2
  split at h
  ·cases h
  rename_i c3
  split at h
  ·cases h
  rename_i c4
  split at h
  ·cases h
  rename_i c5
  split at h
  ·cases h
  rename_i c6
  split at h
  rotate_left
  ·cases h
  rename_i c7
  simp only[Bool.and_eq_true,List.all_eq_true,okw,okr,okv,decide_eq_true_eq]at c7
  simp only[Bool.not_eq_false,List.all_eq_true,okl,decide_eq_true_eq]at c4 c5
  exact⟨by omega,by omega,by omega,by omega,c4,c5,by omega,c7.1.1.1.1,c7.1.1.1.2,c7.1.1.2,c7.1.2,c7.2⟩
 ·intro h
  have c4:L.all (okl W.length)=true:=by simpa [okl]using h.lw
  have c5:F.all (okl W.length)=true:=by simpa [okl]using h.fw
  have h1:=h.w1;have h2:=h.w5;have h3:=h.l6;have h4:=h.f6;have h5:=h.rl
  rw[if_neg (by omega),if_neg (by omega),if_neg (by omega),if_neg (by simp[c4]),if_neg (by simp[c5]),if_neg (by omega),if_pos]
  simp only[Bool.and_eq_true,List.all_eq_true,okw,okr,okv,decide_eq_true_eq]
  exact⟨⟨⟨⟨h.w,h.s⟩,h.r⟩,h.lv⟩,h.fv⟩
theorem Fine.sm(h:Fine W s L F R):Sm W L F R:=by
 have h1:=h.w1;have h2:=h.w5;have h3:=h.l6;have h4:=h.f6;have h5:=h.rl
 exact⟨by omega,by omega,by omega,by omega,fun x hx=>by have:=h.lw x hx;omega,fun x hx=>by have:=h.fw x hx;omega⟩
def dkT(W:List Int)(s:Int)(L F:List (List Int))(R:List Int)(A B:Nat→Nat→Int):Dk:=(W,s,L,F,R,tabA (fun x=>A (x / 6) (x % 6)),tabA (fun x=>B (x / 6) (x % 6)),())
def dkO(W:List Int)(s:Int)(L F:List (List Int))(R:List Int):Dk:=dkT W s L F R (agF W L F) (slF W L F)
theorem Aeo(hw:∀x∈W,1≤x∧x≤9)(t:Nat):0≤W.getD t 0∧W.getD t 0≤9:=by
 by_cases h:t<W.length
 ·have:=hw _ (Ab (d:=0) h);omega
 ·have:W.getD t 0=0:=by simp[List.getD,List.getElem?_eq_none (show W.length≤t by omega)]
  omega
theorem Ai8(hw:∀x∈W,1≤x∧x≤9)(a b:List Int)(t:Nat):0≤agA W a b t∧agA W a b t≤9:=by
 have:=Aeo hw t
 unfold agA;split<;>omega
theorem Ahp(a b:List Int)(t:Nat):0≤slA a b t∧slA a b t≤1:=by unfold slA;split<;>omega
theorem Tq(hw:∀x∈W,1≤x∧x≤9)(a b:List Int){t:Nat}(ht:t≤5):0≤agP W a b t∧agP W a b t≤50:=by
 have:=Oh (Ai8 hw a b) (by omega) t (by omega)
 unfold agP;omega
theorem A3a(a b:List Int){t:Nat}(ht:t≤5):0≤slP a b t∧slP a b t≤50:=by
 have:=Oh (Ahp a b) (by omega) t (by omega)
 unfold slP;omega
theorem Afp{α:Type}(J:Nat→α)(i:Nat)(v w:α):upd (upd J i v) i w=upd J i w:=by
 funext x;unfold upd;split<;>rfl
theorem Anu{α:Type}(J:Nat→α)(i:Nat):upd J i (J i)=J:=by
 funext x;unfold upd;split
 ·rename_i e;rw[e]
 ·rfl
theorem Ff{N:Nat}(h:Fine W s L F R){i k:Nat}(hi:i<6)(hk:k<6){a b:List Int}(ha:a.length=W.length)(hb:b.length=W.length){u u4:List (List Int)}{u2 u3 u5 u6:Int}{o1 o5:List Int}{o2:Int}{o3 o4:List (List Int)} :
  ∀(n t:Nat) (g g':Nat→Int),W.length<n+t→t≤W.length→g (i*6+k)=agP W a b t→g' (i*6+k)=slP a b t →
   opened_l3 N n i a k b u u2 u3 u4 u5 u6 a a.length t W s L F R o1 o2 o3 o4 o5 (tabA g) (tabA g')=some ((i:Int),a,u,u2,u3,u4,u5,u6,W,s,L,F,R,o1,o2,o3,o4,o5,tabA (upd g (i*6+k) (agP W a b W.length)),tabA (upd g' (i*6+k) (slP a b W.length)))
 | 0,t,_,_,hn,ht,_,_=>by omega
 | n+1,t,g,g',hn,ht,e1,e2=>by
  unfold opened_l3
  have hw5:=h.w5
  by_cases c:t<W.length
  ·have hx:i*6+k<36:=by omega
   have hj:∀g g':Nat→Int,Dv N (opened_l3 N n) i a k b u u2 u3 u4 u5 u6 a a.length t W s L F R o1 o2 o3 o4 o5 (tabA g) (tabA g')=opened_l3 N n i a k b u u2 u3 u4 u5 u6 a a.length ((t+1:Nat):Int) W s L F R o1 o2 o3 o4 o5 (tabA g) (tabA g'):=fun g g'=>by
    unfold Dv
    rw[A3 (by omega)];rfl
   have b1:=Tq h.w a b (t:=t) (by omega)
   have b2:=A3a a b (t:=t) (by omega)
   have b3:=Aeo h.w t
   have s1:agP W a b (t+1)=agP W a b t+agA W a b t:=rfl
   have s2:slP a b (t+1)=slP a b t+slA a b t:=rfl
   rw[A2 (by omega),idx_eq (by omega) (gets (by omega) 0)]
   unfold agA at s1
   unfold slA at s2
   by_cases c1:a.getD t 0=-1
   ·rw[if_neg (by omega)]at s1 s2
    rw[A2 c1,hj,Ff h hi hk ha hb n (t+1) g g' (by omega) (by omega) (by omega) (by omega)]
   rw[A1 c1,idx_eq (by omega) (gets (by omega) 0)]
   by_cases c2:b.getD t 0=-1
   ·rw[if_neg (by omega)]at s1 s2
    rw[A2 c2,hj,Ff h hi hk ha hb n (t+1) g g' (by omega) (by omega) (by omega) (by omega)]
   rw[A1 c2,idx_eq (by omega) (gets (by omega) 0)]
   by_cases c3:a.getD t 0=b.getD t 0
   ·rw[if_pos ⟨c3,c1⟩]at s1
    rw[if_neg (by omega)]at s2
    rw[A2 c3,Ag (by omega),Ag (by omega)]
    simp only[Int.toNat_natCast]
    rw[C1 0 (by rw[Ck];exact hx),Q8 hx,e1,idx_eq (by omega) (gets (k:=t) (l:=W) (by omega) 0),A3 (by omega),Ag (by omega),Ag (by omega),C1 0 (by rw[Ck];exact hx),Xe,hj,
     Ff h hi hk ha hb n (t+1) _ _ (by omega) (by omega) (by rw[B7];omega) (by omega),Afp]
   ·rw[if_neg (by omega)]at s1
    rw[if_pos ⟨c1,c2,c3⟩]at s2
    rw[A1 c3,Ag (by omega),Ag (by omega)]
    simp only[Int.toNat_natCast]
    rw[C1 0 (by rw[Ck];exact hx),Q8 hx,e2,A3 (by omega),Ag (by omega),Ag (by omega),C1 0 (by rw[Ck];exact hx),Xe,hj,
     Ff h hi hk ha hb n (t+1) _ _ (by omega) (by omega) (by omega) (by rw[B7];omega),Afp]
  ·obtain rfl:t=W.length:=by omega
   rw[A1 (by omega),←e1,←e2,Anu,Anu]
def gK(A:Nat→Nat→Int)(i k:Nat):Nat→Int:=fun x=>if x / 6<i∨(x / 6=i∧x % 6<k)then A (x / 6) (x % 6)else 0
theorem Agx(A:Nat→Nat→Int){i k:Nat}(hk:k<6):upd (gK A i k) (i*6+k) (A i k)=gK A i (k+1):=by
 funext x
 unfold upd gK
 by_cases e:x=i*6+k
 ·rw[if_pos e,if_pos (by omega),show x / 6=i by omega,show x % 6=k by omega]
 ·rw[if_neg e]
  by_cases c:x / 6<i∨(x / 6=i∧x % 6<k)
  ·rw[if_pos c,if_pos (by omega)]
  ·rw[if_neg c,if_neg (by omega)]
theorem Afz(A:Nat→Nat→Int){i k:Nat}(hk:k<6):gK A i k (i*6+k)=0:=if_neg (by omega)
theorem Amo{A:Nat→Nat→Int}{i m:Nat}(h:∀k,m≤k→A i k=0):gK A i m=gK A (i+1) 0:=by
 funext x
 unfold gK
 by_cases c:x / 6<i∨(x / 6=i∧x % 6<m)
 ·rw[if_pos c,if_pos (by omega)]
 ·rw[if_neg c]
  by_cases d:x / 6=i
  ·rw[if_pos (by omega),d,h _ (by omega)]
  ·rw[if_neg (by omega)]
theorem Am8{A:Nat→Nat→Int}{n:Nat}(h:∀i k,n≤i→A i k=0):gK A n 0=fun x=>A (x / 6) (x % 6):=by
 funext x
 unfold gK
 by_cases c:x / 6<n
 ·rw[if_pos (.inl c)]
 ·rw[if_neg (by omega),h _ _ (by omega)]
theorem U0{N:Nat}(hN:110≤N)(h:Fine W s L F R){i:Nat}(hi:i<L.length){u:List (List Int)}{u2 u3:Int}{o1 o5:List Int}{o2:Int}{o3 o4:List (List Int)} :
  ∀(n k:Nat),F.length<n+k→k≤F.length →
   opened_l2 N n i (L.getD i []) u u2 u3 F F.length k W s L F R o1 o2 o3 o4 o5 (tabA (gK (agF W L F) i k)) (tabA (gK (slF W L F) i k))=some (u,u2,u3,W,s,L,F,R,o1,o2,o3,o4,o5,tabA (gK (agF W L F) (i+1) 0),tabA (gK (slF W L F) (i+1) 0))
 | 0,k,hn,hk=>by omega
 | n+1,k,hn,hk=>by
  unfold opened_l2
  have hl6:=h.l6;have hf6:=h.f6;have hw5:=h.w5
  by_cases c:k<F.length
  ·have ih:=U0 hN h hi (u:=u) (u2:=u2) (u3:=u3) (o1:=o1) (o5:=o5) (o2:=o2) (o3:=o3) (o4:=o4) n (k+1) (by omega) (by omega)
   rw[A9]at ih
   have e:=Ff (N:=N) h (i:=i) (k:=k) (by omega) (by omega) (h.lw _ (Ab (d:=[]) hi)) (h.fw _ (Ab (d:=[]) c)) (u:=u) (u4:=F) (u2:=u2) (u3:=u3) (u5:=F.length) (u6:=k) (o1:=o1) (o5:=o5) (o2:=o2) (o3:=o3) (o4:=o4)
    N 0 (gK (agF W L F) i k) (gK (slF W L F) i k) (by omega) (by omega) (Afz _ (by omega)) (Afz _ (by omega))
   have a1:agP W (L.getD i []) (F.getD k []) W.length=agF W L F i k:=(if_pos ⟨hi,c⟩).symm
   have a2:slP (L.getD i []) (F.getD k []) W.length=slF W L F i k:=(if_pos ⟨hi,c⟩).symm
   rw[a1,a2,Agx _ (by omega),Agx _ (by omega),show((0:Nat):Int)=0 from rfl]at e
   rw[A2 (by omega),idx_eq (by omega) (gets c []),e]
   simp only[Option.bind_some]
   rw[A3 (by omega)]
   exact ih
  ·obtain rfl:k=F.length:=by omega
   rw[A1 (by omega),Amo (A:=agF W L F) (i:=i) (m:=F.length) (fun k hk=>by unfold agF;exact if_neg (by omega)),Amo (A:=slF W L F) (i:=i) (m:=F.length) (fun k hk=>by unfold slF;exact if_neg (by omega))]
theorem W0{N:Nat}(hN:110≤N)(h:Fine W s L F R){o1 o5:List Int}{o2:Int}{o3 o4:List (List Int)} :
  ∀(n i:Nat),L.length<n+i→i≤L.length →
   opened_l1 N n L L.length i W s L F R o1 o2 o3 o4 o5 (tabA (gK (agF W L F) i 0)) (tabA (gK (slF W L F) i 0))=some (o1,o2,o3,o4,o5,tabA (fun x=>agF W L F (x / 6) (x % 6)),tabA (fun x=>slF W L F (x / 6) (x % 6)))
 | 0,i,hn,hi=>by omega
 | n+1,i,hn,hi=>by
  unfold opened_l1
  have hl6:=h.l6;have hf6:=h.f6
  by_cases c:i<L.length
  ·have ih:=W0 hN h (o1:=o1) (o5:=o5) (o2:=o2) (o3:=o3) (o4:=o4) n (i+1) (by omega) (by omega)
   rw[A9]at ih
   have e:=U0 hN h c (u:=L) (u2:=L.length) (u3:=i) (o1:=o1) (o5:=o5) (o2:=o2) (o3:=o3) (o4:=o4) N 0 (by omega) (by omega)
   rw[show((0:Nat):Int)=0 from rfl]at e
   rw[A2 (by omega),idx_eq (by omega) (gets c []),e]
   simp only[Option.bind_some]
   rw[A3 (by omega)]
   exact ih
  ·obtain rfl:i=L.length:=by omega
   rw[A1 (by omega),Am8 (A:=agF W L F) (fun i k hi=>by unfold agF;exact if_neg (by omega)),Am8 (A:=slF W L F) (fun i k hi=>by unfold slF;exact if_neg (by omega))]
theorem Bo{N:Nat}(hN:110≤N)(h:Sm W L F R):Aw N W s L F R=some (if errD W s L F R=0 then .inl (dkO W s L F R,0)else .inr (errD W s L F R)):=by
 unfold Aw
 rw[A5g hN h]
 simp only[Option.bind_some]
 by_cases c:errD W s L F R=0
 ·have hF:=Ac.1 c
  have e:=W0 hN hF (o1:=W) (o2:=s) (o3:=L) (o4:=F) (o5:=R) N 0 (by have:=hF.l6;omega) (by omega)
  have z:∀A:Nat→Nat→Int,tabA (gK A 0 0)=List.replicate 36 (0:Int):=fun A=>by
   rw[show gK A 0 0=fun _=>0 by funext x;exact if_neg (by omega)];rfl
  rw[z,z,show((0:Nat):Int)=0 from rfl]at e
  rw[A6 c,if_pos c,e];rfl
 ·rw[A8 c,if_neg c]
theorem Aa3{N:Nat}(hN:110≤N)(h:Fine W s L F R):Aw N W s L F R=some (.inl (dkO W s L F R,0)):=by
 rw[Bo hN h.sm,if_pos (Ac.2 h)]
end
end Go.Proofs.YthncjilcflilcaaGreat

namespace Go.Proofs.YthncjilcflilcaaGreat
set_option linter.all false
open Go

def alI(p:Nat→Bool)(n:Nat):Bool:=(List.range' 0 n).all p
theorem Mi{p:Nat→Bool}{n:Nat}:alI p n=true↔∀i,i<n→p i=true:=by
 unfold alI
 rw[List.all_eq_true]
 constructor
 ·exact fun h i hi=>h i (by simp[List.mem_range'_1,hi])
 ·exact fun h i hi=>h i (by have:=List.mem_range'_1.1 hi;omega)
def allI{β:Type}(p:Nat→Bool)(n k:Nat)(b:β):Option (Unit⊕β):=some (if(List.range' k (n-k)).all p then .inr b else .inl ())
theorem Sr{β:Type}(p:Nat→Bool)(n:Nat)(b:β):allI p n 0 b=some (if alI p n then .inr b else .inl ()):=rfl
theorem Co{β:Type}{p:Nat→Bool}{n k:Nat}{b:β}(h:k<n)(hp:p k=true):allI p n k b=allI p n (k+1) b:=by
 unfold allI
 rw[show n-k=(n-(k+1))+1 by omega,List.range'_succ,List.all_cons,hp,Bool.true_and]
theorem Hg{β:Type}{p:Nat→Bool}{n k:Nat}{b:β}(h:k<n)(hp:p k=false):allI p n k b=some (.inl ()):=by
 unfold allI
 rw[show n-k=(n-(k+1))+1 by omega,List.range'_succ,List.all_cons,hp,Bool.false_and];rfl
theorem Fc{β:Type}{p:Nat→Bool}{n k:Nat}{b:β}(h:n≤k):allI p n k b=some (.inr b):=by
 unfold allI
 rw[show n-k=0 by omega];rfl
def canT(A B:Nat→Nat→Int)(s:Int)(i k:Nat):Bool:=decide (0<A i k)&&decide (B i k≤s)
section
variable {W:List Int} {s:Int} {L F:List (List Int)} {R:List Int} {A B:Nat→Nat→Int} {N:Nat}
theorem Anp{i k:Nat}(hi:i<6)(hk:k<6):agD (dkT W s L F R A B) i k=A i k:=by
 unfold agD dkT
 rw[Q8 (by omega),show(i*6+k) / 6=i by omega,show(i*6+k) % 6=k by omega]
theorem Anm{i k:Nat}(hi:i<6)(hk:k<6):slD (dkT W s L F R A B) i k=B i k:=by
 unfold slD dkT
 rw[Q8 (by omega),show(i*6+k) / 6=i by omega,show(i*6+k) % 6=k by omega]
theorem A8i{i k:Nat}(hi:i<6)(hk:k<6):I8 N (dkT W s L F R A B) i k=some (canT A B s i k):=by
 rw[Akv (Ck _) (Ck _) hi hk]
 unfold canD canT
 rw[Anp hi hk,Anm hi hk];rfl
theorem Pt{i k:Nat}(hi:i<6)(hk:k<6){Z:Type}{f:Int→Option Z}:get (dkT W s L F R A B).2.2.2.2.2.1 (i*6+k) f=f (A i k):=by
 have e:=Anp (W:=W) (s:=s) (L:=L) (F:=F) (R:=R) (A:=A) (B:=B) hi hk
 unfold agD at e
 rw[C1 0 (by unfold dkT;rw[Ck];omega),e]
theorem Aqv{i k:Nat}(hi:i<6)(hk:k<6){Z:Type}{f:Int→Option Z}:get (dkT W s L F R A B).2.2.2.2.2.2.1 (i*6+k) f=f (B i k):=by
 have e:=Anm (W:=W) (s:=s) (L:=L) (F:=F) (R:=R) (A:=A) (B:=B) hi hk
 unfold slD at e
 rw[C1 0 (by unfold dkT;rw[Ck];omega),e]
theorem Al(h:Fine W s L F R)(i k:Nat):0≤agF W L F i k∧agF W L F i k≤50:=by
 unfold agF
 split
 ·exact Tq h.w _ _ h.w5
 ·omega
abbrev canF(W:List Int)(s:Int)(L F:List (List Int)):Nat→Nat→Bool:=canT (agF W L F) (slF W L F) s
theorem Y4(h:Fine W s L F R){i k:Nat}(hi:i<L.length)(hk:k<F.length):∀(n t:Nat),W.length<n+t→t≤W.length →
  rpair_l1 N n i k (agP W (L.getD i []) (F.getD k []) t) (slP (L.getD i []) (F.getD k []) t) t W s L F R=some (agF W L F i k,slF W L F i k,W,s,L,F,R)
 | 0,t,hn,ht=>by omega
 | n+1,t,hn,ht=>by
  unfold rpair_l1
  have hw5:=h.w5
  have ha:=h.lw _ (Ab (d:=[]) hi)
  have hb:=h.fw _ (Ab (d:=[]) hk)
  by_cases c:t<W.length
  ·have e1:-1≤(L.getD i []).getD t 0:=(h.lv _ (Ab (d:=[]) hi) _ (Ab (d:=0) (by omega))).1
   have e2:-1≤(F.getD k []).getD t 0:=(h.fv _ (Ab (d:=[]) hk) _ (Ab (d:=0) (by omega))).1
   have ih:=Y4 h hi hk n (t+1) (by omega) (by omega)
   rw[A9]at ih
   have b1:=Tq h.w (L.getD i []) (F.getD k []) (t:=t) (by omega)
   have b2:=A3a (L.getD i []) (F.getD k []) (t:=t) (by omega)
   have b3:=Aeo h.w t
   have s1:agP W (L.getD i []) (F.getD k []) (t+1)=agP W (L.getD i []) (F.getD k []) t+agA W (L.getD i []) (F.getD k []) t:=rfl
   have s2:slP (L.getD i []) (F.getD k []) (t+1)=slP (L.getD i []) (F.getD k []) t+slA (L.getD i []) (F.getD k []) t:=rfl
   rw[s1,s2]at ih
   clear s1 s2
   rw[A2 (by omega),idx_eq (by omega) (gets hi []),idx_eq (by omega) (gets (by omega) 0),idx_eq (by omega) (gets hk []),idx_eq (by omega) (gets (by omega) 0)]
   have hj:∀x y,Gt N (rpair_l1 N n) i k x y t W s L F R=rpair_l1 N n i k x y (↑t+1) W s L F R:=fun x y=>by
    unfold Gt
    rw[A3 (by omega)]
   unfold Iw
   simp only[hj]
   unfold agA slA at ih
   generalize (L.getD i []).getD t 0=x at *
   generalize (F.getD k []).getD t 0=y at *
   generalize agP W (L.getD i []) (F.getD k []) t=p at *
   generalize slP (L.getD i []) (F.getD k []) t=q at *
   by_cases c1:0≤x
   rotate_left
   ·rw[if_neg (by omega),if_neg (by omega),Int.add_zero,Int.add_zero]at ih
    rw[A1 c1,A1 c1,ih]
   by_cases c2:0≤y
   rotate_left
   ·rw[if_neg (by omega),if_neg (by omega),Int.add_zero,Int.add_zero]at ih
    rw[A2 c1,A1 c2,A2 c1,A1 c2,ih]
   by_cases c3:x=y
   ·rw[if_pos ⟨c3,by omega⟩,if_neg (by omega),Int.add_zero]at ih
    rw[A2 c1,A2 c2,A2 c3,idx_eq (by omega) (gets c 0),A3 (by omega),A2 c1,A2 c2,A6 c3,ih]
   ·rw[if_neg (by omega),if_pos ⟨by omega,by omega,c3⟩,Int.add_zero]at ih
    rw[A2 c1,A2 c2,A1 c3,A2 c1,A2 c2,A8 c3,A3 (by omega),ih]
  ·obtain rfl:t=W.length:=by omega
   rw[A1 (by omega)]
   unfold agF slF
   rw[if_pos ⟨hi,hk⟩,if_pos ⟨hi,hk⟩]
theorem K6(hN:110≤N)(h:Fine W s L F R){i k:Nat}(hi:i<L.length)(hk:k<F.length):Ec N W s L F R i k=some (agF W L F i k,slF W L F i k,canF W s L F i k):=by
 have e:=Y4 (N:=N) h hi hk N 0 (by have:=h.w5;omega) (by omega)
 unfold Ec
 rw[show agP W (L.getD i []) (F.getD k []) 0=0 from rfl,show slP (L.getD i []) (F.getD k []) 0=0 from rfl,show((0:Nat):Int)=0 from rfl]at e
 rw[e]
 simp only[Option.bind_some]
 unfold canF canT
 by_cases c:0<agF W L F i k
 ·rw[A2 c,decide_eq_true c,Bool.true_and]
 ·rw[A1 c,decide_eq_false c,Bool.false_and]
def inm(m:Nat)(x:Int):Bool:=decide (-1≤x∧x≤(m:Int)-1)
def hasB(l:List Int)(x:Int):Bool:=l.any fun y=>decide (x=y)
theorem Lw{l:List Int}{x:Int}:hasB l x=true↔x∈l:=by simp[hasB]
def dupI(l:List Int)(i:Nat):Bool:=decide (l.getD i 0=-1) || !hasB (l.take i) (l.getD i 0)
def cnI(can:Nat→Nat→Bool)(l:List Int)(i:Nat):Bool:=decide (l.getD i 0=-1) || can i (l.getD i 0).toNat
def errJ(e:Int)(n m:Nat)(can:Nat→Nat→Bool)(l:List Int):Int:=
 if ¬e=0 then e else if ¬(l.length:Int)=(n:Int)then 2 else if l.all (inm m)=false then 1 else if alI (dupI l) l.length=false then 5 else if alI (cnI can l) l.length=false then 8 else 0
theorem J2(h:F.length≤1000000)(x:Int):Cp N (dkT W s L F R A B) x=some (decide (0≤x∧x≤(F.length:Int)-1)):=by
 unfold Cp
 rw[in_v]
 exact A3 (by simp only[dkT];omega)
theorem A4u(h:L.length≤1000000)(x:Int):Js N (dkT W s L F R A B) x=some (decide (0≤x∧x≤(L.length:Int)-1)):=by
 unfold Js
 rw[in_v]
 exact A3 (by simp only[dkT];omega)
theorem Aj0(h:F.length≤1000000)(x:Int):Ms N x (dkT W s L F R A B)=some (inm F.length x):=by
 unfold Ms inm
 rw[J2 h]
 by_cases c:x=-1
 ·rw[A2 c,decide_eq_true (by omega)]
 ·rw[A1 c]
  simp only[Option.bind_some]
  congr 1
  exact decide_eq_decide.2 (by omega)
theorem ixfj_gen(h:F.length≤1000000):∀(n:Nat) (l:List Int) (u u2:Int),ixfj_l1 N n l u u2 (dkT W s L F R A B)=(ixL (fun x=>some (!inm F.length x)) n l u u2).map fun r=>match r with | .inl i=>.inl (i,dkT W s L F R A B) | .inr _=>.inr (dkT W s L F R A B)
 | 0,_,_,_=>rfl
 | n+1,l,u,u2=>by
  unfold ixfj_l1 ixL T8
  simp only[Aj0 h,Option.bind_some,ixfj_gen h n]
  unfold br
  split
  ·unfold idx
   split
   ·cases l[u2.toNat]? with
    | none=>rfl
    | some a=>
     dsimp only
     cases inm F.length a
     ·rfl
     ·simp only[Bool.not_true,Bool.false_eq_true,if_false]
      unfold chk
      split<;>rfl
   ·rfl
  ·rfl
theorem Ak8(h:F.length≤1000000){l:List Int}(hl:l.length≤1000000)(hN:l.length<N):Rl N l (dkT W s L F R A B)=some (l.all (inm F.length)):=by
 unfold Rl Adz ixfj_S
 rw[←E5 (f:=fun x=>some (inm F.length x)) (p:=inm F.length) (s:=l) (N:=N) (fun x _=>rfl) hl hN]
 unfold ixS
 rw[ixfj_gen h]
 simp only[Option.bind_some]
 cases ixL (fun x=>some (!inm F.length x)) N l l.length 0 with
 | none=>rfl
 | some r=>cases r<;>rfl
theorem Yk(v:Int):∀(n:Nat) (l:List Int) (u u2:Int),indexi_l1 N n l v u u2=ixL (fun x=>some (decide (v=x))) n l u u2
 | 0,_,_,_=>rfl
 | n+1,l,u,u2=>by unfold indexi_l1 ixL;simp only[Yk v n,Option.bind_some]
theorem Ky{l:List Int}(hl:l.length≤1000000)(hN:l.length<N)(v:Int):D3 N l v=some (hasB l v):=by
 unfold D3 Wz hasB
 rw[←Af9 (f:=fun x=>some (decide (v=x))) (s:=l) (N:=N) (fun x _=>rfl) hl hN]
 unfold ixS
 rw[Yk]<;>rfl
theorem Uy{d:Dk}{l:List Int}(hl:l.length≤1000000)(hN:l.length<N):∀(n k:Nat),l.length<n+k→k≤l.length→joined_l1 N n l l l.length k d=allI (dupI l) l.length k (l,d)
 | 0,k,h,_=>by omega
 | n+1,k,h,hk=>by
  unfold joined_l1
  by_cases c:k<l.length
  ·have ih:=Uy (d:=d) hl hN n (k+1) (by omega) (by omega)
   rw[A9]at ih
   have y:=Co (p:=dupI l) (b:=(l,d)) c
   have no:=Hg (p:=dupI l) (b:=(l,d)) c
   have ec:dupI l k=(decide (l.getD k 0=-1) || !hasB (l.take k) (l.getD k 0)):=rfl
   rw[A2 (by omega),idx_eq (by omega) (gets c 0)]
   by_cases c1:l.getD k 0=-1
   ·rw[A6 c1,A3 (by omega),ih,y (by rw[ec,decide_eq_true c1];rfl)]
   ·rw[A8 c1,Av (by rw[decide_eq_true_eq];omega),Ky (by simp;omega) (by simp;omega)]
    simp only[Option.bind_some,Int.toNat_natCast]
    rw[decide_eq_false c1,Bool.false_or]at ec
    cases hb:hasB (l.take k) (l.getD k 0)
    ·rw[Ad,A3 (by omega),ih,y (by rw[ec,hb];rfl)]
    ·rw[Ah]
     exact(no (by rw[ec,hb];rfl)).symm
  ·rw[A1 (by omega),Fc (by omega)]
theorem Ut{l:List Int}(hl:l.length≤6)(hF:F.length≤6)(hm:l.all (inm F.length)=true):∀(n k:Nat),l.length<n+k→k≤l.length→G0 N n l l.length k (dkT W s L F R A B)=allI (cnI (canT A B s) l) l.length k (dkT W s L F R A B)
 | 0,k,h,_=>by omega
 | n+1,k,h,hk=>by
  unfold G0
  by_cases c:k<l.length
  ·have ih:=Ut hl hF hm n (k+1) (by omega) (by omega)
   rw[A9]at ih
   have y:=Co (p:=cnI (canT A B s) l) (b:=dkT W s L F R A B) c
   have no:=Hg (p:=cnI (canT A B s) l) (b:=dkT W s L F R A B) c
   have hx:=List.all_eq_true.1 hm _ (Ab (d:=0) c)
   unfold inm at hx
   rw[decide_eq_true_eq]at hx
   have ec:cnI (canT A B s) l k=(decide (l.getD k 0=-1) || canT A B s k (l.getD k 0).toNat):=rfl
   rw[A2 (by omega),idx_eq (by omega) (gets c 0)]
   by_cases c1:l.getD k 0=-1
   ·rw[A6 c1,A3 (by omega),ih,y (by rw[ec,decide_eq_true c1];rfl)]
   ·obtain⟨q,hq⟩:∃q:Nat,l.getD k 0=q:=⟨(l.getD k 0).toNat,by omega⟩
    rw[decide_eq_false c1,Bool.false_or]at ec
    rw[A8 c1]
    rw[hq]at hx ec ⊢
    rw[A8i (by omega) (by omega)]
    simp only[Option.bind_some,Int.toNat_natCast]at ec ⊢
    cases hb:canT A B s k q
    ·rw[Bool.not_false,Ah]
     exact(no (by rw[ec,hb])).symm
    ·rw[Bool.not_true,Ad,A3 (by omega),ih,y (by rw[ec,hb])]
  ·rw[A1 (by omega),Fc (by omega)]
theorem Yn(hN:110≤N)(h:Sm W L F R){l:List Int}(hl:l.length≤100):joined_S N W s L F R l=some (if errJ (errD W s L F R) L.length F.length (canF W s L F) l=0 then .inl (dkO W s L F R,0)else .inr (errJ (errD W s L F R) L.length F.length (canF W s L F) l)):=by
 unfold joined_S errJ
 rw[Bo hN h]
 by_cases c:errD W s L F R=0
 rotate_left
 ·rw[if_neg c]
  simp only[Option.bind_some]
  rw[A8 c,if_pos c,if_neg c]
 have hF:=Ac.1 c
 rw[if_pos c]
 simp only[Option.bind_some]
 rw[A6 (by first | trivial | rfl),if_neg (not_not_intro c)]
 by_cases c1:(l.length:Int)=(L.length:Int)
 rotate_left
 ·rw[A8 c1,if_pos c1];rfl
 have hl6:=hF.l6;have hf6:=hF.f6
 rw[A6 c1,if_neg (not_not_intro c1)]
 unfold dkO
 rw[Ak8 (by omega) (by omega) (by omega)]
 simp only[Option.bind_some]
 by_cases c2:l.all (inm F.length)=true
 rotate_left
 ·rw[Bool.eq_false_iff.2 c2];rfl
 have e1:=Uy (N:=N) (d:=dkT W s L F R (agF W L F) (slF W L F)) (l:=l) (by omega) (by omega) N 0 (by omega) (by omega)
 have e2:=Ut (N:=N) (W:=W) (s:=s) (L:=L) (F:=F) (R:=R) (A:=agF W L F) (B:=slF W L F) (l:=l) (by omega) hf6 c2 N 0 (by omega) (by omega)
 rw[show((0:Nat):Int)=0 from rfl,Sr]at e1 e2
 rw[c2,Bool.not_true,Ad,e1]
 simp only[Bool.true_eq_false,if_false]
 by_cases c3:alI (dupI l) l.length=true
 rotate_left
 ·rw[if_neg c3,Bool.eq_false_iff.2 c3];rfl
 rw[if_pos c3,c3]
 simp only[Option.bind_some]
 rw[e2]
 by_cases c4:alI (cnI (canF W s L F) l) l.length=true
 rotate_left
 ·rw[if_neg c4,Bool.eq_false_iff.2 c4];rfl
 rw[if_pos c4,c4]
 simp only[Bool.true_eq_false,if_false]
 rfl
theorem W3(hF:F.length≤1000000){l:List Int}(hl:l.length≤1000000):∀(n k:Nat),l.length<n+k→k≤l.length→rjoins_l1 N n l k W s L F R=alls (inm F.length) l k (l,W,s,L,F,R)
 | 0,k,h,_=>by omega
 | n+1,k,h,hk=>by
  unfold rjoins_l1
  by_cases c:k<l.length
  ·have ih:=W3 hF hl n (k+1) (by omega) (by omega)
   rw[A9]at ih
   rw[A2 (by omega),idx_eq (by omega) (gets c 0),A3 (by omega),Ho]
   simp only[Option.bind_some]
   by_cases c1:-1≤l.getD k 0∧l.getD k 0≤(F.length:Int)-1
   ·rw[A6 c1,A3 (by omega),ih,Ga 0 c (by unfold inm;rw[decide_eq_true c1])]
   ·rw[A8 c1,Jf 0 c (by unfold inm;rw[decide_eq_false c1])]
  ·rw[A1 (by omega),H2 (by omega)]
def neI(l:List Int)(i k:Nat):Bool:=!decide (0≤l.getD i 0) || !decide (l.getD i 0=l.getD k 0)
theorem Uc{l:List Int}(hl:l.length≤1000000){i:Nat}(hi:i<l.length):∀(n k:Nat),i<n+k→k≤i→rjoins_l3 N n l i k W s L F R=allI (neI l i) i k (l,(i:Int),W,s,L,F,R)
 | 0,k,h,_=>by omega
 | n+1,k,h,hk=>by
  unfold rjoins_l3
  by_cases c:k<i
  ·have ih:=Uc hl hi n (k+1) (by omega) (by omega)
   rw[A9]at ih
   rw[A2 (by omega),idx_eq (by omega) (gets hi 0)]
   by_cases c1:0≤l.getD i 0
   ·rw[A2 c1,idx_eq (by omega) (gets hi 0),idx_eq (by omega) (gets (by omega) 0)]
    by_cases c2:l.getD i 0=l.getD k 0
    ·rw[A2 c2,Hg c (by unfold neI;rw[decide_eq_true c1,decide_eq_true c2];rfl)]
    ·rw[A1 c2,A3 (by omega),ih,Co c (by unfold neI;rw[decide_eq_false c2];simp)]
   ·rw[A1 c1,A3 (by omega),ih,Co c (by unfold neI;rw[decide_eq_false c1];rfl)]
  ·rw[A1 (by omega),Fc (by omega)]
theorem Apb{l:List Int}{m i:Nat}(hm:l.all (inm m)=true)(hi:i<l.length):alI (neI l i) i=dupI l i:=by
 have hx:=List.all_eq_true.1 hm _ (Ab (d:=0) hi)
 unfold inm at hx
 rw[decide_eq_true_eq]at hx
 rw[Bool.eq_iff_iff,Mi]
 unfold neI dupI
 by_cases c:l.getD i 0=-1
 ·rw[decide_eq_true c]
  exact⟨fun _=>rfl,fun _ k _=>by rw[decide_eq_false (by omega)];rfl⟩
 ·rw[decide_eq_false c,Bool.false_or,Bool.not_eq_true',←Bool.not_eq_true,Lw]
  constructor
  ·intro h hmem
   obtain⟨k,hk,e⟩:=List.getElem_of_mem hmem
   have hk2:k<i:=by simp at hk;omega
   have:=h k hk2
   rw[decide_eq_true (by omega:0≤l.getD i 0)]at this
   simp only[Bool.not_true,Bool.false_or,Bool.not_eq_true',decide_eq_false_iff_not]at this
   apply this
   rw[←e]
   simp[List.getD,show k<l.length by omega]
  ·intro h k hk
   have:l.getD i 0≠l.getD k 0:=fun e=>h (by
    rw[e]
    exact List.mem_iff_getElem.2 ⟨k,by simp;omega,by simp[List.getD,show k<l.length by omega]⟩)
   rw[decide_eq_false this];simp
theorem V6{l:List Int}(hl:l.length≤1000000)(hN:l.length<N){m:Nat}(hm:l.all (inm m)=true):∀(n k:Nat),l.length<n+k→k≤l.length→rjoins_l2 N n l k W s L F R=allI (dupI l) l.length k (l,W,s,L,F,R)
 | 0,k,h,_=>by omega
 | n+1,k,h,hk=>by
  unfold rjoins_l2
  by_cases c:k<l.length
  ·have ih:=V6 hl hN hm n (k+1) (by omega) (by omega)
   rw[A9]at ih
   have e:=Uc (N:=N) (W:=W) (s:=s) (L:=L) (F:=F) (R:=R) hl c N 0 (by omega) (by omega)
   rw[show((0:Nat):Int)=0 from rfl,Sr,Apb hm c]at e
   rw[A2 (by omega),e]
   cases hb:dupI l k
   ·rw[Hg c hb];rfl
   ·rw[Co c hb,if_pos rfl,←ih]
    simp only[Option.bind_some]
    rw[A3 (by omega)]
  ·rw[A1 (by omega),Fc (by omega)]
theorem W4(hN:110≤N)(h:Fine W s L F R){l:List Int}(hl:l.length=L.length)(hm:l.all (inm F.length)=true):∀(n k:Nat),l.length<n+k→k≤l.length→D5 N n l k W s L F R=allI (cnI (canF W s L F) l) l.length k ()
 | 0,k,hn,_=>by omega
 | n+1,k,hn,hk=>by
  unfold D5
  have hl6:=h.l6;have hf6:=h.f6
  by_cases c:k<l.length
  ·have ih:=W4 hN h hl hm n (k+1) (by omega) (by omega)
   rw[A9]at ih
   have hj:J1 N (D5 N n) l k W s L F R=allI (cnI (canF W s L F) l) l.length (k+1) ():=by
    unfold J1
    rw[A3 (by omega),ih]
   have y:=Co (p:=cnI (canF W s L F) l) (b:=()) c
   have no:=Hg (p:=cnI (canF W s L F) l) (b:=()) c
   have hx:=List.all_eq_true.1 hm _ (Ab (d:=0) c)
   unfold inm at hx
   rw[decide_eq_true_eq]at hx
   rw[A2 (by omega),idx_eq (by omega) (gets c 0),hj]
   have ec:cnI (canF W s L F) l k=(decide (l.getD k 0=-1) || canF W s L F k (l.getD k 0).toNat):=rfl
   by_cases c1:l.getD k 0=-1
   ·rw[A2 (by omega),y (by rw[ec,decide_eq_true c1];rfl)]
   ·obtain⟨q,hq⟩:∃q:Nat,l.getD k 0=q:=⟨(l.getD k 0).toNat,by omega⟩
    rw[decide_eq_false c1,Bool.false_or]at ec
    rw[A1 (by omega),idx_eq (by omega) (gets c 0)]
    rw[hq]at hx ec ⊢
    rw[K6 hN h (by omega) (by omega)]
    simp only[Option.bind_some,Int.toNat_natCast]at ec ⊢
    rw[ec]at y no
    cases hb:canF W s L F k q
    ·rw[no hb];rfl
    ·rw[y hb];rfl
  ·rw[A1 (by omega),Fc (by omega)]
theorem Ii(hN:110≤N)(h:Sm W L F R){l:List Int}(hl:l.length≤100):rjoins_S N W s L F R l=some (errJ (errD W s L F R) L.length F.length (canF W s L F) l):=by
 unfold rjoins_S errJ
 rw[Ca hN h]
 simp only[Option.bind_some]
 by_cases c:errD W s L F R=0
 rotate_left
 ·rw[A8 c,if_pos c]
 have hF:=Ac.1 c
 rw[A6 c,if_neg (not_not_intro c)]
 by_cases c1:(l.length:Int)=(L.length:Int)
 rotate_left
 ·rw[A8 c1,if_pos c1]
 have hl6:=hF.l6;have hf6:=hF.f6
 have e0:=W3 (N:=N) (W:=W) (s:=s) (L:=L) (R:=R) (F:=F) (by omega) (l:=l) (by omega) N 0 (by omega) (by omega)
 rw[show((0:Nat):Int)=0 from rfl]at e0
 unfold alls at e0
 rw[List.drop_zero]at e0
 rw[A6 c1,if_neg (not_not_intro c1),e0]
 by_cases c2:l.all (inm F.length)=true
 rotate_left
 ·rw[if_neg c2,Bool.eq_false_iff.2 c2];rfl
 have e1:=V6 (N:=N) (W:=W) (s:=s) (L:=L) (F:=F) (R:=R) (l:=l) (by omega) (by omega) c2 N 0 (by omega) (by omega)
 have e2:=W4 hN hF (by omega) c2 N 0 (by omega) (by omega)
 rw[show((0:Nat):Int)=0 from rfl,Sr]at e1 e2
 rw[if_pos c2,c2,if_neg (by simp)]
 simp only[Option.bind_some]
 rw[e1]
 by_cases c3:alI (dupI l) l.length=true
 rotate_left
 ·rw[if_neg c3,Bool.eq_false_iff.2 c3];rfl
 rw[if_pos c3,c3]
 simp only[Option.bind_some]
 rw[e2]
 by_cases c4:alI (cnI (canF W s L F) l) l.length=true
 rotate_left
 ·rw[if_neg c4,Bool.eq_false_iff.2 c4];rfl
 rw[if_pos c4,c4];rfl
end
end Go.Proofs.YthncjilcflilcaaGreat

namespace Go.Proofs.YthncjilcflilcaaGreat
set_option linter.all false
open Go

section
variable {N:Nat}
theorem A7y{l:List Int}{m:Int}(hl:l.length≤1000)(hm:0≤m∧m≤1000)(hr:∀x∈l,-m≤x∧x≤m):∀(n k:Nat) (s:Int),l.length<n+k→k≤l.length→(-(m*k)≤s∧s≤m*k)→sum_l1 N n s l l.length k=some (s+(l.drop k).sum)
 | 0,k,s,h,_,_=>by omega
 | n+1,k,s,h,hk,hs=>by
  unfold sum_l1
  have hmk:m*(k:Int)≤1000*1000:=Int.mul_le_mul hm.2 (by omega) (by omega) (by omega)
  by_cases c:k<l.length
  ·have hx:=hr _ (Ab (d:=0) c)
   have g:=gets c 0
   rw[drop_cons c 0]
   generalize l.getD k 0=x at *
   have e:m*((k+1:Nat):Int)=m*k+m:=by rw[Int.natCast_add,Int.mul_add];simp
   have ih:=A7y hl hm hr n (k+1) (s+x) (by omega) (by omega) (by omega)
   rw[A9]at ih
   rw[A2 (by omega),idx_eq (by omega) g,A3 (by omega),A3 (by omega),ih,List.sum_cons]
   congr 1;omega
  ·rw[A1 (by omega),List.drop_of_length_le (by omega)];simp
theorem Agj{l:List Int}{m:Int}(hl:l.length≤1000)(hN:l.length<N)(hm:0≤m∧m≤1000)(hr:∀x∈l,-m≤x∧x≤m):Z5 N l=some l.sum:=by
 unfold Z5
 have:=A7y (N:=N) hl hm hr N 0 0 (by omega) (by omega) (by simp)
 simp only[Int.natCast_zero,List.drop_zero,Int.zero_add]at this
 rw[this];rfl
end
def wlJ(t:Nat→Nat→Int):Nat→List Int→List Int
 | _,[]=>[]
 | i,x::l=>(if x=-1 then []else [t i x.toNat])++wlJ t (i+1) l
theorem A4s(t:Nat→Nat→Int):∀(l:List Int) (i:Nat),(wlJ t i l).sum=valJ t i l
 | [],_=>rfl
 | x::l,i=>by
  rw[wlJ,valJ,List.sum_append,A4s t l (i+1)]
  unfold pv
  split<;>simp
theorem A43(t:Nat→Nat→Int):∀(l:List Int) (i:Nat),(wlJ t i l).length≤l.length
 | [],_=>Nat.le_refl _
 | x::l,i=>by
  have:=A43 t l (i+1)
  rw[wlJ,List.length_append,List.length_cons]
  split<;>simp<;>omega
theorem S1{t:Nat→Nat→Int}{m:Int}(h:∀i k,0≤t i k∧t i k≤m):∀(l:List Int) (i:Nat),∀x∈wlJ t i l,0≤x∧x≤m
 | [],_,x,hx=>by cases hx
 | y::l,i,x,hx=>by
  rw[wlJ,List.mem_append]at hx
  rcases hx with hx | hx
  ·split at hx
   ·cases hx
   ·simp only[List.mem_singleton]at hx
    subst hx;exact h _ _
  ·exact S1 h l (i+1) x hx
theorem Jh{t:Nat→Nat→Int}{m:Int}(h:∀i k,0≤t i k∧t i k≤m)(hm:0≤m):∀(l:List Int) (i:Nat),0≤valJ t i l∧valJ t i l≤m*l.length
 | [],_=>by simp[valJ]
 | x::l,i=>by
  have h1:=Jh h hm l (i+1)
  have h2:=h i x.toNat
  rw[valJ,List.length_cons,Int.natCast_add,Int.mul_add]
  unfold pv
  split<;>simp<;>omega
section
variable {W:List Int} {s:Int} {L F:List (List Int)} {R:List Int} {A B:Nat→Nat→Int} {N:Nat}
theorem Up{l:List Int}(hl:l.length≤6)(hF:F.length≤6)(hm:l.all (inm F.length)=true):∀(n k:Nat) (acc:List Int),l.length<n+k→k≤l.length→acc.length≤k→dworth_l1 N n (dkT W s L F R A B) l l.length k acc=some (acc++wlJ A k (l.drop k))
 | 0,k,_,h,_,_=>by omega
 | n+1,k,acc,h,hk,ha=>by
  unfold dworth_l1
  by_cases c:k<l.length
  ·have hx:=List.all_eq_true.1 hm _ (Ab (d:=0) c)
   unfold inm at hx
   rw[decide_eq_true_eq]at hx
   have hj:∀acc,acc.length≤k+1→Ig N (dworth_l1 N n) (dkT W s L F R A B) l l.length k acc=some (acc++wlJ A (k+1) (l.drop (k+1))):=fun acc ha=>by
    have ih:=Up hl hF hm n (k+1) acc (by omega) (by omega) ha
    rw[A9]at ih
    unfold Ig
    rw[A3 (by omega),ih]
   rw[A2 (by omega),idx_eq (by omega) (gets c 0),drop_cons c 0,wlJ]
   by_cases c1:l.getD k 0=-1
   ·rw[A6 c1,hj _ (by omega),if_pos c1,List.nil_append]
   ·obtain⟨q,hq⟩:∃q:Nat,l.getD k 0=q:=⟨(l.getD k 0).toNat,by omega⟩
    rw[A8 c1,if_neg c1]
    rw[hq]at hx ⊢
    rw[Ag (by omega),Ag (by omega)]
    simp only[Int.toNat_natCast]
    rw[Pt (by omega) (by omega),Ay (by simp;omega),hj _ (by simp;omega),List.append_assoc]
  ·rw[A1 (by omega),List.drop_of_length_le (by omega)]
   simp[wlJ]
theorem Lu(hN:110≤N)(hA:∀i k,0≤A i k∧A i k≤50){l:List Int}(hl:l.length≤6)(hF:F.length≤6)(hm:l.all (inm F.length)=true):Dg N (dkT W s L F R A B) l=some (valJ A 0 l):=by
 have e:=Up (N:=N) (W:=W) (s:=s) (L:=L) (F:=F) (R:=R) (A:=A) (B:=B) hl hF hm N 0 [] (by omega) (by omega) (by simp)
 have h1:=A43 A l 0
 rw[show((0:Nat):Int)=0 from rfl,List.drop_zero,List.nil_append]at e
 unfold Dg
 rw[e]
 simp only[Option.bind_some]
 rw[Agj (m:=1000) (by omega) (by omega) (by omega) (fun x hx=>by have:=S1 hA l 0 x hx;omega),A4s];rfl
theorem Pe{l:List Int}(hl:l.length≤6)(hR:l.length≤R.length):∀(n k:Nat) (acc:List Int),l.length<n+k→k≤l.length→acc.length≤k→Cd N n (dkT W s L F R A B) l l.length k acc=some (acc++wlJ (fun i _=>R.getD i 0) k (l.drop k))
 | 0,k,_,h,_,_=>by omega
 | n+1,k,acc,h,hk,ha=>by
  unfold Cd
  by_cases c:k<l.length
  ·have hj:∀acc,acc.length≤k+1→Gd N (Cd N n) (dkT W s L F R A B) l l.length k acc=some (acc++wlJ (fun i _=>R.getD i 0) (k+1) (l.drop (k+1))):=fun acc ha=>by
    have ih:=Pe hl hR n (k+1) acc (by omega) (by omega) ha
    rw[A9]at ih
    unfold Gd
    rw[A3 (by omega),ih]
   rw[A2 (by omega),idx_eq (by omega) (gets c 0),drop_cons c 0,wlJ]
   by_cases c1:l.getD k 0=-1
   ·rw[A6 c1,hj _ (by omega),if_pos c1,List.nil_append]
   ·rw[A8 c1,if_neg c1,idx_eq (by omega) (show(dkT W s L F R A B).2.2.2.2.1[((k:Nat):Int).toNat]?=some (R.getD k 0)from gets (l:=R) (by omega) 0),Ay (by simp;omega),hj _ (by simp;omega),List.append_assoc]
  ·rw[A1 (by omega),List.drop_of_length_le (by omega)]
   simp[wlJ]
theorem Tp(hr:∀x∈R,0≤x∧x≤99)(t:Nat):0≤R.getD t 0∧R.getD t 0≤99:=by
 by_cases h:t<R.length
 ·exact hr _ (Ab (d:=0) h)
 ·have:R.getD t 0=0:=by simp[List.getD,List.getElem?_eq_none (show R.length≤t by omega)]
  omega
theorem A2k(hN:110≤N)(hr:∀x∈R,0≤x∧x≤99){l:List Int}(hl:l.length≤6)(hR:l.length≤R.length):J8 N (dkT W s L F R A B) l=some (valJ (fun i _=>R.getD i 0) 0 l):=by
 have e:=Pe (N:=N) (W:=W) (s:=s) (L:=L) (F:=F) (R:=R) (A:=A) (B:=B) hl hR N 0 [] (by omega) (by omega) (by simp)
 have h1:=A43 (fun i _=>R.getD i 0) l 0
 rw[show((0:Nat):Int)=0 from rfl,List.drop_zero,List.nil_append]at e
 unfold J8
 rw[e]
 simp only[Option.bind_some]
 rw[Agj (m:=1000) (by omega) (by omega) (by omega) (fun x hx=>by have:=S1 (t:=fun i _=>R.getD i 0) (fun i _=>Tp hr i) l 0 x hx;omega),A4s];rfl
theorem Ub(hN:110≤N)(h:Fine W s L F R){l:List Int}(hl:l.length≤L.length)(hm:l.all (inm F.length)=true):∀(n k:Nat) (x:Int),l.length<n+k→k≤l.length→0≤x∧x≤50*k→Da N n l x k W s L F R=some (x+valJ (agF W L F) k (l.drop k))
 | 0,k,_,h,_,_=>by omega
 | n+1,k,x,hn,hk,hx0=>by
  unfold Da
  have hl6:=h.l6
  by_cases c:k<l.length
  ·have hx:=List.all_eq_true.1 hm _ (Ab (d:=0) c)
   unfold inm at hx
   rw[decide_eq_true_eq]at hx
   have hj:∀x,0≤x∧x≤50*((k:Int)+1)→Ir N (Da N n) l x k W s L F R=some (x+valJ (agF W L F) (k+1) (l.drop (k+1))):=fun x hx0=>by
    have ih:=Ub hN h hl hm n (k+1) x (by omega) (by omega) (by omega)
    rw[A9]at ih
    unfold Ir
    rw[A3 (by omega),ih]
   rw[A2 (by omega),idx_eq (by omega) (gets c 0),drop_cons c 0,valJ]
   by_cases c1:l.getD k 0=-1
   ·rw[A1 (by omega),hj _ (by omega),c1,Bc,Int.zero_add]
   ·obtain⟨q,hq⟩:∃q:Nat,l.getD k 0=q:=⟨(l.getD k 0).toNat,by omega⟩
    rw[A2 (by omega),idx_eq (by omega) (gets c 0)]
    rw[hq]at hx ⊢
    have hb:=Al h k q
    rw[K6 hN h (by omega) (by omega),Bm]
    simp only[Option.bind_some]
    rw[A3 (by omega),hj _ (by omega)]
    congr 1;omega
  ·rw[A1 (by omega),List.drop_of_length_le (by omega)]
   simp[valJ]
theorem Ac0(hN:110≤N)(h:Fine W s L F R){l:List Int}(hl:l.length≤L.length)(hm:l.all (inm F.length)=true):B2 N W s L F R l=some (valJ (agF W L F) 0 l):=by
 have e:=Ub hN h hl hm N 0 0 (by have:=h.l6;omega) (by omega) (by omega)
 rw[show((0:Nat):Int)=0 from rfl,List.drop_zero,Int.zero_add]at e
 unfold B2
 rw[e];rfl
theorem Pr(h:Fine W s L F R){l:List Int}(hl:l.length≤L.length)(hm:l.all (inm F.length)=true):∀(n k:Nat) (x:Int),l.length<n+k→k≤l.length→0≤x∧x≤99*k→Ce N n l x k W s L F R=some (x+valJ (fun i _=>R.getD i 0) k (l.drop k))
 | 0,k,_,h,_,_=>by omega
 | n+1,k,x,hn,hk,hx0=>by
  unfold Ce
  have hl6:=h.l6;have hrl:=h.rl
  by_cases c:k<l.length
  ·have hx:=List.all_eq_true.1 hm _ (Ab (d:=0) c)
   unfold inm at hx
   rw[decide_eq_true_eq]at hx
   have hj:∀x,0≤x∧x≤99*((k:Int)+1)→Gf N (Ce N n) l x k W s L F R=some (x+valJ (fun i _=>R.getD i 0) (k+1) (l.drop (k+1))):=fun x hx0=>by
    have ih:=Pr h hl hm n (k+1) x (by omega) (by omega) (by omega)
    rw[A9]at ih
    unfold Gf
    rw[A3 (by omega),ih]
   rw[A2 (by omega),idx_eq (by omega) (gets c 0),drop_cons c 0,valJ]
   by_cases c1:l.getD k 0=-1
   ·rw[A1 (by omega),hj _ (by omega),c1,Bc,Int.zero_add]
   ·have hb:=Tp h.r k
    have e:pv (fun i _=>R.getD i 0) k (l.getD k 0)=R.getD k 0:=if_neg c1
    rw[A2 (by omega),idx_eq (by omega) (gets (by omega) 0),A3 (by omega),hj _ (by omega),e]
    congr 1;omega
  ·rw[A1 (by omega),List.drop_of_length_le (by omega)]
   simp[valJ]
theorem Tb(hN:110≤N)(h:Fine W s L F R){l:List Int}(hl:l.length≤L.length)(hm:l.all (inm F.length)=true):Dx N W s L F R l=some (valJ (fun i _=>R.getD i 0) 0 l):=by
 have e:=Pr (N:=N) h hl hm N 0 0 (by have:=h.l6;omega) (by omega) (by omega)
 rw[show((0:Nat):Int)=0 from rfl,List.drop_zero,Int.zero_add]at e
 unfold Dx
 rw[e];rfl
theorem Bu{e:Int}{n m:Nat}{can:Nat→Nat→Bool}{l:List Int}(h:errJ e n m can l=0):e=0∧l.length=n∧l.all (inm m)=true∧alI (dupI l) l.length=true∧alI (cnI can l) l.length=true:=by
 unfold errJ at h
 split at h
 ·rename_i c;exact absurd h c
 rename_i c
 split at h
 ·cases h
 rename_i c1
 split at h
 ·cases h
 rename_i c2
 split at h
 ·cases h
 rename_i c3
 split at h
 ·cases h
 rename_i c4
 exact⟨by omega,by omega,by simpa using c2,by simpa using c3,by simpa using c4⟩
theorem Ani(hN:110≤N)(h:Sm W L F R){l:List Int}(hl:l.length≤100):Mh N W s L F R l=some (if errJ (errD W s L F R) L.length F.length (canF W s L F) l=0 then(valJ (agF W L F) 0 l,0)else(0,errJ (errD W s L F R) L.length F.length (canF W s L F) l)):=by
 unfold Mh
 rw[Yn hN h hl]
 by_cases c:errJ (errD W s L F R) L.length F.length (canF W s L F) l=0
 ·obtain⟨c1,c2,c3,_⟩:=Bu c
  have hF:=Ac.1 c1
  have hl6:=hF.l6
  rw[if_pos c,if_pos c]
  simp only[Option.bind_some]
  unfold dkO
  rw[A6 (by first | trivial | rfl),Lu hN (Al hF) (by omega) hF.f6 c3];rfl
 ·rw[if_neg c,if_neg c]
  simp only[Option.bind_some]
  rw[A8 c]
theorem Ahb(hN:110≤N)(h:Sm W L F R){l:List Int}(hl:l.length≤100):Jl N W s L F R l=some (if errJ (errD W s L F R) L.length F.length (canF W s L F) l=0 then(valJ (fun i _=>R.getD i 0) 0 l,0)else(0,errJ (errD W s L F R) L.length F.length (canF W s L F) l)):=by
 unfold Jl
 rw[Yn hN h hl]
 by_cases c:errJ (errD W s L F R) L.length F.length (canF W s L F) l=0
 ·obtain⟨c1,c2,c3,_⟩:=Bu c
  have hF:=Ac.1 c1
  have hl6:=hF.l6;have hrl:=hF.rl
  rw[if_pos c,if_pos c]
  simp only[Option.bind_some]
  unfold dkO
  rw[A6 (by first | trivial | rfl),A2k hN hF.r (by omega) (by omega)];rfl
 ·rw[if_neg c,if_neg c]
  simp only[Option.bind_some]
  rw[A8 c]
def mayE(can:Nat→Nat→Bool)(m i:Nat):List (Int×Unit):=(mayL can m i).map fun(j:Nat)=>((j:Int),())
theorem Tt(hF:F.length≤6){i:Nat}(hi:i<6):mayR (dkT W s L F R A B) (dkT W s L F R A B) i=some (mayE (canT A B s) F.length i):=by
 unfold mayR mayE mayL mayF
 rw[if_pos ⟨⟨by omega,by omega⟩,hF,Ck _,Ck _⟩]
 congr 2
 simp only[Int.toNat_natCast,Nat.sub_zero]
 rw[←List.range_eq_range']
 refine List.filter_congr fun k hk=>?_
 have hk:k<F.length:=by simpa [dkT]using hk
 unfold canD canT
 rw[Anp hi (by omega),Anm hi (by omega)];rfl
end
end Go.Proofs.YthncjilcflilcaaGreat

namespace Go.Proofs.YthncjilcflilcaaGreat
set_option linter.all false
open Go

section
variable {W:List Int} {s:Int} {L F:List (List Int)} {R:List Int} {A B:Nat→Nat→Int} {N:Nat}
def okS(can:Nat→Nat→Bool)(A:Nat→Nat→Int)(m:Nat)(p q:List Int)(i:Nat):Bool:=(mayL can m i).all fun k=>decide (A i k≤p.getD i 0+q.getD k 0)
def shR(e:Int)(n m:Nat)(can:Nat→Nat→Bool)(A:Nat→Nat→Int)(p q:List Int):Int×Int:=
 if ¬e=0 then(0,e)else if ¬(p.length:Int)=(n:Int)then(0,2)else if ¬(q.length:Int)=(m:Int)then(0,2)else if p.all okp=false then(0,3)else if q.all okp=false then(0,3)else
 if alI (okS can A m p q) p.length=false then(0,8)else(p.sum+q.sum,0)
theorem He{l:List Int}(h:l.all okp=true):∀x∈l,0≤x∧x≤999:=by simpa [okp]using h
theorem Xq{dk:Dk}(hdk:dk=dkT W s L F R A B){p q:List Int}{i:Nat}(hi:i<6)(hF:F.length≤6)(hq:q.length=F.length)(hqo:∀x∈q,0≤x∧x≤999){u:List Int}{u2 u3 u6 x:Int}(hx:0≤x∧x≤999) :
  ∀ks:List Nat,(∀k∈ks,k<F.length)→shows_l2 N (ks.map fun(j:Nat)=>((j:Int),())) p u u2 u3 dk dk u6 q 0 0 dk i x=some (if ks.all (fun k=>decide (A i k≤x+q.getD k 0))then .inl (p,u,u2,u3,q,0,0,dk)else .inr (0,8))
 | [],_=>rfl
 | k::ks,hk=>by
  have hk0:=hk k (by simp)
  have ih:=Xq (p:=p) (u:=u) (u2:=u2) (u3:=u3) (u6:=u6) hdk hi hF hq hqo hx ks (fun y hy=>hk y (by simp[hy]))
  have hb:=hqo _ (Ab (d:=0) (show k<q.length by omega))
  rw[List.map_cons,shows_l2,Gk]
  rw[idx_eq (by omega) (gets (by omega) 0),A3 (by omega),Ag (by omega),Ag (by omega)]
  simp only[Int.toNat_natCast]
  rw[ih,hdk,Pt (by omega) (by omega),List.all_cons]
  by_cases c:x+q.getD k 0<A i k
  ·rw[A2 c,decide_eq_false (by omega),Bool.false_and];rfl
  ·rw[A1 c,decide_eq_true (by omega),Bool.true_and]
theorem shows_l1_p{p q:List Int}(hp:p.length≤6)(hF:F.length≤6)(hq:q.length=F.length)(hpo:∀x∈p,0≤x∧x≤999)(hqo:∀x∈q,0≤x∧x≤999) :
  ∀n k:Nat,p.length<n+k→k≤p.length→shows_l1 N n p p p.length k q 0 0 (dkT W s L F R A B)=(allI (okS (canT A B s) A F.length p q) p.length k (p,q,(0:Int),(0:Int))).map fun r=>match r with | .inl _=>.inl (0,8) | .inr r=>.inr r
 | 0,k,h,_=>by omega
 | n+1,k,h,hk=>by
  unfold shows_l1
  by_cases c:k<p.length
  ·have ih:=shows_l1_p hp hF hq hpo hqo n (k+1) (by omega) (by omega)
   rw[A9]at ih
   rw[A2 (by omega),idx_eq (by omega) (gets c 0)]
   have e:=Xq (N:=N) (A:=A) (B:=B) (W:=W) (s:=s) (L:=L) (R:=R) (dk:=dkT W s L F R A B) rfl (p:=p) (q:=q) (i:=k) (by omega) hF hq hqo (u:=p) (u2:=p.length) (u3:=k) (u6:=k) (x:=p.getD k 0) (hpo _ (Ab c)) (mayL (canT A B s) F.length k) (fun j hj=>(B1.1 hj).1)
   have em:I9 N (dkT W s L F R A B) (k:Int)=some (dkT W s L F R A B,dkT W s L F R A B,(k:Int)):=rfl
   rw[em]
   simp only[Option.bind_some]
   rw[Tt hF (by omega)]
   simp only[Option.bind_some]
   unfold mayE
   rw[e]
   cases hb:okS (canT A B s) A F.length p q k
   ·rw[Hg c hb,if_neg (by unfold okS at hb;rw[hb];simp)];rfl
   ·rw[Co c hb,if_pos (by unfold okS at hb;exact hb),←ih]
    simp only[Option.bind_some]
    rw[A3 (by omega)]
  ·rw[A1 (by omega),Fc (by omega)];rfl
theorem Apk(hN:110≤N)(h:Sm W L F R){p q:List Int}(hp:p.length≤100)(hq:q.length≤100):shows_S N W s L F R p q=some (shR (errD W s L F R) L.length F.length (canF W s L F) (agF W L F) p q):=by
 unfold shows_S shR
 rw[Bo hN h]
 by_cases c:errD W s L F R=0
 rotate_left
 ·rw[if_neg c]
  simp only[Option.bind_some]
  rw[A8 c,if_pos c]
 have hF:=Ac.1 c
 have hl6:=hF.l6;have hf6:=hF.f6
 rw[if_pos c,if_neg (not_not_intro c)]
 simp only[Option.bind_some]
 rw[A6 (by first | trivial | rfl)]
 by_cases c1:(p.length:Int)=(L.length:Int)
 rotate_left
 ·rw[A8 c1,if_pos c1]
 rw[A6 c1,if_neg (not_not_intro c1)]
 by_cases c2:(q.length:Int)=(F.length:Int)
 rotate_left
 ·rw[A8 c2,if_pos c2]
 rw[A6 c2,if_neg (not_not_intro c2),Aa0 (by omega) (by omega),Aa0 (by omega) (by omega)]
 simp only[Option.bind_some]
 by_cases c3:p.all okp=true
 rotate_left
 ·rw[Bool.eq_false_iff.2 c3];rfl
 by_cases c4:q.all okp=true
 rotate_left
 ·rw[c3,Bool.eq_false_iff.2 c4];rfl
 have e:=shows_l1_p (N:=N) (W:=W) (s:=s) (L:=L) (F:=F) (R:=R) (A:=agF W L F) (B:=slF W L F) (p:=p) (q:=q) (by omega) hf6 (by omega) (He c3) (He c4) N 0 (by omega) (by omega)
 rw[show((0:Nat):Int)=0 from rfl,Sr]at e
 rw[c3,c4,Bool.not_true,Ad,Ad]
 unfold dkO
 rw[e]
 simp only[Bool.true_eq_false,if_false]
 by_cases c5:alI (okS (canF W s L F) (agF W L F) F.length p q) p.length=true
 rotate_left
 ·rw[if_neg c5,if_pos (Bool.eq_false_iff.2 c5)];rfl
 rw[if_pos c5,if_neg (by rw[c5];simp)]
 simp only[Option.map_some,Option.bind_some]
 have b1:=sumB (He c3)
 have b2:=sumB (He c4)
 rw[Agj (m:=1000) (by omega) (by omega) (by omega) (fun x hx=>by have:=He c3 x hx;omega),Agj (m:=1000) (by omega) (by omega) (by omega) (fun x hx=>by have:=He c4 x hx;omega)]
 simp only[Option.bind_some]
 rw[A3 (by omega)]
where
 sumB {l:List Int} (h:∀x∈l,0≤x∧x≤999):0≤l.sum∧l.sum≤999*l.length:=by
  induction l with
  | nil=>simp
  | cons a l ih=>
   have h1:=h a (by simp)
   have h2:=ih (fun w hw=>h w (by simp[hw]))
   simp only[List.sum_cons,List.length_cons]
   omega
theorem Um{p q l:List Int}(hl:l.length≤1000):∀(n k:Nat) (x:Int),l.length<n+k→k≤l.length→0≤x∧x≤999*k→rshows_l1 N n p q x k W s L F R l=some (if(l.drop k).all okp then .inr (p,q,x+(l.drop k).sum,W,s,L,F,R)else .inl ())
 | 0,k,x,h,_,_=>by omega
 | n+1,k,x,h,hk,hx=>by
  unfold rshows_l1
  by_cases c:k<l.length
  ·rw[A2 (by omega),Ag (by omega)]
   simp only[Int.toNat_natCast]
   rw[C1 0 c,Ho,drop_cons c 0,List.all_cons,List.sum_cons]
   simp only[Option.bind_some]
   have eo:okp (l.getD k 0)=decide (0≤l.getD k 0∧l.getD k 0≤999):=rfl
   by_cases c1:0≤l.getD k 0∧l.getD k 0≤999
   ·have ih:=Um (p:=p) (q:=q) hl n (k+1) (x+l.getD k 0) (by omega) (by omega) (by omega)
    rw[A9]at ih
    rw[A6 c1,Ag (by omega)]
    rw[C1 0 c,A3 (by omega),A3 (by omega),ih,eo,decide_eq_true c1,Bool.true_and,Int.add_assoc]
   ·rw[A8 c1,eo,decide_eq_false c1,Bool.false_and];rfl
  ·rw[A1 (by omega),List.drop_of_length_le (by omega)]
   simp
def okQ(can:Nat→Nat→Bool)(A:Nat→Nat→Int)(p q:List Int)(i k:Nat):Bool:=!can i k || decide (A i k≤p.getD i 0+q.getD k 0)
theorem As1(can:Nat→Nat→Bool)(A:Nat→Nat→Int)(m:Nat)(p q:List Int)(i:Nat):alI (okQ can A p q i) m=okS can A m p q i:=by
 rw[Bool.eq_iff_iff,Mi]
 unfold okS okQ
 rw[List.all_eq_true]
 simp only[B1,Bool.or_eq_true,Bool.not_eq_true',decide_eq_true_eq]
 constructor
 ·rintro h k ⟨hk,hc⟩
  rcases h k hk with h | h
  ·rw[hc]at h;cases h
  ·exact h
 ·intro h k hk
  cases hc:can i k
  ·exact .inl rfl
  ·exact .inr (h k ⟨hk,hc⟩)
theorem U2(hN:110≤N)(h:Fine W s L F R){p q:List Int}(hp:p.length=L.length)(hq:q.length=F.length)(hpo:∀x∈p,0≤x∧x≤999)(hqo:∀x∈q,0≤x∧x≤999){x:Int}{i:Nat}(hi:i<L.length) :
  ∀n k:Nat,q.length<n+k→k≤q.length→rshows_l3 N n p q x i k W s L F R=allI (okQ (canF W s L F) (agF W L F) p q i) q.length k (p,q,x,(i:Int),W,s,L,F,R)
 | 0,k,hn,_=>by omega
 | n+1,k,hn,hk=>by
  unfold rshows_l3
  have hl6:=h.l6;have hf6:=h.f6
  by_cases c:k<q.length
  ·have ih:=U2 hN h hp hq hpo hqo (x:=x) hi n (k+1) (by omega) (by omega)
   rw[A9]at ih
   have ec:okQ (canF W s L F) (agF W L F) p q i k=(!canF W s L F i k || decide (agF W L F i k≤p.getD i 0+q.getD k 0)):=rfl
   have b1:=hpo _ (Ab (d:=0) (show i<p.length by omega))
   have b2:=hqo _ (Ab (d:=0) c)
   rw[A2 (by omega),K6 hN h hi (by omega)]
   simp only[Option.bind_some]
   cases hb:canF W s L F i k
   ·rw[Ad,A3 (by omega),ih,Co c (by rw[ec,hb];rfl)]
   ·rw[Ah,idx_eq (by omega) (gets (by omega) 0),idx_eq (by omega) (gets c 0),A3 (by omega)]
    by_cases d:p.getD i 0+q.getD k 0<agF W L F i k
    ·rw[A2 d,Hg c (by rw[ec,hb,decide_eq_false (by omega)];rfl)]
    ·rw[A1 d,A3 (by omega),ih,Co c (by rw[ec,decide_eq_true (by omega)];simp)]
  ·rw[A1 (by omega),Fc (by omega)]
theorem Vx(hN:110≤N)(h:Fine W s L F R){p q:List Int}(hp:p.length=L.length)(hq:q.length=F.length)(hpo:∀x∈p,0≤x∧x≤999)(hqo:∀x∈q,0≤x∧x≤999){x:Int} :
  ∀n k:Nat,p.length<n+k→k≤p.length→rshows_l2 N n p q x k W s L F R=allI (okS (canF W s L F) (agF W L F) F.length p q) p.length k x
 | 0,k,hn,_=>by omega
 | n+1,k,hn,hk=>by
  unfold rshows_l2
  have hl6:=h.l6;have hf6:=h.f6
  by_cases c:k<p.length
  ·have ih:=Vx hN h hp hq hpo hqo (x:=x) n (k+1) (by omega) (by omega)
   rw[A9]at ih
   have e:=U2 hN h hp hq hpo hqo (x:=x) (i:=k) (by omega) N 0 (by omega) (by omega)
   rw[show((0:Nat):Int)=0 from rfl,Sr,hq,As1]at e
   rw[A2 (by omega),e]
   cases hb:okS (canF W s L F) (agF W L F) F.length p q k
   ·rw[Hg c hb];rfl
   ·rw[Co c hb,if_pos rfl,←ih]
    simp only[Option.bind_some]
    rw[A3 (by omega)]
  ·rw[A1 (by omega),Fc (by omega)]
theorem A7s(hN:220≤N)(h:Sm W L F R){p q:List Int}(hp:p.length≤100)(hq:q.length≤100):rshows_S N W s L F R p q=some (shR (errD W s L F R) L.length F.length (canF W s L F) (agF W L F) p q):=by
 unfold rshows_S shR
 rw[Ca (by omega) h]
 simp only[Option.bind_some]
 by_cases c:errD W s L F R=0
 rotate_left
 ·rw[A8 c,if_pos c]
 have hF:=Ac.1 c
 have hl6:=hF.l6;have hf6:=hF.f6
 rw[A6 c,if_neg (not_not_intro c)]
 by_cases c1:(p.length:Int)=(L.length:Int)
 rotate_left
 ·rw[A8 c1,if_pos c1]
 rw[A6 c1,if_neg (not_not_intro c1)]
 by_cases c2:(q.length:Int)=(F.length:Int)
 rotate_left
 ·rw[A8 c2,if_pos c2]
 rw[A6 c2,if_neg (not_not_intro c2),Ay (by simp;omega),Ay (by simp;omega),List.nil_append]
 have e:=Um (N:=N) (W:=W) (s:=s) (L:=L) (F:=F) (R:=R) (p:=p) (q:=q) (l:=p++q) (by simp;omega) N 0 0 (by simp;omega) (by omega) (by omega)
 rw[show((0:Nat):Int)=0 from rfl,List.drop_zero,List.all_append,Int.zero_add,List.sum_append]at e
 rw[e]
 by_cases c3:p.all okp=true
 rotate_left
 ·rw[if_neg (by rw[Bool.eq_false_iff.2 c3];simp),if_pos (Bool.eq_false_iff.2 c3)];rfl
 by_cases c4:q.all okp=true
 rotate_left
 ·rw[if_neg (by rw[Bool.eq_false_iff.2 c4];simp),if_neg (by rw[c3];simp),if_pos (Bool.eq_false_iff.2 c4)];rfl
 rw[if_pos (by rw[c3,c4];rfl),if_neg (by rw[c3];simp),if_neg (by rw[c4];simp)]
 simp only[Option.bind_some]
 have e2:=Vx (N:=N) (by omega) hF (p:=p) (q:=q) (by omega) (by omega) (He c3) (He c4) (x:=p.sum+q.sum) N 0 (by omega) (by omega)
 rw[show((0:Nat):Int)=0 from rfl,Sr]at e2
 rw[e2]
 by_cases c5:alI (okS (canF W s L F) (agF W L F) F.length p q) p.length=true
 rotate_left
 ·rw[if_neg c5,if_pos (Bool.eq_false_iff.2 c5)];rfl
 rw[if_pos c5,if_neg (by rw[c5];simp)];rfl
theorem Y3{l:List (List Int)}(hl:l.length≤1000000)(hr:∀x∈l,x.length≤1000000):∀n k:Nat,l.length<n+k→k≤l.length→copyr_l1 N n l l.length k (l.take k++List.replicate (l.length-k) [])=some l
 | 0,k,h,_=>by omega
 | n+1,k,h,hk=>by
  unfold copyr_l1
  by_cases c:k<l.length
  ·have ih:=Y3 hl hr n (k+1) (by omega) (by omega)
   rw[A9,Gj c []]at ih
   rw[A2 (by omega),idx_eq (by omega) (gets c []),Jt (hr _ (Ab c))]
   simp only[Option.bind_some,Int.toNat_natCast]
   have hlen:(l.take k++List.replicate (l.length-k) ([]:List Int)).length=l.length:=by simp;omega
   rw[Ag (by rw[hlen];omega),C1 [] (by rw[hlen];exact c),A3 (by omega),←ih]
   congr 1
   rw[List.set_append_right _ _ (by simp;omega),show k-(l.take k).length=0 by simp;omega,show l.length-k=(l.length-(k+1))+1 by omega,List.replicate_succ]
   simp
  ·rw[A1 (by omega),List.take_of_length_le (by omega),show l.length-k=0 by omega];simp
theorem Afb{l:List (List Int)}(hl:l.length≤1000000)(hN:l.length<N)(hr:∀x∈l,x.length≤1000000):Rx N l=some l:=by
 unfold Rx
 have e:=Y3 (N:=N) hl hr N 0 (by omega) (by omega)
 simp only[List.take_zero,List.nil_append,Nat.sub_zero,Int.natCast_zero]at e
 rw[Av (K1.2 (by omega)),Int.toNat_natCast,e];rfl
theorem Nc(hN:110≤N)(h:Sm W L F R):Bx N W s L F R=some (W,s,L,F,R):=by
 obtain⟨hw,hl,hf,hr,hlr,hfr⟩:=h
 unfold Bx
 rw[Jt (by omega),Afb (by omega) (by omega) (fun x hx=>by have:=hlr x hx;omega),Afb (by omega) (by omega) (fun x hx=>by have:=hfr x hx;omega),Jt (by omega)];rfl
theorem Ajv{l:List Int}(h:l.length≤1000)(hN:l.length<N):Ix N l l=some true:=by
 have:=Fs h hN
 unfold Bl at this
 cases e:Ix N l l with
 | none=>rw[e]at this;cases this
 | some b=>rw[e]at this;exact this
theorem Afl{l:List (List Int)}(hl:l.length≤1000)(hN:l.length<N)(hr:∀x∈l,x.length≤1000∧x.length<N):Qt N l l=some true:=by
 have e:∀(n k:Nat),l.length<n+k→k≤l.length→equalf_l1 N n l l l.length k=some (.inr ()):=by
  intro n
  induction n with
  | zero=>intro k h _;omega
  | succ n ih=>
   intro k h2 hk
   unfold equalf_l1
   by_cases c:k<l.length
   ·have:=ih (k+1) (by omega) (by omega)
    rw[A9]at this
    have hx:=hr _ (Ab (d:=[]) c)
    rw[A2 (by omega),idx_eq (by omega) (gets c []),idx_eq (by omega) (gets c []),Ajv hx.1 hx.2]
    simp only[Option.bind_some]
    rw[Bool.not_true,Ad,A3 (by omega),this]
   ·rw[A1 (by omega)]
 have e0:=e N 0 (by omega) (by omega)
 simp only[Int.natCast_zero]at e0
 unfold Qt equalf_S
 rw[A6 rfl,e0];rfl
theorem K0(hN:110≤N)(h:Sm W L F R):Dq N W s L F R W s L F R=some true:=by
 obtain⟨hw,hl,hf,hr,hlr,hfr⟩:=h
 unfold Dq
 rw[Fs (by omega) (by omega),Fs (by omega) (by omega),Afl (by omega) (by omega) (fun x hx=>⟨by have:=hlr x hx;omega,by have:=hlr x hx;omega⟩),Afl (by omega) (by omega) (fun x hx=>⟨by have:=hfr x hx;omega,by have:=hfr x hx;omega⟩)]
 simp[br]
theorem Ol{u u2:Int}{g:List (List (List Int))}{l:List (List Int)}(hl:l.length≤1000000):∀n k:Nat,l.length<n+k→k≤l.length→great_l2 N n u u2 l l.length k g=alls (fun r=>decide ((r.length:Int)≤12)) l k (u,u2,g)
 | 0,k,h,_=>by omega
 | n+1,k,h,hk=>by
  unfold great_l2
  by_cases c:k<l.length
  ·have ih:=Ol (u:=u) (u2:=u2) (g:=g) hl n (k+1) (by omega) (by omega)
   rw[A9]at ih
   rw[A2 (by omega),idx_eq (by omega) (gets c [])]
   by_cases d:12<((l.getD k []).length:Int)
   ·rw[A2 d,Jf [] c (by rw[decide_eq_false (by omega)])]
   ·rw[A1 d,A3 (by omega),ih,Ga [] c (by rw[decide_eq_true (by omega)])]
  ·rw[A1 (by omega),H2 (by omega)]
theorem N0(hN:110≤N):E6 N W s L F R=some true∨E6 N W s L F R=some false∧Sm W L F R:=by
 unfold E6
 by_cases c1:10<(W.length:Int)
 ·rw[A2 c1];exact .inl rfl
 rw[A1 c1]
 by_cases c2:10<(L.length:Int)
 ·rw[A2 c2];exact .inl rfl
 rw[A1 c2]
 by_cases c3:10<(F.length:Int)
 ·rw[A2 c3];exact .inl rfl
 rw[A1 c3]
 by_cases c4:12<(R.length:Int)
 ·rw[A2 c4];exact .inl rfl
 rw[A1 c4]
 obtain⟨n,rfl⟩:∃n,N=n+3:=⟨N-3,by omega⟩
 have e1:=Ol (N:=n+3) (u:=2) (u2:=0) (g:=[L,F]) (l:=L) (by omega) (n+3) 0 (by omega) (by omega)
 have e2:=Ol (N:=n+3) (u:=2) (u2:=1) (g:=[L,F]) (l:=F) (by omega) (n+3) 0 (by omega) (by omega)
 unfold alls at e1 e2
 simp only[List.drop_zero,Int.natCast_zero]at e1 e2
 have hl:(([L,F]:List (List (List Int))).length:Int)=2:=rfl
 rw[hl]
 rw[great_l1,A2 (by omega),Ag (by simp)]
 rw[show get [L,F] (0:Int).toNat=fun f=>f L from rfl]
 dsimp only
 rw[e1]
 by_cases d1:L.all (fun r=>decide ((r.length:Int)≤12))=true
 rotate_left
 ·rw[if_neg d1];exact .inl rfl
 rw[if_pos d1]
 simp only[Option.bind_some]
 rw[A3 (by omega),great_l1,A2 (by omega),Ag (by simp)]
 rw[show get [L,F] ((0:Int)+1).toNat=fun f=>f F from rfl]
 dsimp only
 rw[show((0:Int)+1)=1 from rfl,e2]
 by_cases d2:F.all (fun r=>decide ((r.length:Int)≤12))=true
 rotate_left
 ·rw[if_neg d2];exact .inl rfl
 rw[if_pos d2]
 simp only[Option.bind_some]
 rw[A3 (by omega),great_l1,A1 (by omega)]
 simp only[List.all_eq_true,decide_eq_true_eq]at d1 d2
 exact .inr ⟨rfl,by omega,by omega,by omega,by omega,fun x hx=>by have:=d1 x hx;omega,fun x hx=>by have:=d2 x hx;omega⟩
end
end Go.Proofs.YthncjilcflilcaaGreat

namespace Go.Proofs.YthncjilcflilcaaGreat
set_option linter.all false
open Go

abbrev MK:=List ((Int×Int)×(Int×(Int×Int)))
def lkM(g:MK)(i u:Int):Option (Int×(Int×Int)):=(g.find? fun(y:(Int×Int)×(Int×(Int×Int)))=>Ty.beq (.pair (.int .i64) (.int .i64)) y.1 (i,u)).map (·.2)
theorem J5(a b:Int)(v:Int×(Int×Int))(g:MK)(i u:Int):lkM (((a,b),v)::g) i u=if a=i∧b=u then some v else lkM g i u:=by
 have e:Ty.beq (.pair (.int .i64) (.int .i64)) (a,b) (i,u)=decide (a=i∧b=u):=by
  show(decide (a=i)&&decide (b=u))=_
  by_cases h1:a=i<;>by_cases h2:b=u<;>simp[h1,h2]
 unfold lkM
 rw[List.find?_cons]
 by_cases h:a=i∧b=u
 ·rw[if_pos h,show(Ty.beq (.pair (.int .i64) (.int .i64)) (((a,b),v):(Int×Int)×(Int×(Int×Int))).1 (i,u))=true by rw[e,decide_eq_true h]];rfl
 ·rw[if_neg h,show(Ty.beq (.pair (.int .i64) (.int .i64)) (((a,b),v):(Int×Int)×(Int×(Int×Int))).1 (i,u))=false by rw[e,decide_eq_false h]]
theorem A6q(g:MK)(i u:Int):(g.find? fun(y:(Int×Int)×(Int×(Int×Int)))=>Ty.beq (.pair (.int .i64) (.int .i64)) y.1 (i,u)).isSome=(lkM g i u).isSome:=by
 unfold lkM;rw[Option.isSome_map]
def hasM(g:MK)(i u:Nat):Prop:=(lkM g i u).isSome=true
def subM(g g':MK):Prop:=∀i u:Nat,hasM g i u→hasM g' i u
theorem subM.refl(g:MK):subM g g:=fun _ _ h=>h
theorem subM.trans{a b c:MK}(h:subM a b)(k:subM b c):subM a c:=fun i u x=>k i u (h i u x)
structure MOK (can:Nat→Nat→Bool) (t:Nat→Nat→Int) (m n:Nat) (g:MK):Prop where
 val:∀(i u:Nat) v,lkM g i u=some v→v=rsR can t m (n-i) i u
 clo:∀i u:Nat,hasM g i u→i+1<n→hasM g (i+1) u∧∀k∈mayL can m i,u.testBit k=false→hasM g (i+1) (u ||| 2 ^ k)
theorem MOK.nil{can:Nat→Nat→Bool}{t:Nat→Nat→Int}{m n:Nat}:MOK can t m n []:=⟨fun i u v h=>by simp[lkM]at h,fun i u h=>by simp[hasM,lkM]at h⟩
theorem MOK.cons{can:Nat→Nat→Bool}{t:Nat→Nat→Int}{m n:Nat}{g:MK}(h:MOK can t m n g){i u:Nat}(h1:i+1<n→hasM g (i+1) u∧∀k∈mayL can m i,u.testBit k=false→hasM g (i+1) (u ||| 2 ^ k)) :
  MOK can t m n ((((i:Int),(u:Int)),rsR can t m (n-i) i u)::g)∧subM g ((((i:Int),(u:Int)),rsR can t m (n-i) i u)::g)∧hasM ((((i:Int),(u:Int)),rsR can t m (n-i) i u)::g) i u:=by
 have hsub:subM g ((((i:Int),(u:Int)),rsR can t m (n-i) i u)::g):=fun i' u' hh=>by
  unfold hasM at *
  rw[J5]
  split
  ·rfl
  ·exact hh
 refine⟨⟨fun i' u' v hv=>?_,fun i' u' hh hi=>?_⟩,hsub,?_⟩
 ·rw[J5]at hv
  split at hv
  ·rename_i e
   obtain rfl:i=i':=by omega
   obtain rfl:u=u':=by omega
   simp only[Option.some.injEq]at hv
   exact hv.symm
  ·exact h.val i' u' v hv
 ·unfold hasM at hh
  rw[J5]at hh
  split at hh
  ·rename_i e
   obtain rfl:i=i':=by omega
   obtain rfl:u=u':=by omega
   exact⟨hsub _ _ (h1 hi).1,fun k hk hb=>hsub _ _ ((h1 hi).2 k hk hb)⟩
  ·obtain⟨x,y⟩:=h.clo i' u' hh hi
   exact⟨hsub _ _ x,fun k hk hb=>hsub _ _ (y k hk hb)⟩
 ·unfold hasM
  rw[J5,if_pos ⟨rfl,rfl⟩];rfl
theorem MOK.get{can:Nat→Nat→Bool}{t:Nat→Nat→Int}{m n:Nat}{g:MK}(h:MOK can t m n g){i u:Nat}(hh:hasM g i u):lkM g i u=some (rsR can t m (n-i) i u):=by
 unfold hasM at hh
 cases e:lkM g i u with
 | none=>rw[e]at hh;cases hh
 | some v=>rw[h.val i u v e]
theorem Vf{α β:Type}{f:α→List β}{B:Nat}:∀ {l:List α},(∀x∈l,(f x).length≤B)→(l.flatMap f).length≤l.length*B
 | [],_=>by simp
 | x::l,h=>by
  have h1:=h x (by simp)
  have h2:=Vf (l:=l) (fun y hy=>h y (by simp[hy]))
  rw[List.flatMap_cons,List.length_append,List.length_cons,Nat.add_mul];omega
theorem Xp(can:Nat→Nat→Bool)(m i:Nat):(mayL can m i).length≤m:=by
 have:=List.length_filter_le (can i) (List.range m)
 simpa [mayL]using this
theorem Od{can:Nat→Nat→Bool}{m:Nat}(hm:m≤6):∀d i u:Nat,(joinsL can m d i u).length≤7 ^ d
 | 0,_,_=>by simp[joinsL]
 | d+1,i,u=>by
  have h1:=Od (can:=can) hm d (i+1) u
  have h2:((mayL can m i).flatMap fun k=>if u.testBit k then []else(joinsL can m d (i+1) (u ||| 2 ^ k)).map ((k:Int)::·)).length≤(mayL can m i).length*7 ^ d:=Vf fun k _=>by
   split
   ·simp
   ·rw[List.length_map];exact Od hm d (i+1) _
  have h3:=Xp can m i
  have h4:(mayL can m i).length*7 ^ d≤6*7 ^ d:=Nat.mul_le_mul_right _ (by omega)
  rw[joinsL,List.length_append,List.length_map,Nat.pow_succ]
  omega
theorem Iu{can:Nat→Nat→Bool}{t:Nat→Nat→Int}{m:Nat}(hm:m≤6){T:Int}(ht:∀i k,0≤t i k∧t i k≤T)(hT:0≤T)(d i u:Nat) :
  (0≤(rsR can t m d i u).2.1∧(rsR can t m d i u).2.1≤T*d)∧0≤(rsR can t m d i u).2.2∧(rsR can t m d i u).2.2≤((7 ^ d:Nat):Int):=by
 obtain⟨q1,q2,q3⟩:=Hq (can:=can) (t:=t) (m:=m) d i u
 have hb:=T2 (can:=can) (t:=t) (m:=m) d i u
 have h1:=Jh ht hT (blR can t m d i u) i
 rw[q2,q3]at h1
 have h2:=List.countP_le_length (p:=fun l=>decide (valJ t i l=(rsR can t m d i u).2.1)) (l:=joinsL can m d i u)
 have h3:=Od (can:=can) hm d i u
 have h4:=hb.ways
 exact⟨h1,by omega,by omega⟩
theorem A40{u k:Nat}:((((Int.fdiv (u:Int) (2 ^ ((k:Nat):Int).toNat)).toNat &&& 1:Nat):Int)=1)↔u.testBit k=true:=by
 have e:(Int.fdiv (u:Int) (2 ^ ((k:Nat):Int).toNat)).toNat=u / 2 ^ k:=by
  rw[Int.toNat_natCast,Int.fdiv_eq_ediv_of_nonneg _ (by exact Int.le_of_lt (Int.pow_pos (by omega)))]
  rw[show((2:Int) ^ k)=((2 ^ k:Nat):Int)by simp,←Int.natCast_ediv,Int.toNat_natCast]
 rw[e,Nat.and_one_is_mod,Nat.testBit_eq_decide_div_mod_eq,decide_eq_true_eq]
 omega
theorem Ag8{u k:Nat}:0≤Int.fdiv (u:Int) (2 ^ ((k:Nat):Int).toNat):=Int.fdiv_nonneg (by omega) (Int.le_of_lt (Int.pow_pos (by omega)))
theorem E0{k:Nat}(hk:k<6):∃q:Nat,2 ^ k=q∧((1:Int)*2 ^ ((k:Nat):Int).toNat)=(q:Int)∧q<64:=by
 refine⟨_,rfl,by simp,?_⟩
 have:2 ^ k<2 ^ 6:=Nat.pow_lt_pow_right (by omega) hk
 simpa using this
theorem Re{u k:Nat}(hu:u<64)(hk:k<6):u ||| 2 ^ k<64:=Nat.or_lt_two_pow (n:=6) hu (by obtain⟨q,h1,_,h2⟩:=E0 hk;omega)
section
variable {W:List Int} {s:Int} {L F:List (List Int)} {R:List Int} {A B:Nat→Nat→Int} {N:Nat}
def Kd(A:Nat→Nat→Int)(R:List Int)(i k:Nat):Int:=595*A i k+R.getD i 0
theorem Aaw{i k:Nat}(hi:i<6)(hk:k<6):Fa N i k (dkT W s L F R A B)=some (A i k):=by
 unfold Fa
 rw[Ag (by omega),Ag (by omega)]
 simp only[Int.toNat_natCast]
 rw[Pt hi hk]
theorem Al4(hA:∀i k,0≤A i k∧A i k≤50)(hr:∀x∈R,0≤x∧x≤99){i k:Nat}(hi:i<6)(hk:k<6)(hR:i<R.length):Eo N i k (dkT W s L F R A B)=some (Kd A R i k):=by
 have h1:=hA i k
 have h2:=Tp hr i
 unfold Eo Kd
 rw[Ag (by omega),Ag (by omega)]
 simp only[Int.toNat_natCast]
 rw[Pt hi hk,A3 (by omega),idx_eq (by omega) (show(dkT W s L F R A B).2.2.2.2.1[((i:Nat):Int).toNat]?=some (R.getD i 0)from gets (l:=R) hR 0),A3 (by omega)]

theorem O5{t:Nat→Nat→Int}(hF:F.length≤6)(hL:L.length≤6)(ht:∀i k,0≤t i k∧t i k≤30000)(htv:∀i k:Nat,i<L.length→k<F.length→Fa N i k (dkT W s L F R A B)=some (t i k)){self:Int→Int→Dk→Dk→Dk→Dk→MK→Option (Int×Int×Int×Dk×Dk×MK)}{i d u:Nat}(hi:i+1+d=L.length)(hu:u<64)
  (hself:∀(u:Nat) g,u<64→MOK (canT A B s) t F.length L.length g→∃g',self ((i:Int)+1) u (dkT W s L F R A B) (dkT W s L F R A B) (dkT W s L F R A B) (dkT W s L F R A B) g=some ((rsR (canT A B s) t F.length d (i+1) u).1,(rsR (canT A B s) t F.length d (i+1) u).2.1,(rsR (canT A B s) t F.length d (i+1) u).2.2,dkT W s L F R A B,dkT W s L F R A B,g')∧MOK (canT A B s) t F.length L.length g'∧subM g g'∧(i+1<L.length→hasM g' (i+1) u))
  {x4:Int} {P:Nat} (hP:7 ^ d=P):∀(ks:List Nat) (g:MK) (b:Int×Int×Int) (Wb:Nat),(∀k∈ks,k<F.length)→MOK (canT A B s) t F.length L.length g→(0≤b.2.1∧b.2.1≤30000*(d+1))→0≤b.2.2→b.2.2≤Wb→Wb+ks.length*P≤10000000 →
   ∃g',restp_l1 N self (ks.map fun(j:Nat)=>((j:Int),())) (dkT W s L F R A B) (dkT W s L F R A B) (dkT W s L F R A B) x4 (dkT W s L F R A B) (dkT W s L F R A B) g i u 0 0 0 b.1 b.2.1 b.2.2 =
    some (dkT W s L F R A B,dkT W s L F R A B,g',(i:Int),(u:Int),0,0,0,(ks.foldl (rsS t (rsR (canT A B s) t F.length d (i+1)) i u) b).1,(ks.foldl (rsS t (rsR (canT A B s) t F.length d (i+1)) i u) b).2.1,(ks.foldl (rsS t (rsR (canT A B s) t F.length d (i+1)) i u) b).2.2) ∧
    MOK (canT A B s) t F.length L.length g'∧subM g g'∧∀k∈ks,u.testBit k=false→i+1<L.length→hasM g' (i+1) (u ||| 2 ^ k)
 | [],g,b,Wb,_,hg,_,_,_,_=>⟨g,rfl,hg,subM.refl g,fun k hk=>by cases hk⟩
 | k::ks,g,b,Wb,hk,hg,hb1,hb2,hb3,hWb=>by
  have hk0:=hk k (by simp)
  have hks:∀x∈ks,x<F.length:=fun x hx=>hk x (by simp[hx])
  rw[List.length_cons,Nat.add_mul,Nat.one_mul]at hWb
  rw[List.map_cons,List.foldl_cons,restp_l1,Gm]
  dsimp only
  rw[Av (by rw[decide_eq_true_eq];omega),Av (by rw[decide_eq_true_eq];exact⟨Ag8,by omega⟩)]
  by_cases hbit:u.testBit k=true
  ·rw[A2 (A40.2 hbit)]
   obtain⟨g',e1,e2,e3,e4⟩:=O5 hF hL ht htv hi hu hself (x4:=x4) hP ks g b Wb hks hg hb1 hb2 hb3 (by omega)
   have es:rsS t (rsR (canT A B s) t F.length d (i+1)) i u b k=b:=by unfold rsS;rw[if_pos hbit]
   rw[es]
   refine⟨g',e1,e2,e3,fun x hx hxb hi=>?_⟩
   rcases List.mem_cons.1 hx with rfl | hx
   ·rw[hbit]at hxb;cases hxb
   ·exact e4 x hx hxb hi
  ·rw[A1 (fun h=>hbit (A40.1 h))]
   obtain⟨q,hq,p1,p2⟩:=E0 (k:=k) (by omega)
   rw[A3 (by omega),Av (by rw[decide_eq_true_eq];omega),p1,A3 (by omega),Av (by rw[decide_eq_true_eq];omega)]
   simp only[Int.toNat_natCast]
   subst hq
   have hu':=Re hu (show k<6 by omega)
   obtain⟨g1,e1,e2,e3,e4⟩:=hself (u ||| 2 ^ k) g hu' hg
   rw[e1]
   simp only[Option.bind_some]
   rw[htv i k (by omega) hk0]
   simp only[Option.bind_some]
   obtain⟨⟨r1,r2⟩,r3,r4⟩:=Iu (can:=canT A B s) (t:=t) hF ht (by omega) d (i+1) (u ||| 2 ^ k)
   have ht0:=ht i k
   have hd:(d:Int)≤5:=by omega
   rw[hP]at r4
   have hbit':u.testBit k=false:=by simpa using hbit
   have fin:∀b',rsS t (rsR (canT A B s) t F.length d (i+1)) i u b k=b'→(0≤b'.2.1∧b'.2.1≤30000*(d+1))→0≤b'.2.2→b'.2.2≤((Wb+P:Nat):Int)→∃g',restp_l1 N self (ks.map fun(j:Nat)=>((j:Int),())) (dkT W s L F R A B) (dkT W s L F R A B) (dkT W s L F R A B) x4 (dkT W s L F R A B) (dkT W s L F R A B) g1 i u 0 0 0 b'.1 b'.2.1 b'.2.2 =
    some (dkT W s L F R A B,dkT W s L F R A B,g',(i:Int),(u:Int),0,0,0,(ks.foldl (rsS t (rsR (canT A B s) t F.length d (i+1)) i u) (rsS t (rsR (canT A B s) t F.length d (i+1)) i u b k)).1,(ks.foldl (rsS t (rsR (canT A B s) t F.length d (i+1)) i u) (rsS t (rsR (canT A B s) t F.length d (i+1)) i u b k)).2.1,(ks.foldl (rsS t (rsR (canT A B s) t F.length d (i+1)) i u) (rsS t (rsR (canT A B s) t F.length d (i+1)) i u b k)).2.2) ∧
    MOK (canT A B s) t F.length L.length g'∧subM g g'∧∀x∈k::ks,u.testBit x=false→i+1<L.length→hasM g' (i+1) (u ||| 2 ^ x):=fun b' hb' q1 q2 q3=>by
    obtain⟨g',f1,f2,f3,f4⟩:=O5 hF hL ht htv hi hu hself (x4:=x4) hP ks g1 b' (Wb+P) hks e2 q1 q2 q3 (by omega)
    rw[hb']
    refine⟨g',f1,f2,e3.trans f3,fun x hx hxb hi=>?_⟩
    rcases List.mem_cons.1 hx with rfl | hx
    ·exact f3 _ _ (e4 hi)
    ·exact f4 x hx hxb hi
   have es:rsS t (rsR (canT A B s) t F.length d (i+1)) i u b k=if b.2.1<(rsR (canT A B s) t F.length d (i+1) (u ||| 2 ^ k)).2.1+t i k then((k:Int),(rsR (canT A B s) t F.length d (i+1) (u ||| 2 ^ k)).2.1+t i k,(rsR (canT A B s) t F.length d (i+1) (u ||| 2 ^ k)).2.2)
     else if(rsR (canT A B s) t F.length d (i+1) (u ||| 2 ^ k)).2.1+t i k=b.2.1 then(b.1,b.2.1,b.2.2+(rsR (canT A B s) t F.length d (i+1) (u ||| 2 ^ k)).2.2)else b:=by
    unfold rsS;rw[if_neg hbit]
   have hmul:30000*((d:Int)+1)=30000*d+30000:=by omega
   rw[A3 (by omega)]
   by_cases c1:b.2.1<(rsR (canT A B s) t F.length d (i+1) (u ||| 2 ^ k)).2.1+t i k
   ·rw[if_pos c1]at es
    rw[A2 c1]
    exact fin _ es ⟨by dsimp only;omega,by dsimp only;omega⟩ (by dsimp only;omega) (by dsimp only;omega)
   ·rw[if_neg c1]at es
    rw[A1 c1]
    by_cases c2:(rsR (canT A B s) t F.length d (i+1) (u ||| 2 ^ k)).2.1+t i k=b.2.1
    ·rw[if_pos c2]at es
     rw[A2 c2,A3 (by omega)]
     exact fin _ es hb1 (by dsimp only;omega) (by dsimp only;omega)
    ·rw[if_neg c2]at es
     rw[A1 c2]
     exact fin _ es hb1 hb2 (by omega)
theorem A24{t:Nat→Nat→Int}(hF:F.length≤6)(hL:L.length≤6)(ht:∀i k,0≤t i k∧t i k≤30000)(htv:∀i k:Nat,i<L.length→k<F.length→Fa N i k (dkT W s L F R A B)=some (t i k)) :
  ∀(fu d i u:Nat) (g:MK),d<fu→i+d=L.length→u<64→MOK (canT A B s) t F.length L.length g →
   ∃g',Hm N fu i u (dkT W s L F R A B) (dkT W s L F R A B) (dkT W s L F R A B) (dkT W s L F R A B) g=some ((rsR (canT A B s) t F.length d i u).1,(rsR (canT A B s) t F.length d i u).2.1,(rsR (canT A B s) t F.length d i u).2.2,dkT W s L F R A B,dkT W s L F R A B,g')∧MOK (canT A B s) t F.length L.length g'∧subM g g'∧(i<L.length→hasM g' i u)
 | 0,d,i,u,g,h,_,_,_=>by omega
 | fu+1,d,i,u,g,h,hid,hu,hg=>by
  show ∃g',W8 N (Hm N fu) i u (dkT W s L F R A B) (dkT W s L F R A B) (dkT W s L F R A B) (dkT W s L F R A B) g=_∧_
  unfold W8
  have hdl:(dkT W s L F R A B).2.2.1.length=L.length:=rfl
  rw[hdl]
  cases d with
  | zero=>
   rw[A2 (by omega)]
   exact⟨g,rfl,hg,subM.refl g,fun h=>by omega⟩
  | succ d=>
   rw[A1 (by omega),A6q]
   by_cases c:hasM g i u
   ·have e:=hg.get c
    rw[show L.length-i=d+1 by omega]at e
    unfold hasM at c
    rw[c,Ah]
    unfold lkM at e
    rw[e]
    exact⟨g,rfl,hg,subM.refl g,fun _=>c⟩
   ·rw[Bool.eq_false_iff.2 c,Ad,A3 (by omega)]
    have hself:∀(u:Nat) g,u<64→MOK (canT A B s) t F.length L.length g→∃g',Hm N fu ((i:Int)+1) u (dkT W s L F R A B) (dkT W s L F R A B) (dkT W s L F R A B) (dkT W s L F R A B) g=some ((rsR (canT A B s) t F.length d (i+1) u).1,(rsR (canT A B s) t F.length d (i+1) u).2.1,(rsR (canT A B s) t F.length d (i+1) u).2.2,dkT W s L F R A B,dkT W s L F R A B,g')∧MOK (canT A B s) t F.length L.length g'∧subM g g'∧(i+1<L.length→hasM g' (i+1) u):=fun u g hu hg=>by
     have:=A24 hF hL ht htv fu d (i+1) u g (by omega) (by omega) hu hg
     rwa [A9]at this
    obtain⟨g1,e1,e2,e3,e4⟩:=hself u g hu hg
    rw[e1]
    simp only[Option.bind_some]
    have em:I9 N (dkT W s L F R A B) (i:Int)=some (dkT W s L F R A B,dkT W s L F R A B,(i:Int)):=rfl
    rw[em]
    simp only[Option.bind_some]
    rw[Tt hF (by omega)]
    simp only[Option.bind_some]
    obtain⟨⟨r1,r2⟩,r3,r4⟩:=Iu (can:=canT A B s) (t:=t) hF ht (by omega) d (i+1) u
    have h7:(7:Nat) ^ d≤7 ^ 5:=Nat.pow_le_pow_right (by omega) (by omega)
    have h7':(mayL (canT A B s) F.length i).length*7 ^ d≤6*7 ^ 5:=Nat.mul_le_mul (by have:=Xp (canT A B s) F.length i;omega) h7
    obtain⟨g2,f1,f2,f3,f4⟩:=O5 hF hL ht htv (i:=i) (d:=d) (u:=u) (by omega) hu hself (x4:=(i:Int)) rfl (mayL (canT A B s) F.length i) g1 (-1,(rsR (canT A B s) t F.length d (i+1) u).2.1,(rsR (canT A B s) t F.length d (i+1) u).2.2) (7 ^ d)
     (fun k hk=>(B1.1 hk).1) e2 ⟨r1,by dsimp only;omega⟩ r3 r4 (by omega)
    unfold mayE
    rw[f1]
    simp only[Option.bind_some]
    have er:rsR (canT A B s) t F.length (d+1) i u=(mayL (canT A B s) F.length i).foldl (rsS t (rsR (canT A B s) t F.length d (i+1)) i u) (-1,(rsR (canT A B s) t F.length d (i+1) u).2.1,(rsR (canT A B s) t F.length d (i+1) u).2.2):=rfl
    rw[←er]
    obtain⟨k1,k2,k3⟩:=f2.cons (i:=i) (u:=u) (fun hi=>⟨f3 _ _ (e4 hi),fun k hk hb=>f4 k hk hb hi⟩)
    rw[show L.length-i=d+1 by omega]at k1 k2 k3
    exact⟨_,rfl,k1,e3.trans (f3.trans k2),fun _=>k3⟩
theorem A9p{t:Nat→Nat→Int}(hN:110≤N)(hF:F.length≤6)(hL:L.length≤6)(ht:∀i k,0≤t i k∧t i k≤30000)(htv:∀i k:Nat,i<L.length→k<F.length→Fa N i k (dkT W s L F R A B)=some (t i k)){u:Nat}(hu:u<64) :
  ∃g,Ls N (dkT W s L F R A B) (dkT W s L F R A B) u=some g∧(0<L.length→MOK (canT A B s) t F.length L.length g∧hasM g 0 u)∧lkM g 0 u=some (rsR (canT A B s) t F.length L.length 0 u):=by
 obtain⟨g,e1,e2,e3,e4⟩:=A24 hF hL ht htv N L.length 0 u [] (by omega) (by omega) hu MOK.nil
 unfold Ls Ss
 rw[show((0:Nat):Int)=0 from rfl]at e1
 rw[e1]
 simp only[Option.bind_some]
 refine⟨_,rfl,fun h0=>?_,by rw[J5,if_pos ⟨rfl,rfl⟩]⟩
 have hg:hasM g 0 u:=e4 h0
 obtain⟨k1,k2,k3⟩:=e2.cons (i:=0) (u:=u) (fun hi=>e2.clo 0 u hg hi)
 rw[Nat.sub_zero]at k1 k3
 exact⟨k1,k3⟩
theorem V1{t:Nat→Nat→Int}(hF:F.length≤6)(hL:L.length≤6){g:MK}(hg:MOK (canT A B s) t F.length L.length g):∀(n d i u:Nat) (out:List Int),d<n→i+d=L.length→u<64→out.length≤i→(i<L.length→hasM g i u) →
  dbestp_l1 N n u L.length i g out=some (out++blR (canT A B s) t F.length d i u)
 | 0,d,i,u,out,h,_,_,_,_=>by omega
 | n+1,d,i,u,out,h,hid,hu,ho,hh=>by
  unfold dbestp_l1
  cases d with
  | zero=>
   rw[A1 (by omega)]
   simp[blR]
  | succ d=>
   have e:=hg.get (hh (by omega))
   rw[show L.length-i=d+1 by omega]at e
   have e':((g.find? fun(y:(Int×Int)×(Int×(Int×Int)))=>Ty.beq (.pair (.int .i64) (.int .i64)) y.1 ((i:Int),(u:Int))).map (·.2)).getD (Ty.dflt (.pair (.int .i64) (.pair (.int .i64) (.int .i64))))=rsR (canT A B s) t F.length (d+1) i u:=by
    unfold lkM at e
    rw[e];rfl
   rw[A2 (by omega),e',Ay (by simp;omega)]
   have hj:∀(u':Nat) x,u'<64→(i+1<L.length→hasM g (i+1) u')→Iz N (dbestp_l1 N n) u' L.length i g (out++[x])=some (out++[x]++blR (canT A B s) t F.length d (i+1) u'):=fun u' x hu' hh'=>by
    have:=V1 hF hL hg n d (i+1) u' (out++[x]) (by omega) (by omega) hu' (by simp;omega) hh'
    rw[A9]at this
    unfold Iz
    rw[A3 (by omega),this]
   rw[blR]
   rcases Ace (can:=canT A B s) (t:=t) (m:=F.length) (d:=d) (i:=i) (u:=u)with⟨h1,_⟩ | ⟨k,h1,h2,h3,_⟩
   ·rw[h1,A6 (by first | trivial | rfl),if_pos rfl,hj u _ hu (fun hi=>(hg.clo i u (hh (by omega)) hi).1)]
    simp
   ·obtain⟨k1,k2⟩:=B1.1 h2
    obtain⟨q,hq,p1,p2⟩:=E0 (k:=k) (by omega)
    rw[h1,A8 (show ¬((k:Int)=-1)by omega)]
    rw[Av (by rw[decide_eq_true_eq];exact(show(0:Int)≤(k:Int)∧(k:Int)≤62 by omega)),p1,A3 (by omega),Av (by rw[decide_eq_true_eq];omega),if_neg (show ¬((k:Int)=-1)by omega)]
    simp only[Int.toNat_natCast]
    subst hq
    rw[hj _ _ (Re hu (by omega)) (fun hi=>(hg.clo i u (hh (by omega)) hi).2 k h2 h3)]
    simp
theorem Amw{t:Nat→Nat→Int}(hN:110≤N)(hF:F.length≤6)(hL:L.length≤6)(ht:∀i k,0≤t i k∧t i k≤30000)(htv:∀i k:Nat,i<L.length→k<F.length→Fa N i k (dkT W s L F R A B)=some (t i k)) :
  P4 N (dkT W s L F R A B) (dkT W s L F R A B)=some (blR (canT A B s) t F.length L.length 0 0):=by
 obtain⟨g,e1,e2,e3⟩:=A9p hN hF hL ht htv (u:=0) (by omega)
 unfold P4
 rw[show((0:Nat):Int)=0 from rfl]at e1
 rw[e1]
 simp only[Option.bind_some]
 have hdl:(dkT W s L F R A B).2.2.1.length=L.length:=rfl
 rw[hdl]
 by_cases h0:0<L.length
 ·obtain⟨hg,hh⟩:=e2 h0
  have:=V1 (N:=N) hF hL hg N L.length 0 0 [] (by omega) (by omega) (by omega) (by simp) (fun _=>hh)
  rw[show((0:Nat):Int)=0 from rfl,List.nil_append]at this
  rw[this];rfl
 ·have hz:L.length=0:=by omega
  obtain⟨M,rfl⟩:∃M,N=M+1:=⟨N-1,by omega⟩
  rw[dbestp_l1,hz,A1 (by omega)]
  simp[blR]

theorem Oz{t:Nat→Nat→Int}(hF:F.length≤6)(hL:L.length≤6)(ht:∀i k,0≤t i k∧t i k≤30000)(htv:∀i k:Nat,i<L.length→k<F.length→Eo N i k (dkT W s L F R A B)=some (t i k)){self:Int→Int→Dk→Dk→Dk→Dk→MK→Option (Int×Int×Int×Dk×Dk×MK)}{i d u:Nat}(hi:i+1+d=L.length)(hu:u<64)
  (hself:∀(u:Nat) g,u<64→MOK (canT A B s) t F.length L.length g→∃g',self ((i:Int)+1) u (dkT W s L F R A B) (dkT W s L F R A B) (dkT W s L F R A B) (dkT W s L F R A B) g=some ((rsR (canT A B s) t F.length d (i+1) u).1,(rsR (canT A B s) t F.length d (i+1) u).2.1,(rsR (canT A B s) t F.length d (i+1) u).2.2,dkT W s L F R A B,dkT W s L F R A B,g')∧MOK (canT A B s) t F.length L.length g'∧subM g g'∧(i+1<L.length→hasM g' (i+1) u))
  {x4:Int} {P:Nat} (hP:7 ^ d=P):∀(ks:List Nat) (g:MK) (b:Int×Int×Int) (Wb:Nat),(∀k∈ks,k<F.length)→MOK (canT A B s) t F.length L.length g→(0≤b.2.1∧b.2.1≤30000*(d+1))→0≤b.2.2→b.2.2≤Wb→Wb+ks.length*P≤10000000 →
   ∃g',C2 N self (ks.map fun(j:Nat)=>((j:Int),())) (dkT W s L F R A B) (dkT W s L F R A B) (dkT W s L F R A B) x4 (dkT W s L F R A B) (dkT W s L F R A B) g i u 0 0 0 b.1 b.2.1 b.2.2 =
    some (dkT W s L F R A B,dkT W s L F R A B,g',(i:Int),(u:Int),0,0,0,(ks.foldl (rsS t (rsR (canT A B s) t F.length d (i+1)) i u) b).1,(ks.foldl (rsS t (rsR (canT A B s) t F.length d (i+1)) i u) b).2.1,(ks.foldl (rsS t (rsR (canT A B s) t F.length d (i+1)) i u) b).2.2) ∧
    MOK (canT A B s) t F.length L.length g'∧subM g g'∧∀k∈ks,u.testBit k=false→i+1<L.length→hasM g' (i+1) (u ||| 2 ^ k)
 | [],g,b,Wb,_,hg,_,_,_,_=>⟨g,rfl,hg,subM.refl g,fun k hk=>by cases hk⟩
 | k::ks,g,b,Wb,hk,hg,hb1,hb2,hb3,hWb=>by
  have hk0:=hk k (by simp)
  have hks:∀x∈ks,x<F.length:=fun x hx=>hk x (by simp[hx])
  rw[List.length_cons,Nat.add_mul,Nat.one_mul]at hWb
  rw[List.map_cons,List.foldl_cons,C2,Gl]
  dsimp only
  rw[Av (by rw[decide_eq_true_eq];omega),Av (by rw[decide_eq_true_eq];exact⟨Ag8,by omega⟩)]
  by_cases hbit:u.testBit k=true
  ·rw[A2 (A40.2 hbit)]
   obtain⟨g',e1,e2,e3,e4⟩:=Oz hF hL ht htv hi hu hself (x4:=x4) hP ks g b Wb hks hg hb1 hb2 hb3 (by omega)
   have es:rsS t (rsR (canT A B s) t F.length d (i+1)) i u b k=b:=by unfold rsS;rw[if_pos hbit]
   rw[es]
   refine⟨g',e1,e2,e3,fun x hx hxb hi=>?_⟩
   rcases List.mem_cons.1 hx with rfl | hx
   ·rw[hbit]at hxb;cases hxb
   ·exact e4 x hx hxb hi
  ·rw[A1 (fun h=>hbit (A40.1 h))]
   obtain⟨q,hq,p1,p2⟩:=E0 (k:=k) (by omega)
   rw[A3 (by omega),Av (by rw[decide_eq_true_eq];omega),p1,A3 (by omega),Av (by rw[decide_eq_true_eq];omega)]
   simp only[Int.toNat_natCast]
   subst hq
   have hu':=Re hu (show k<6 by omega)
   obtain⟨g1,e1,e2,e3,e4⟩:=hself (u ||| 2 ^ k) g hu' hg
   rw[e1]
   simp only[Option.bind_some]
   rw[htv i k (by omega) hk0]
   simp only[Option.bind_some]
   obtain⟨⟨r1,r2⟩,r3,r4⟩:=Iu (can:=canT A B s) (t:=t) hF ht (by omega) d (i+1) (u ||| 2 ^ k)
   have ht0:=ht i k
   have hd:(d:Int)≤5:=by omega
   rw[hP]at r4
   have hbit':u.testBit k=false:=by simpa using hbit
   have fin:∀b',rsS t (rsR (canT A B s) t F.length d (i+1)) i u b k=b'→(0≤b'.2.1∧b'.2.1≤30000*(d+1))→0≤b'.2.2→b'.2.2≤((Wb+P:Nat):Int)→∃g',C2 N self (ks.map fun(j:Nat)=>((j:Int),())) (dkT W s L F R A B) (dkT W s L F R A B) (dkT W s L F R A B) x4 (dkT W s L F R A B) (dkT W s L F R A B) g1 i u 0 0 0 b'.1 b'.2.1 b'.2.2 =
    some (dkT W s L F R A B,dkT W s L F R A B,g',(i:Int),(u:Int),0,0,0,(ks.foldl (rsS t (rsR (canT A B s) t F.length d (i+1)) i u) (rsS t (rsR (canT A B s) t F.length d (i+1)) i u b k)).1,(ks.foldl (rsS t (rsR (canT A B s) t F.length d (i+1)) i u) (rsS t (rsR (canT A B s) t F.length d (i+1)) i u b k)).2.1,(ks.foldl (rsS t (rsR (canT A B s) t F.length d (i+1)) i u) (rsS t (rsR (canT A B s) t F.length d (i+1)) i u b k)).2.2) ∧
    MOK (canT A B s) t F.length L.length g'∧subM g g'∧∀x∈k::ks,u.testBit x=false→i+1<L.length→hasM g' (i+1) (u ||| 2 ^ x):=fun b' hb' q1 q2 q3=>by
    obtain⟨g',f1,f2,f3,f4⟩:=Oz hF hL ht htv hi hu hself (x4:=x4) hP ks g1 b' (Wb+P) hks e2 q1 q2 q3 (by omega)
    rw[hb']
    refine⟨g',f1,f2,e3.trans f3,fun x hx hxb hi=>?_⟩
    rcases List.mem_cons.1 hx with rfl | hx
    ·exact f3 _ _ (e4 hi)
    ·exact f4 x hx hxb hi
   have es:rsS t (rsR (canT A B s) t F.length d (i+1)) i u b k=if b.2.1<(rsR (canT A B s) t F.length d (i+1) (u ||| 2 ^ k)).2.1+t i k then((k:Int),(rsR (canT A B s) t F.length d (i+1) (u ||| 2 ^ k)).2.1+t i k,(rsR (canT A B s) t F.length d (i+1) (u ||| 2 ^ k)).2.2)
     else if(rsR (canT A B s) t F.length d (i+1) (u ||| 2 ^ k)).2.1+t i k=b.2.1 then(b.1,b.2.1,b.2.2+(rsR (canT A B s) t F.length d (i+1) (u ||| 2 ^ k)).2.2)else b:=by
    unfold rsS;rw[if_neg hbit]
   have hmul:30000*((d:Int)+1)=30000*d+30000:=by omega
   rw[A3 (by omega)]
   by_cases c1:b.2.1<(rsR (canT A B s) t F.length d (i+1) (u ||| 2 ^ k)).2.1+t i k
   ·rw[if_pos c1]at es
    rw[A2 c1]
    exact fin _ es ⟨by dsimp only;omega,by dsimp only;omega⟩ (by dsimp only;omega) (by dsimp only;omega)
   ·rw[if_neg c1]at es
    rw[A1 c1]
    by_cases c2:(rsR (canT A B s) t F.length d (i+1) (u ||| 2 ^ k)).2.1+t i k=b.2.1
    ·rw[if_pos c2]at es
     rw[A2 c2,A3 (by omega)]
     exact fin _ es hb1 (by dsimp only;omega) (by dsimp only;omega)
    ·rw[if_neg c2]at es
     rw[A1 c2]
     exact fin _ es hb1 hb2 (by omega)
theorem A1u{t:Nat→Nat→Int}(hF:F.length≤6)(hL:L.length≤6)(ht:∀i k,0≤t i k∧t i k≤30000)(htv:∀i k:Nat,i<L.length→k<F.length→Eo N i k (dkT W s L F R A B)=some (t i k)) :
  ∀(fu d i u:Nat) (g:MK),d<fu→i+d=L.length→u<64→MOK (canT A B s) t F.length L.length g →
   ∃g',Hb N fu i u (dkT W s L F R A B) (dkT W s L F R A B) (dkT W s L F R A B) (dkT W s L F R A B) g=some ((rsR (canT A B s) t F.length d i u).1,(rsR (canT A B s) t F.length d i u).2.1,(rsR (canT A B s) t F.length d i u).2.2,dkT W s L F R A B,dkT W s L F R A B,g')∧MOK (canT A B s) t F.length L.length g'∧subM g g'∧(i<L.length→hasM g' i u)
 | 0,d,i,u,g,h,_,_,_=>by omega
 | fu+1,d,i,u,g,h,hid,hu,hg=>by
  show ∃g',Wl N (Hb N fu) i u (dkT W s L F R A B) (dkT W s L F R A B) (dkT W s L F R A B) (dkT W s L F R A B) g=_∧_
  unfold Wl
  have hdl:(dkT W s L F R A B).2.2.1.length=L.length:=rfl
  rw[hdl]
  cases d with
  | zero=>
   rw[A2 (by omega)]
   exact⟨g,rfl,hg,subM.refl g,fun h=>by omega⟩
  | succ d=>
   rw[A1 (by omega),A6q]
   by_cases c:hasM g i u
   ·have e:=hg.get c
    rw[show L.length-i=d+1 by omega]at e
    unfold hasM at c
    rw[c,Ah]
    unfold lkM at e
    rw[e]
    exact⟨g,rfl,hg,subM.refl g,fun _=>c⟩
   ·rw[Bool.eq_false_iff.2 c,Ad,A3 (by omega)]
    have hself:∀(u:Nat) g,u<64→MOK (canT A B s) t F.length L.length g→∃g',Hb N fu ((i:Int)+1) u (dkT W s L F R A B) (dkT W s L F R A B) (dkT W s L F R A B) (dkT W s L F R A B) g=some ((rsR (canT A B s) t F.length d (i+1) u).1,(rsR (canT A B s) t F.length d (i+1) u).2.1,(rsR (canT A B s) t F.length d (i+1) u).2.2,dkT W s L F R A B,dkT W s L F R A B,g')∧MOK (canT A B s) t F.length L.length g'∧subM g g'∧(i+1<L.length→hasM g' (i+1) u):=fun u g hu hg=>by
     have:=A1u hF hL ht htv fu d (i+1) u g (by omega) (by omega) hu hg
     rwa [A9]at this
    obtain⟨g1,e1,e2,e3,e4⟩:=hself u g hu hg
    rw[e1]
    simp only[Option.bind_some]
    have em:I9 N (dkT W s L F R A B) (i:Int)=some (dkT W s L F R A B,dkT W s L F R A B,(i:Int)):=rfl
    rw[em]
    simp only[Option.bind_some]
    rw[Tt hF (by omega)]
    simp only[Option.bind_some]
    obtain⟨⟨r1,r2⟩,r3,r4⟩:=Iu (can:=canT A B s) (t:=t) hF ht (by omega) d (i+1) u
    have h7:(7:Nat) ^ d≤7 ^ 5:=Nat.pow_le_pow_right (by omega) (by omega)
    have h7':(mayL (canT A B s) F.length i).length*7 ^ d≤6*7 ^ 5:=Nat.mul_le_mul (by have:=Xp (canT A B s) F.length i;omega) h7
    obtain⟨g2,f1,f2,f3,f4⟩:=Oz hF hL ht htv (i:=i) (d:=d) (u:=u) (by omega) hu hself (x4:=(i:Int)) rfl (mayL (canT A B s) F.length i) g1 (-1,(rsR (canT A B s) t F.length d (i+1) u).2.1,(rsR (canT A B s) t F.length d (i+1) u).2.2) (7 ^ d)
     (fun k hk=>(B1.1 hk).1) e2 ⟨r1,by dsimp only;omega⟩ r3 r4 (by omega)
    unfold mayE
    rw[f1]
    simp only[Option.bind_some]
    have er:rsR (canT A B s) t F.length (d+1) i u=(mayL (canT A B s) F.length i).foldl (rsS t (rsR (canT A B s) t F.length d (i+1)) i u) (-1,(rsR (canT A B s) t F.length d (i+1) u).2.1,(rsR (canT A B s) t F.length d (i+1) u).2.2):=rfl
    rw[←er]
    obtain⟨k1,k2,k3⟩:=f2.cons (i:=i) (u:=u) (fun hi=>⟨f3 _ _ (e4 hi),fun k hk hb=>f4 k hk hb hi⟩)
    rw[show L.length-i=d+1 by omega]at k1 k2 k3
    exact⟨_,rfl,k1,e3.trans (f3.trans k2),fun _=>k3⟩
theorem Amc{t:Nat→Nat→Int}(hN:110≤N)(hF:F.length≤6)(hL:L.length≤6)(ht:∀i k,0≤t i k∧t i k≤30000)(htv:∀i k:Nat,i<L.length→k<F.length→Eo N i k (dkT W s L F R A B)=some (t i k)){u:Nat}(hu:u<64) :
  ∃g,Q9 N (dkT W s L F R A B) (dkT W s L F R A B) u=some g∧(0<L.length→MOK (canT A B s) t F.length L.length g∧hasM g 0 u)∧lkM g 0 u=some (rsR (canT A B s) t F.length L.length 0 u):=by
 obtain⟨g,e1,e2,e3,e4⟩:=A1u hF hL ht htv N L.length 0 u [] (by omega) (by omega) hu MOK.nil
 unfold Q9 Sc
 rw[show((0:Nat):Int)=0 from rfl]at e1
 rw[e1]
 simp only[Option.bind_some]
 refine⟨_,rfl,fun h0=>?_,by rw[J5,if_pos ⟨rfl,rfl⟩]⟩
 have hg:hasM g 0 u:=e4 h0
 obtain⟨k1,k2,k3⟩:=e2.cons (i:=0) (u:=u) (fun hi=>e2.clo 0 u hg hi)
 rw[Nat.sub_zero]at k1 k3
 exact⟨k1,k3⟩
theorem U1{t:Nat→Nat→Int}(hF:F.length≤6)(hL:L.length≤6){g:MK}(hg:MOK (canT A B s) t F.length L.length g):∀(n d i u:Nat) (out:List Int),d<n→i+d=L.length→u<64→out.length≤i→(i<L.length→hasM g i u) →
  Cg N n u L.length i g out=some (out++blR (canT A B s) t F.length d i u)
 | 0,d,i,u,out,h,_,_,_,_=>by omega
 | n+1,d,i,u,out,h,hid,hu,ho,hh=>by
  unfold Cg
  cases d with
  | zero=>
   rw[A1 (by omega)]
   simp[blR]
  | succ d=>
   have e:=hg.get (hh (by omega))
   rw[show L.length-i=d+1 by omega]at e
   have e':((g.find? fun(y:(Int×Int)×(Int×(Int×Int)))=>Ty.beq (.pair (.int .i64) (.int .i64)) y.1 ((i:Int),(u:Int))).map (·.2)).getD (Ty.dflt (.pair (.int .i64) (.pair (.int .i64) (.int .i64))))=rsR (canT A B s) t F.length (d+1) i u:=by
    unfold lkM at e
    rw[e];rfl
   rw[A2 (by omega),e',Ay (by simp;omega)]
   have hj:∀(u':Nat) x,u'<64→(i+1<L.length→hasM g (i+1) u')→Ih N (Cg N n) u' L.length i g (out++[x])=some (out++[x]++blR (canT A B s) t F.length d (i+1) u'):=fun u' x hu' hh'=>by
    have:=U1 hF hL hg n d (i+1) u' (out++[x]) (by omega) (by omega) hu' (by simp;omega) hh'
    rw[A9]at this
    unfold Ih
    rw[A3 (by omega),this]
   rw[blR]
   rcases Ace (can:=canT A B s) (t:=t) (m:=F.length) (d:=d) (i:=i) (u:=u)with⟨h1,_⟩ | ⟨k,h1,h2,h3,_⟩
   ·rw[h1,A6 (by first | trivial | rfl),if_pos rfl,hj u _ hu (fun hi=>(hg.clo i u (hh (by omega)) hi).1)]
    simp
   ·obtain⟨k1,k2⟩:=B1.1 h2
    obtain⟨q,hq,p1,p2⟩:=E0 (k:=k) (by omega)
    rw[h1,A8 (show ¬((k:Int)=-1)by omega)]
    rw[Av (by rw[decide_eq_true_eq];exact(show(0:Int)≤(k:Int)∧(k:Int)≤62 by omega)),p1,A3 (by omega),Av (by rw[decide_eq_true_eq];omega),if_neg (show ¬((k:Int)=-1)by omega)]
    simp only[Int.toNat_natCast]
    subst hq
    rw[hj _ _ (Re hu (by omega)) (fun hi=>(hg.clo i u (hh (by omega)) hi).2 k h2 h3)]
    simp
theorem Ajo{t:Nat→Nat→Int}(hN:110≤N)(hF:F.length≤6)(hL:L.length≤6)(ht:∀i k,0≤t i k∧t i k≤30000)(htv:∀i k:Nat,i<L.length→k<F.length→Eo N i k (dkT W s L F R A B)=some (t i k)) :
  Qg N (dkT W s L F R A B) (dkT W s L F R A B)=some (blR (canT A B s) t F.length L.length 0 0):=by
 obtain⟨g,e1,e2,e3⟩:=Amc hN hF hL ht htv (u:=0) (by omega)
 unfold Qg
 rw[show((0:Nat):Int)=0 from rfl]at e1
 rw[e1]
 simp only[Option.bind_some]
 have hdl:(dkT W s L F R A B).2.2.1.length=L.length:=rfl
 rw[hdl]
 by_cases h0:0<L.length
 ·obtain⟨hg,hh⟩:=e2 h0
  have:=U1 (N:=N) hF hL hg N L.length 0 0 [] (by omega) (by omega) (by omega) (by simp) (fun _=>hh)
  rw[show((0:Nat):Int)=0 from rfl,List.nil_append]at this
  rw[this];rfl
 ·have hz:L.length=0:=by omega
  obtain⟨M,rfl⟩:∃M,N=M+1:=⟨N-1,by omega⟩
  rw[Cg,hz,A1 (by omega)]
  simp[blR]

theorem Fv(hN:110≤N)(hF:F.length≤6)(hL:L.length≤6)(hA:∀i k,0≤A i k∧A i k≤50){u:Nat}(hu:u<64):C0 N (dkT W s L F R A B) u=some (rsR (canT A B s) A F.length L.length 0 u):=by
 obtain⟨g,e1,_,e3⟩:=A9p (N:=N) (W:=W) (s:=s) (R:=R) (B:=B) (A:=A) (t:=A) hN hF hL (fun i k=>by have:=hA i k;omega) (fun i k hi hk=>Aaw (by omega) (by omega)) hu
 unfold C0
 rw[show Q3 N (dkT W s L F R A B)=some (dkT W s L F R A B)from rfl]
 simp only[Option.bind_some]
 rw[e1]
 simp only[Option.bind_some]
 unfold lkM at e3
 rw[e3];rfl
end
end Go.Proofs.YthncjilcflilcaaGreat

namespace Go.Proofs.YthncjilcflilcaaGreat
set_option linter.all false
open Go
def rowX(m:Nat)(r:List Int):List (List Int):=(List.range (m+1)).map fun(k:Nat)=>r++[(k:Int)-1]
def listsR(m:Nat):Nat→List (List Int)
 | 0=>[[]]
 | n+1=>(listsR m n).flatMap (rowX m)
theorem Br(m:Nat):∀n:Nat,(listsR m n).length=(m+1) ^ n
 | 0=>rfl
 | n+1=>by
  have h:∀l:List (List Int),(l.flatMap (rowX m)).length=l.length*(m+1):=by
   intro l
   induction l with
   | nil=>simp
   | cons a l ih=>rw[List.flatMap_cons,List.length_append,ih,List.length_cons,Nat.add_mul,rowX];simp;omega
  rw[listsR,h,Br m n,Nat.pow_succ]
theorem G8{m:Nat}:∀ {n:Nat} {l:List Int},l∈listsR m n↔l.length=n∧∀x∈l,-1≤x∧x≤(m:Int)-1
 | 0,l=>by
  simp only[listsR,List.mem_singleton]
  constructor
  ·rintro rfl;exact⟨rfl,fun x hx=>by cases hx⟩
  ·rintro ⟨h,_⟩;exact List.eq_nil_of_length_eq_zero h
 | n+1,l=>by
  simp only[listsR,rowX,List.mem_flatMap,List.mem_map,List.mem_range]
  constructor
  ·rintro ⟨r,hr,k,hk,rfl⟩
   obtain⟨h1,h2⟩:=G8.1 hr
   refine⟨by simp[h1],fun x hx=>?_⟩
   rcases List.mem_append.1 hx with hx | hx
   ·exact h2 x hx
   ·simp only[List.mem_singleton]at hx;omega
  ·rintro ⟨h1,h2⟩
   have hne:l≠[]:=fun e=>by subst e;simp at h1
   have hlast:=h2 _ (List.getLast_mem hne)
   refine⟨l.dropLast,G8.2 ⟨by simp[h1],fun x hx=>h2 x ((List.dropLast_sublist l).subset hx)⟩,(l.getLast hne+1).toNat,by omega,?_⟩
   rw[show(((l.getLast hne+1).toNat:Nat):Int)-1=l.getLast hne by omega]
   exact List.dropLast_concat_getLast hne
theorem Qc(m:Nat):∀n:Nat,(listsR m n).Nodup
 | 0=>by simp[listsR]
 | n+1=>by
  unfold listsR
  have key:∀l:List (List Int),l.Nodup→(l.flatMap (rowX m)).Nodup:=by
   intro l hl
   induction l with
   | nil=>simp
   | cons a l ih=>
    rw[List.nodup_cons]at hl
    rw[List.flatMap_cons,List.nodup_append]
    refine⟨?_,ih hl.2,?_⟩
    ·unfold rowX List.Nodup
     rw[List.pairwise_map]
     refine List.Pairwise.imp ?_ List.nodup_range
     intro x y hxy e
     have:=List.append_cancel_left e
     simp only[List.cons.injEq,and_true]at this
     omega
    ·intro x hx y hy e
     subst e
     simp only[rowX,List.mem_map,List.mem_flatMap]at hx hy
     obtain⟨k,_,rfl⟩:=hx
     obtain⟨b,hb,j,_,e⟩:=hy
     have:=(List.append_inj' e rfl).1
     subst this
     exact hl.1 hb
  exact key _ (Qc m n)
section
variable {N:Nat}
theorem Yi{self:Int→Int→Option (List (List Int))}{m i:Nat}{rest:List (List Int)}(hm:m≤100)(hi:i<rest.length)(hr:(rest.getD i []).length≤100):∀(n j:Nat) (out:List (List Int)),m+1<n+j→j≤m+1→out.length+(m+1-j)≤100000 →
  lists_l2 N self n m i ((j:Int)-1) out rest=some ((m:Int),(i:Int),out++(List.range' j (m+1-j)).map (fun(k:Nat)=>rest.getD i []++[(k:Int)-1]),rest)
 | 0,j,out,h,_,_=>by omega
 | n+1,j,out,h,hj,ho=>by
  unfold lists_l2
  by_cases c:j<m+1
  ·have ih:=Yi (self:=self) hm hi hr n (j+1) (out++[rest.getD i []++[(j:Int)-1]]) (by omega) (by omega) (by simp;omega)
   rw[show((j+1:Nat):Int)-1=(j:Int)-1+1 by omega]at ih
   rw[A2 (by omega),Ag (by omega)]
   simp only[Int.toNat_natCast]
   rw[C1 [] hi,List.nil_append,Ay (by simp only[List.length_nil];omega),Ay (by simp only[List.length_singleton];omega),Ay (by simp only[List.length_singleton];omega),A3 (by omega),ih]
   rw[show m+1-j=(m+1-(j+1))+1 by omega,List.range'_succ,List.map_cons,List.append_assoc];rfl
  ·rw[A1 (by omega),show m+1-j=0 by omega]
   simp
theorem A00{self:Int→Int→Option (List (List Int))}{m:Nat}{rest:List (List Int)}(hm:m≤100)(hN:m+1<N)(hr:∀r∈rest,r.length≤100)(hlen:rest.length*(m+1)≤100000):∀(n i:Nat) (out:List (List Int)),rest.length<n+i→i≤rest.length→out.length≤i*(m+1) →
  lists_l1 N self n m i out rest=some (out++(rest.drop i).flatMap (rowX m))
 | 0,i,out,h,_,_=>by omega
 | n+1,i,out,h,hi,ho=>by
  unfold lists_l1
  have hlt:rest.length≤rest.length*(m+1):=Nat.le_mul_of_pos_right _ (by omega)
  by_cases c:i<rest.length
  ·have e1:(i+1)*(m+1)=i*(m+1)+(m+1):=by rw[Nat.add_mul];omega
   have e2:(i+1)*(m+1)≤rest.length*(m+1):=Nat.mul_le_mul_right _ (by omega)
   have e:=Yi (N:=N) (self:=self) hm c (hr _ (Ab c)) N 0 out (by omega) (by omega) (by omega)
   rw[show((0:Nat):Int)-1=-1 from rfl,Nat.sub_zero,←List.range_eq_range']at e
   have ih:=A00 (self:=self) hm hN hr hlen n (i+1) (out++rowX m (rest.getD i [])) (by omega) (by omega) (by unfold rowX;simp;omega)
   rw[A9]at ih
   rw[A2 (by omega),e]
   simp only[Option.bind_some]
   rw[A3 (by omega)]
   refine ih.trans ?_
   rw[drop_cons c [],List.flatMap_cons,List.append_assoc]
  ·rw[A1 (by omega),List.drop_of_length_le (by omega)]
   simp
theorem A1a{m:Nat}(hm:m≤100)(hN:m+1<N){T:Nat}(hT:(m+1) ^ T≤100000)(hTN:(m+1) ^ T<N)(hT1:T≤100):∀(fu n:Nat),n<fu→n≤T→Hz N fu n m=some (listsR m n)
 | 0,n,h,_=>by omega
 | fu+1,n,h,hn=>by
  show Wh N (Hz N fu) n m=_
  unfold Wh
  cases n with
  | zero=>rw[A2 (by omega)];rfl
  | succ n=>
   have ih:=A1a hm hN hT hTN hT1 fu n (by omega) (by omega)
   have hp:(m+1) ^ (n+1)≤(m+1) ^ T:=Nat.pow_le_pow_right (by omega) hn
   have hp2:(m+1) ^ n≤(m+1) ^ (n+1):=Nat.pow_le_pow_right (by omega) (by omega)
   have e:=A00 (N:=N) (self:=Hz N fu) (rest:=listsR m n) hm hN (fun r hr=>by have:=(G8.1 hr).1;omega) (by rw[Br];exact Nat.le_trans hp hT) N 0 [] (by rw[Br];omega) (by omega) (by simp)
   rw[show((0:Nat):Int)=0 from rfl,List.drop_zero,List.nil_append]at e
   rw[A1 (by omega),A3 (by omega),show((n+1:Nat):Int)-1=(n:Int)by omega,ih]
   simp only[Option.bind_some]
   rw[e];rfl
end
theorem Ef{l:List Int}{i:Nat}(h:i<l.length):l.getD i 0=fnJ l i:=by simp[fnJ,List.getD,h]
theorem Eb{n m:Nat}{can:Nat→Nat→Bool}{l:List Int}:errJ 0 n m can l=0↔l∈joinsL can m n 0 0:=by
 rw[Am,Oa]
 constructor
 ·intro h
  obtain⟨_,h1,h2,h3,h4⟩:=Bu h
  rw[Mi]at h3 h4
  refine⟨h1,⟨fun i hi=>?_,fun i j hi hj hij he=>?_⟩,fun k hk=>by simp at hk⟩
  ·have hx:=List.all_eq_true.1 h2 _ (Ab (d:=0) hi)
   unfold inm at hx
   rw[decide_eq_true_eq,Ef hi]at hx
   have hc:=h4 i hi
   unfold cnI at hc
   rw[Bool.or_eq_true,decide_eq_true_eq,Ef hi]at hc
   rcases hc with hc | hc
   ·exact .inl hc
   ·by_cases e:fnJ l i=-1
    ·exact .inl e
    ·exact .inr ⟨(fnJ l i).toNat,by omega,by omega,hc⟩
  ·have key:∀i j,i<j→j<l.length→fnJ l i=fnJ l j→fnJ l j=-1:=fun i j hij hj he=>by
    have hd:=h3 j hj
    unfold dupI at hd
    rw[Bool.or_eq_true,decide_eq_true_eq,Ef hj,Bool.not_eq_true',←Bool.not_eq_true,Lw]at hd
    rcases hd with hd | hd
    ·exact hd
    ·refine absurd ?_ hd
     rw[←he,←Ef (show i<l.length by omega)]
     exact List.mem_iff_getElem.2 ⟨i,by simp;omega,by simp[List.getD,show i<l.length by omega]⟩
   rcases Nat.lt_or_gt_of_ne hij with h | h
   ·rw[he];exact key i j h hj he
   ·exact key j i h hi he.symm
 ·rintro ⟨hl,h1,_⟩
  have hb:l.all (inm m)=true:=by
   rw[List.all_eq_true]
   intro x hx
   obtain⟨i,hi,rfl⟩:=List.getElem_of_mem hx
   have e:l[i]=fnJ l i:=by simp[fnJ,List.getD,hi]
   unfold inm
   rw[decide_eq_true_eq,e]
   rcases h1.ok i hi with h | ⟨k,h,hk,_⟩<;>omega
  have hd:alI (dupI l) l.length=true:=by
   rw[Mi]
   intro j hj
   unfold dupI
   rw[Bool.or_eq_true,decide_eq_true_eq,Ef hj,Bool.not_eq_true',←Bool.not_eq_true,Lw]
   by_cases e:fnJ l j=-1
   ·exact .inl e
   ·refine .inr fun hm=>?_
    obtain⟨i,hi,he⟩:=List.getElem_of_mem hm
    simp only[List.length_take]at hi
    have hij:i<j:=by omega
    refine e (h1.inj j i hj (by omega) (by omega) ?_)
    rw[←he,←Ef (show i<l.length by omega)]
    simp[List.getD,show i<l.length by omega]
  have hc:alI (cnI can l) l.length=true:=by
   rw[Mi]
   intro i hi
   unfold cnI
   rw[Bool.or_eq_true,decide_eq_true_eq,Ef hi]
   rcases h1.ok i hi with h | ⟨k,h,_,hc⟩
   ·exact .inl h
   ·right;rw[h,Int.toNat_natCast];exact hc
  unfold errJ
  rw[if_neg (by simp),if_neg (by omega),hb,hd,hc]
  simp
theorem foldl_max{α:Type}{f:α→Int}{V:Int}:∀(l:List α) (a:Int),(∀x∈l,f x≤V)→a≤V→(a=V∨∃x∈l,f x=V)→l.foldl (fun a x=>max a (f x)) a=V
 | [],a,_,_,h=>by
  rcases h with h | ⟨x,hx,_⟩
  ·exact h
  ·cases hx
 | x::l,a,h1,h2,h3=>by
  have hx:=h1 x (by simp)
  rw[List.foldl_cons]
  refine foldl_max l (max a (f x)) (fun y hy=>h1 y (by simp[hy])) (by omega) ?_
  rcases h3 with h | ⟨y,hy,e⟩
  ·left;omega
  ·rcases List.mem_cons.1 hy with rfl | hy
   ·left;omega
   ·exact .inr ⟨y,hy,e⟩
section
variable {W:List Int} {s:Int} {L F:List (List Int)} {R:List Int} {A B:Nat→Nat→Int} {N:Nat}
def allR(W:List Int)(s:Int)(L F:List (List Int)):List (List Int):=(listsR F.length L.length).filter fun l=>decide (errJ 0 L.length F.length (canF W s L F) l=0)
theorem Dn{l:List Int}:l∈allR W s L F↔l∈joinsL (canF W s L F) F.length L.length 0 0:=by
 unfold allR
 rw[List.mem_filter,decide_eq_true_eq]
 constructor
 ·exact fun h=>Eb.1 h.2
 ·intro h
  have he:=Eb.2 h
  refine⟨G8.2 ?_,he⟩
  obtain⟨_,h1,h2,_⟩:=Bu he
  refine⟨h1,fun x hx=>?_⟩
  have:=List.all_eq_true.1 h2 x hx
  unfold inm at this
  rwa [decide_eq_true_eq]at this
theorem Xh:(allR W s L F).Nodup:=List.Pairwise.filter _ (Qc _ _)
theorem Ve{α:Type}{p:α→Bool}{l:List α}{k:Nat}(c:k<l.length)(d:α):(l.take (k+1)).filter p=(l.take k).filter p++(if p (l.getD k d)=true then [l.getD k d]else []):=by
 rw[Gj c d,List.filter_append]
 congr 1
 rw[List.filter_cons]
 split<;>rfl
theorem A7z(hN:110≤N)(h:Fine W s L F R){l:List (List Int)}(hl:l.length≤100000)(hr:∀r∈l,r.length≤100):∀(n k:Nat),l.length<n+k→k≤l.length →
  all_l1 N n k W s L F R ((l.take k).filter fun l=>decide (errJ 0 L.length F.length (canF W s L F) l=0)) l=some (l.filter fun l=>decide (errJ 0 L.length F.length (canF W s L F) l=0))
 | 0,k,h,_=>by omega
 | n+1,k,hn,hk=>by
  unfold all_l1
  by_cases c:k<l.length
  ·have ih:=A7z hN h hl hr n (k+1) (by omega) (by omega)
   rw[A9,Ve c []]at ih
   have hj:∀out,Xn N (all_l1 N n) k W s L F R out l=all_l1 N n ((k:Int)+1) W s L F R out l:=fun out=>by
    unfold Xn
    rw[A3 (by omega)]
   have hlen:=List.length_filter_le (fun l=>decide (errJ 0 L.length F.length (canF W s L F) l=0)) (l.take k)
   rw[List.length_take]at hlen
   rw[A2 (by omega),Ag (by omega)]
   simp only[Int.toNat_natCast]
   rw[C1 [] c,Ii hN h.sm (hr _ (Ab c)),Ac.2 h]
   simp only[Option.bind_some,hj]
   by_cases e:errJ 0 L.length F.length (canF W s L F) (l.getD k [])=0
   ·rw[if_pos (decide_eq_true e)]at ih
    rw[A2 e,Ag (by omega),C1 [] c,Ay (by simp;omega),ih]
   ·rw[if_neg (by rw[decide_eq_true_eq];exact e),List.append_nil]at ih
    rw[A1 e,ih]
  ·rw[A1 (by omega),List.take_of_length_le (by omega)]
theorem Aq3(hN:110≤N)(h:Fine W s L F R)(hp:(F.length+1) ^ L.length<N)(hp2:(F.length+1) ^ L.length≤100000):Aag N W s L F R=some (allR W s L F):=by
 have hl6:=h.l6;have hf6:=h.f6
 have e:=A7z hN h (l:=listsR F.length L.length) (by rw[Br];exact hp2) (fun r hr=>by have:=(G8.1 hr).1;omega) N 0 (by rw[Br];omega) (by omega)
 rw[show((0:Nat):Int)=0 from rfl,List.take_zero,List.filter_nil]at e
 unfold Aag
 rw[A1a (T:=L.length) (by omega) (by omega) hp2 hp (by omega) N L.length (by omega) (by omega)]
 simp only[Option.bind_some]
 rw[e];rfl
theorem Bh{l:List Int}(h:l∈joinsL (canF W s L F) F.length L.length 0 0):l.length=L.length∧l.all (inm F.length)=true:=by
 obtain⟨_,h1,h2,_⟩:=Bu (Eb.2 h)
 exact⟨h1,h2⟩
theorem Ez(hN:110≤N)(h:Fine W s L F R){l:List Int}(hl:l∈joinsL (canF W s L F) F.length L.length 0 0):B2 N W s L F R l=some (valJ (agF W L F) 0 l):=by
 obtain⟨h1,h2⟩:=Bh hl
 exact Ac0 hN h (by omega) h2
theorem Zu(hN:110≤N)(h:Fine W s L F R){l:List (List Int)}(hl:l.length≤100000)(hr:∀r∈l,r∈joinsL (canF W s L F) F.length L.length 0 0):∀(n k:Nat) (x:Int),l.length<n+k→k≤l.length →
  rbest_l1 N n l x k W s L F R=some (l,(l.drop k).foldl (fun a l=>max a (valJ (agF W L F) 0 l)) x,W,s,L,F,R)
 | 0,k,x,h,_=>by omega
 | n+1,k,x,hn,hk=>by
  unfold rbest_l1
  by_cases c:k<l.length
  ·have ih:=Zu hN h hl hr n (k+1) (max x (valJ (agF W L F) 0 (l.getD k []))) (by omega) (by omega)
   rw[A9]at ih
   rw[A2 (by omega),idx_eq (by omega) (gets c []),Ez hN h (hr _ (Ab c))]
   simp only[Option.bind_some]
   rw[A3 (by omega),ih,drop_cons c [],List.foldl_cons]
  ·rw[A1 (by omega),List.drop_of_length_le (by omega)];rfl
theorem X0(hN:110≤N)(h:Fine W s L F R){l:List (List Int)}(hl:l.length≤100000)(hr:∀r∈l,r∈joinsL (canF W s L F) F.length L.length 0 0){V:Int}:∀(n k:Nat),l.length<n+k→k≤l.length →
  rbest_l2 N n l V k W s L F R ((l.take k).filter fun l=>decide (valJ (agF W L F) 0 l=V))=some (V,l.filter fun l=>decide (valJ (agF W L F) 0 l=V))
 | 0,k,h,_=>by omega
 | n+1,k,hn,hk=>by
  unfold rbest_l2
  by_cases c:k<l.length
  ·have ih:=X0 hN h hl hr (V:=V) n (k+1) (by omega) (by omega)
   rw[A9,Ve c []]at ih
   have hj:∀out,Ln N (rbest_l2 N n) l V k W s L F R out=rbest_l2 N n l V ((k:Int)+1) W s L F R out:=fun out=>by
    unfold Ln
    rw[A3 (by omega)]
   have hlen:=List.length_filter_le (fun l=>decide (valJ (agF W L F) 0 l=V)) (l.take k)
   rw[List.length_take]at hlen
   rw[A2 (by omega),idx_eq (by omega) (gets c []),Ez hN h (hr _ (Ab c))]
   simp only[Option.bind_some,hj]
   by_cases e:valJ (agF W L F) 0 (l.getD k [])=V
   ·rw[if_pos (decide_eq_true e)]at ih
    rw[A2 e,idx_eq (by omega) (gets c []),Ay (by simp;omega),ih]
   ·rw[if_neg (by rw[decide_eq_true_eq];exact e),List.append_nil]at ih
    rw[A1 e,ih]
  ·rw[A1 (by omega),List.take_of_length_le (by omega)]
def Au(W:List Int)(s:Int)(L F:List (List Int)):Int:=(rsR (canF W s L F) (agF W L F) F.length L.length 0 0).2.1
def A3g(W:List Int)(s:Int)(L F:List (List Int)):Int:=(rsR (canF W s L F) (agF W L F) F.length L.length 0 0).2.2
def B0(W:List Int)(s:Int)(L F:List (List Int)):List (List Int):=(allR W s L F).filter fun l=>decide (valJ (agF W L F) 0 l=Au W s L F)
theorem Rt{l:List Int}(h:l∈joinsL (canF W s L F) F.length L.length 0 0):valJ (agF W L F) 0 l≤Au W s L F:=(T2 (can:=canF W s L F) (t:=agF W L F) (m:=F.length) L.length 0 0).le l h
theorem G7{t:Nat→Nat→Int}:blR (canF W s L F) t F.length L.length 0 0∈joinsL (canF W s L F) F.length L.length 0 0:=by
 obtain⟨q1,q2,_⟩:=Hq (can:=canF W s L F) (t:=t) (m:=F.length) L.length 0 0
 exact Am.2 ⟨q2,q1⟩
theorem Td:valJ (agF W L F) 0 (blR (canF W s L F) (agF W L F) F.length L.length 0 0)=Au W s L F:=(Hq (can:=canF W s L F) (t:=agF W L F) (m:=F.length) L.length 0 0).2.2
theorem Vt(h:Fine W s L F R):0≤Au W s L F∧Au W s L F≤300:=by
 have:=(Iu (can:=canF W s L F) (t:=agF W L F) h.f6 (Al h) (by omega) L.length 0 0).1
 have:=h.l6
 unfold Au;omega
theorem Ma:((B0 W s L F).length:Int)=A3g W s L F:=by
 have h:=(T2 (can:=canF W s L F) (t:=agF W L F) (m:=F.length) L.length 0 0).ways
 unfold A3g
 rw[←h]
 unfold B0
 rw[←List.countP_eq_length_filter]
 congr 1
 exact A7r Xh (Fp _ _ _) (fun x=>Dn) (fun x _=>rfl)
theorem E1{l:List Int}:l∈B0 W s L F↔l∈joinsL (canF W s L F) F.length L.length 0 0∧valJ (agF W L F) 0 l=Au W s L F:=by
 unfold B0
 rw[List.mem_filter,Dn,decide_eq_true_eq]
theorem Mk(hN:110≤N)(h:Fine W s L F R)(hp:(F.length+1) ^ L.length<N)(hp2:(F.length+1) ^ L.length≤100000):By N W s L F R=some (B0 W s L F,Au W s L F):=by
 have hlen:(allR W s L F).length≤(F.length+1) ^ L.length:=by
  rw[←Br];exact List.length_filter_le _ _
 have e1:=Zu hN h (l:=allR W s L F) (by omega) (fun r hr=>Dn.1 hr) N 0 0 (by omega) (by omega)
 have e2:=X0 hN h (l:=allR W s L F) (by omega) (fun r hr=>Dn.1 hr) (V:=Au W s L F) N 0 (by omega) (by omega)
 rw[show((0:Nat):Int)=0 from rfl]at e1 e2
 rw[List.drop_zero,foldl_max (V:=Au W s L F) _ _ (fun x hx=>Rt (Dn.1 hx)) (Vt h).1 (.inr ⟨_,Dn.2 G7,Td⟩)]at e1
 rw[List.take_zero,List.filter_nil]at e2
 unfold By
 rw[Aq3 hN h hp hp2]
 simp only[Option.bind_some]
 rw[e1]
 simp only[Option.bind_some]
 rw[e2];rfl
end
end Go.Proofs.YthncjilcflilcaaGreat

namespace Go.Proofs.YthncjilcflilcaaGreat
set_option linter.all false
open Go

section
variable {W:List Int} {s:Int} {L F:List (List Int)} {R:List Int} {A B:Nat→Nat→Int} {N:Nat}
abbrev A8e(W:List Int)(s:Int)(L F:List (List Int)):List Int:=blR (canF W s L F) (agF W L F) F.length L.length 0 0
abbrev Fk(W:List Int)(s:Int)(L F:List (List Int))(R:List Int):List Int:=blR (canF W s L F) (Kd (agF W L F) R) F.length L.length 0 0
abbrev rewT(R:List Int):Nat→Nat→Int:=fun i _=>R.getD i 0
theorem Ar7(hN:110≤N)(h:Sm W L F R):X6 N W s L F R=some (if errD W s L F R=0 then(A8e W s L F,Au W s L F,0)else([],0,errD W s L F R)):=by
 unfold X6
 rw[Bo hN h]
 by_cases c:errD W s L F R=0
 rotate_left
 ·rw[if_neg c,if_neg c]
  simp only[Option.bind_some]
  rw[A8 c]
 have hF:=Ac.1 c
 rw[if_pos c,if_pos c]
 simp only[Option.bind_some]
 rw[A6 (by first | trivial | rfl)]
 unfold dkO
 rw[show Q3 N (dkT W s L F R (agF W L F) (slF W L F))=some (dkT W s L F R (agF W L F) (slF W L F))from rfl]
 simp only[Option.bind_some]
 have hl6:=hF.l6;have hf6:=hF.f6
 rw[Amw hN hf6 hl6 (t:=agF W L F) (fun i k=>by have:=Al hF i k;omega) (fun i k hi hk=>Aaw (by omega) (by omega))]
 simp only[Option.bind_some]
 obtain⟨j1,j2⟩:=Bh (W:=W) (s:=s) (L:=L) (F:=F) (G7 (t:=agF W L F))
 rw[Lu hN (Al hF) (by omega) hf6 j2,Td];rfl
theorem Ahh(hN:110≤N)(h:Sm W L F R):Mr N W s L F R=some (if errD W s L F R=0 then(Fk W s L F R,valJ (rewT R) 0 (Fk W s L F R),0)else([],0,errD W s L F R)):=by
 unfold Mr
 rw[Bo hN h]
 by_cases c:errD W s L F R=0
 rotate_left
 ·rw[if_neg c,if_neg c]
  simp only[Option.bind_some]
  rw[A8 c]
 have hF:=Ac.1 c
 rw[if_pos c,if_pos c]
 simp only[Option.bind_some]
 rw[A6 (by first | trivial | rfl)]
 unfold dkO
 rw[show Adl N (dkT W s L F R (agF W L F) (slF W L F))=some (dkT W s L F R (agF W L F) (slF W L F))from rfl]
 simp only[Option.bind_some]
 have hl6:=hF.l6;have hf6:=hF.f6;have hrl:=hF.rl
 rw[Ajo hN hf6 hl6 (t:=Kd (agF W L F) R) (fun i k=>by have:=Al hF i k;have:=Tp hF.r i;unfold Kd;omega) (fun i k hi hk=>Al4 (Al hF) hF.r (by omega) (by omega) (by omega))]
 simp only[Option.bind_some]
 obtain⟨j1,j2⟩:=Bh (W:=W) (s:=s) (L:=L) (F:=F) (G7 (t:=Kd (agF W L F) R))
 rw[A2k hN hF.r (Nat.le_trans (Nat.le_of_eq j1) hl6) (Nat.le_of_eq (j1.trans hrl.symm))];rfl
theorem Aoj(hN:110≤N)(h:Sm W L F R):count_S N W s L F R=some (if errD W s L F R=0 then(A3g W s L F,0)else(0,errD W s L F R)):=by
 unfold count_S
 rw[Bo hN h]
 by_cases c:errD W s L F R=0
 rotate_left
 ·rw[if_neg c,if_neg c]
  simp only[Option.bind_some]
  rw[A8 c]
 have hF:=Ac.1 c
 rw[if_pos c,if_pos c]
 simp only[Option.bind_some]
 rw[A6 (by first | trivial | rfl)]
 unfold dkO
 have:=Fv (N:=N) (W:=W) (s:=s) (R:=R) (B:=slF W L F) hN hF.f6 hF.l6 (Al hF) (u:=0) (by omega)
 rw[show((0:Nat):Int)=0 from rfl]at this
 rw[this];rfl
theorem Ja(A:Nat→Nat→Int)(R:List Int):∀(l:List Int) (i:Nat),valJ (Kd A R) i l=595*valJ A i l+valJ (rewT R) i l
 | [],_=>rfl
 | x::l,i=>by
  rw[valJ,valJ,valJ,Ja A R l (i+1)]
  unfold pv
  split
  ·omega
  ·have e:rewT R i x.toNat=R.getD i 0:=rfl
   unfold Kd;omega
theorem Yo(h:Fine W s L F R):valJ (agF W L F) 0 (Fk W s L F R)=Au W s L F∧∀l∈B0 W s L F,valJ (rewT R) 0 l≤valJ (rewT R) 0 (Fk W s L F R):=by
 have hr:∀l:List Int,l.length=L.length→0≤valJ (rewT R) 0 l∧valJ (rewT R) 0 l≤594:=fun l hl=>by
  have:=Jh (t:=rewT R) (m:=99) (fun i _=>Tp h.r i) (by omega) l 0
  have:=h.l6;omega
 have hle:∀l∈joinsL (canF W s L F) F.length L.length 0 0,valJ (Kd (agF W L F) R) 0 l≤valJ (Kd (agF W L F) R) 0 (Fk W s L F R):=fun l hl=>by
  have h1:=(T2 (can:=canF W s L F) (t:=Kd (agF W L F) R) (m:=F.length) L.length 0 0).le l hl
  rw[←(Hq (can:=canF W s L F) (t:=Kd (agF W L F) R) (m:=F.length) L.length 0 0).2.2]at h1
  exact h1
 have hm:Fk W s L F R∈joinsL (canF W s L F) F.length L.length 0 0:=G7
 have h1:=hle _ (G7 (W:=W) (s:=s) (L:=L) (F:=F) (t:=agF W L F))
 rw[Ja,Ja,Td]at h1
 have h2:=hr _ (Bh hm).1
 have h3:=hr _ (Bh (G7 (W:=W) (s:=s) (L:=L) (F:=F) (t:=agF W L F))).1
 have h4:=Rt hm
 have h5:valJ (agF W L F) 0 (Fk W s L F R)=Au W s L F:=by omega
 refine⟨h5,fun l hl=>?_⟩
 obtain⟨l1,l2⟩:=E1.1 hl
 have:=hle l l1
 rw[Ja,Ja,h5,l2]at this
 omega
theorem Nl(h:Fine W s L F R){l:List (List Int)}(hl:l.length≤100000)(hN:110≤N)(hr:∀r∈l,r∈joinsL (canF W s L F) F.length L.length 0 0):∀(n k:Nat) (x:Int),l.length<n+k→k≤l.length →
  Fb N n l x k W s L F R=some ((l.drop k).foldl (fun a l=>max a (valJ (rewT R) 0 l)) x)
 | 0,k,x,h,_=>by omega
 | n+1,k,x,hn,hk=>by
  unfold Fb
  by_cases c:k<l.length
  ·have ih:=Nl h hl hN hr n (k+1) (max x (valJ (rewT R) 0 (l.getD k []))) (by omega) (by omega)
   rw[A9]at ih
   obtain⟨j1,j2⟩:=Bh (hr _ (Ab c))
   rw[A2 (by omega),idx_eq (by omega) (gets c []),Tb hN h (by omega) j2]
   simp only[Option.bind_some]
   rw[A3 (by omega),ih,drop_cons c [],List.foldl_cons]
  ·rw[A1 (by omega),List.drop_of_length_le (by omega)];rfl
theorem Adr(hN:110≤N)(h:Fine W s L F R)(hp:(F.length+1) ^ L.length<N)(hp2:(F.length+1) ^ L.length≤100000):Ju N W s L F R (B0 W s L F)=some (valJ (rewT R) 0 (Fk W s L F R)):=by
 have hlen:(B0 W s L F).length≤(F.length+1) ^ L.length:=by
  rw[←Br];exact Nat.le_trans (List.length_filter_le _ _) (List.length_filter_le _ _)
 have hm:Fk W s L F R∈joinsL (canF W s L F) F.length L.length 0 0:=G7
 have e:=Nl (N:=N) h (l:=B0 W s L F) (by omega) hN (fun r hr=>(E1.1 hr).1) N 0 0 (by omega) (by omega)
 obtain⟨r1,r2⟩:=Yo h
 have hb:=Jh (t:=rewT R) (m:=99) (fun i _=>Tp h.r i) (by omega) (Fk W s L F R) 0
 rw[show((0:Nat):Int)=0 from rfl,List.drop_zero,foldl_max (V:=valJ (rewT R) 0 (Fk W s L F R)) _ _ r2 hb.1 (.inr ⟨_,E1.2 ⟨hm,r1⟩,rfl⟩)]at e
 unfold Ju
 rw[e];rfl
def vK(W:List Int)(s:Int)(L F:List (List Int))(k:Nat):Int:=(rsR (canF W s L F) (agF W L F) F.length L.length 0 (2 ^ k)).2.1
def pK(W:List Int)(s:Int)(L F:List (List Int))(k:Nat):Int:=Au W s L F-vK W s L F k
def qI(W:List Int)(s:Int)(L F:List (List Int))(i:Nat):Int:=(mayL (canF W s L F) F.length i).foldl (fun a k=>max a (agF W L F i k-pK W s L F k)) 0
theorem A5q:Ex L.length F.length (canF W s L F) (agF W L F) (fun _=>False) (Au W s L F):=(Ala (can:=canF W s L F) (t:=agF W L F) (m:=F.length) L.length 0).congr (fun k=>by simp)
theorem Af5(k:Nat):Ex L.length F.length (canF W s L F) (agF W L F) (· = k) (vK W s L F k):=(Ala (can:=canF W s L F) (t:=agF W L F) (m:=F.length) L.length (2 ^ k)).congr (fun j=>by rw[Nat.testBit_two_pow,decide_eq_true_eq];exact eq_comm)
theorem Rj(h:Fine W s L F R)(k:Nat):0≤pK W s L F k∧pK W s L F k≤300:=by
 obtain⟨J,h1,_,h3⟩:=(Af5 (W:=W) (s:=s) (L:=L) (F:=F) k).ex
 have h4:=(A5q (W:=W) (s:=s) (L:=L) (F:=F)).le J h1 (fun _ hf=>hf.elim)
 have h5:=(Iu (can:=canF W s L F) (t:=agF W L F) h.f6 (Al h) (by omega) L.length 0 (2 ^ k)).1
 have h6:=Vt h
 have h7:=h.l6
 unfold pK
 rw[h3]at h4
 have:vK W s L F k=(rsR (canF W s L F) (agF W L F) F.length L.length 0 (2 ^ k)).2.1:=rfl
 omega
theorem Gy{f:Nat→Int}:∀(l:List Nat) (a:Int),a≤l.foldl (fun a k=>max a (f k)) a∧(∀k∈l,f k≤l.foldl (fun a k=>max a (f k)) a)∧(l.foldl (fun a k=>max a (f k)) a=a∨∃k∈l,l.foldl (fun a k=>max a (f k)) a=f k)
 | [],a=>⟨Int.le_refl _,(fun k hk=>by cases hk),.inl rfl⟩
 | x::l,a=>by
  obtain⟨h1,h2,h3⟩:=Gy (f:=f) l (max a (f x))
  rw[List.foldl_cons]
  refine⟨by omega,fun k hk=>?_,?_⟩
  ·rcases List.mem_cons.1 hk with rfl | hk
   ·omega
   ·exact h2 k hk
  ·rcases h3 with h3 | ⟨k,hk,e⟩
   ·rw[h3]
    rcases Int.le_total a (f x)with h | h
    ·exact .inr ⟨x,by simp,by omega⟩
    ·exact .inl (by omega)
   ·exact .inr ⟨k,by simp[hk],e⟩
theorem Aba(h:Fine W s L F R)(i:Nat):0≤qI W s L F i∧qI W s L F i≤50:=by
 obtain⟨h1,h2,h3⟩:=Gy (f:=fun k=>agF W L F i k-pK W s L F k) (mayL (canF W s L F) F.length i) 0
 unfold qI
 refine⟨h1,?_⟩
 rcases h3 with h3 | ⟨k,_,e⟩
 ·rw[h3];omega
 ·rw[e]
  have:=Al h i k
  have:=Rj h k
  omega
theorem Xw(f:Nat→Int)(k:Nat):(List.range (k+1)).map f=(List.range k).map f++[f k]:=by rw[List.range_succ,List.map_append];rfl
theorem Mq{f:Nat→Int}{n k:Nat}(h:k<n):((List.range n).map f).getD k 0=f k:=by simp[List.getD,h]
theorem Io(f:Nat→Int)(n:Nat):((List.range n).map f).length=n:=by simp
theorem Z1(f:Nat→Int):∀n:Nat,((List.range n).map f).sum=sumN f n
 | 0=>rfl
 | n+1=>by rw[Xw,List.sum_append,Z1 f n,sumN];simp
theorem Us(hN:110≤N)(h:Fine W s L F R){e:Int}:∀(n k:Nat),F.length<n+k→k≤F.length→prices_l1 N n e (Au W s L F) F.length k W s L F R (dkO W s L F R) ((List.range k).map (pK W s L F))=some (e,W,s,L,F,R,dkO W s L F R,(List.range F.length).map (pK W s L F))
 | 0,k,hn,_=>by omega
 | n+1,k,hn,hk=>by
  unfold prices_l1
  have hf6:=h.f6
  by_cases c:k<F.length
  ·have ih:=Us hN h (e:=e) n (k+1) (by omega) (by omega)
   rw[A9,Xw]at ih
   obtain⟨q,hq,p1,p2⟩:=E0 (k:=k) (by omega)
   have hb:=Rj h k
   rw[A2 (by omega),Av (by rw[decide_eq_true_eq];omega),p1,A3 (by omega)]
   have e1:=Fv (N:=N) (W:=W) (s:=s) (R:=R) (B:=slF W L F) hN hF hL (Al h) (u:=q) p2
   unfold dkO
   rw[e1]
   simp only[Option.bind_some]
   subst hq
   have e2:Au W s L F-(rsR (canT (agF W L F) (slF W L F) s) (agF W L F) F.length L.length 0 (2 ^ k)).2.1=pK W s L F k:=rfl
   rw[e2,A3 (by omega),Ay (by simp;omega),A3 (by omega)]
   exact ih
  ·obtain rfl:k=F.length:=by omega
   rw[A1 (by omega)]
 where
 hF:=h.f6
 hL:=h.l6
theorem U8{p:List Int}(hF:F.length≤6)(hp:p.length=F.length)(hpb:∀k,0≤p.getD k 0∧p.getD k 0≤300)(hA:∀i k,0≤A i k∧A i k≤50){i:Nat}(hi:i<6){e u u2 u5:Int}{lost:List Int}:∀(ks:List Nat) (x:Int),(∀k∈ks,k<F.length) →
  prices_l3 N (ks.map fun(j:Nat)=>((j:Int),())) e u u2 (dkT W s L F R A B) (dkT W s L F R A B) u5 lost (dkT W s L F R A B) i x p=some (e,u,u2,lost,dkT W s L F R A B,ks.foldl (fun a k=>max a (A i k-p.getD k 0)) x,p)
 | [],x,_=>rfl
 | k::ks,x,hk=>by
  have hk0:=hk k (by simp)
  have ih:=U8 hF hp hpb hA hi (e:=e) (u:=u) (u2:=u2) (u5:=u5) (lost:=lost) ks (max x (A i k-p.getD k 0)) (fun y hy=>hk y (by simp[hy]))
  have b1:=hpb k
  have b2:=hA i k
  rw[List.map_cons,List.foldl_cons,prices_l3,Ev]
  dsimp only
  rw[Ag (by omega),Ag (by omega)]
  simp only[Int.toNat_natCast]
  rw[Pt hi (by omega),Ag (by omega),C1 0 (by omega),A3 (by omega),ih]
theorem Va(h:Fine W s L F R){e:Int}:∀(n i:Nat),L.length<n+i→i≤L.length→prices_l2 N n e L.length i ((List.range i).map (qI W s L F)) (dkO W s L F R) ((List.range F.length).map (pK W s L F))=some ((List.range L.length).map (qI W s L F),(List.range F.length).map (pK W s L F))
 | 0,i,hn,_=>by omega
 | n+1,i,hn,hi=>by
  unfold prices_l2
  have hl6:=h.l6;have hf6:=h.f6
  by_cases c:i<L.length
  ·have ih:=Va h (e:=e) n (i+1) (by omega) (by omega)
   rw[A9,Xw]at ih
   have em:I9 N (dkO W s L F R) (i:Int)=some (dkO W s L F R,dkO W s L F R,(i:Int)):=rfl
   rw[A2 (by omega),em]
   simp only[Option.bind_some]
   unfold dkO
   rw[Tt hf6 (by omega)]
   simp only[Option.bind_some]
   unfold mayE
   rw[U8 hf6 (Io _ _) (fun k=>by
    by_cases hk:k<F.length
    ·rw[Mq hk];exact Rj h k
    ·have:((List.range F.length).map (pK W s L F)).getD k 0=0:=by simp[List.getD,hk]
     omega) (Al h) (by omega) _ _ (fun k hk=>(B1.1 hk).1)]
   simp only[Option.bind_some]
   have e2:(mayL (canT (agF W L F) (slF W L F) s) F.length i).foldl (fun a k=>max a (agF W L F i k-((List.range F.length).map (pK W s L F)).getD k 0)) 0=qI W s L F i:=by
    unfold qI
    have:∀(l:List Nat) (a:Int),(∀k∈l,k<F.length)→l.foldl (fun a k=>max a (agF W L F i k-((List.range F.length).map (pK W s L F)).getD k 0)) a=l.foldl (fun a k=>max a (agF W L F i k-pK W s L F k)) a:=by
     intro l
     induction l with
     | nil=>intro a _;rfl
     | cons x l ihl=>
      intro a hl
      rw[List.foldl_cons,List.foldl_cons,Mq (hl x (by simp)),ihl _ (fun k hk=>hl k (by simp[hk]))]
    exact this _ _ (fun k hk=>(B1.1 hk).1)
   rw[e2,Ay (by simp;omega),A3 (by omega)]
   exact ih
  ·obtain rfl:i=L.length:=by omega
   rw[A1 (by omega)]
theorem Anj(hN:110≤N)(h:Sm W L F R):Qp N W s L F R=some (if errD W s L F R=0 then((List.range L.length).map (qI W s L F),(List.range F.length).map (pK W s L F),0)else([],[],errD W s L F R)):=by
 unfold Qp
 rw[Bo hN h]
 by_cases c:errD W s L F R=0
 rotate_left
 ·rw[if_neg c,if_neg c]
  simp only[Option.bind_some]
  rw[A8 c]
 have hF:=Ac.1 c
 have hl6:=hF.l6;have hf6:=hF.f6
 rw[if_pos c,if_pos c]
 simp only[Option.bind_some]
 rw[A6 (by first | trivial | rfl)]
 have e0:=Fv (N:=N) (W:=W) (s:=s) (R:=R) (B:=slF W L F) hN hf6 hl6 (Al hF) (u:=0) (by omega)
 rw[show((0:Nat):Int)=0 from rfl]at e0
 have e1:=Us hN hF (e:=0) N 0 (by omega) (by omega)
 have e2:=Va (N:=N) hF (e:=0) N 0 (by omega) (by omega)
 rw[show((0:Nat):Int)=0 from rfl,List.range_zero,List.map_nil]at e1 e2
 rw[show C0 N (dkO W s L F R) 0=_ from e0]
 simp only[Option.bind_some]
 rw[show prices_l1 N N 0 (rsR (canT (agF W L F) (slF W L F) s) (agF W L F) F.length L.length 0 0).2.1 F.length 0 W s L F R (dkO W s L F R) []=_ from e1]
 simp only[Option.bind_some]
 rw[e2];rfl
theorem A59(h:Fine W s L F R):shR 0 L.length F.length (canF W s L F) (agF W L F) ((List.range L.length).map (qI W s L F)) ((List.range F.length).map (pK W s L F))=(Au W s L F,0):=by
 have hq:∀x∈(List.range L.length).map (qI W s L F),0≤x∧x≤999:=fun x hx=>by
  obtain⟨i,_,rfl⟩:=List.mem_map.1 hx
  have:=Aba h i;omega
 have hp:∀x∈(List.range F.length).map (pK W s L F),0≤x∧x≤999:=fun x hx=>by
  obtain⟨i,_,rfl⟩:=List.mem_map.1 hx
  have:=Rj h i;omega
 have a1:((List.range L.length).map (qI W s L F)).all okp=true:=by rw[List.all_eq_true];exact fun x hx=>by unfold okp;rw[decide_eq_true_eq];exact hq x hx
 have a2:((List.range F.length).map (pK W s L F)).all okp=true:=by rw[List.all_eq_true];exact fun x hx=>by unfold okp;rw[decide_eq_true_eq];exact hp x hx
 have a3:alI (okS (canF W s L F) (agF W L F) F.length ((List.range L.length).map (qI W s L F)) ((List.range F.length).map (pK W s L F))) ((List.range L.length).map (qI W s L F)).length=true:=by
  rw[Mi,Io]
  intro i hi
  unfold okS
  rw[List.all_eq_true]
  intro k hk
  obtain⟨k1,k2⟩:=B1.1 hk
  rw[decide_eq_true_eq,Mq hi,Mq k1]
  have:=(Gy (f:=fun k=>agF W L F i k-pK W s L F k) (mayL (canF W s L F) F.length i) 0).2.1 k hk
  have e:qI W s L F i=(mayL (canF W s L F) F.length i).foldl (fun a k=>max a (agF W L F i k-pK W s L F k)) 0:=rfl
  omega
 obtain⟨J,hJ,_,hV⟩:=(A5q (W:=W) (s:=s) (L:=L) (F:=F)).ex
 have hs:=Af6 (p:=pK W s L F) (q:=qI W s L F) hJ hV (fun J hJ=>(A5q (W:=W) (s:=s) (L:=L) (F:=F)).le J hJ (fun _ hf=>hf.elim)) (fun k _=>Af5 (W:=W) (s:=s) (L:=L) (F:=F) k) (fun k _=>rfl) (fun i _=>(Aba h i).1)
  (fun i k _ hk hc=>(Gy (f:=fun k=>agF W L F i k-pK W s L F k) (mayL (canF W s L F) F.length i) 0).2.1 k (B1.2 ⟨hk,hc⟩)) (fun i _=>by
   rcases(Gy (f:=fun k=>agF W L F i k-pK W s L F k) (mayL (canF W s L F) F.length i) 0).2.2 with e | ⟨k,hk,e⟩
   ·exact .inl e
   ·obtain⟨k1,k2⟩:=B1.1 hk
    exact .inr ⟨k,k1,k2,e⟩)
 unfold shR
 rw[if_neg (by simp),if_neg (by rw[Io];simp),if_neg (by rw[Io];simp),if_neg (by rw[a1];simp),if_neg (by rw[a2];simp),if_neg (by rw[a3];simp),Z1,Z1,hs]
theorem Acy(t:Int):Ou N W s L F R t=some true∨(Ou N W s L F R t=some false∧((L.length:Int)≤t∨6<(L.length:Int))∧((F.length:Int)≤t∨6<(F.length:Int))):=by
 unfold Ou
 by_cases c1:t<(L.length:Int)
 ·rw[A2 c1]
  by_cases c2:(L.length:Int)≤6
  ·rw[A2 c2];exact .inl rfl
  ·rw[A1 c2]
   by_cases c3:t<(F.length:Int)
   ·rw[A2 c3]
    by_cases c4:(F.length:Int)≤6
    ·rw[decide_eq_true c4];exact .inl rfl
    ·rw[decide_eq_false c4];exact .inr ⟨rfl,by omega,by omega⟩
   ·rw[A1 c3];exact .inr ⟨rfl,by omega,by omega⟩
 ·rw[A1 c1]
  by_cases c3:t<(F.length:Int)
  ·rw[A2 c3]
   by_cases c4:(F.length:Int)≤6
   ·rw[decide_eq_true c4];exact .inl rfl
   ·rw[decide_eq_false c4];exact .inr ⟨rfl,by omega,by omega⟩
  ·rw[A1 c3];exact .inr ⟨rfl,by omega,by omega⟩
theorem Ti{a b:Nat}(ha:a≤4)(hb:b≤4):(a+1) ^ b≤625:=by
 have h1:(a+1) ^ b≤5 ^ b:=Nat.pow_le_pow_left (by omega) b
 have h2:5 ^ b≤5 ^ 4:=Nat.pow_le_pow_right (by omega) hb
 omega
end
end Go.Proofs.YthncjilcflilcaaGreat

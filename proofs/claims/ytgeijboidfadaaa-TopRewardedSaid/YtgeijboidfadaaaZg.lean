/-
  Parts of a proof, put together: PGt, PT1, PB, PFCo, PF2, PF3, PG4.
  Conditions: none.
-/
import Derived.Test.YtgeijboidfadaaaZd
import Derived.Test.YtgeijboidfadaaaZf
namespace Go.Proofs.Ytgeijboidfadaaa.Fe
set_option linter.all false
open Go

structure PJ (a c:Nat) (J R:List Int):Prop where
 a4:a≤4
 c4:c≤4
 jl:J.length=a
 rl:R.length=a
 jr:∀i,i<a→J.getD i 0=-1∨(0≤J.getD i 0∧J.getD i 0<(c:Int))
 jd:∀i k,i<k→k<a→J.getD k 0≠-1→J.getD i 0≠J.getD k 0
 rr:∀i,0≤R.getD i 0∧R.getD i 0≤99
structure BJ (a c:Nat) (J R:List Int) (k:Nat) (b:List Int):Prop where
 n:b.length=a+c
 lo:∀p,p<a→b.getD p 0=if p<k∧J.getD p 0≠-1 then-R.getD p 0 else 0
 hi0:∀q:Nat,q<c→(∀i,i<k→J.getD i 0≠(q:Int))→b.getD (a+q) 0=0
 hi1:∀i,i<k→0≤J.getD i 0→b.getD (a+(J.getD i 0).toNat) 0=R.getD i 0
 s:b.sum=0
theorem Afv:∀(l:List Int) (i:Nat) (x:Int),i<l.length→(l.set i x).sum=l.sum-l.getD i 0+x
 | [],i,x,h=>by simp at h
 | y::l,0,x,h=>by simp only[List.set_cons_zero,List.sum_cons,List.getD_cons_zero];omega
 | y::l,i+1,x,h=>by
  simp only[List.set_cons_succ,List.sum_cons,List.getD_cons_succ]
  rw[Afv l i x (by simpa using h)];omega
section
variable {a c k:Nat} {J R b:List Int}
theorem BJ.start:BJ a c J R 0 (List.replicate (a+c) 0):=by
 have hg:∀p,(List.replicate (a+c) (0:Int)).getD p 0=0:=fun p=>by
  rw[List.getD_eq_getElem?_getD,List.getElem?_replicate];split<;>rfl
 refine⟨by simp,fun p _=>by rw[hg,if_neg (by omega)],fun q _ _=>hg _,fun i hi=>by omega,by simp⟩
theorem BJ.skip(h:BJ a c J R k b)(hk:k<a)(hj:J.getD k 0=-1):BJ a c J R (k+1) b:=by
 refine⟨h.n,fun p hp=>?_,fun q hq hn=>h.hi0 q hq (fun i hi=>hn i (by omega)),fun i hi h0=>?_,h.s⟩
 ·rw[h.lo p hp]
  by_cases e:p=k
  ·subst e;rw[if_neg (by omega),if_neg (by omega)]
  ·by_cases c1:p<k∧J.getD p 0≠-1
   ·rw[if_pos c1,if_pos ⟨by omega,c1.2⟩]
   ·rw[if_neg c1,if_neg (fun h2=>c1 ⟨by omega,h2.2⟩)]
 ·by_cases e:i=k
  ·subst e;omega
  ·exact h.hi1 i (by omega) h0
theorem BJ.zero(h:BJ a c J R k b)(hp:PJ a c J R)(hk:k<a)(h0:0≤J.getD k 0∧J.getD k 0<(c:Int)):b.getD k 0=0∧b.getD (a+(J.getD k 0).toNat) 0=0:=by
 refine⟨by rw[h.lo k hk,if_neg (by omega)],h.hi0 _ (by omega) (fun i hi=>?_)⟩
 have:=hp.jd i k hi hk (by omega)
 omega
theorem BJ.next(h:BJ a c J R k b)(hp:PJ a c J R)(hk:k<a)(h0:0≤J.getD k 0∧J.getD k 0<(c:Int)) :
  BJ a c J R (k+1) ((b.set k (- R.getD k 0)).set (a+(J.getD k 0).toNat) (R.getD k 0)):=by
 obtain⟨z1,z2⟩:=h.zero hp hk h0
 have hn:=h.n
 have hg:∀p,((b.set k (- R.getD k 0)).set (a+(J.getD k 0).toNat) (R.getD k 0)).getD p 0=if p=a+(J.getD k 0).toNat then R.getD k 0 else if p=k then-R.getD k 0 else b.getD p 0:=fun p=>by
  rw[Br _ _ _ _ _ (by rw[List.length_set];omega),Br _ _ _ _ _ (by omega)]
 refine⟨by simpa using hn,fun p hpl=>?_,fun q hq hno=>?_,fun i hi hi0=>?_,?_⟩
 ·rw[hg,if_neg (by omega)]
  by_cases e:p=k
  ·subst e;rw[if_pos rfl,if_pos ⟨by omega,by omega⟩]
  ·rw[if_neg e,h.lo p hpl]
   by_cases c1:p<k∧J.getD p 0≠-1
   ·rw[if_pos c1,if_pos ⟨by omega,c1.2⟩]
   ·rw[if_neg c1,if_neg (fun h2=>c1 ⟨by omega,h2.2⟩)]
 ·have:=hno k (by omega)
  rw[hg,if_neg (by omega),if_neg (by omega)]
  exact h.hi0 q hq (fun i hi=>hno i (by omega))
 ·by_cases e:i=k
  ·subst e;rw[hg,if_pos rfl]
  ·have h1:=hp.jd i k (by omega) hk (by omega)
   rw[hg,if_neg (by omega),if_neg (by omega)]
   exact h.hi1 i (by omega) hi0
 ·rw[Afv _ _ _ (by rw[List.length_set];omega),Afv _ _ _ (by omega),Br _ _ _ _ _ (by omega),if_neg (by omega),z1,z2,h.s];omega
theorem BJ.bals(h:BJ a c J R a b)(hp:PJ a c J R):Bals b:=by
 have hn:=h.n;have:=hp.a4;have:=hp.c4
 refine⟨by omega,fun x hx=>?_,h.s⟩
 obtain⟨j,hj,rfl⟩:=List.mem_iff_getElem.1 hx
 have e:b[j]=b.getD j 0:=by rw[List.getD_eq_getElem?_getD,List.getElem?_eq_getElem hj];rfl
 rw[e]
 rcases Nat.lt_or_ge j a with h1 | h1
 ·rw[h.lo j h1]
  have:=hp.rr j
  split<;>omega
 ·obtain⟨q,rfl⟩:∃q,j=a+q:=⟨j-a,by omega⟩
  by_cases hx:∃i,i<a∧J.getD i 0=(q:Int)
  ·obtain⟨i,hi,hq⟩:=hx
   have h2:=h.hi1 i hi (by omega)
   rw[hq]at h2
   have:=hp.rr i
   rw[show((q:Nat):Int).toNat=q by omega]at h2
   omega
  ·rw[h.hi0 q (by omega) (fun i hi hq=>hx ⟨i,hi,hq⟩)];omega
def F6(a:Nat)(b:List Int):List Nat:=(List.range a).filter fun l=>decide (b.getD l 0≠0)
theorem Za{l:Nat}:l∈F6 a b↔l<a∧b.getD l 0≠0:=by
 unfold F6;rw[List.mem_filter,List.mem_range,decide_eq_true_eq]
theorem Al5:(F6 a b).Nodup:=List.nodup_range.filter _
def nowA(b:List Int)(i:Nat):Gl:=(F6 i b).map fun(l:Nat)=>[(l:Int)]
def nowB(a:Nat)(J b:List Int)(k:Nat):Gl:=(F6 a b).map fun(l:Nat)=>if J.getD l 0<(k:Int)then [(l:Int),(a:Int)+J.getD l 0]else [(l:Int)]
theorem Eh(h:BJ a c J R a b)(hp:PJ a c J R){l:Nat}(hl:l∈F6 a b):l<a∧(0≤J.getD l 0∧J.getD l 0<(c:Int))∧R.getD l 0≠0∧b.getD l 0=-R.getD l 0∧b.getD (a+(J.getD l 0).toNat) 0=R.getD l 0:=by
 obtain⟨h1,h2⟩:=Za.1 hl
 have h3:=h.lo l h1
 have h4:J.getD l 0≠-1:=fun e=>by
  rw[h3,if_neg (fun hh=>hh.2 e)]at h2;exact h2 rfl
 rw[if_pos ⟨h1,h4⟩]at h3
 have h5:=hp.jr l h1
 have h6:0≤J.getD l 0∧J.getD l 0<(c:Int):=h5.resolve_left h4
 exact⟨h1,h6,by omega,h3,h.hi1 l h1 h6.1⟩
theorem rchB(h:BJ a c J R a b)(hp:PJ a c J R):∀m k,k+m=c→Rch b m (a+k) (nowB a J b k) (nowB a J b c)
 | 0,k,e=>by
  obtain rfl:k=c:=by omega
  rfl
 | m+1,k,e=>by
  have ih:=rchB h hp m (k+1) (by omega)
  by_cases z:b.getD (a+k) 0=0
  ·refine .inl ⟨z,?_⟩
   have e2:nowB a J b k=nowB a J b (k+1):=by
    unfold nowB
    apply List.map_congr_left
    intro l hl
    obtain⟨f1,f2,f3,f4,f5⟩:=Eh h hp hl
    have hne:J.getD l 0≠(k:Int):=fun e3=>by
     rw[e3,show((k:Nat):Int).toNat=k by omega,z]at f5;omega
    by_cases c1:J.getD l 0<(k:Int)
    ·rw[if_pos c1,if_pos (by omega)]
    ·rw[if_neg c1,if_neg (by omega)]
   rw[e2];exact ih
  ·refine .inr ⟨z,.inr ?_⟩
   have hx:∃i,i<a∧J.getD i 0=(k:Int):=Classical.byContradiction fun hx=>z (h.hi0 k (by omega) (fun i hi hq=>hx ⟨i,hi,hq⟩))
   obtain⟨i,hi,hq⟩:=hx
   have h1:=h.hi1 i hi (by omega)
   rw[hq,show((k:Nat):Int).toNat=k by omega]at h1
   have hiQ:i∈F6 a b:=Za.2 ⟨hi,by rw[h.lo i hi,if_pos ⟨hi,by omega⟩];omega⟩
   obtain⟨g,hg,hgi⟩:=List.mem_iff_getElem.1 hiQ
   have hl:(nowB a J b k).length=(F6 a b).length:=by simp[nowB]
   refine⟨g,by omega,?_⟩
   have hgd:(nowB a J b k).getD g []=[(i:Int)]:=by
    unfold nowB
    rw[List.getD_eq_getElem?_getD,List.getElem?_map,List.getElem?_eq_getElem hg,hgi]
    simp only[Option.map_some,Option.getD_some]
    rw[if_neg (by omega)]
   have e2:(nowB a J b k).set g ((nowB a J b k).getD g []++[((a+k:Nat):Int)])=nowB a J b (k+1):=by
    rw[hgd]
    unfold nowB
    apply List.ext_getElem (by simp)
    intro j h1 h2
    simp only[List.length_set,List.length_map]at h1
    rw[List.getElem_set,List.getElem_map,List.getElem_map]
    split
    ·rename_i e3
     subst e3
     rw[hgi,if_pos (by omega),hq]
     simp
    ·rename_i e3
     have hne:(F6 a b)[j]≠i:=fun e4=>e3 ((List.getElem_inj Al5).1 (hgi.trans e4.symm))
     obtain⟨f1,f2,-⟩:=Eh h hp (List.getElem_mem h1)
     have hJ:J.getD (F6 a b)[j] 0≠(k:Int):=fun e4=>by
      rcases Nat.lt_or_gt_of_ne hne with h5 | h5
      ·have:=hp.jd _ i h5 hi (by omega);omega
      ·have:=hp.jd i _ h5 f1 (by omega);omega
     by_cases c1:J.getD (F6 a b)[j] 0<(k:Int)
     ·rw[if_pos c1,if_pos (by omega)]
     ·rw[if_neg c1,if_neg (by omega)]
   rw[e2];exact ih
theorem rchA(h:BJ a c J R a b)(hp:PJ a c J R):∀m i,i+m=a→Rch b (m+c) i (nowA b i) (nowB a J b c)
 | 0,i,e=>by
  obtain rfl:i=a:=by omega
  have e2:nowA b i=nowB i J b 0:=by
   unfold nowA nowB
   apply List.map_congr_left
   intro l hl
   obtain⟨f1,f2,-⟩:=Eh h hp hl
   rw[if_neg (by omega)]
  rw[e2,Nat.zero_add]
  exact rchB h hp c 0 (by omega)
 | m+1,i,e=>by
  rw[show m+1+c=(m+c)+1 by omega]
  have ih:=rchA h hp m (i+1) (by omega)
  have eQ:nowA b (i+1)=if b.getD i 0=0 then nowA b i else nowA b i++[[(i:Int)]]:=by
   unfold nowA F6
   rw[List.range_succ,List.filter_append]
   by_cases z:b.getD i 0=0
   ·rw[if_pos z,List.filter_cons_of_neg (by simpa using z),List.filter_nil,List.append_nil]
   ·rw[if_neg z,List.filter_cons_of_pos (by simpa using z),List.filter_nil,List.map_append];rfl
  by_cases z:b.getD i 0=0
  ·rw[if_pos z]at eQ
   exact .inl ⟨z,by rw[←eQ];exact ih⟩
  ·rw[if_neg z]at eQ
   exact .inr ⟨z,.inl (by rw[←eQ];exact ih)⟩
theorem A01(h:BJ a c J R a b)(hp:PJ a c J R):Grps b (putF b b.length 0 [] [])∧(payA b (putF b b.length 0 [] [])).length≤(F6 a b).length∧(putF b b.length 0 [] []).length≤8:=by
 have hn:=h.n
 have hr:Rch b b.length 0 [] (nowB a J b c):=by
  have:=rchA h hp a 0 (by omega)
  rw[hn];exact this
 have hz:allZ b (nowB a J b c)=true:=by
  unfold allZ nowB
  rw[List.all_eq_true]
  intro r hr
  obtain⟨l,hl,rfl⟩:=List.mem_map.1 hr
  obtain⟨f1,f2,f3,f4,f5⟩:=Eh h hp hl
  rw[if_pos (by omega)]
  refine decide_eq_true ?_
  rw[grpS,grpS,grpS,show((l:Nat):Int).toNat=l by omega,show((a:Int)+J.getD l 0).toNat=a+(J.getD l 0).toNat by omega,f4,f5];omega
 have hT:GP b b.length (nowB a J b c):=by
  have:=A7y b.length 0 [] _ hr ⟨fun r hr=>(by cases hr),by simp[nzL]⟩
  rwa [Nat.zero_add]at this
 have hmax:=X2 b.length 0 [] [] _ hr hz
 have hTl:(nowB a J b c).length=(F6 a b).length:=by simp[nowB]
 have hTf:(nowB a J b c).flatten.length=2*(F6 a b).length:=by
  have:∀Q:List Nat,(∀l∈Q,J.getD l 0<(c:Int))→((Q.map fun(l:Nat)=>if J.getD l 0<(c:Int)then [(l:Int),(a:Int)+J.getD l 0]else [(l:Int)]).flatten).length=2*Q.length:=by
   intro Q
   induction Q with
   | nil=>intro _;rfl
   | cons l Q ih=>
    intro hQ
    rw[List.map_cons,List.flatten_cons,List.length_append,ih (fun x hx=>hQ x (List.mem_cons_of_mem _ hx)),if_pos (hQ l (List.mem_cons_self ..))]
    simp only[List.length_cons,List.length_nil];omega
  exact this _ (fun l hl=>(Eh h hp hl).2.1.2)
 have hnz:(nzL b b.length).length=2*(F6 a b).length:=by rw[←hT.pm.length_eq,hTf]
 have hnl:(nzL b b.length).length≤b.length:=by
  unfold nzL;rw[List.length_map];exact Nat.le_trans (List.length_filter_le _ _) (by simp)
 have h8:=(h.bals hp).n
 generalize hG:putF b b.length 0 [] []=G at hmax ⊢
 have hg:Grps b G:=by
  rcases Wx b.length 0 [] []with h1 | ⟨h1,h2⟩
  ·rw[hG]at h1
   subst h1
   have hQ0:(F6 a b).length=0:=by
    have:(nowB a J b c).length≤0:=hmax
    omega
   refine⟨⟨fun r hr=>(by cases hr),?_⟩,rfl⟩
   have:nzL b b.length=[]:=List.eq_nil_of_length_eq_zero (by omega)
   rw[this];simp
  ·rw[hG]at h1 h2
   have:=A7y b.length 0 [] _ h1 ⟨fun r hr=>(by cases hr),by simp[nzL]⟩
   rw[Nat.zero_add]at this
   exact⟨this,h2⟩
 have hf:G.flatten.length=(nzL b b.length).length:=hg.gp.pm.length_eq
 have hpl:=Ana (bal:=b) G hg.gp.ne
 exact⟨hg,by omega,by omega⟩
theorem B0p(h:BJ a c J R a b)(hp:PJ a c J R)(j:Nat):dlt j (payA b (putF b b.length 0 [] []))=-b.getD j 0:=by
 obtain⟨hg,-,-⟩:=A01 h hp
 generalize putF b b.length 0 [] []=G at hg ⊢
 rw[Ai1 (j:Int) G (fun r hr=>⟨(hg.mem hr).1,(hg.mem hr).2.2.1⟩) (hg.gp.pm.nodup_iff.2 (Abd _))]
 by_cases e:(j:Int)∈G.flatten
 ·rw[if_pos e,show((j:Nat):Int).toNat=j by omega]
 ·rw[if_neg e]
  have h1:¬(j:Int)∈nzL b b.length:=fun h2=>e (hg.gp.pm.mem_iff.2 h2)
  have h2:b.getD j 0=0:=Classical.byContradiction fun h3=>by
   rcases Nat.lt_or_ge j b.length with h4 | h4
   ·exact h1 (As3.2 ⟨j,rfl,h4,h3⟩)
   ·rw[List.getD_eq_getElem?_getD,List.getElem?_eq_none h4]at h3;exact h3 rfl
  rw[h2]
theorem filter_le{α:Type}(p q:α→Bool):∀l:List α,(∀x∈l,p x=true→q x=true)→(l.filter p).length≤(l.filter q).length
 | [],_=>by simp
 | x::l,h=>by
  have ih:=filter_le p q l (fun y hy=>h y (List.mem_cons_of_mem _ hy))
  have h1:=h x (List.mem_cons_self ..)
  rw[List.filter_cons,List.filter_cons]
  by_cases c1:p x=true
  ·rw[if_pos c1,if_pos (h1 c1)];simp only[List.length_cons];omega
  ·rw[if_neg c1]
   split
   ·simp only[List.length_cons];omega
   ·exact ih
end
end Go.Proofs.Ytgeijboidfadaaa.Fe

namespace Go.Proofs.Ytgeijboidfadaaa.Tx
set_option linter.all false
open Go

def Ap(N:Nat)(n:Int)(lo:Int)(hi:Int):Option Bool:=
 br (decide (lo≤n))
  (some (decide (n≤hi)))
  (some false)
noncomputable def Hv(N:Nat):List Spec:=[]
theorem Mh(N:Nat):AllP (A0 Try.prog) (Hv N):=trivial
noncomputable def A44:Code:=(Try.f142.body).getD .skip
noncomputable abbrev I9:Body:={ c:=A44,n:=15,res:=[.tmp 6],outs:=[⟨[.b],[]⟩],m0:=0 }
abbrev I6:altD I9.outs→Option Bool:=fun r=>some r.1.1
abbrev Iq:Sta:=⟨[0,1,2],⟨[.i .i64,.i .i64,.i .i64],[]⟩⟩
theorem Ts(N:Nat)(n:Int)(lo:Int)(hi:Int):ev (Z:=Bool) Try.prog (Hv N) I9 [] [] (some I6) 400 false [.c [0],.c [1]] (stL Iq ((n,lo,hi,()),())) (stH Iq ((n,lo,hi,()),()))=Ap N n lo hi:=by kernel_rfl
noncomputable def Bb(N:Nat):Spec:={ f:=142,ins:=⟨[.i .i64,.i .i64,.i .i64],[]⟩,outs:=[⟨[.b],[]⟩],run:=fun p k=>(Ap N p.1.1 p.1.2.1 p.1.2.2.1).bind fun r=>k ((r,()),()) }
theorem Am(N:Nat):A0 Try.prog (Bb N):=A1 (B:=I9) (loops:=[]) (leaves:=[]) (fun p=>Ap N p.1.1 p.1.2.1 p.1.2.2.1) (fun r=>((r,()),())) I6 (fun _ _ _=>rfl) (fun r z h=>by cases h;rfl) Try.func142 (by kernel_rfl) (by kernel_rfl) (by kernel_rfl) rfl rfl (by kernel_rfl) (fun args w=>Sem.pv_run _ _ _ (by kernel_rfl) w) (Mh N) mixed trivial (fun z E Xc hE hX hret=>trivial) (fun p=>Ts N p.1.1 p.1.2.1 p.1.2.2.1)

def Y4(N:Nat)(t:List QB)(t2:List Qe)(t3:Int)(n:Int):Option Bool:=
 chk ((t.length:Int)-1)<|
 (Ap N n 0 ((t.length:Int)-1)).bind fun x_1=>
 some x_1
noncomputable def Asd(N:Nat):List Spec:=[Bb N]
theorem Azl(N:Nat):AllP (A0 Try.prog) (Asd N):=⟨Am N,trivial⟩
noncomputable def B6j:Code:=(Try.f147.body).getD .skip
noncomputable abbrev Aq4:Body:={ c:=B6j,n:=11,res:=[.tmp 4],outs:=[⟨[.b],[]⟩],m0:=0 }
abbrev Atn:altD Aq4.outs→Option Bool:=fun r=>some r.1.1
abbrev Auo:Sta:=⟨[0,1],⟨[.agg [.sl Qw,.sl Qf,.i .i64],.i .i64],[]⟩⟩
theorem B2o(N:Nat)(t:List QB)(t2:List Qe)(t3:Int)(n:Int):ev (Z:=Bool) Try.prog (Asd N) Aq4 [] [] (some Atn) 400 false [.c [0],.c [1]] (stL Auo (((t,t2,t3,()),n,()),())) (stH Auo (((t,t2,t3,()),n,()),()))=Y4 N t t2 t3 n:=by kernel_rfl
noncomputable def Ava(N:Nat):Spec:={ f:=147,ins:=⟨[.agg [.sl Qw,.sl Qf,.i .i64],.i .i64],[]⟩,outs:=[⟨[.b],[]⟩],run:=fun p k=>(Y4 N p.1.1.1 p.1.1.2.1 p.1.1.2.2.1 p.1.2.1).bind fun r=>k ((r,()),()) }
theorem Arx(N:Nat):A0 Try.prog (Ava N):=A1 (B:=Aq4) (loops:=[]) (leaves:=[]) (fun p=>Y4 N p.1.1.1 p.1.1.2.1 p.1.1.2.2.1 p.1.2.1) (fun r=>((r,()),())) Atn (fun _ _ _=>rfl) (fun r z h=>by cases h;rfl) Try.func147 (by kernel_rfl) (by kernel_rfl) (by kernel_rfl) rfl rfl (by kernel_rfl) (fun args w=>Sem.pv_run _ _ _ (by kernel_rfl) w) (Azl N) mixed trivial (fun z E Xc hE hX hret=>trivial) (fun p=>B2o N p.1.1.1 p.1.1.2.1 p.1.1.2.2.1 p.1.2.1)

def Ao(N:Nat)(w:Int)(w2:Int)(w3:Bool):Option Bool:=
 (Ap N w 1 9).bind fun x_1=>
 br x_1
  ((Ap N w2 0 20).bind fun x_2=>
  some x_2)
  (some false)
noncomputable def Bu(N:Nat):List Spec:=[Bb N]
theorem E7(N:Nat):AllP (A0 Try.prog) (Bu N):=⟨Am N,trivial⟩
noncomputable def J8:Code:=(Try.f144.body).getD .skip
noncomputable abbrev Bk:Body:={ c:=J8,n:=11,res:=[.tmp 2],outs:=[⟨[.b],[]⟩],m0:=0 }
abbrev C2:altD Bk.outs→Option Bool:=fun r=>some r.1.1
abbrev Bx:Sta:=⟨[0],⟨[.agg [.i .i64,.i .i64,.b]],[]⟩⟩
theorem Fm(N:Nat)(w:Int)(w2:Int)(w3:Bool):ev (Z:=Bool) Try.prog (Bu N) Bk [] [] (some C2) 400 false [.c [0],.c [1]] (stL Bx (((w,w2,w3,()),()),())) (stH Bx (((w,w2,w3,()),()),()))=Ao N w w2 w3:=by kernel_rfl
noncomputable def Bo(N:Nat):Spec:={ f:=144,ins:=⟨[.agg [.i .i64,.i .i64,.b]],[]⟩,outs:=[⟨[.b],[]⟩],run:=fun p k=>(Ao N p.1.1.1 p.1.1.2.1 p.1.1.2.2.1).bind fun r=>k ((r,()),()) }
theorem Bp(N:Nat):A0 Try.prog (Bo N):=A1 (B:=Bk) (loops:=[]) (leaves:=[]) (fun p=>Ao N p.1.1.1 p.1.1.2.1 p.1.1.2.2.1) (fun r=>((r,()),())) C2 (fun _ _ _=>rfl) (fun r z h=>by cases h;rfl) Try.func144 (by kernel_rfl) (by kernel_rfl) (by kernel_rfl) rfl rfl (by kernel_rfl) (fun args w=>Sem.pv_run _ _ _ (by kernel_rfl) w) (E7 N) mixed trivial (fun z E Xc hE hX hret=>trivial) (fun p=>Fm N p.1.1.1 p.1.1.2.1 p.1.1.2.2.1)

def B7(N:Nat)(x:Int)(x2:Int)(x3:Int)(u:Qh):Option Bool:=
 (Y4 N u.1 u.2.1 u.2.2 x).bind fun x_1=>
 br x_1
  ((Y4 N u.1 u.2.1 u.2.2 x2).bind fun x_2=>
  br x_2
   ((Y4 N u.1 u.2.1 u.2.2 x3).bind fun x_3=>
   some x_3)
   (some false))
  (some false)
noncomputable def En(N:Nat):List Spec:=[Ava N]
theorem Ia(N:Nat):AllP (A0 Try.prog) (En N):=⟨Arx N,trivial⟩
noncomputable def Px:Code:=(Try.f146.body).getD .skip
noncomputable abbrev Cu:Body:={ c:=Px,n:=22,res:=[.tmp 3],outs:=[⟨[.b],[]⟩],m0:=0 }
abbrev Ef:altD Cu.outs→Option Bool:=fun r=>some r.1.1
abbrev Eo:Sta:=⟨[0,1],⟨[.agg [.i .i64,.i .i64,.i .i64],.fe Qi],[]⟩⟩
theorem L4(N:Nat)(x:Int)(x2:Int)(x3:Int)(u:Qh):ev (Z:=Bool) Try.prog (En N) Cu [] [] (some Ef) 400 false [.c [0],.c [1]] (stL Eo (((x,x2,x3,()),u,()),())) (stH Eo (((x,x2,x3,()),u,()),()))=B7 N x x2 x3 u:=by kernel_rfl
noncomputable def Em(N:Nat):Spec:={ f:=146,ins:=⟨[.agg [.i .i64,.i .i64,.i .i64],.fe Qi],[]⟩,outs:=[⟨[.b],[]⟩],run:=fun p k=>(B7 N p.1.1.1 p.1.1.2.1 p.1.1.2.2.1 p.1.2.1).bind fun r=>k ((r,()),()) }
theorem F3(N:Nat):A0 Try.prog (Em N):=A1 (B:=Cu) (loops:=[]) (leaves:=[]) (fun p=>B7 N p.1.1.1 p.1.1.2.1 p.1.1.2.2.1 p.1.2.1) (fun r=>((r,()),())) Ef (fun _ _ _=>rfl) (fun r z h=>by cases h;rfl) Try.func146 (by kernel_rfl) (by kernel_rfl) (by kernel_rfl) rfl rfl (by kernel_rfl) (fun args w=>Sem.pv_run _ _ _ (by kernel_rfl) w) (Ia N) mixed trivial (fun z E Xc hE hX hret=>trivial) (fun p=>L4 N p.1.1.1 p.1.1.2.1 p.1.1.2.2.1 p.1.2.1)

def Cx(N:Nat)(x:Int)(x2:Int)(x3:Int):Option Bool:=
 some (decide (x2≤x3))
noncomputable def M3(N:Nat):List Spec:=[]
theorem Tk(N:Nat):AllP (A0 Try.prog) (M3 N):=trivial
noncomputable def A71:Code:=(Try.f148.body).getD .skip
noncomputable abbrev Hz:Body:={ c:=A71,n:=10,res:=[.tmp 2],outs:=[⟨[.b],[]⟩],m0:=0 }
abbrev M4:altD Hz.outs→Option Bool:=fun r=>some r.1.1
abbrev Kr:Sta:=⟨[0],⟨[.agg [.i .i64,.i .i64,.i .i64]],[]⟩⟩
theorem Xf(N:Nat)(x:Int)(x2:Int)(x3:Int):ev (Z:=Bool) Try.prog (M3 N) Hz [] [] (some M4) 400 false [.c [0],.c [1]] (stL Kr (((x,x2,x3,()),()),())) (stH Kr (((x,x2,x3,()),()),()))=Cx N x x2 x3:=by kernel_rfl
noncomputable def Lb(N:Nat):Spec:={ f:=148,ins:=⟨[.agg [.i .i64,.i .i64,.i .i64]],[]⟩,outs:=[⟨[.b],[]⟩],run:=fun p k=>(Cx N p.1.1.1 p.1.1.2.1 p.1.1.2.2.1).bind fun r=>k ((r,()),()) }
theorem My(N:Nat):A0 Try.prog (Lb N):=A1 (B:=Hz) (loops:=[]) (leaves:=[]) (fun p=>Cx N p.1.1.1 p.1.1.2.1 p.1.1.2.2.1) (fun r=>((r,()),())) M4 (fun _ _ _=>rfl) (fun r z h=>by cases h;rfl) Try.func148 (by kernel_rfl) (by kernel_rfl) (by kernel_rfl) rfl rfl (by kernel_rfl) (fun args w=>Sem.pv_run _ _ _ (by kernel_rfl) w) (Tk N) mixed trivial (fun z E Xc hE hX hret=>trivial) (fun p=>Xf N p.1.1.1 p.1.1.2.1 p.1.1.2.2.1)

def Cw(N:Nat)(x:Int)(x2:Int)(x3:Int):Option Bool:=
 (Ap N x x2 x3).bind fun x_1=>
 some (!x_1)
noncomputable def Kv(N:Nat):List Spec:=[Bb N]
theorem Uk(N:Nat):AllP (A0 Try.prog) (Kv N):=⟨Am N,trivial⟩
noncomputable def A5k:Code:=(Try.f149.body).getD .skip
noncomputable abbrev Iu:Body:={ c:=A5k,n:=13,res:=[.tmp 2],outs:=[⟨[.b],[]⟩],m0:=0 }
abbrev M6:altD Iu.outs→Option Bool:=fun r=>some r.1.1
abbrev Kt:Sta:=⟨[0],⟨[.agg [.i .i64,.i .i64,.i .i64]],[]⟩⟩
theorem Zd(N:Nat)(x:Int)(x2:Int)(x3:Int):ev (Z:=Bool) Try.prog (Kv N) Iu [] [] (some M6) 400 false [.c [0],.c [1]] (stL Kt (((x,x2,x3,()),()),())) (stH Kt (((x,x2,x3,()),()),()))=Cw N x x2 x3:=by kernel_rfl
noncomputable def M0(N:Nat):Spec:={ f:=149,ins:=⟨[.agg [.i .i64,.i .i64,.i .i64]],[]⟩,outs:=[⟨[.b],[]⟩],run:=fun p k=>(Cw N p.1.1.1 p.1.1.2.1 p.1.1.2.2.1).bind fun r=>k ((r,()),()) }
theorem N7(N:Nat):A0 Try.prog (M0 N):=A1 (B:=Iu) (loops:=[]) (leaves:=[]) (fun p=>Cw N p.1.1.1 p.1.1.2.1 p.1.1.2.2.1) (fun r=>((r,()),())) M6 (fun _ _ _=>rfl) (fun r z h=>by cases h;rfl) Try.func149 (by kernel_rfl) (by kernel_rfl) (by kernel_rfl) rfl rfl (by kernel_rfl) (fun args w=>Sem.pv_run _ _ _ (by kernel_rfl) w) (Uk N) mixed trivial (fun z E Xc hE hX hret=>trivial) (fun p=>Zd N p.1.1.1 p.1.1.2.1 p.1.1.2.2.1)

def Cm(N:Nat)(x:Int)(x2:Int)(x3:Bool):Option Bool:=
 (Ao N x x2 x3).bind fun x_1=>
 some (!x_1)
noncomputable def I1(N:Nat):List Spec:=[Bo N]
theorem Ph(N:Nat):AllP (A0 Try.prog) (I1 N):=⟨Bp N,trivial⟩
noncomputable def Xe:Code:=(Try.f156.body).getD .skip
noncomputable abbrev Fw:Body:={ c:=Xe,n:=8,res:=[.tmp 3],outs:=[⟨[.b],[.segs [.fn 144 [] []]]⟩],m0:=1 }
abbrev Iw:altD Fw.outs→Option Bool:=fun r=>some r.1.1
abbrev Ii:Sta:=⟨[0,1],⟨[.agg [.i .i64,.i .i64,.b],.own 0 0],[.segs [.fn 144 [] []]]⟩⟩
theorem T0(N:Nat)(x:Int)(x2:Int)(x3:Bool):ev (Z:=Bool) Try.prog (I1 N) Fw [] [] (some Iw) 400 false [.c [0],.c [1]] (stL Ii (((x,x2,x3,()),(),()),((((),()),()),()))) (stH Ii (((x,x2,x3,()),(),()),((((),()),()),())))=Cm N x x2 x3:=by kernel_rfl
noncomputable def Je(N:Nat):Spec:={ f:=156,ins:=⟨[.agg [.i .i64,.i .i64,.b],.own 0 0],[.segs [.fn 144 [] []]]⟩,outs:=[⟨[.b],[.segs [.fn 144 [] []]]⟩],run:=fun p k=>(Cm N p.1.1.1 p.1.1.2.1 p.1.1.2.2.1).bind fun r=>k ((r,()),((((),()),()),())) }
theorem Kc(N:Nat):A0 Try.prog (Je N):=A1 (B:=Fw) (loops:=[]) (leaves:=[]) (fun p=>Cm N p.1.1.1 p.1.1.2.1 p.1.1.2.2.1) (fun r=>((r,()),((((),()),()),()))) Iw (fun _ _ _=>rfl) (fun r z h=>by cases h;rfl) Try.func156 (by kernel_rfl) (by kernel_rfl) (by kernel_rfl) rfl rfl (by kernel_rfl) (fun args w=>Sem.pv_run _ _ _ (by kernel_rfl) w) (Ph N) mixed trivial (fun z E Xc hE hX hret=>trivial) (fun p=>T0 N p.1.1.1 p.1.1.2.1 p.1.1.2.2.1)

def Bf(N:Nat):Nat→(List QB)→Int→Int→Option ((Int)⊕(Unit))
 | 0,_,_,_=>none
 | n_+1,s,u,u2=>
  br (decide (u2<u))
   (idx s u2 fun x_1=>
   (Cm N x_1.1 x_1.2.1 x_1.2.2).bind fun x_2=>
   br x_2
    (some (.inl u2))
    (chk (u2+1)<|
    Bf N n_ s u (u2+1)))
   (some (.inr ()))
def Ka(N:Nat)(s:List QB):Option Int:=
 (Bf N N s (s.length:Int) 0).bind fun e=>match e with
 | .inl i_3=>
  some i_3
 | .inr _=>
  some (-1)
noncomputable def Ng(N:Nat):List Spec:=[Je N]
theorem Pw(N:Nat):AllP (A0 Try.prog) (Ng N):=⟨Kc N,trivial⟩
noncomputable def Aqq:Code:=(Try.f159.body).getD .skip
noncomputable abbrev D3:Body:={ c:=Aqq,n:=19,res:=[.tmp 4],outs:=[⟨[.i .i64],[.segs [.fn 144 [] []]]⟩],m0:=1 }
abbrev Vd:altD D3.outs→Option Int:=fun r=>some r.1.1
abbrev E2:List PI:=[.c [1,0,1,0,0,0],.c [1,0,1,0,0,1],.l [1,0,1,0,0],.b 0,.c [1,1]]
abbrev C7:Sta:=⟨[0,1,7,8],⟨[.sl Qw,.fn 156 [] [.own 0 0],.i .i64,.i .i64],[.segs [.fn 144 [] []]]⟩⟩
abbrev Lk(rec:(List QB)→Int→Int→Option ((Int)⊕(Unit))):Leaf ((Int)⊕(Unit)):=⟨E2,C7,fun p=>rec p.1.1 p.1.2.2.1 p.1.2.2.2.1⟩
abbrev It:Leaf ((Int)⊕(Unit)):=⟨[.c [1,0,1,0,0,1,1,0,0,1,1,0,0],.c [1,0,1,0,0,1,1,0,0,1,1,0,1],.b 1,.c [1,0,1,0,0,1,1,1],.l [1,0,1,0,0],.b 0,.c [1,1]],⟨[5],⟨[.i .i64],[.segs [.fn 144 [] []]]⟩⟩,fun p=>some (.inl p.1.1)⟩
abbrev Jc:Leaf ((Int)⊕(Unit)):=⟨[.c [1,1,0],.c [1,1,1]],⟨[],⟨[],[.segs [.fn 144 [] []]]⟩⟩,fun p=>some (.inr ())⟩
noncomputable def Fp(N:Nat):Ai:={ at_:=E2,sta:=C7,exits:=[([.c [1,0,1,0,0,1,1,0,0,1,1,0,0],.c [1,0,1,0,0,1,1,0,0,1,1,0,1],.b 1,.c [1,0,1,0,0,1,1,1],.l [1,0,1,0,0],.b 0,.c [1,1]],⟨[5],⟨[.i .i64],[.segs [.fn 144 [] []]]⟩⟩),([.c [1,1,0],.c [1,1,1]],⟨[],⟨[],[.segs [.fn 144 [] []]]⟩⟩)],run:=fun p k=>(Bf N N p.1.1 p.1.2.2.1 p.1.2.2.2.1).bind fun e=>match e with | .inl x=>k (.inl ((x,()),((((),()),()),()))) | .inr x=>k (.inr (.inl ((),((((),()),()),())))) }
theorem Uf(N n_:Nat)(s:List QB)(u:Int)(u2:Int):ev (Z:=(Int)⊕(Unit)) Try.prog (Ng N) D3 [] [Lk (Bf N n_),It,Jc] none 400 true E2 (stL C7 ((s,((),((),())),u,u2,()),((((),()),()),()))) (stH C7 ((s,((),((),())),u,u2,()),((((),()),()),())))=Bf N (n_+1) s u u2:=by kernel_rfl
theorem Tt(N:Nat){top:Bool}:Ab Try.prog D3.c D3.n D3.m0 top (Fp N):=A3 (Z:=(Int)⊕(Unit)) (N:=N) (fun m p=>Bf N m p.1.1 p.1.2.2.1 p.1.2.2.2.1) (fun e=>match e with | .inl x=>.inl ((x,()),((((),()),()),())) | .inr x=>.inr (.inl ((),((((),()),()),())))) (fun _ p k=>A9 (Bf N N p.1.1 p.1.2.2.1 p.1.2.2.2.1) _ _ (fun e=>by rcases e with x | x<;>rfl)) (fun _=>rfl) (fun m z E Xc hE hX hrec hx=>A2 (B:=D3) (loops:=[]) (leaves:=[Lk (Bf N m),It,Jc]) (Pw N) mixed trivial hE hX ⟨hrec,(fun p hp=>by obtain rfl:=Option.some.inj hp;exact hx),(fun p hp=>by obtain rfl:=Option.some.inj hp;exact hx),trivial⟩ Aa.no (fun p=>Uf N m p.1.1 p.1.2.2.1 p.1.2.2.2.1))
abbrev Vk:Sta:=⟨[0,1],⟨[.sl Qw,.fn 156 [] [.own 0 0]],[.segs [.fn 144 [] []]]⟩⟩
theorem Ag4(N:Nat)(s:List QB):ev (Z:=Int) Try.prog (Ng N) D3 [Fp N] [] (some Vd) 400 false [.c [0],.c [1]] (stL Vk ((s,((),((),())),()),((((),()),()),()))) (stH Vk ((s,((),((),())),()),((((),()),()),())))=Ka N s:=by kernel_rfl
noncomputable def V0(N:Nat):Spec:={ f:=159,ins:=⟨[.sl Qw,.fn 156 [] [.own 0 0]],[.segs [.fn 144 [] []]]⟩,outs:=[⟨[.i .i64],[.segs [.fn 144 [] []]]⟩],run:=fun p k=>(Ka N p.1.1).bind fun r=>k ((r,()),((((),()),()),())) }
theorem Ug(N:Nat):A0 Try.prog (V0 N):=A1 (B:=D3) (loops:=[Fp N]) (leaves:=[]) (fun p=>Ka N p.1.1) (fun r=>((r,()),((((),()),()),()))) Vd (fun _ _ _=>rfl) (fun r z h=>by cases h;rfl) Try.func159 (by kernel_rfl) (by kernel_rfl) (by kernel_rfl) rfl rfl (by kernel_rfl) (fun args w=>Sem.pv_run _ _ _ (by kernel_rfl) w) (Pw N) mixed ⟨Tt N,trivial⟩ (fun z E Xc hE hX hret=>trivial) (fun p=>Ag4 N p.1.1)

def Ko(N:Nat)(s:List QB):Option Bool:=
 (Ka N s).bind fun x_1=>
 some (decide (0≤x_1))
noncomputable def Wn(N:Nat):List Spec:=[V0 N]
theorem A3g(N:Nat):AllP (A0 Try.prog) (Wn N):=⟨Ug N,trivial⟩
noncomputable def Apx:Code:=(Try.f155.body).getD .skip
noncomputable abbrev T9:Body:={ c:=Apx,n:=9,res:=[.tmp 4],outs:=[⟨[.b],[.segs [.fn 144 [] []]]⟩],m0:=1 }
abbrev Xb:altD T9.outs→Option Bool:=fun r=>some r.1.1
abbrev Ws:Sta:=⟨[0,1],⟨[.sl Qw,.fn 156 [] [.own 0 0]],[.segs [.fn 144 [] []]]⟩⟩
theorem Aff(N:Nat)(s:List QB):ev (Z:=Bool) Try.prog (Wn N) T9 [] [] (some Xb) 400 false [.c [0],.c [1]] (stL Ws ((s,((),((),())),()),((((),()),()),()))) (stH Ws ((s,((),((),())),()),((((),()),()),())))=Ko N s:=by kernel_rfl
noncomputable def X5(N:Nat):Spec:={ f:=155,ins:=⟨[.sl Qw,.fn 156 [] [.own 0 0]],[.segs [.fn 144 [] []]]⟩,outs:=[⟨[.b],[.segs [.fn 144 [] []]]⟩],run:=fun p k=>(Ko N p.1.1).bind fun r=>k ((r,()),((((),()),()),())) }
theorem T3(N:Nat):A0 Try.prog (X5 N):=A1 (B:=T9) (loops:=[]) (leaves:=[]) (fun p=>Ko N p.1.1) (fun r=>((r,()),((((),()),()),()))) Xb (fun _ _ _=>rfl) (fun r z h=>by cases h;rfl) Try.func155 (by kernel_rfl) (by kernel_rfl) (by kernel_rfl) rfl rfl (by kernel_rfl) (fun args w=>Sem.pv_run _ _ _ (by kernel_rfl) w) (A3g N) mixed trivial (fun z E Xc hE hX hret=>trivial) (fun p=>Aff N p.1.1)

def D1(N:Nat)(l:List QB):Option Bool:=
 (Ko N l).bind fun x_1=>
 some (!x_1)
noncomputable def Lv(N:Nat):List Spec:=[X5 N]
theorem Sv(N:Nat):AllP (A0 Try.prog) (Lv N):=⟨T3 N,trivial⟩
noncomputable def A6r:Code:=(Try.f143.body).getD .skip
noncomputable abbrev Im:Body:={ c:=A6r,n:=9,res:=[.tmp 4],outs:=[⟨[.b],[]⟩],m0:=0 }
abbrev L6:altD Im.outs→Option Bool:=fun r=>some r.1.1
abbrev Lr:Sta:=⟨[0,1],⟨[.sl Qw,.fn 144 [] []],[]⟩⟩
theorem Z1(N:Nat)(l:List QB):ev (Z:=Bool) Try.prog (Lv N) Im [] [] (some L6) 400 false [.c [0],.c [1]] (stL Lr ((l,((),()),()),())) (stH Lr ((l,((),()),()),()))=D1 N l:=by kernel_rfl
noncomputable def M9(N:Nat):Spec:={ f:=143,ins:=⟨[.sl Qw,.fn 144 [] []],[]⟩,outs:=[⟨[.b],[]⟩],run:=fun p k=>(D1 N p.1.1).bind fun r=>k ((r,()),()) }
theorem Nb(N:Nat):A0 Try.prog (M9 N):=A1 (B:=Im) (loops:=[]) (leaves:=[]) (fun p=>D1 N p.1.1) (fun r=>((r,()),())) L6 (fun _ _ _=>rfl) (fun r z h=>by cases h;rfl) Try.func143 (by kernel_rfl) (by kernel_rfl) (by kernel_rfl) rfl rfl (by kernel_rfl) (fun args w=>Sem.pv_run _ _ _ (by kernel_rfl) w) (Sv N) mixed trivial (fun z E Xc hE hX hret=>trivial) (fun p=>Z1 N p.1.1)

def O3(N:Nat)(x:Int)(x2:Int)(x3:Int)(g:Qh):Option (Bool×Qh):=
 (B7 N x x2 x3 g).bind fun x_1=>
 some ((!x_1),g)
noncomputable def A12(N:Nat):List Spec:=[Em N]
theorem Afz(N:Nat):AllP (A0 Try.prog) (A12 N):=⟨F3 N,trivial⟩
noncomputable def Aqn:Code:=(Try.f158.body).getD .skip
noncomputable abbrev Tn:Body:={ c:=Aqn,n:=8,res:=[.tmp 3],outs:=[⟨[.b],[.segs [.fn 146 [] [.fe Qi]]]⟩],m0:=1 }
abbrev A0d:altD Tn.outs→Option (Bool×Qh):=fun r=>some (r.1.1,r.2.1.1.2.1)
abbrev Zh:Sta:=⟨[0,1],⟨[.agg [.i .i64,.i .i64,.i .i64],.own 0 0],[.segs [.fn 146 [] [.fe Qi]]]⟩⟩
theorem Ajw(N:Nat)(x:Int)(x2:Int)(x3:Int)(g:Qh):ev (Z:=Bool×Qh) Try.prog (A12 N) Tn [] [] (some A0d) 400 false [.c [0],.c [1]] (stL Zh (((x,x2,x3,()),(),()),((((),(g,())),()),()))) (stH Zh (((x,x2,x3,()),(),()),((((),(g,())),()),())))=O3 N x x2 x3 g:=by kernel_rfl
noncomputable def A1h(N:Nat):Spec:={ f:=158,ins:=⟨[.agg [.i .i64,.i .i64,.i .i64],.own 0 0],[.segs [.fn 146 [] [.fe Qi]]]⟩,outs:=[⟨[.b],[.segs [.fn 146 [] [.fe Qi]]]⟩],run:=fun p k=>(O3 N p.1.1.1 p.1.1.2.1 p.1.1.2.2.1 p.2.1.1.2.1).bind fun r=>k ((r.1,()),((((),(r.2,())),()),())) }
theorem A6k(N:Nat):A0 Try.prog (A1h N):=A1 (B:=Tn) (loops:=[]) (leaves:=[]) (fun p=>O3 N p.1.1.1 p.1.1.2.1 p.1.1.2.2.1 p.2.1.1.2.1) (fun r=>((r.1,()),((((),(r.2,())),()),()))) A0d (fun _ _ _=>rfl) (fun r z h=>by cases h;rfl) Try.func158 (by kernel_rfl) (by kernel_rfl) (by kernel_rfl) rfl rfl (by kernel_rfl) (fun args w=>Sem.pv_run _ _ _ (by kernel_rfl) w) (Afz N) mixed trivial (fun z E Xc hE hX hret=>trivial) (fun p=>Ajw N p.1.1.1 p.1.1.2.1 p.1.1.2.2.1 p.2.1.1.2.1)

def Gi(N:Nat):Nat→(List Qe)→Int→Int→(Qh)→Option ((Int×Qh)⊕(Qh))
 | 0,_,_,_,_=>none
 | n_+1,s,u,u2,f=>
  br (decide (u2<u))
   (idx s u2 fun x_1=>
   (O3 N x_1.1 x_1.2.1 x_1.2.2 f).bind fun(x_2,y_3)=>
   br x_2
    (some (.inl (u2,y_3)))
    (chk (u2+1)<|
    Gi N n_ s u (u2+1) y_3))
   (some (.inr f))
def A2a(N:Nat)(s:List Qe)(f:Qh):Option (Int×Qh):=
 (Gi N N s (s.length:Int) 0 f).bind fun e=>match e with
 | .inl (i_4,g_5)=>
  some (i_4,g_5)
 | .inr g_6=>
  some (-1,g_6)
noncomputable def A3o(N:Nat):List Spec:=[A1h N]
theorem Abs(N:Nat):AllP (A0 Try.prog) (A3o N):=⟨A6k N,trivial⟩
noncomputable def B36:Code:=(Try.f160.body).getD .skip
noncomputable abbrev Jm:Body:={ c:=B36,n:=19,res:=[.tmp 4],outs:=[⟨[.i .i64],[.segs [.fn 146 [] [.fe Qi]]]⟩],m0:=1 }
abbrev Ani:altD Jm.outs→Option (Int×Qh):=fun r=>some (r.1.1,r.2.1.1.2.1)
abbrev Oh:List PI:=[.c [1,0,1,0,0,0],.c [1,0,1,0,0,1],.l [1,0,1,0,0],.b 0,.c [1,1]]
abbrev Jz:Sta:=⟨[0,1,7,8],⟨[.sl Qf,.fn 158 [] [.own 0 0],.i .i64,.i .i64],[.segs [.fn 146 [] [.fe Qi]]]⟩⟩
abbrev A7j(rec:(List Qe)→Int→Int→(Qh)→Option ((Int×Qh)⊕(Qh))):Leaf ((Int×Qh)⊕(Qh)):=⟨Oh,Jz,fun p=>rec p.1.1 p.1.2.2.1 p.1.2.2.2.1 p.2.1.1.2.1⟩
abbrev A16:Leaf ((Int×Qh)⊕(Qh)):=⟨[.c [1,0,1,0,0,1,1,0,0,1,1,0,0],.c [1,0,1,0,0,1,1,0,0,1,1,0,1],.b 1,.c [1,0,1,0,0,1,1,1],.l [1,0,1,0,0],.b 0,.c [1,1]],⟨[5],⟨[.i .i64],[.segs [.fn 146 [] [.fe Qi]]]⟩⟩,fun p=>some (.inl (p.1.1,p.2.1.1.2.1))⟩
abbrev A00:Leaf ((Int×Qh)⊕(Qh)):=⟨[.c [1,1,0],.c [1,1,1]],⟨[],⟨[],[.segs [.fn 146 [] [.fe Qi]]]⟩⟩,fun p=>some (.inr p.2.1.1.2.1)⟩
noncomputable def T1(N:Nat):Ai:={ at_:=Oh,sta:=Jz,exits:=[([.c [1,0,1,0,0,1,1,0,0,1,1,0,0],.c [1,0,1,0,0,1,1,0,0,1,1,0,1],.b 1,.c [1,0,1,0,0,1,1,1],.l [1,0,1,0,0],.b 0,.c [1,1]],⟨[5],⟨[.i .i64],[.segs [.fn 146 [] [.fe Qi]]]⟩⟩),([.c [1,1,0],.c [1,1,1]],⟨[],⟨[],[.segs [.fn 146 [] [.fe Qi]]]⟩⟩)],run:=fun p k=>(Gi N N p.1.1 p.1.2.2.1 p.1.2.2.2.1 p.2.1.1.2.1).bind fun e=>match e with | .inl x=>k (.inl ((x.1,()),((((),(x.2,())),()),()))) | .inr x=>k (.inr (.inl ((),((((),(x,())),()),())))) }
theorem An5(N n_:Nat)(s:List Qe)(u:Int)(u2:Int)(f:Qh):ev (Z:=(Int×Qh)⊕(Qh)) Try.prog (A3o N) Jm [] [A7j (Gi N n_),A16,A00] none 400 true Oh (stL Jz ((s,((),((),())),u,u2,()),((((),(f,())),()),()))) (stH Jz ((s,((),((),())),u,u2,()),((((),(f,())),()),())))=Gi N (n_+1) s u u2 f:=by kernel_rfl
theorem Ai2(N:Nat){top:Bool}:Ab Try.prog Jm.c Jm.n Jm.m0 top (T1 N):=A3 (Z:=(Int×Qh)⊕(Qh)) (N:=N) (fun m p=>Gi N m p.1.1 p.1.2.2.1 p.1.2.2.2.1 p.2.1.1.2.1) (fun e=>match e with | .inl x=>.inl ((x.1,()),((((),(x.2,())),()),())) | .inr x=>.inr (.inl ((),((((),(x,())),()),())))) (fun _ p k=>A9 (Gi N N p.1.1 p.1.2.2.1 p.1.2.2.2.1 p.2.1.1.2.1) _ _ (fun e=>by rcases e with x | x<;>rfl)) (fun _=>rfl) (fun m z E Xc hE hX hrec hx=>A2 (B:=Jm) (loops:=[]) (leaves:=[A7j (Gi N m),A16,A00]) (Abs N) mixed trivial hE hX ⟨hrec,(fun p hp=>by obtain rfl:=Option.some.inj hp;exact hx),(fun p hp=>by obtain rfl:=Option.some.inj hp;exact hx),trivial⟩ Aa.no (fun p=>An5 N m p.1.1 p.1.2.2.1 p.1.2.2.2.1 p.2.1.1.2.1))
abbrev Ahu:Sta:=⟨[0,1],⟨[.sl Qf,.fn 158 [] [.own 0 0]],[.segs [.fn 146 [] [.fe Qi]]]⟩⟩
theorem B1w(N:Nat)(s:List Qe)(f:Qh):ev (Z:=Int×Qh) Try.prog (A3o N) Jm [T1 N] [] (some Ani) 400 false [.c [0],.c [1]] (stL Ahu ((s,((),((),())),()),((((),(f,())),()),()))) (stH Ahu ((s,((),((),())),()),((((),(f,())),()),())))=A2a N s f:=by kernel_rfl
noncomputable def Alq(N:Nat):Spec:={ f:=160,ins:=⟨[.sl Qf,.fn 158 [] [.own 0 0]],[.segs [.fn 146 [] [.fe Qi]]]⟩,outs:=[⟨[.i .i64],[.segs [.fn 146 [] [.fe Qi]]]⟩],run:=fun p k=>(A2a N p.1.1 p.2.1.1.2.1).bind fun r=>k ((r.1,()),((((),(r.2,())),()),())) }
theorem An2(N:Nat):A0 Try.prog (Alq N):=A1 (B:=Jm) (loops:=[T1 N]) (leaves:=[]) (fun p=>A2a N p.1.1 p.2.1.1.2.1) (fun r=>((r.1,()),((((),(r.2,())),()),()))) Ani (fun _ _ _=>rfl) (fun r z h=>by cases h;rfl) Try.func160 (by kernel_rfl) (by kernel_rfl) (by kernel_rfl) rfl rfl (by kernel_rfl) (fun args w=>Sem.pv_run _ _ _ (by kernel_rfl) w) (Abs N) mixed ⟨Ai2 N,trivial⟩ (fun z E Xc hE hX hret=>trivial) (fun p=>B1w N p.1.1 p.2.1.1.2.1)

def A28(N:Nat)(s:List Qe)(f:Qh):Option (Bool×Qh):=
 (A2a N s f).bind fun(x_1,y_2)=>
 some ((decide (0≤x_1)),y_2)
noncomputable def Ami(N:Nat):List Spec:=[Alq N]
theorem Awy(N:Nat):AllP (A0 Try.prog) (Ami N):=⟨An2 N,trivial⟩
noncomputable def B4h:Code:=(Try.f157.body).getD .skip
noncomputable abbrev Adx:Body:={ c:=B4h,n:=9,res:=[.tmp 4],outs:=[⟨[.b],[.segs [.fn 146 [] [.fe Qi]]]⟩],m0:=1 }
abbrev Aj1:altD Adx.outs→Option (Bool×Qh):=fun r=>some (r.1.1,r.2.1.1.2.1)
abbrev Anj:Sta:=⟨[0,1],⟨[.sl Qf,.fn 158 [] [.own 0 0]],[.segs [.fn 146 [] [.fe Qi]]]⟩⟩
theorem B1u(N:Nat)(s:List Qe)(f:Qh):ev (Z:=Bool×Qh) Try.prog (Ami N) Adx [] [] (some Aj1) 400 false [.c [0],.c [1]] (stL Anj ((s,((),((),())),()),((((),(f,())),()),()))) (stH Anj ((s,((),((),())),()),((((),(f,())),()),())))=A28 N s f:=by kernel_rfl
noncomputable def Am4(N:Nat):Spec:={ f:=157,ins:=⟨[.sl Qf,.fn 158 [] [.own 0 0]],[.segs [.fn 146 [] [.fe Qi]]]⟩,outs:=[⟨[.b],[.segs [.fn 146 [] [.fe Qi]]]⟩],run:=fun p k=>(A28 N p.1.1 p.2.1.1.2.1).bind fun r=>k ((r.1,()),((((),(r.2,())),()),())) }
theorem Anf(N:Nat):A0 Try.prog (Am4 N):=A1 (B:=Adx) (loops:=[]) (leaves:=[]) (fun p=>A28 N p.1.1 p.2.1.1.2.1) (fun r=>((r.1,()),((((),(r.2,())),()),()))) Aj1 (fun _ _ _=>rfl) (fun r z h=>by cases h;rfl) Try.func157 (by kernel_rfl) (by kernel_rfl) (by kernel_rfl) rfl rfl (by kernel_rfl) (fun args w=>Sem.pv_run _ _ _ (by kernel_rfl) w) (Awy N) mixed trivial (fun z E Xc hE hX hret=>trivial) (fun p=>B1u N p.1.1 p.2.1.1.2.1)

def Ra(N:Nat)(l:List Qe)(holds:Qh):Option Bool:=
 (A28 N l holds).bind fun(x_1,y_2)=>
 some (!x_1)
noncomputable def A8o(N:Nat):List Spec:=[Am4 N]
theorem Ai6(N:Nat):AllP (A0 Try.prog) (A8o N):=⟨Anf N,trivial⟩
noncomputable def Ax2:Code:=(Try.f145.body).getD .skip
noncomputable abbrev Yn:Body:={ c:=Ax2,n:=9,res:=[.tmp 4],outs:=[⟨[.b],[]⟩],m0:=0 }
abbrev A6q:altD Yn.outs→Option Bool:=fun r=>some r.1.1
abbrev A6s:Sta:=⟨[0,1],⟨[.sl Qf,.fn 146 [] [.fe Qi]],[]⟩⟩
theorem Ar3(N:Nat)(l:List Qe)(holds:Qh):ev (Z:=Bool) Try.prog (A8o N) Yn [] [] (some A6q) 400 false [.c [0],.c [1]] (stL A6s ((l,((),(holds,())),()),())) (stH A6s ((l,((),(holds,())),()),()))=Ra N l holds:=by kernel_rfl
noncomputable def A7p(N:Nat):Spec:={ f:=145,ins:=⟨[.sl Qf,.fn 146 [] [.fe Qi]],[]⟩,outs:=[⟨[.b],[]⟩],run:=fun p k=>(Ra N p.1.1 p.1.2.1.2.1).bind fun r=>k ((r,()),()) }
theorem A9q(N:Nat):A0 Try.prog (A7p N):=A1 (B:=Yn) (loops:=[]) (leaves:=[]) (fun p=>Ra N p.1.1 p.1.2.1.2.1) (fun r=>((r,()),())) A6q (fun _ _ _=>rfl) (fun r z h=>by cases h;rfl) Try.func145 (by kernel_rfl) (by kernel_rfl) (by kernel_rfl) rfl rfl (by kernel_rfl) (fun args w=>Sem.pv_run _ _ _ (by kernel_rfl) w) (Ai6 N) mixed trivial (fun z E Xc hE hX hret=>trivial) (fun p=>Ar3 N p.1.1 p.1.2.1.2.1)

def Nh(N:Nat)(x:Int)(x2:Int)(x3:Int):Option Bool:=
 (Cx N x x2 x3).bind fun x_1=>
 some (!x_1)
noncomputable def A0h(N:Nat):List Spec:=[Lb N]
theorem Aeo(N:Nat):AllP (A0 Try.prog) (A0h N):=⟨My N,trivial⟩
noncomputable def Are:Code:=(Try.f158.body).getD .skip
noncomputable abbrev U9:Body:={ c:=Are,n:=8,res:=[.tmp 3],outs:=[⟨[.b],[.segs [.fn 148 [] []]]⟩],m0:=1 }
abbrev A13:altD U9.outs→Option Bool:=fun r=>some r.1.1
abbrev Zo:Sta:=⟨[0,1],⟨[.agg [.i .i64,.i .i64,.i .i64],.own 0 0],[.segs [.fn 148 [] []]]⟩⟩
theorem Amj(N:Nat)(x:Int)(x2:Int)(x3:Int):ev (Z:=Bool) Try.prog (A0h N) U9 [] [] (some A13) 400 false [.c [0],.c [1]] (stL Zo (((x,x2,x3,()),(),()),((((),()),()),()))) (stH Zo (((x,x2,x3,()),(),()),((((),()),()),())))=Nh N x x2 x3:=by kernel_rfl
noncomputable def Zi(N:Nat):Spec:={ f:=158,ins:=⟨[.agg [.i .i64,.i .i64,.i .i64],.own 0 0],[.segs [.fn 148 [] []]]⟩,outs:=[⟨[.b],[.segs [.fn 148 [] []]]⟩],run:=fun p k=>(Nh N p.1.1.1 p.1.1.2.1 p.1.1.2.2.1).bind fun r=>k ((r,()),((((),()),()),())) }
theorem A5o(N:Nat):A0 Try.prog (Zi N):=A1 (B:=U9) (loops:=[]) (leaves:=[]) (fun p=>Nh N p.1.1.1 p.1.1.2.1 p.1.1.2.2.1) (fun r=>((r,()),((((),()),()),()))) A13 (fun _ _ _=>rfl) (fun r z h=>by cases h;rfl) Try.func158 (by kernel_rfl) (by kernel_rfl) (by kernel_rfl) rfl rfl (by kernel_rfl) (fun args w=>Sem.pv_run _ _ _ (by kernel_rfl) w) (Aeo N) mixed trivial (fun z E Xc hE hX hret=>trivial) (fun p=>Amj N p.1.1.1 p.1.1.2.1 p.1.1.2.2.1)

def G9(N:Nat):Nat→(List Qe)→Int→Int→Option ((Int)⊕(Unit))
 | 0,_,_,_=>none
 | n_+1,s,u,u2=>
  br (decide (u2<u))
   (idx s u2 fun x_1=>
   (Nh N x_1.1 x_1.2.1 x_1.2.2).bind fun x_2=>
   br x_2
    (some (.inl u2))
    (chk (u2+1)<|
    G9 N n_ s u (u2+1)))
   (some (.inr ()))
def A1y(N:Nat)(s:List Qe):Option Int:=
 (G9 N N s (s.length:Int) 0).bind fun e=>match e with
 | .inl i_3=>
  some i_3
 | .inr _=>
  some (-1)
noncomputable def A7d(N:Nat):List Spec:=[Zi N]
theorem Ac8(N:Nat):AllP (A0 Try.prog) (A7d N):=⟨A5o N,trivial⟩
noncomputable def B4m:Code:=(Try.f160.body).getD .skip
noncomputable abbrev Jr:Body:={ c:=B4m,n:=19,res:=[.tmp 4],outs:=[⟨[.i .i64],[.segs [.fn 148 [] []]]⟩],m0:=1 }
abbrev Amq:altD Jr.outs→Option Int:=fun r=>some r.1.1
abbrev Ox:List PI:=[.c [1,0,1,0,0,0],.c [1,0,1,0,0,1],.l [1,0,1,0,0],.b 0,.c [1,1]]
abbrev Jx:Sta:=⟨[0,1,7,8],⟨[.sl Qf,.fn 158 [] [.own 0 0],.i .i64,.i .i64],[.segs [.fn 148 [] []]]⟩⟩
abbrev A4z(rec:(List Qe)→Int→Int→Option ((Int)⊕(Unit))):Leaf ((Int)⊕(Unit)):=⟨Ox,Jx,fun p=>rec p.1.1 p.1.2.2.1 p.1.2.2.2.1⟩
abbrev A1g:Leaf ((Int)⊕(Unit)):=⟨[.c [1,0,1,0,0,1,1,0,0,1,1,0,0],.c [1,0,1,0,0,1,1,0,0,1,1,0,1],.b 1,.c [1,0,1,0,0,1,1,1],.l [1,0,1,0,0],.b 0,.c [1,1]],⟨[5],⟨[.i .i64],[.segs [.fn 148 [] []]]⟩⟩,fun p=>some (.inl p.1.1)⟩
abbrev A0z:Leaf ((Int)⊕(Unit)):=⟨[.c [1,1,0],.c [1,1,1]],⟨[],⟨[],[.segs [.fn 148 [] []]]⟩⟩,fun p=>some (.inr ())⟩
noncomputable def Tu(N:Nat):Ai:={ at_:=Ox,sta:=Jx,exits:=[([.c [1,0,1,0,0,1,1,0,0,1,1,0,0],.c [1,0,1,0,0,1,1,0,0,1,1,0,1],.b 1,.c [1,0,1,0,0,1,1,1],.l [1,0,1,0,0],.b 0,.c [1,1]],⟨[5],⟨[.i .i64],[.segs [.fn 148 [] []]]⟩⟩),([.c [1,1,0],.c [1,1,1]],⟨[],⟨[],[.segs [.fn 148 [] []]]⟩⟩)],run:=fun p k=>(G9 N N p.1.1 p.1.2.2.1 p.1.2.2.2.1).bind fun e=>match e with | .inl x=>k (.inl ((x,()),((((),()),()),()))) | .inr x=>k (.inr (.inl ((),((((),()),()),())))) }
theorem Aiv(N n_:Nat)(s:List Qe)(u:Int)(u2:Int):ev (Z:=(Int)⊕(Unit)) Try.prog (A7d N) Jr [] [A4z (G9 N n_),A1g,A0z] none 400 true Ox (stL Jx ((s,((),((),())),u,u2,()),((((),()),()),()))) (stH Jx ((s,((),((),())),u,u2,()),((((),()),()),())))=G9 N (n_+1) s u u2:=by kernel_rfl
theorem Al9(N:Nat){top:Bool}:Ab Try.prog Jr.c Jr.n Jr.m0 top (Tu N):=A3 (Z:=(Int)⊕(Unit)) (N:=N) (fun m p=>G9 N m p.1.1 p.1.2.2.1 p.1.2.2.2.1) (fun e=>match e with | .inl x=>.inl ((x,()),((((),()),()),())) | .inr x=>.inr (.inl ((),((((),()),()),())))) (fun _ p k=>A9 (G9 N N p.1.1 p.1.2.2.1 p.1.2.2.2.1) _ _ (fun e=>by rcases e with x | x<;>rfl)) (fun _=>rfl) (fun m z E Xc hE hX hrec hx=>A2 (B:=Jr) (loops:=[]) (leaves:=[A4z (G9 N m),A1g,A0z]) (Ac8 N) mixed trivial hE hX ⟨hrec,(fun p hp=>by obtain rfl:=Option.some.inj hp;exact hx),(fun p hp=>by obtain rfl:=Option.some.inj hp;exact hx),trivial⟩ Aa.no (fun p=>Aiv N m p.1.1 p.1.2.2.1 p.1.2.2.2.1))
abbrev Aij:Sta:=⟨[0,1],⟨[.sl Qf,.fn 158 [] [.own 0 0]],[.segs [.fn 148 [] []]]⟩⟩
theorem B22(N:Nat)(s:List Qe):ev (Z:=Int) Try.prog (A7d N) Jr [Tu N] [] (some Amq) 400 false [.c [0],.c [1]] (stL Aij ((s,((),((),())),()),((((),()),()),()))) (stH Aij ((s,((),((),())),()),((((),()),()),())))=A1y N s:=by kernel_rfl
noncomputable def Ai9(N:Nat):Spec:={ f:=160,ins:=⟨[.sl Qf,.fn 158 [] [.own 0 0]],[.segs [.fn 148 [] []]]⟩,outs:=[⟨[.i .i64],[.segs [.fn 148 [] []]]⟩],run:=fun p k=>(A1y N p.1.1).bind fun r=>k ((r,()),((((),()),()),())) }
theorem Ajp(N:Nat):A0 Try.prog (Ai9 N):=A1 (B:=Jr) (loops:=[Tu N]) (leaves:=[]) (fun p=>A1y N p.1.1) (fun r=>((r,()),((((),()),()),()))) Amq (fun _ _ _=>rfl) (fun r z h=>by cases h;rfl) Try.func160 (by kernel_rfl) (by kernel_rfl) (by kernel_rfl) rfl rfl (by kernel_rfl) (fun args w=>Sem.pv_run _ _ _ (by kernel_rfl) w) (Ac8 N) mixed ⟨Al9 N,trivial⟩ (fun z E Xc hE hX hret=>trivial) (fun p=>B22 N p.1.1)

def A2j(N:Nat)(s:List Qe):Option Bool:=
 (A1y N s).bind fun x_1=>
 some (decide (0≤x_1))
noncomputable def Ai3(N:Nat):List Spec:=[Ai9 N]
theorem Awh(N:Nat):AllP (A0 Try.prog) (Ai3 N):=⟨Ajp N,trivial⟩
noncomputable def B4d:Code:=(Try.f157.body).getD .skip
noncomputable abbrev Aeg:Body:={ c:=B4d,n:=9,res:=[.tmp 4],outs:=[⟨[.b],[.segs [.fn 148 [] []]]⟩],m0:=1 }
abbrev Akn:altD Aeg.outs→Option Bool:=fun r=>some r.1.1
abbrev Ail:Sta:=⟨[0,1],⟨[.sl Qf,.fn 158 [] [.own 0 0]],[.segs [.fn 148 [] []]]⟩⟩
theorem B12(N:Nat)(s:List Qe):ev (Z:=Bool) Try.prog (Ai3 N) Aeg [] [] (some Akn) 400 false [.c [0],.c [1]] (stL Ail ((s,((),((),())),()),((((),()),()),()))) (stH Ail ((s,((),((),())),()),((((),()),()),())))=A2j N s:=by kernel_rfl
noncomputable def Ahf(N:Nat):Spec:={ f:=157,ins:=⟨[.sl Qf,.fn 158 [] [.own 0 0]],[.segs [.fn 148 [] []]]⟩,outs:=[⟨[.b],[.segs [.fn 148 [] []]]⟩],run:=fun p k=>(A2j N p.1.1).bind fun r=>k ((r,()),((((),()),()),())) }
theorem Aja(N:Nat):A0 Try.prog (Ahf N):=A1 (B:=Aeg) (loops:=[]) (leaves:=[]) (fun p=>A2j N p.1.1) (fun r=>((r,()),((((),()),()),()))) Akn (fun _ _ _=>rfl) (fun r z h=>by cases h;rfl) Try.func157 (by kernel_rfl) (by kernel_rfl) (by kernel_rfl) rfl rfl (by kernel_rfl) (fun args w=>Sem.pv_run _ _ _ (by kernel_rfl) w) (Awh N) mixed trivial (fun z E Xc hE hX hret=>trivial) (fun p=>B12 N p.1.1)

def R9(N:Nat)(l:List Qe):Option Bool:=
 (A2j N l).bind fun x_1=>
 some (!x_1)
noncomputable def A8d(N:Nat):List Spec:=[Ahf N]
theorem Alk(N:Nat):AllP (A0 Try.prog) (A8d N):=⟨Aja N,trivial⟩
noncomputable def Awl:Code:=(Try.f145.body).getD .skip
noncomputable abbrev Xg:Body:={ c:=Awl,n:=9,res:=[.tmp 4],outs:=[⟨[.b],[]⟩],m0:=0 }
abbrev A2w:altD Xg.outs→Option Bool:=fun r=>some r.1.1
abbrev A4r:Sta:=⟨[0,1],⟨[.sl Qf,.fn 148 [] []],[]⟩⟩
theorem Ap2(N:Nat)(l:List Qe):ev (Z:=Bool) Try.prog (A8d N) Xg [] [] (some A2w) 400 false [.c [0],.c [1]] (stL A4r ((l,((),()),()),())) (stH A4r ((l,((),()),()),()))=R9 N l:=by kernel_rfl
noncomputable def A5g(N:Nat):Spec:={ f:=145,ins:=⟨[.sl Qf,.fn 148 [] []],[]⟩,outs:=[⟨[.b],[]⟩],run:=fun p k=>(R9 N p.1.1).bind fun r=>k ((r,()),()) }
theorem A97(N:Nat):A0 Try.prog (A5g N):=A1 (B:=Xg) (loops:=[]) (leaves:=[]) (fun p=>R9 N p.1.1) (fun r=>((r,()),())) A2w (fun _ _ _=>rfl) (fun r z h=>by cases h;rfl) Try.func145 (by kernel_rfl) (by kernel_rfl) (by kernel_rfl) rfl rfl (by kernel_rfl) (fun args w=>Sem.pv_run _ _ _ (by kernel_rfl) w) (Alk N) mixed trivial (fun z E Xc hE hX hret=>trivial) (fun p=>Ap2 N p.1.1)

def O7(N:Nat)(x:Int)(x2:Int)(x3:Int):Option Bool:=
 (Cw N x x2 x3).bind fun x_1=>
 some (!x_1)
noncomputable def A1l(N:Nat):List Spec:=[M0 N]
theorem Aed(N:Nat):AllP (A0 Try.prog) (A1l N):=⟨N7 N,trivial⟩
noncomputable def Anw:Code:=(Try.f158.body).getD .skip
noncomputable abbrev Sx:Body:={ c:=Anw,n:=8,res:=[.tmp 3],outs:=[⟨[.b],[.segs [.fn 149 [] []]]⟩],m0:=1 }
abbrev A11:altD Sx.outs→Option Bool:=fun r=>some r.1.1
abbrev A0e:Sta:=⟨[0,1],⟨[.agg [.i .i64,.i .i64,.i .i64],.own 0 0],[.segs [.fn 149 [] []]]⟩⟩
theorem Amz(N:Nat)(x:Int)(x2:Int)(x3:Int):ev (Z:=Bool) Try.prog (A1l N) Sx [] [] (some A11) 400 false [.c [0],.c [1]] (stL A0e (((x,x2,x3,()),(),()),((((),()),()),()))) (stH A0e (((x,x2,x3,()),(),()),((((),()),()),())))=O7 N x x2 x3:=by kernel_rfl
noncomputable def Zx(N:Nat):Spec:={ f:=158,ins:=⟨[.agg [.i .i64,.i .i64,.i .i64],.own 0 0],[.segs [.fn 149 [] []]]⟩,outs:=[⟨[.b],[.segs [.fn 149 [] []]]⟩],run:=fun p k=>(O7 N p.1.1.1 p.1.1.2.1 p.1.1.2.2.1).bind fun r=>k ((r,()),((((),()),()),())) }
theorem A34(N:Nat):A0 Try.prog (Zx N):=A1 (B:=Sx) (loops:=[]) (leaves:=[]) (fun p=>O7 N p.1.1.1 p.1.1.2.1 p.1.1.2.2.1) (fun r=>((r,()),((((),()),()),()))) A11 (fun _ _ _=>rfl) (fun r z h=>by cases h;rfl) Try.func158 (by kernel_rfl) (by kernel_rfl) (by kernel_rfl) rfl rfl (by kernel_rfl) (fun args w=>Sem.pv_run _ _ _ (by kernel_rfl) w) (Aed N) mixed trivial (fun z E Xc hE hX hret=>trivial) (fun p=>Amz N p.1.1.1 p.1.1.2.1 p.1.1.2.2.1)

def Gj(N:Nat):Nat→(List Qe)→Int→Int→Option ((Int)⊕(Unit))
 | 0,_,_,_=>none
 | n_+1,s,u,u2=>
  br (decide (u2<u))
   (idx s u2 fun x_1=>
   (O7 N x_1.1 x_1.2.1 x_1.2.2).bind fun x_2=>
   br x_2
    (some (.inl u2))
    (chk (u2+1)<|
    Gj N n_ s u (u2+1)))
   (some (.inr ()))
def A2c(N:Nat)(s:List Qe):Option Int:=
 (Gj N N s (s.length:Int) 0).bind fun e=>match e with
 | .inl i_3=>
  some i_3
 | .inr _=>
  some (-1)
noncomputable def A40(N:Nat):List Spec:=[Zx N]
theorem Aba(N:Nat):AllP (A0 Try.prog) (A40 N):=⟨A34 N,trivial⟩
noncomputable def B2z:Code:=(Try.f160.body).getD .skip
noncomputable abbrev Jj:Body:={ c:=B2z,n:=19,res:=[.tmp 4],outs:=[⟨[.i .i64],[.segs [.fn 149 [] []]]⟩],m0:=1 }
abbrev Alj:altD Jj.outs→Option Int:=fun r=>some r.1.1
abbrev Pf:List PI:=[.c [1,0,1,0,0,0],.c [1,0,1,0,0,1],.l [1,0,1,0,0],.b 0,.c [1,1]]
abbrev K3:Sta:=⟨[0,1,7,8],⟨[.sl Qf,.fn 158 [] [.own 0 0],.i .i64,.i .i64],[.segs [.fn 149 [] []]]⟩⟩
abbrev A7n(rec:(List Qe)→Int→Int→Option ((Int)⊕(Unit))):Leaf ((Int)⊕(Unit)):=⟨Pf,K3,fun p=>rec p.1.1 p.1.2.2.1 p.1.2.2.2.1⟩
abbrev Zj:Leaf ((Int)⊕(Unit)):=⟨[.c [1,0,1,0,0,1,1,0,0,1,1,0,0],.c [1,0,1,0,0,1,1,0,0,1,1,0,1],.b 1,.c [1,0,1,0,0,1,1,1],.l [1,0,1,0,0],.b 0,.c [1,1]],⟨[5],⟨[.i .i64],[.segs [.fn 149 [] []]]⟩⟩,fun p=>some (.inl p.1.1)⟩
abbrev A0o:Leaf ((Int)⊕(Unit)):=⟨[.c [1,1,0],.c [1,1,1]],⟨[],⟨[],[.segs [.fn 149 [] []]]⟩⟩,fun p=>some (.inr ())⟩
noncomputable def Ua(N:Nat):Ai:={ at_:=Pf,sta:=K3,exits:=[([.c [1,0,1,0,0,1,1,0,0,1,1,0,0],.c [1,0,1,0,0,1,1,0,0,1,1,0,1],.b 1,.c [1,0,1,0,0,1,1,1],.l [1,0,1,0,0],.b 0,.c [1,1]],⟨[5],⟨[.i .i64],[.segs [.fn 149 [] []]]⟩⟩),([.c [1,1,0],.c [1,1,1]],⟨[],⟨[],[.segs [.fn 149 [] []]]⟩⟩)],run:=fun p k=>(Gj N N p.1.1 p.1.2.2.1 p.1.2.2.2.1).bind fun e=>match e with | .inl x=>k (.inl ((x,()),((((),()),()),()))) | .inr x=>k (.inr (.inl ((),((((),()),()),())))) }
theorem Alp(N n_:Nat)(s:List Qe)(u:Int)(u2:Int):ev (Z:=(Int)⊕(Unit)) Try.prog (A40 N) Jj [] [A7n (Gj N n_),Zj,A0o] none 400 true Pf (stL K3 ((s,((),((),())),u,u2,()),((((),()),()),()))) (stH K3 ((s,((),((),())),u,u2,()),((((),()),()),())))=Gj N (n_+1) s u u2:=by kernel_rfl
theorem Ai5(N:Nat){top:Bool}:Ab Try.prog Jj.c Jj.n Jj.m0 top (Ua N):=A3 (Z:=(Int)⊕(Unit)) (N:=N) (fun m p=>Gj N m p.1.1 p.1.2.2.1 p.1.2.2.2.1) (fun e=>match e with | .inl x=>.inl ((x,()),((((),()),()),())) | .inr x=>.inr (.inl ((),((((),()),()),())))) (fun _ p k=>A9 (Gj N N p.1.1 p.1.2.2.1 p.1.2.2.2.1) _ _ (fun e=>by rcases e with x | x<;>rfl)) (fun _=>rfl) (fun m z E Xc hE hX hrec hx=>A2 (B:=Jj) (loops:=[]) (leaves:=[A7n (Gj N m),Zj,A0o]) (Aba N) mixed trivial hE hX ⟨hrec,(fun p hp=>by obtain rfl:=Option.some.inj hp;exact hx),(fun p hp=>by obtain rfl:=Option.some.inj hp;exact hx),trivial⟩ Aa.no (fun p=>Alp N m p.1.1 p.1.2.2.1 p.1.2.2.2.1))
abbrev Aj6:Sta:=⟨[0,1],⟨[.sl Qf,.fn 158 [] [.own 0 0]],[.segs [.fn 149 [] []]]⟩⟩
theorem Ays(N:Nat)(s:List Qe):ev (Z:=Int) Try.prog (A40 N) Jj [Ua N] [] (some Alj) 400 false [.c [0],.c [1]] (stL Aj6 ((s,((),((),())),()),((((),()),()),()))) (stH Aj6 ((s,((),((),())),()),((((),()),()),())))=A2c N s:=by kernel_rfl
noncomputable def Ajs(N:Nat):Spec:={ f:=160,ins:=⟨[.sl Qf,.fn 158 [] [.own 0 0]],[.segs [.fn 149 [] []]]⟩,outs:=[⟨[.i .i64],[.segs [.fn 149 [] []]]⟩],run:=fun p k=>(A2c N p.1.1).bind fun r=>k ((r,()),((((),()),()),())) }
theorem Amx(N:Nat):A0 Try.prog (Ajs N):=A1 (B:=Jj) (loops:=[Ua N]) (leaves:=[]) (fun p=>A2c N p.1.1) (fun r=>((r,()),((((),()),()),()))) Alj (fun _ _ _=>rfl) (fun r z h=>by cases h;rfl) Try.func160 (by kernel_rfl) (by kernel_rfl) (by kernel_rfl) rfl rfl (by kernel_rfl) (fun args w=>Sem.pv_run _ _ _ (by kernel_rfl) w) (Aba N) mixed ⟨Ai5 N,trivial⟩ (fun z E Xc hE hX hret=>trivial) (fun p=>Ays N p.1.1)

def A21(N:Nat)(s:List Qe):Option Bool:=
 (A2c N s).bind fun x_1=>
 some (decide (0≤x_1))
noncomputable def Al4(N:Nat):List Spec:=[Ajs N]
theorem Axg(N:Nat):AllP (A0 Try.prog) (Al4 N):=⟨Amx N,trivial⟩
noncomputable def B4b:Code:=(Try.f157.body).getD .skip
noncomputable abbrev Agc:Body:={ c:=B4b,n:=9,res:=[.tmp 4],outs:=[⟨[.b],[.segs [.fn 149 [] []]]⟩],m0:=1 }
abbrev Akd:altD Agc.outs→Option Bool:=fun r=>some r.1.1
abbrev Aib:Sta:=⟨[0,1],⟨[.sl Qf,.fn 158 [] [.own 0 0]],[.segs [.fn 149 [] []]]⟩⟩
theorem B20(N:Nat)(s:List Qe):ev (Z:=Bool) Try.prog (Al4 N) Agc [] [] (some Akd) 400 false [.c [0],.c [1]] (stL Aib ((s,((),((),())),()),((((),()),()),()))) (stH Aib ((s,((),((),())),()),((((),()),()),())))=A21 N s:=by kernel_rfl
noncomputable def Al8(N:Nat):Spec:={ f:=157,ins:=⟨[.sl Qf,.fn 158 [] [.own 0 0]],[.segs [.fn 149 [] []]]⟩,outs:=[⟨[.b],[.segs [.fn 149 [] []]]⟩],run:=fun p k=>(A21 N p.1.1).bind fun r=>k ((r,()),((((),()),()),())) }
theorem Ak3(N:Nat):A0 Try.prog (Al8 N):=A1 (B:=Agc) (loops:=[]) (leaves:=[]) (fun p=>A21 N p.1.1) (fun r=>((r,()),((((),()),()),()))) Akd (fun _ _ _=>rfl) (fun r z h=>by cases h;rfl) Try.func157 (by kernel_rfl) (by kernel_rfl) (by kernel_rfl) rfl rfl (by kernel_rfl) (fun args w=>Sem.pv_run _ _ _ (by kernel_rfl) w) (Axg N) mixed trivial (fun z E Xc hE hX hret=>trivial) (fun p=>B20 N p.1.1)

def Rr(N:Nat)(l:List Qe):Option Bool:=
 (A21 N l).bind fun x_1=>
 some (!x_1)
noncomputable def A3r(N:Nat):List Spec:=[Al8 N]
theorem Ak1(N:Nat):AllP (A0 Try.prog) (A3r N):=⟨Ak3 N,trivial⟩
noncomputable def Axc:Code:=(Try.f145.body).getD .skip
noncomputable abbrev Yv:Body:={ c:=Axc,n:=9,res:=[.tmp 4],outs:=[⟨[.b],[]⟩],m0:=0 }
abbrev A7x:altD Yv.outs→Option Bool:=fun r=>some r.1.1
abbrev A35:Sta:=⟨[0,1],⟨[.sl Qf,.fn 149 [] []],[]⟩⟩
theorem Aor(N:Nat)(l:List Qe):ev (Z:=Bool) Try.prog (A3r N) Yv [] [] (some A7x) 400 false [.c [0],.c [1]] (stL A35 ((l,((),()),()),())) (stH A35 ((l,((),()),()),()))=Rr N l:=by kernel_rfl
noncomputable def A48(N:Nat):Spec:={ f:=145,ins:=⟨[.sl Qf,.fn 149 [] []],[]⟩,outs:=[⟨[.b],[]⟩],run:=fun p k=>(Rr N p.1.1).bind fun r=>k ((r,()),()) }
theorem A9l(N:Nat):A0 Try.prog (A48 N):=A1 (B:=Yv) (loops:=[]) (leaves:=[]) (fun p=>Rr N p.1.1) (fun r=>((r,()),())) A7x (fun _ _ _=>rfl) (fun r z h=>by cases h;rfl) Try.func145 (by kernel_rfl) (by kernel_rfl) (by kernel_rfl) rfl rfl (by kernel_rfl) (fun args w=>Sem.pv_run _ _ _ (by kernel_rfl) w) (Ak1 N) mixed trivial (fun z E Xc hE hX hret=>trivial) (fun p=>Aor N p.1.1)

def B2(N:Nat)(t:List QB)(t2:List Qe)(t3:Int):Option Int:=
 (Ap N (t.length:Int) 1 12).bind fun x_1=>
 br (!x_1)
  (some 2)
  (br (decide (6<(t2.length:Int)))
   (some 2)
   ((Ap N t3 1 40).bind fun x_2=>
   br (!x_2)
    (some 3)
    ((D1 N t).bind fun x_3=>
    br (!x_3)
     (some 3)
     ((Ra N t2 (t,t2,t3)).bind fun x_4=>
     br (!x_4)
      (some 1)
      ((R9 N t2).bind fun x_5=>
      br (!x_5)
       (some 4)
       ((Rr N t2).bind fun x_6=>
       br (!x_6)
        (some 7)
        (some 0)))))))
noncomputable def Bv(N:Nat):List Spec:=[Bb N,M9 N,A7p N,A5g N,A48 N]
theorem Db(N:Nat):AllP (A0 Try.prog) (Bv N):=⟨Am N,Nb N,A9q N,A97 N,A9l N,trivial⟩
noncomputable def N8:Code:=(Try.f127.body).getD .skip
noncomputable abbrev Az:Body:={ c:=N8,n:=42,res:=[.tmp 2],outs:=[⟨[.i .i64],[]⟩],m0:=0 }
abbrev D5:altD Az.outs→Option Int:=fun r=>some r.1.1
abbrev Da:Sta:=⟨[0],⟨[.agg [.sl Qw,.sl Qf,.i .i64]],[]⟩⟩
theorem Ig(N:Nat)(t:List QB)(t2:List Qe)(t3:Int):ev (Z:=Int) Try.prog (Bv N) Az [] [] (some D5) 400 false [.c [0],.c [1]] (stL Da (((t,t2,t3,()),()),())) (stH Da (((t,t2,t3,()),()),()))=B2 N t t2 t3:=by kernel_rfl
noncomputable def Cp(N:Nat):Spec:={ f:=127,ins:=⟨[.agg [.sl Qw,.sl Qf,.i .i64]],[]⟩,outs:=[⟨[.i .i64],[]⟩],run:=fun p k=>(B2 N p.1.1.1 p.1.1.2.1 p.1.1.2.2.1).bind fun r=>k ((r,()),()) }
theorem D2(N:Nat):A0 Try.prog (Cp N):=A1 (B:=Az) (loops:=[]) (leaves:=[]) (fun p=>B2 N p.1.1.1 p.1.1.2.1 p.1.1.2.2.1) (fun r=>((r,()),())) D5 (fun _ _ _=>rfl) (fun r z h=>by cases h;rfl) Try.func127 (by kernel_rfl) (by kernel_rfl) (by kernel_rfl) rfl rfl (by kernel_rfl) (fun args w=>Sem.pv_run _ _ _ (by kernel_rfl) w) (Db N) mixed trivial (fun z E Xc hE hX hret=>trivial) (fun p=>Ig N p.1.1.1 p.1.1.2.1 p.1.1.2.2.1)

def Al(N:Nat)(t:List QB)(t2:List Qe)(t3:Int):Option ((Qh×Int)⊕(Int)):=
 (B2 N t t2 t3).bind fun x_1=>
 br (!decide (x_1=0))
  (some (.inr x_1))
  (some (.inl ((t,t2,t3),0)))
noncomputable def B4(N:Nat):List Spec:=[Cp N]
theorem Ba(N:Nat):AllP (A0 Try.prog) (B4 N):=⟨D2 N,trivial⟩
noncomputable def J7:Code:=(Try.f95.body).getD .skip
noncomputable abbrev A7:Body:={ c:=J7,n:=13,res:=[.tmp 2,.tmp 3],outs:=[⟨[.fe Qi,.i .i64],[]⟩,⟨[.nilp,.i .i64],[]⟩],m0:=0 }
abbrev Bs:altD A7.outs→Option ((Qh×Int)⊕(Int)):=fun r=>match r with | .inl r=>some (.inl (r.1.1,r.1.2.1)) | .inr r=>some (.inr r.1.2.1)
abbrev Bz:Sta:=⟨[0],⟨[.agg [.sl Qw,.sl Qf,.i .i64]],[]⟩⟩
theorem Ft(N:Nat)(t:List QB)(t2:List Qe)(t3:Int):ev (Z:=(Qh×Int)⊕(Int)) Try.prog (B4 N) A7 [] [] (some Bs) 400 false [.c [0],.c [1]] (stL Bz (((t,t2,t3,()),()),())) (stH Bz (((t,t2,t3,()),()),()))=Al N t t2 t3:=by kernel_rfl
noncomputable def Bw(N:Nat):Spec:={ f:=95,ins:=⟨[.agg [.sl Qw,.sl Qf,.i .i64]],[]⟩,outs:=[⟨[.fe Qi,.i .i64],[]⟩,⟨[.nilp,.i .i64],[]⟩],run:=fun p k=>(Al N p.1.1.1 p.1.1.2.1 p.1.1.2.2.1).bind fun r=>match r with | .inl r=>k (.inl ((r.1,r.2,()),())) | .inr r=>k (.inr (((),r,()),())) }
theorem Cb(N:Nat):A0 Try.prog (Bw N):=A1 (B:=A7) (loops:=[]) (leaves:=[]) (fun p=>Al N p.1.1.1 p.1.1.2.1 p.1.1.2.2.1) (fun r=>match r with | .inl r=>(.inl ((r.1,r.2,()),())) | .inr r=>(.inr (((),r,()),()))) Bs (fun _ p k=>A9 (Al N p.1.1.1 p.1.1.2.1 p.1.1.2.2.1) _ _ (fun e=>by rcases e with x | x<;>rfl)) (fun r z h=>by rcases r with x | x<;>(cases h;rfl)) Try.func95 (by kernel_rfl) (by kernel_rfl) (by kernel_rfl) rfl rfl (by kernel_rfl) (fun args w=>Sem.pv_run _ _ _ (by kernel_rfl) w) (Ba N) mixed trivial (fun z E Xc hE hX hret=>trivial) (fun p=>Ft N p.1.1.1 p.1.1.2.1 p.1.1.2.2.1)

def P6(N:Nat)(d:Qh):Option Int:=
 some (d.1.length:Int)
noncomputable def Asl(N:Nat):List Spec:=[]
theorem Azz(N:Nat):AllP (A0 Try.prog) (Asl N):=trivial
noncomputable def B6d:Code:=(Try.f129.body).getD .skip
noncomputable abbrev Arl:Body:={ c:=B6d,n:=9,res:=[.tmp 2],outs:=[⟨[.i .i64],[]⟩],m0:=0 }
abbrev Ass:altD Arl.outs→Option Int:=fun r=>some r.1.1
abbrev Avb:Sta:=⟨[0],⟨[.fe Qi],[]⟩⟩
theorem B4o(N:Nat)(d:Qh):ev (Z:=Int) Try.prog (Asl N) Arl [] [] (some Ass) 400 false [.c [0],.c [1]] (stL Avb ((d,()),())) (stH Avb ((d,()),()))=P6 N d:=by kernel_rfl
noncomputable def Agt(N:Nat):Spec:={ f:=129,ins:=⟨[.fe Qi],[]⟩,outs:=[⟨[.i .i64],[]⟩],run:=fun p k=>(P6 N p.1.1).bind fun r=>k ((r,()),()) }
theorem A5b(N:Nat):A0 Try.prog (Agt N):=A1 (B:=Arl) (loops:=[]) (leaves:=[]) (fun p=>P6 N p.1.1) (fun r=>((r,()),())) Ass (fun _ _ _=>rfl) (fun r z h=>by cases h;rfl) Try.func129 (by kernel_rfl) (by kernel_rfl) (by kernel_rfl) rfl rfl (by kernel_rfl) (fun args w=>Sem.pv_run _ _ _ (by kernel_rfl) w) (Azz N) mixed trivial (fun z E Xc hE hX hret=>trivial) (fun p=>B4o N p.1.1)

def C9(N:Nat):Nat→Int→(List QB)→Int→Int→Option Int
 | 0,_,_,_,_=>none
 | n_+1,n,u,u2,u3=>
  br (decide (u3<u2))
   (idx u u3 fun x_1=>
   chk (n+x_1.1)<|
   chk (u3+1)<|
   C9 N n_ (n+x_1.1) u u2 (u3+1))
   (some (n))
def Jw(N:Nat)(d:Qh)(from_:Int)(to:Int):Option Int:=
 grd (decide ((0:Int)≤from_∧(from_:Int)≤to∧to≤(d.1.length:Int)))<|
 (C9 N N 0 ((d.1.take to.toNat).drop from_.toNat) (((d.1.take to.toNat).drop from_.toNat).length:Int) 0).bind fun n_2=>
 some n_2
noncomputable def Nl(N:Nat):List Spec:=[]
theorem Se(N:Nat):AllP (A0 Try.prog) (Nl N):=trivial
noncomputable def Aj5:Code:=(Try.f150.body).getD .skip
noncomputable abbrev C3:Body:={ c:=Aj5,n:=29,res:=[.tmp 6],outs:=[⟨[.i .i64],[]⟩],m0:=0 }
abbrev V5:altD C3.outs→Option Int:=fun r=>some r.1.1
abbrev H5:List PI:=[.c [1,1,0,1,0,0,0],.c [1,1,0,1,0,0,1],.l [1,1,0,1,0,0],.b 0,.c [1,1,1]]
abbrev Dy:Sta:=⟨[7,17,18,19],⟨[.i .i64,.sl Qw,.i .i64,.i .i64],[]⟩⟩
abbrev R7(rec:Int→(List QB)→Int→Int→Option Int):Leaf Int:=⟨H5,Dy,fun p=>rec p.1.1 p.1.2.1 p.1.2.2.1 p.1.2.2.2.1⟩
abbrev Of:Leaf Int:=⟨[.c [1,1,1,0],.c [1,1,1,1]],⟨[7],⟨[.i .i64],[]⟩⟩,fun p=>some (p.1.1)⟩
noncomputable def Jf(N:Nat):Ai:={ at_:=H5,sta:=Dy,exits:=[([.c [1,1,1,0],.c [1,1,1,1]],⟨[7],⟨[.i .i64],[]⟩⟩)],run:=fun p k=>(C9 N N p.1.1 p.1.2.1 p.1.2.2.1 p.1.2.2.2.1).bind fun e=>k (.inl ((e,()),())) }
theorem A1v(N n_:Nat)(n:Int)(u:List QB)(u2:Int)(u3:Int):ev (Z:=Int) Try.prog (Nl N) C3 [] [R7 (C9 N n_),Of] none 400 true H5 (stL Dy ((n,u,u2,u3,()),())) (stH Dy ((n,u,u2,u3,()),()))=C9 N (n_+1) n u u2 u3:=by kernel_rfl
theorem A1p(N:Nat){top:Bool}:Ab Try.prog C3.c C3.n C3.m0 top (Jf N):=A3 (Z:=Int) (N:=N) (fun m p=>C9 N m p.1.1 p.1.2.1 p.1.2.2.1 p.1.2.2.2.1) (fun e=>.inl ((e,()),())) (fun _ _ _=>rfl) (fun _=>rfl) (fun m z E Xc hE hX hrec hx=>A2 (B:=C3) (loops:=[]) (leaves:=[R7 (C9 N m),Of]) (Se N) mixed trivial hE hX ⟨hrec,(fun p hp=>by obtain rfl:=Option.some.inj hp;exact hx),trivial⟩ Aa.no (fun p=>A1v N m p.1.1 p.1.2.1 p.1.2.2.1 p.1.2.2.2.1))
abbrev V7:Sta:=⟨[0,1,2],⟨[.fe Qi,.i .i64,.i .i64],[]⟩⟩
theorem Aft(N:Nat)(d:Qh)(from_:Int)(to:Int):ev (Z:=Int) Try.prog (Nl N) C3 [Jf N] [] (some V5) 400 false [.c [0],.c [1]] (stL V7 ((d,from_,to,()),())) (stH V7 ((d,from_,to,()),()))=Jw N d from_ to:=by kernel_rfl
noncomputable def Us(N:Nat):Spec:={ f:=150,ins:=⟨[.fe Qi,.i .i64,.i .i64],[]⟩,outs:=[⟨[.i .i64],[]⟩],run:=fun p k=>(Jw N p.1.1 p.1.2.1 p.1.2.2.1).bind fun r=>k ((r,()),()) }
theorem A1x(N:Nat):A0 Try.prog (Us N):=A1 (B:=C3) (loops:=[Jf N]) (leaves:=[]) (fun p=>Jw N p.1.1 p.1.2.1 p.1.2.2.1) (fun r=>((r,()),())) V5 (fun _ _ _=>rfl) (fun r z h=>by cases h;rfl) Try.func150 (by kernel_rfl) (by kernel_rfl) (by kernel_rfl) rfl rfl (by kernel_rfl) (fun args w=>Sem.pv_run _ _ _ (by kernel_rfl) w) (Se N) mixed ⟨A1p N,trivial⟩ (fun z E Xc hE hX hret=>trivial) (fun p=>Aft N p.1.1 p.1.2.1 p.1.2.2.1)

def Hl(N:Nat)(rec:Int→Int→(List Qe)→Int→Int→Qd→Option Qd)(from_:Int)(to:Int)(u:List Qe)(u2:Int)(u3:Int)(out:List Int):Option Qd:=
 chk (u3+1)<|
 rec from_ to u u2 (u3+1) out
def Bn(N:Nat):Nat→Int→Int→(List Qe)→Int→Int→Qd→Option Qd
 | 0,_,_,_,_,_,_=>none
 | n_+1,from_,to,u,u2,u3,out=>
  br (decide (u3<u2))
   (idx u u3 fun x_1=>
   br (decide (from_≤x_1.2.1))
    (br (decide (x_1.2.2<to))
     (chk (to-1)<|
     (Ap N x_1.1 from_ (to-1)).bind fun x_2=>
     br (!x_2)
      (lim (out.length+[u3].length)<|
      Hl N (Bn N n_) from_ to u u2 u3 (out++[u3]))
      (Hl N (Bn N n_) from_ to u u2 u3 out))
     (Hl N (Bn N n_) from_ to u u2 u3 out))
    (Hl N (Bn N n_) from_ to u u2 u3 out))
   (some (out))
def Vz(N:Nat)(d:Qh)(from_:Int)(to:Int):Option Qd:=
 (Bn N N from_ to d.2.1 (d.2.1.length:Int) 0 []).bind fun out_3=>
 some out_3
noncomputable def Rj(N:Nat):List Spec:=[Bb N]
theorem Ss(N:Nat):AllP (A0 Try.prog) (Rj N):=⟨Am N,trivial⟩
noncomputable def Ayj:Code:=(Try.f152.body).getD .skip
noncomputable abbrev B0:Body:={ c:=Ayj,n:=48,res:=[.tmp 6],outs:=[⟨[.sl (.int .i64)],[]⟩],m0:=0 }
abbrev Aaw:altD B0.outs→Option Qd:=fun r=>some r.1.1
abbrev Mk:List PI:=[.c [1,1,0,1,0,0,0],.c [1,1,0,1,0,0,1],.l [1,1,0,1,0,0],.b 0,.c [1,1,1]]
abbrev Hb:Sta:=⟨[1,2,7,14,15,16],⟨[.i .i64,.i .i64,.ols 0,.sl Qf,.i .i64,.i .i64],[.lst (.int .i64)]⟩⟩
abbrev G7(rec:Int→Int→(List Qe)→Int→Int→Qd→Option Qd):Leaf Qd:=⟨Mk,Hb,fun p=>rec p.1.1 p.1.2.1 p.1.2.2.2.1 p.1.2.2.2.2.1 p.1.2.2.2.2.2.1 p.2.1⟩
abbrev Fa:Leaf Qd:=⟨[.c [1,1,1,0],.c [1,1,1,1]],⟨[7],⟨[.ols 0],[.lst (.int .i64)]⟩⟩,fun p=>some (p.2.1)⟩
abbrev X7:List PI:=[.c [1,1,0,1,0,0,1,1,1],.l [1,1,0,1,0,0],.b 0,.c [1,1,1]]
abbrev N9:Sta:=⟨[1,2,7,14,15,16],⟨[.i .i64,.i .i64,.ols 0,.sl Qf,.i .i64,.i .i64],[.lst (.int .i64)]⟩⟩
abbrev Pn(N:Nat)(rec:Int→Int→(List Qe)→Int→Int→Qd→Option Qd):Leaf Qd:=⟨X7,N9,fun p=>Hl N rec p.1.1 p.1.2.1 p.1.2.2.2.1 p.1.2.2.2.2.1 p.1.2.2.2.2.2.1 p.2.1⟩
theorem Agg(N:Nat)(rec:Int→Int→(List Qe)→Int→Int→Qd→Option Qd)(from_:Int)(to:Int)(u:List Qe)(u2:Int)(u3:Int)(out:List Int):ev (Z:=List Int) Try.prog (Rj N) B0 [] [G7 rec,Fa] none 400 true X7 (stL N9 ((from_,to,(),u,u2,u3,()),(out,()))) (stH N9 ((from_,to,(),u,u2,u3,()),(out,())))=Hl N rec from_ to u u2 u3 out:=by kernel_rfl
theorem Ah0(N:Nat)(rec:Int→Int→(List Qe)→Int→Int→Qd→Option Qd){z:List Int}{top:Bool}{E:EE}{Xc:Ctx}(hE:EOK B0.m0 E)(hX:CxOK top Xc)(hrec:Ag Try.prog B0.c B0.n B0.m0 E Xc z (G7 rec))(h0:Ag Try.prog B0.c B0.n B0.m0 E Xc z Fa):Ag Try.prog B0.c B0.n B0.m0 E Xc z (Pn N rec):=A2 (B:=B0) (loops:=[]) (leaves:=[G7 rec,Fa]) (Ss N) mixed trivial hE hX ⟨hrec,h0,trivial⟩ Aa.no (fun p=>Agg N rec p.1.1 p.1.2.1 p.1.2.2.2.1 p.1.2.2.2.2.1 p.1.2.2.2.2.2.1 p.2.1)
noncomputable def Q3(N:Nat):Ai:={ at_:=Mk,sta:=Hb,exits:=[([.c [1,1,1,0],.c [1,1,1,1]],⟨[7],⟨[.ols 0],[.lst (.int .i64)]⟩⟩)],run:=fun p k=>(Bn N N p.1.1 p.1.2.1 p.1.2.2.2.1 p.1.2.2.2.2.1 p.1.2.2.2.2.2.1 p.2.1).bind fun e=>k (.inl (((),()),(e,()))) }
theorem Afp(N n_:Nat)(from_:Int)(to:Int)(u:List Qe)(u2:Int)(u3:Int)(out:List Int):ev (Z:=List Int) Try.prog (Rj N) B0 [] [G7 (Bn N n_),Fa,Pn N (Bn N n_)] none 400 true Mk (stL Hb ((from_,to,(),u,u2,u3,()),(out,()))) (stH Hb ((from_,to,(),u,u2,u3,()),(out,())))=Bn N (n_+1) from_ to u u2 u3 out:=by kernel_rfl
theorem Aee(N:Nat){top:Bool}:Ab Try.prog B0.c B0.n B0.m0 top (Q3 N):=A3 (Z:=List Int) (N:=N) (fun m p=>Bn N m p.1.1 p.1.2.1 p.1.2.2.2.1 p.1.2.2.2.2.1 p.1.2.2.2.2.2.1 p.2.1) (fun e=>.inl (((),()),(e,()))) (fun _ _ _=>rfl) (fun _=>rfl) (fun m z E Xc hE hX hrec hx=>A2 (B:=B0) (loops:=[]) (leaves:=[G7 (Bn N m),Fa,Pn N (Bn N m)]) (Ss N) mixed trivial hE hX ⟨hrec,(fun p hp=>by obtain rfl:=Option.some.inj hp;exact hx),Ah0 N _ hE hX hrec (fun p hp=>by obtain rfl:=Option.some.inj hp;exact hx),trivial⟩ Aa.no (fun p=>Afp N m p.1.1 p.1.2.1 p.1.2.2.2.1 p.1.2.2.2.2.1 p.1.2.2.2.2.2.1 p.2.1))
abbrev Ab1:Sta:=⟨[0,1,2],⟨[.fe Qi,.i .i64,.i .i64],[]⟩⟩
theorem Axf(N:Nat)(d:Qh)(from_:Int)(to:Int):ev (Z:=List Int) Try.prog (Rj N) B0 [Q3 N] [] (some Aaw) 400 false [.c [0],.c [1]] (stL Ab1 ((d,from_,to,()),())) (stH Ab1 ((d,from_,to,()),()))=Vz N d from_ to:=by kernel_rfl
noncomputable def Ach(N:Nat):Spec:={ f:=152,ins:=⟨[.fe Qi,.i .i64,.i .i64],[]⟩,outs:=[⟨[.sl (.int .i64)],[]⟩],run:=fun p k=>(Vz N p.1.1 p.1.2.1 p.1.2.2.1).bind fun r=>k ((r,()),()) }
theorem Agr(N:Nat):A0 Try.prog (Ach N):=A1 (B:=B0) (loops:=[Q3 N]) (leaves:=[]) (fun p=>Vz N p.1.1 p.1.2.1 p.1.2.2.1) (fun r=>((r,()),())) Aaw (fun _ _ _=>rfl) (fun r z h=>by cases h;rfl) Try.func152 (by kernel_rfl) (by kernel_rfl) (by kernel_rfl) rfl rfl (by kernel_rfl) (fun args w=>Sem.pv_run _ _ _ (by kernel_rfl) w) (Ss N) mixed ⟨Aee N,trivial⟩ (fun z E Xc hE hX hret=>trivial) (fun p=>Axf N p.1.1 p.1.2.1 p.1.2.2.1)

def Uv(N:Nat)(d:Qh)(place:Int):Option Bool:=
 br (decide (place=0))
  (some true)
  ((P6 N d).bind fun x_1=>
  br (decide (place=x_1))
   (some true)
   (chk (place-1)<|
   idx d.1 (place-1) fun x_2=>
   some x_2.2.2))
noncomputable def Am0(N:Nat):List Spec:=[Agt N]
theorem Aws(N:Nat):AllP (A0 Try.prog) (Am0 N):=⟨A5b N,trivial⟩
noncomputable def B30:Code:=(Try.f151.body).getD .skip
noncomputable abbrev Agp:Body:={ c:=B30,n:=25,res:=[.tmp 4],outs:=[⟨[.b],[]⟩],m0:=0 }
abbrev Aln:altD Agp.outs→Option Bool:=fun r=>some r.1.1
abbrev An4:Sta:=⟨[0,1],⟨[.fe Qi,.i .i64],[]⟩⟩
theorem B1t(N:Nat)(d:Qh)(place:Int):ev (Z:=Bool) Try.prog (Am0 N) Agp [] [] (some Aln) 400 false [.c [0],.c [1]] (stL An4 ((d,place,()),())) (stH An4 ((d,place,()),()))=Uv N d place:=by kernel_rfl
noncomputable def Ajk(N:Nat):Spec:={ f:=151,ins:=⟨[.fe Qi,.i .i64],[]⟩,outs:=[⟨[.b],[]⟩],run:=fun p k=>(Uv N p.1.1 p.1.2.1).bind fun r=>k ((r,()),()) }
theorem Akt(N:Nat):A0 Try.prog (Ajk N):=A1 (B:=Agp) (loops:=[]) (leaves:=[]) (fun p=>Uv N p.1.1 p.1.2.1) (fun r=>((r,()),())) Aln (fun _ _ _=>rfl) (fun r z h=>by cases h;rfl) Try.func151 (by kernel_rfl) (by kernel_rfl) (by kernel_rfl) rfl rfl (by kernel_rfl) (fun args w=>Sem.pv_run _ _ _ (by kernel_rfl) w) (Aws N) mixed trivial (fun z E Xc hE hX hret=>trivial) (fun p=>B1t N p.1.1 p.1.2.1)

def A2m(N:Nat)(d:Qh)(from_:Int)(to:Int):Option (Int×Bool):=
 (Jw N d from_ to).bind fun x_1=>
 br (decide (d.2.2<x_1))
  (some (0,true))
  ((Uv N d from_).bind fun x_2=>
  br (!x_2)
   (some (1,true))
   ((Uv N d to).bind fun x_3=>
   br (!x_3)
    (some (1,true))
    ((Vz N d from_ to).bind fun x_4=>
    some (2,(decide (0<(x_4.length:Int)))))))
noncomputable def Ajg(N:Nat):List Spec:=[Us N,Ach N,Ajk N]
theorem Ay0(N:Nat):AllP (A0 Try.prog) (Ajg N):=⟨A1x N,Agr N,Akt N,trivial⟩
noncomputable def B2p:Code:=(Try.f128.body).getD .skip
noncomputable abbrev Agw:Body:={ c:=B2p,n:=36,res:=[.tmp 6,.tmp 7],outs:=[⟨[.i .i64,.b],[]⟩],m0:=0 }
abbrev Ajt:altD Agw.outs→Option (Int×Bool):=fun r=>some (r.1.1,r.1.2.1)
abbrev Ak4:Sta:=⟨[0,1,2],⟨[.fe Qi,.i .i64,.i .i64],[]⟩⟩
theorem B0b(N:Nat)(d:Qh)(from_:Int)(to:Int):ev (Z:=Int×Bool) Try.prog (Ajg N) Agw [] [] (some Ajt) 400 false [.c [0],.c [1]] (stL Ak4 ((d,from_,to,()),())) (stH Ak4 ((d,from_,to,()),()))=A2m N d from_ to:=by kernel_rfl
noncomputable def Ahn(N:Nat):Spec:={ f:=128,ins:=⟨[.fe Qi,.i .i64,.i .i64],[]⟩,outs:=[⟨[.i .i64,.b],[]⟩],run:=fun p k=>(A2m N p.1.1 p.1.2.1 p.1.2.2.1).bind fun r=>k ((r.1,r.2,()),()) }
theorem Akh(N:Nat):A0 Try.prog (Ahn N):=A1 (B:=Agw) (loops:=[]) (leaves:=[]) (fun p=>A2m N p.1.1 p.1.2.1 p.1.2.2.1) (fun r=>((r.1,r.2,()),())) Ajt (fun _ _ _=>rfl) (fun r z h=>by cases h;rfl) Try.func128 (by kernel_rfl) (by kernel_rfl) (by kernel_rfl) rfl rfl (by kernel_rfl) (fun args w=>Sem.pv_run _ _ _ (by kernel_rfl) w) (Ay0 N) mixed trivial (fun z E Xc hE hX hret=>trivial) (fun p=>B0b N p.1.1 p.1.2.1 p.1.2.2.1)

def W7(N:Nat)(d:Qh)(from_:Int)(to:Int):Option Bool:=
 (A2m N d from_ to).bind fun(x_1,y_2)=>
 some (!y_2)
noncomputable def Aju(N:Nat):List Spec:=[Ahn N]
theorem Ax8(N:Nat):AllP (A0 Try.prog) (Aju N):=⟨Akh N,trivial⟩
noncomputable def B37:Code:=(Try.f96.body).getD .skip
noncomputable abbrev Aga:Body:={ c:=B37,n:=18,res:=[.tmp 6],outs:=[⟨[.b],[]⟩],m0:=0 }
abbrev Akz:altD Aga.outs→Option Bool:=fun r=>some r.1.1
abbrev Amv:Sta:=⟨[0,1,2],⟨[.fe Qi,.i .i64,.i .i64],[]⟩⟩
theorem Azf(N:Nat)(d:Qh)(from_:Int)(to:Int):ev (Z:=Bool) Try.prog (Aju N) Aga [] [] (some Akz) 400 false [.c [0],.c [1]] (stL Amv ((d,from_,to,()),())) (stH Amv ((d,from_,to,()),()))=W7 N d from_ to:=by kernel_rfl
noncomputable def An9(N:Nat):Spec:={ f:=96,ins:=⟨[.fe Qi,.i .i64,.i .i64],[]⟩,outs:=[⟨[.b],[]⟩],run:=fun p k=>(W7 N p.1.1 p.1.2.1 p.1.2.2.1).bind fun r=>k ((r,()),()) }
theorem Alz(N:Nat):A0 Try.prog (An9 N):=A1 (B:=Aga) (loops:=[]) (leaves:=[]) (fun p=>W7 N p.1.1 p.1.2.1 p.1.2.2.1) (fun r=>((r,()),())) Akz (fun _ _ _=>rfl) (fun r z h=>by cases h;rfl) Try.func96 (by kernel_rfl) (by kernel_rfl) (by kernel_rfl) rfl rfl (by kernel_rfl) (fun args w=>Sem.pv_run _ _ _ (by kernel_rfl) w) (Ax8 N) mixed trivial (fun z E Xc hE hX hret=>trivial) (fun p=>Azf N p.1.1 p.1.2.1 p.1.2.2.1)

def Bh(N:Nat)(rec:(Qh)→Int→Int→(Qh)→Qd→Qd→Option QI)(d:Qh)(from_:Int)(to:Int)(r:Qh)(least:List Int)(next:List Int):Option QI:=
 chk (to+1)<|
 rec d from_ (to+1) r least next
def Ar(N:Nat):Nat→(Qh)→Int→Int→(Qh)→Qd→Qd→Option QI
 | 0,_,_,_,_,_,_=>none
 | n_+1,d,from_,to,r,least,next=>
  (P6 N d).bind fun x_2=>
  br (decide (to≤x_2))
   ((P6 N d).bind fun x_3=>
   br (decide (to<x_3))
    (rng to 13<|
    get next to.toNat fun x_4=>
    br (decide (x_4=0))
     (Bh N (Ar N n_) d from_ to r least next)
     ((W7 N r from_ to).bind fun x_5=>
     br (!x_5)
      (Bh N (Ar N n_) d from_ to r least next)
      (rng from_ 13<|
      get next from_.toNat fun x_6=>
      br (decide (x_6=0))
       (rng to 13<|
       get least to.toNat fun x_7=>
       chk (x_7+1)<|
       rng from_ 13<|
       get least from_.toNat fun _=>
       rng from_ 13<|
       get next from_.toNat fun _=>
       Bh N (Ar N n_) d from_ to r (least.set from_.toNat (x_7+1)) (next.set from_.toNat to))
       (rng to 13<|
       get least to.toNat fun x_10=>
       chk (x_10+1)<|
       rng from_ 13<|
       get least from_.toNat fun x_11=>
       br (decide ((x_10+1)<x_11))
        (rng to 13<|
        get least to.toNat fun x_12=>
        chk (x_12+1)<|
        rng from_ 13<|
        get least from_.toNat fun _=>
        rng from_ 13<|
        get next from_.toNat fun _=>
        Bh N (Ar N n_) d from_ to r (least.set from_.toNat (x_12+1)) (next.set from_.toNat to))
        (Bh N (Ar N n_) d from_ to r least next)))))
    ((W7 N r from_ to).bind fun x_15=>
    br (!x_15)
     (Bh N (Ar N n_) d from_ to r least next)
     (rng from_ 13<|
     get next from_.toNat fun x_16=>
     br (decide (x_16=0))
      (rng to 13<|
      get least to.toNat fun x_17=>
      chk (x_17+1)<|
      rng from_ 13<|
      get least from_.toNat fun _=>
      rng from_ 13<|
      get next from_.toNat fun _=>
      Bh N (Ar N n_) d from_ to r (least.set from_.toNat (x_17+1)) (next.set from_.toNat to))
      (rng to 13<|
      get least to.toNat fun x_20=>
      chk (x_20+1)<|
      rng from_ 13<|
      get least from_.toNat fun x_21=>
      br (decide ((x_20+1)<x_21))
       (rng to 13<|
       get least to.toNat fun x_22=>
       chk (x_22+1)<|
       rng from_ 13<|
       get least from_.toNat fun _=>
       rng from_ 13<|
       get next from_.toNat fun _=>
       Bh N (Ar N n_) d from_ to r (least.set from_.toNat (x_22+1)) (next.set from_.toNat to))
       (Bh N (Ar N n_) d from_ to r least next)))))
   (some ((d,from_,r,least,next)))
def Ea(N:Nat):Nat→(Qh)→Int→(Qh)→Qd→Qd→Option (Qh×List Int)
 | 0,_,_,_,_,_=>none
 | n_+1,d,from_,r,least,next=>
  br (decide (0≤from_))
   (chk (from_+1)<|
   (Ar N N d from_ (from_+1) r least next).bind fun(d_25,from__26,r_27,least_28,next_29)=>
   chk (from__26-1)<|
   Ea N n_ d_25 (from__26-1) r_27 least_28 next_29)
   (some ((d,next)))
def E5(N:Nat):Nat→(Qh)→Int→Qd→Qd→Option Qd
 | 0,_,_,_,_=>none
 | n_+1,d,at_,next,out=>
  (P6 N d).bind fun x_33=>
  br (decide (at_<x_33))
   (rng at_ 13<|
   get next at_.toNat fun x_34=>
   chk (x_34-at_)<|
   lim (out.length+[(x_34-at_)].length)<|
   rng at_ 13<|
   get next at_.toNat fun x_35=>
   E5 N n_ d x_35 next (out++[(x_34-at_)]))
   (some (out))
def Rt(N:Nat)(r:Qh)(d:Qh):Option (List Int×Bool):=
 (P6 N d).bind fun x_1=>
 chk (x_1-1)<|
 (Ea N N d (x_1-1) r (List.replicate 13 (0:Int)) (List.replicate 13 (0:Int))).bind fun(d_30,next_31)=>
 get next_31 0 fun x_32=>
 br (decide (x_32=0))
  (some ([],false))
  ((E5 N N d_30 0 next_31 []).bind fun out_36=>
  some (out_36,true))
noncomputable def Fg(N:Nat):List Spec:=[Agt N,An9 N]
theorem Gv(N:Nat):AllP (A0 Try.prog) (Fg N):=⟨A5b N,Alz N,trivial⟩
noncomputable def Axx:Code:=(Try.f97.body).getD .skip
noncomputable abbrev Ad:Body:={ c:=Axx,n:=87,res:=[.tmp 4,.tmp 5],outs:=[⟨[.sl (.int .i64),.b],[]⟩],m0:=0 }
abbrev A2u:altD Ad.outs→Option (List Int×Bool):=fun r=>some (r.1.1,r.1.2.1)
abbrev Kd:List PI:=[.c [1,1,0,1,0,0,1,0,0,1,0,0,0,0],.c [1,1,0,1,0,0,1,0,0,1,0,0,0,1],.c [1,1,0,1,0,0,1,0,0,1,0,0,1],.l [1,1,0,1,0,0,1,0,0,1,0,0],.b 2,.b 1,.c [1,1,0,1,0,0,1,1],.l [1,1,0,1,0,0],.b 0,.c [1,1,1]]
abbrev G1:Sta:=⟨[1,2,6,7,8,9],⟨[.fe Qi,.own 0 0,.own 1 0,.own 2 0,.i .i64,.i .i64],[.segs [.fn 96 [.fe Qi] []],.segs [.arr (.int .i64) 13],.segs [.arr (.int .i64) 13]]⟩⟩
abbrev Ew(rec:(Qh)→Int→Int→(Qh)→Qd→Qd→Option QI):Leaf QI:=⟨Kd,G1,fun p=>rec p.1.1 p.1.2.2.2.2.1 p.1.2.2.2.2.2.1 p.2.1.1.1.1 p.2.2.1.1 p.2.2.2.1.1⟩
abbrev Dq:Leaf QI:=⟨[.c [1,1,0,1,0,0,1,1],.l [1,1,0,1,0,0],.b 0,.c [1,1,1]],⟨[1,2,6,7,8],⟨[.fe Qi,.own 0 0,.own 1 0,.own 2 0,.i .i64],[.segs [.fn 96 [.fe Qi] []],.segs [.arr (.int .i64) 13],.segs [.arr (.int .i64) 13]]⟩⟩,fun p=>some ((p.1.1,p.1.2.2.2.2.1,p.2.1.1.1.1,p.2.2.1.1,p.2.2.2.1.1))⟩
abbrev Sd:List PI:=[.c [1,1,0,1,0,0,1,0,0,1,0,0,1,1],.l [1,1,0,1,0,0,1,0,0,1,0,0],.b 2,.b 1,.c [1,1,0,1,0,0,1,1],.l [1,1,0,1,0,0],.b 0,.c [1,1,1]]
abbrev Kj:Sta:=⟨[1,2,6,7,8,9],⟨[.fe Qi,.own 0 0,.own 1 0,.own 2 0,.i .i64,.i .i64],[.segs [.fn 96 [.fe Qi] []],.segs [.arr (.int .i64) 13],.segs [.arr (.int .i64) 13]]⟩⟩
abbrev N6(N:Nat)(rec:(Qh)→Int→Int→(Qh)→Qd→Qd→Option QI):Leaf QI:=⟨Sd,Kj,fun p=>Bh N rec p.1.1 p.1.2.2.2.2.1 p.1.2.2.2.2.2.1 p.2.1.1.1.1 p.2.2.1.1 p.2.2.2.1.1⟩
theorem A9i(N:Nat)(rec:(Qh)→Int→Int→(Qh)→Qd→Qd→Option QI)(d:Qh)(from_:Int)(to:Int)(r:Qh)(least:List Int)(next:List Int):ev (Z:=Qh×Int×Qh×List Int×List Int) Try.prog (Fg N) Ad [] [Ew rec,Dq] none 400 true Sd (stL Kj ((d,(),(),(),from_,to,()),((((r,()),()),()),(least,()),(next,()),()))) (stH Kj ((d,(),(),(),from_,to,()),((((r,()),()),()),(least,()),(next,()),())))=Bh N rec d from_ to r least next:=by kernel_rfl
theorem A9j(N:Nat)(rec:(Qh)→Int→Int→(Qh)→Qd→Qd→Option QI){z:Qh×Int×Qh×List Int×List Int}{top:Bool}{E:EE}{Xc:Ctx}(hE:EOK Ad.m0 E)(hX:CxOK top Xc)(hrec:Ag Try.prog Ad.c Ad.n Ad.m0 E Xc z (Ew rec))(h0:Ag Try.prog Ad.c Ad.n Ad.m0 E Xc z Dq):Ag Try.prog Ad.c Ad.n Ad.m0 E Xc z (N6 N rec):=A2 (B:=Ad) (loops:=[]) (leaves:=[Ew rec,Dq]) (Gv N) mixed trivial hE hX ⟨hrec,h0,trivial⟩ Aa.no (fun p=>A9i N rec p.1.1 p.1.2.2.2.2.1 p.1.2.2.2.2.2.1 p.2.1.1.1.1 p.2.2.1.1 p.2.2.2.1.1)
noncomputable def Cf(N:Nat):Ai:={ at_:=Kd,sta:=G1,exits:=[([.c [1,1,0,1,0,0,1,1],.l [1,1,0,1,0,0],.b 0,.c [1,1,1]],⟨[1,2,6,7,8],⟨[.fe Qi,.own 0 0,.own 1 0,.own 2 0,.i .i64],[.segs [.fn 96 [.fe Qi] []],.segs [.arr (.int .i64) 13],.segs [.arr (.int .i64) 13]]⟩⟩)],run:=fun p k=>(Ar N N p.1.1 p.1.2.2.2.2.1 p.1.2.2.2.2.2.1 p.2.1.1.1.1 p.2.2.1.1 p.2.2.2.1.1).bind fun e=>k (.inl ((e.1,(),(),(),e.2.1,()),((((e.2.2.1,()),()),()),(e.2.2.2.1,()),(e.2.2.2.2,()),()))) }
theorem A98(N n_:Nat)(d:Qh)(from_:Int)(to:Int)(r:Qh)(least:List Int)(next:List Int):ev (Z:=Qh×Int×Qh×List Int×List Int) Try.prog (Fg N) Ad [] [Ew (Ar N n_),Dq,N6 N (Ar N n_)] none 400 true Kd (stL G1 ((d,(),(),(),from_,to,()),((((r,()),()),()),(least,()),(next,()),()))) (stH G1 ((d,(),(),(),from_,to,()),((((r,()),()),()),(least,()),(next,()),())))=Ar N (n_+1) d from_ to r least next:=by kernel_rfl
theorem K9(N:Nat){top:Bool}:Ab Try.prog Ad.c Ad.n Ad.m0 top (Cf N):=A3 (Z:=Qh×Int×Qh×List Int×List Int) (N:=N) (fun m p=>Ar N m p.1.1 p.1.2.2.2.2.1 p.1.2.2.2.2.2.1 p.2.1.1.1.1 p.2.2.1.1 p.2.2.2.1.1) (fun e=>.inl ((e.1,(),(),(),e.2.1,()),((((e.2.2.1,()),()),()),(e.2.2.2.1,()),(e.2.2.2.2,()),()))) (fun _ _ _=>rfl) (fun _=>rfl) (fun m z E Xc hE hX hrec hx=>A2 (B:=Ad) (loops:=[]) (leaves:=[Ew (Ar N m),Dq,N6 N (Ar N m)]) (Gv N) mixed trivial hE hX ⟨hrec,(fun p hp=>by obtain rfl:=Option.some.inj hp;exact hx),A9j N _ hE hX hrec (fun p hp=>by obtain rfl:=Option.some.inj hp;exact hx),trivial⟩ Aa.no (fun p=>A98 N m p.1.1 p.1.2.2.2.2.1 p.1.2.2.2.2.2.1 p.2.1.1.1.1 p.2.2.1.1 p.2.2.2.1.1))
abbrev Kp:List PI:=[.c [1,1,0,1,0,0,0,0],.c [1,1,0,1,0,0,0,1],.c [1,1,0,1,0,0,1],.l [1,1,0,1,0,0],.b 0,.c [1,1,1]]
abbrev G5:Sta:=⟨[1,2,6,7,8],⟨[.fe Qi,.own 0 0,.own 1 0,.own 2 0,.i .i64],[.segs [.fn 96 [.fe Qi] []],.segs [.arr (.int .i64) 13],.segs [.arr (.int .i64) 13]]⟩⟩
abbrev Wo(rec:(Qh)→Int→(Qh)→Qd→Qd→Option (Qh×List Int)):Leaf (Qh×List Int):=⟨Kp,G5,fun p=>rec p.1.1 p.1.2.2.2.2.1 p.2.1.1.1.1 p.2.2.1.1 p.2.2.2.1.1⟩
abbrev S7:Leaf (Qh×List Int):=⟨[.c [1,1,1,0,0],.c [1,1,1,0,1],.c [1,1,1,1]],⟨[1,7],⟨[.fe Qi,.own 0 0],[.segs [.arr (.int .i64) 13]]⟩⟩,fun p=>some ((p.1.1,p.2.1.1))⟩
noncomputable def F5(N:Nat):Ai:={ at_:=Kp,sta:=G5,exits:=[([.c [1,1,1,0,0],.c [1,1,1,0,1],.c [1,1,1,1]],⟨[1,7],⟨[.fe Qi,.own 0 0],[.segs [.arr (.int .i64) 13]]⟩⟩)],run:=fun p k=>(Ea N N p.1.1 p.1.2.2.2.2.1 p.2.1.1.1.1 p.2.2.1.1 p.2.2.2.1.1).bind fun e=>k (.inl ((e.1,(),()),((e.2,()),()))) }
theorem A9c(N n_:Nat)(d:Qh)(from_:Int)(r:Qh)(least:List Int)(next:List Int):ev (Z:=Qh×List Int) Try.prog (Fg N) Ad [Cf N] [Wo (Ea N n_),S7] none 400 true Kp (stL G5 ((d,(),(),(),from_,()),((((r,()),()),()),(least,()),(next,()),()))) (stH G5 ((d,(),(),(),from_,()),((((r,()),()),()),(least,()),(next,()),())))=Ea N (n_+1) d from_ r least next:=by kernel_rfl
theorem Sa(N:Nat){top:Bool}:Ab Try.prog Ad.c Ad.n Ad.m0 top (F5 N):=A3 (Z:=Qh×List Int) (N:=N) (fun m p=>Ea N m p.1.1 p.1.2.2.2.2.1 p.2.1.1.1.1 p.2.2.1.1 p.2.2.2.1.1) (fun e=>.inl ((e.1,(),()),((e.2,()),()))) (fun _ _ _=>rfl) (fun _=>rfl) (fun m z E Xc hE hX hrec hx=>A2 (B:=Ad) (loops:=[Cf N]) (leaves:=[Wo (Ea N m),S7]) (Gv N) mixed ⟨K9 N,trivial⟩ hE hX ⟨hrec,(fun p hp=>by obtain rfl:=Option.some.inj hp;exact hx),trivial⟩ Aa.no (fun p=>A9c N m p.1.1 p.1.2.2.2.2.1 p.2.1.1.1.1 p.2.2.1.1 p.2.2.2.1.1))
abbrev Kf:List PI:=[.c [1,1,1,1,1,0,1,0,0,0,0],.c [1,1,1,1,1,0,1,0,0,0,1],.c [1,1,1,1,1,0,1,0,0,1],.l [1,1,1,1,1,0,1,0,0],.b 4,.c [1,1,1,1,1,1]]
abbrev G4:Sta:=⟨[1,7,10,11],⟨[.fe Qi,.own 0 0,.ols 1,.i .i64],[.segs [.arr (.int .i64) 13],.lst (.int .i64)]⟩⟩
abbrev Vs(rec:(Qh)→Int→Qd→Qd→Option Qd):Leaf Qd:=⟨Kf,G4,fun p=>rec p.1.1 p.1.2.2.2.1 p.2.1.1 p.2.2.1⟩
abbrev Sf:Leaf Qd:=⟨[.c [1,1,1,1,1,1,0],.c [1,1,1,1,1,1,1]],⟨[10],⟨[.ols 0],[.lst (.int .i64)]⟩⟩,fun p=>some (p.2.1)⟩
noncomputable def Ms(N:Nat):Ai:={ at_:=Kf,sta:=G4,exits:=[([.c [1,1,1,1,1,1,0],.c [1,1,1,1,1,1,1]],⟨[10],⟨[.ols 0],[.lst (.int .i64)]⟩⟩)],run:=fun p k=>(E5 N N p.1.1 p.1.2.2.2.1 p.2.1.1 p.2.2.1).bind fun e=>k (.inl (((),()),(e,()))) }
theorem A9b(N n_:Nat)(d:Qh)(at_:Int)(next:List Int)(out:List Int):ev (Z:=List Int) Try.prog (Fg N) Ad [Cf N,F5 N] [Vs (E5 N n_),Sf] none 400 true Kf (stL G4 ((d,(),(),at_,()),((next,()),out,()))) (stH G4 ((d,(),(),at_,()),((next,()),out,())))=E5 N (n_+1) d at_ next out:=by kernel_rfl
theorem A9u(N:Nat){top:Bool}:Ab Try.prog Ad.c Ad.n Ad.m0 top (Ms N):=A3 (Z:=List Int) (N:=N) (fun m p=>E5 N m p.1.1 p.1.2.2.2.1 p.2.1.1 p.2.2.1) (fun e=>.inl (((),()),(e,()))) (fun _ _ _=>rfl) (fun _=>rfl) (fun m z E Xc hE hX hrec hx=>A2 (B:=Ad) (loops:=[Cf N,F5 N]) (leaves:=[Vs (E5 N m),Sf]) (Gv N) mixed ⟨K9 N,Sa N,trivial⟩ hE hX ⟨hrec,(fun p hp=>by obtain rfl:=Option.some.inj hp;exact hx),trivial⟩ Aa.no (fun p=>A9b N m p.1.1 p.1.2.2.2.1 p.2.1.1 p.2.2.1))
abbrev A3u:Sta:=⟨[0,1],⟨[.agg [.fn 96 [.fe Qi] []],.fe Qi],[]⟩⟩
theorem Anu(N:Nat)(r:Qh)(d:Qh):ev (Z:=List Int×Bool) Try.prog (Fg N) Ad [Cf N,F5 N,Ms N] [] (some A2u) 400 false [.c [0],.c [1]] (stL A3u (((((r,()),()),()),d,()),())) (stH A3u (((((r,()),()),()),d,()),()))=Rt N r d:=by kernel_rfl
noncomputable def A2r(N:Nat):Spec:={ f:=97,ins:=⟨[.agg [.fn 96 [.fe Qi] []],.fe Qi],[]⟩,outs:=[⟨[.sl (.int .i64),.b],[]⟩],run:=fun p k=>(Rt N p.1.1.1.1.1 p.1.2.1).bind fun r=>k ((r.1,r.2,()),()) }
theorem A9m(N:Nat):A0 Try.prog (A2r N):=A1 (B:=Ad) (loops:=[Cf N,F5 N,Ms N]) (leaves:=[]) (fun p=>Rt N p.1.1.1.1.1 p.1.2.1) (fun r=>((r.1,r.2,()),())) A2u (fun _ _ _=>rfl) (fun r z h=>by cases h;rfl) Try.func97 (by kernel_rfl) (by kernel_rfl) (by kernel_rfl) rfl rfl (by kernel_rfl) (fun args w=>Sem.pv_run _ _ _ (by kernel_rfl) w) (Gv N) mixed ⟨K9 N,Sa N,A9u N,trivial⟩ (fun z E Xc hE hX hret=>trivial) (fun p=>Anu N p.1.1.1.1.1 p.1.2.1)

def Wj(N:Nat)(t:List QB)(t2:List Qe)(t3:Int):Option (List Int×Int):=
 ((Al N t t2 t3).bind fun e=>match e with
 | .inl (x_1,y_2)=>
  (br (!decide (y_2=0))
   (some ([],y_2))
   ((Rt N x_1 x_1).bind fun(x_3,y_4)=>
   br (!y_4)
    (some ([],6))
    (some (x_3,0))))
 | .inr x_5=>
  (br (!decide (x_5=0))
   (some ([],x_5))
   (none)))
noncomputable def Ads(N:Nat):List Spec:=[Bw N,A2r N]
theorem Aoe(N:Nat):AllP (A0 Try.prog) (Ads N):=⟨Cb N,A9m N,trivial⟩
noncomputable def B13:Code:=(Try.f64.body).getD .skip
noncomputable abbrev A88:Body:={ c:=B13,n:=27,res:=[.tmp 2,.tmp 3],outs:=[⟨[.sl (.int .i64),.i .i64],[]⟩],m0:=0 }
abbrev Aao:altD A88.outs→Option (List Int×Int):=fun r=>some (r.1.1,r.1.2.1)
abbrev Abu:Sta:=⟨[0],⟨[.agg [.sl Qw,.sl Qf,.i .i64]],[]⟩⟩
theorem Awz(N:Nat)(t:List QB)(t2:List Qe)(t3:Int):ev (Z:=List Int×Int) Try.prog (Ads N) A88 [] [] (some Aao) 400 false [.c [0],.c [1]] (stL Abu (((t,t2,t3,()),()),())) (stH Abu (((t,t2,t3,()),()),()))=Wj N t t2 t3:=by kernel_rfl
noncomputable def Abh(N:Nat):Spec:={ f:=64,ins:=⟨[.agg [.sl Qw,.sl Qf,.i .i64]],[]⟩,outs:=[⟨[.sl (.int .i64),.i .i64],[]⟩],run:=fun p k=>(Wj N p.1.1.1 p.1.1.2.1 p.1.1.2.2.1).bind fun r=>k ((r.1,r.2,()),()) }
theorem Agf(N:Nat):A0 Try.prog (Abh N):=A1 (B:=A88) (loops:=[]) (leaves:=[]) (fun p=>Wj N p.1.1.1 p.1.1.2.1 p.1.1.2.2.1) (fun r=>((r.1,r.2,()),())) Aao (fun _ _ _=>rfl) (fun r z h=>by cases h;rfl) Try.func64 (by kernel_rfl) (by kernel_rfl) (by kernel_rfl) rfl rfl (by kernel_rfl) (fun args w=>Sem.pv_run _ _ _ (by kernel_rfl) w) (Aoe N) mixed trivial (fun z E Xc hE hX hret=>trivial) (fun p=>Awz N p.1.1.1 p.1.1.2.1 p.1.1.2.2.1)

def F8(N:Nat)(weight:Int)(stop:Bool):Option (Int×Int×Bool):=
 some (1,weight,stop)
noncomputable def Akw(N:Nat):List Spec:=[]
theorem Axi(N:Nat):AllP (A0 Try.prog) (Akw N):=trivial
noncomputable def B3w:Code:=(Try.f98.body).getD .skip
noncomputable abbrev Aex:Body:={ c:=B3w,n:=8,res:=[.cell 4 185],outs:=[⟨[.agg [.i .i64,.i .i64,.b]],[]⟩],m0:=0 }
abbrev Amw:altD Aex.outs→Option (Int×Int×Bool):=fun r=>some (r.1.1.1,r.1.1.2.1,r.1.1.2.2.1)
abbrev Ahg:Sta:=⟨[0,1],⟨[.i .i64,.b],[]⟩⟩
theorem B16(N:Nat)(weight:Int)(stop:Bool):ev (Z:=Int×Int×Bool) Try.prog (Akw N) Aex [] [] (some Amw) 400 false [.c [0],.c [1]] (stL Ahg ((weight,stop,()),())) (stH Ahg ((weight,stop,()),()))=F8 N weight stop:=by kernel_rfl
noncomputable def Ak6(N:Nat):Spec:={ f:=98,ins:=⟨[.i .i64,.b],[]⟩,outs:=[⟨[.agg [.i .i64,.i .i64,.b]],[]⟩],run:=fun p k=>(F8 N p.1.1 p.1.2.1).bind fun r=>k (((r.1,r.2.1,r.2.2,()),()),()) }
theorem Aj7(N:Nat):A0 Try.prog (Ak6 N):=A1 (B:=Aex) (loops:=[]) (leaves:=[]) (fun p=>F8 N p.1.1 p.1.2.1) (fun r=>(((r.1,r.2.1,r.2.2,()),()),())) Amw (fun _ _ _=>rfl) (fun r z h=>by cases h;rfl) Try.func98 (by kernel_rfl) (by kernel_rfl) (by kernel_rfl) rfl rfl (by kernel_rfl) (fun args w=>Sem.pv_run _ _ _ (by kernel_rfl) w) (Axi N) mixed trivial (fun z E Xc hE hX hret=>trivial) (fun p=>B16 N p.1.1 p.1.2.1)

def Aey(N:Nat)(last:Int):Option ((List QB)×(List Qe)×Int):=
 (F8 N 0 false).bind fun(x_1,y_2,y_3)=>
 (F8 N 4 true).bind fun(x_4,y_5,y_6)=>
 (F8 N 0 false).bind fun(x_7,y_8,y_9)=>
 (F8 N 3 true).bind fun(x_10,y_11,y_12)=>
 (F8 N 3 false).bind fun(x_13,y_14,y_15)=>
 (F8 N 3 true).bind fun(x_16,y_17,y_18)=>
 (F8 N 0 false).bind fun(x_19,y_20,y_21)=>
 (F8 N 2 true).bind fun(x_22,y_23,y_24)=>
 some ([(x_1,y_2,y_3),(x_4,y_5,y_6),(x_7,y_8,y_9),(x_10,y_11,y_12),(x_13,y_14,y_15),(x_16,y_17,y_18),(x_19,y_20,y_21),(x_22,y_23,y_24)],[(3,4,last)],5)
noncomputable def Ato(N:Nat):List Spec:=[Ak6 N]
theorem B0u(N:Nat):AllP (A0 Try.prog) (Ato N):=⟨Aj7 N,trivial⟩
noncomputable def B70:Code:=(Try.f65.body).getD .skip
noncomputable abbrev Aqy:Body:={ c:=B70,n:=17,res:=[.cell 2 137],outs:=[⟨[.agg [.sl Qw,.sl Qf,.i .i64]],[]⟩],m0:=0 }
abbrev Atg:altD Aqy.outs→Option ((List QB)×(List Qe)×Int):=fun r=>some (r.1.1.1,r.1.1.2.1,r.1.1.2.2.1)
abbrev Atq:Sta:=⟨[0],⟨[.i .i64],[]⟩⟩
theorem B2s(N:Nat)(last:Int):ev (Z:=(List QB)×(List Qe)×Int) Try.prog (Ato N) Aqy [] [] (some Atg) 400 false [.c [0],.c [1]] (stL Atq ((last,()),())) (stH Atq ((last,()),()))=Aey N last:=by kernel_rfl
noncomputable def Atf(N:Nat):Spec:={ f:=65,ins:=⟨[.i .i64],[]⟩,outs:=[⟨[.agg [.sl Qw,.sl Qf,.i .i64]],[]⟩],run:=fun p k=>(Aey N p.1.1).bind fun r=>k (((r.1,r.2.1,r.2.2,()),()),()) }
theorem Aq2(N:Nat):A0 Try.prog (Atf N):=A1 (B:=Aqy) (loops:=[]) (leaves:=[]) (fun p=>Aey N p.1.1) (fun r=>(((r.1,r.2.1,r.2.2,()),()),())) Atg (fun _ _ _=>rfl) (fun r z h=>by cases h;rfl) Try.func65 (by kernel_rfl) (by kernel_rfl) (by kernel_rfl) rfl rfl (by kernel_rfl) (fun args w=>Sem.pv_run _ _ _ (by kernel_rfl) w) (B0u N) mixed trivial (fun z E Xc hE hX hret=>trivial) (fun p=>B2s N p.1.1)

end Go.Proofs.Ytgeijboidfadaaa.Tx

namespace Go.Proofs.Ytgeijboidfadaaa
set_option linter.all false
open Go

noncomputable abbrev V1:=Tx.Abh
theorem A1r(N:Nat):A0 Try.prog (V1 N):=Tx.Agf N
abbrev Alr:=Tx.Wj
noncomputable abbrev A7a:=Tx.Atf
theorem A9r(N:Nat):A0 Try.prog (A7a N):=Tx.Aq2 N
abbrev Ax5:=Tx.Aey
noncomputable abbrev A73:=Fe.Auw
theorem Aa1(N:Nat):A0 Try.prog (A73 N):=Fe.Apv N
abbrev Axp:=Fe.Af1
noncomputable abbrev A51:=Fe.Ave
theorem A9f(N:Nat):A0 Try.prog (A51 N):=Fe.Apn N
abbrev Aw2:=Fe.Af7
def Lm(N:Nat)  : Option Bool:=
 (Ax5 N 5).bind fun(x_1,y_2,y_3)=>
 (Alr N x_1 y_2 y_3).bind fun(x_4,y_5)=>
 (Aw2 N).bind fun(x_6,y_7,y_8,y_9,y_10)=>
 (Axp N x_6 y_7 y_8 y_9 y_10).bind fun(x_11,y_12,y_13)=>
 br (decide (y_5=0))
  (br (decide (y_13=0))
   ((K7 N x_4 [2,4,2]).bind fun x_14=>
   br x_14
    ((K7 N x_11 [1,0,0,1]).bind fun x_15=>
    br x_15
     (some (decide (y_12=15)))
     (some false))
    (some false))
   (some false))
  (some false)
noncomputable def A72(N:Nat):List Spec:=[A89 N,V1 N,A7a N,A73 N,A51 N]
theorem Ahr(N:Nat):AllP (A0 Try.prog) (A72 N):=⟨A0j N,A1r N,A9r N,Aa1 N,A9f N,trivial⟩
noncomputable def Ax7:Code:=(Try.f27.body).getD .skip
noncomputable abbrev Y3:Body:={ c:=Ax7,n:=37,res:=[.tmp 0],outs:=[⟨[.b],[]⟩],m0:=0 }
abbrev A5n:altD Y3.outs→Option Bool:=fun r=>some r.1.1
abbrev A7i:Sta:=⟨[],⟨[],[]⟩⟩
theorem Anv(N:Nat)  : ev (Z:=Bool) Try.prog (A72 N) Y3 [] [] (some A5n) 400 false [.c [0],.c [1]] (stL A7i ((),())) (stH A7i ((),()))=Lm N:=by kernel_rfl
noncomputable def A6w(N:Nat):Spec:={ f:=27,ins:=⟨[],[]⟩,outs:=[⟨[.b],[]⟩],run:=fun p k=>(Lm N).bind fun r=>k ((r,()),()) }
theorem A9k(N:Nat):A0 Try.prog (A6w N):=A1 (B:=Y3) (loops:=[]) (leaves:=[]) (fun p=>Lm N ) (fun r=>((r,()),())) A5n (fun _ _ _=>rfl) (fun r z h=>by cases h;rfl) Try.func27 (by kernel_rfl) (by kernel_rfl) (by kernel_rfl) rfl rfl (by kernel_rfl) (fun args w=>Sem.pv_run _ _ _ (by kernel_rfl) w) (Ahr N) mixed trivial (fun z E Xc hE hX hret=>trivial) (fun p=>Anv N )

end Go.Proofs.Ytgeijboidfadaaa

namespace Go.Proofs.Ytgeijboidfadaaa.Fd
set_option linter.all false
open Go

end Go.Proofs.Ytgeijboidfadaaa.Fd

namespace Go.Proofs.Ytgeijboidfadaaa.Fd
set_option linter.all false
open Go

def Anh(N:Nat)(d:List Int×Int×List Qd×List Qd×List Int×List Int×List Int×Unit)(lost:Int):Option (Qb×Qb×Int):=
 some (d,d,lost)
noncomputable def B1k(N:Nat):List Spec:=[]
theorem B3u(N:Nat):AllP (A0 Try.prog) (B1k N):=trivial
noncomputable def B7s:Code:=(Try.f36.body).getD .skip
noncomputable abbrev B1g:Body:={ c:=B7s,n:=9,res:=[.tmp 4],outs:=[⟨[.fn 71 [] [.fz [.fz [.sl (.int .i64),.i .i64,.sl Qg,.sl Qg,.sl (.int .i64),.arr (.int .i64) 36,.arr (.int .i64) 36]],.fz [.fn 38 [.fz [.sl (.int .i64),.i .i64,.sl Qg,.sl Qg,.sl (.int .i64),.arr (.int .i64) 36,.arr (.int .i64) 36]] []],.fe (.int .i64)]],[]⟩],m0:=0 }
abbrev Azt:altD B1g.outs→Option (Qb×Qb×Int):=fun r=>some (r.1.1.2.1.1,r.1.1.2.2.1.1.1.1,r.1.1.2.2.2.1)
abbrev B1o:Sta:=⟨[0,1],⟨[.fz [.sl (.int .i64),.i .i64,.sl Qg,.sl Qg,.sl (.int .i64),.arr (.int .i64) 36,.arr (.int .i64) 36],.i .i64],[]⟩⟩
theorem B5h(N:Nat)(d:List Int×Int×List Qd×List Qd×List Int×List Int×List Int×Unit)(lost:Int):ev (Z:=Qb×Qb×Int) Try.prog (B1k N) B1g [] [] (some Azt) 400 false [.c [0],.c [1]] (stL B1o ((d,lost,()),())) (stH B1o ((d,lost,()),()))=Anh N d lost:=by kernel_rfl
noncomputable def B1r(N:Nat):Spec:={ f:=36,ins:=⟨[.fz [.sl (.int .i64),.i .i64,.sl Qg,.sl Qg,.sl (.int .i64),.arr (.int .i64) 36,.arr (.int .i64) 36],.i .i64],[]⟩,outs:=[⟨[.fn 71 [] [.fz [.fz [.sl (.int .i64),.i .i64,.sl Qg,.sl Qg,.sl (.int .i64),.arr (.int .i64) 36,.arr (.int .i64) 36]],.fz [.fn 38 [.fz [.sl (.int .i64),.i .i64,.sl Qg,.sl Qg,.sl (.int .i64),.arr (.int .i64) 36,.arr (.int .i64) 36]] []],.fe (.int .i64)]],[]⟩],run:=fun p k=>(Anh N p.1.1 p.1.2.1).bind fun r=>k ((((),((r.1,()),(((r.2.1,()),()),()),r.2.2,())),()),()) }
theorem Awk(N:Nat):A0 Try.prog (B1r N):=A1 (B:=B1g) (loops:=[]) (leaves:=[]) (fun p=>Anh N p.1.1 p.1.2.1) (fun r=>((((),((r.1,()),(((r.2.1,()),()),()),r.2.2,())),()),())) Azt (fun _ _ _=>rfl) (fun r z h=>by cases h;rfl) Try.func36 (by kernel_rfl) (by kernel_rfl) (by kernel_rfl) rfl rfl (by kernel_rfl) (fun args w=>Sem.pv_run _ _ _ (by kernel_rfl) w) (B3u N) mixed trivial (fun z E Xc hE hX hret=>trivial) (fun p=>B5h N p.1.1 p.1.2.1)

end Go.Proofs.Ytgeijboidfadaaa.Fd

namespace Go.Proofs.Ytgeijboidfadaaa.Fd
set_option linter.all false
open Go

def Dr(N:Nat)(i:Int)(k:Int)(u:List Int×Int×List Qd×List Qd×List Int×List Int×List Int×Unit):Option Int:=
 rng i 6<|
 rng k 6<|
 get u.2.2.2.2.2.1 ((i.toNat*6)+k.toNat) fun x_1=>
 chk (595*x_1)<|
 idx u.2.2.2.2.1 i fun x_2=>
 chk ((595*x_1)+x_2)<|
 some ((595*x_1)+x_2)
noncomputable def Acd(N:Nat):List Spec:=[]
theorem Arm(N:Nat):AllP (A0 Try.prog) (Acd N):=trivial
noncomputable def B0a:Code:=(Try.f86.body).getD .skip
noncomputable abbrev A3x:Body:={ c:=B0a,n:=24,res:=[.tmp 5],outs:=[⟨[.i .i64],[]⟩],m0:=0 }
abbrev Ab6:altD A3x.outs→Option Int:=fun r=>some r.1.1
abbrev Ac6:Sta:=⟨[0,1,2],⟨[.i .i64,.i .i64,.fz [.fz [.sl (.int .i64),.i .i64,.sl Qg,.sl Qg,.sl (.int .i64),.arr (.int .i64) 36,.arr (.int .i64) 36]]],[]⟩⟩
theorem Ax9(N:Nat)(i:Int)(k:Int)(u:List Int×Int×List Qd×List Qd×List Int×List Int×List Int×Unit):ev (Z:=Int) Try.prog (Acd N) A3x [] [] (some Ab6) 400 false [.c [0],.c [1]] (stL Ac6 ((i,k,(u,()),()),())) (stH Ac6 ((i,k,(u,()),()),()))=Dr N i k u:=by kernel_rfl
noncomputable def Aa8(N:Nat):Spec:={ f:=86,ins:=⟨[.i .i64,.i .i64,.fz [.fz [.sl (.int .i64),.i .i64,.sl Qg,.sl Qg,.sl (.int .i64),.arr (.int .i64) 36,.arr (.int .i64) 36]]],[]⟩,outs:=[⟨[.i .i64],[]⟩],run:=fun p k=>(Dr N p.1.1 p.1.2.1 p.1.2.2.1.1).bind fun r=>k ((r,()),()) }
theorem Afr(N:Nat):A0 Try.prog (Aa8 N):=A1 (B:=A3x) (loops:=[]) (leaves:=[]) (fun p=>Dr N p.1.1 p.1.2.1 p.1.2.2.1.1) (fun r=>((r,()),())) Ab6 (fun _ _ _=>rfl) (fun r z h=>by cases h;rfl) Try.func86 (by kernel_rfl) (by kernel_rfl) (by kernel_rfl) rfl rfl (by kernel_rfl) (fun args w=>Sem.pv_run _ _ _ (by kernel_rfl) w) (Arm N) mixed trivial (fun z E Xc hE hX hret=>trivial) (fun p=>Ax9 N p.1.1 p.1.2.1 p.1.2.2.1.1)

def A5c(N:Nat)(d:List Int×Int×List Qd×List Qd×List Int×List Int×List Int×Unit):Option Qb:=
 some d
noncomputable def Auj(N:Nat):List Spec:=[]
theorem B2h(N:Nat):AllP (A0 Try.prog) (Auj N):=trivial
noncomputable def B76:Code:=(Try.f55.body).getD .skip
noncomputable abbrev Ank:Body:={ c:=B76,n:=5,res:=[.cell 2 126],outs:=[⟨[.agg [.fn 86 [] [.fz [.fz [.sl (.int .i64),.i .i64,.sl Qg,.sl Qg,.sl (.int .i64),.arr (.int .i64) 36,.arr (.int .i64) 36]]]]],[]⟩],m0:=0 }
abbrev At7:altD Ank.outs→Option Qb:=fun r=>some r.1.1.1.2.1.1
abbrev Avl:Sta:=⟨[0],⟨[.fz [.sl (.int .i64),.i .i64,.sl Qg,.sl Qg,.sl (.int .i64),.arr (.int .i64) 36,.arr (.int .i64) 36]],[]⟩⟩
theorem B49(N:Nat)(d:List Int×Int×List Qd×List Qd×List Int×List Int×List Int×Unit):ev (Z:=Qb) Try.prog (Auj N) Ank [] [] (some At7) 400 false [.c [0],.c [1]] (stL Avl ((d,()),())) (stH Avl ((d,()),()))=A5c N d:=by kernel_rfl
noncomputable def Auq(N:Nat):Spec:={ f:=55,ins:=⟨[.fz [.sl (.int .i64),.i .i64,.sl Qg,.sl Qg,.sl (.int .i64),.arr (.int .i64) 36,.arr (.int .i64) 36]],[]⟩,outs:=[⟨[.agg [.fn 86 [] [.fz [.fz [.sl (.int .i64),.i .i64,.sl Qg,.sl Qg,.sl (.int .i64),.arr (.int .i64) 36,.arr (.int .i64) 36]]]]],[]⟩],run:=fun p k=>(A5c N p.1.1).bind fun r=>k (((((),((r,()),())),()),()),()) }
theorem Apu(N:Nat):A0 Try.prog (Auq N):=A1 (B:=Ank) (loops:=[]) (leaves:=[]) (fun p=>A5c N p.1.1) (fun r=>(((((),((r,()),())),()),()),())) At7 (fun _ _ _=>rfl) (fun r z h=>by cases h;rfl) Try.func55 (by kernel_rfl) (by kernel_rfl) (by kernel_rfl) rfl rfl (by kernel_rfl) (fun args w=>Sem.pv_run _ _ _ (by kernel_rfl) w) (B2h N) mixed trivial (fun z E Xc hE hX hret=>trivial) (fun p=>B49 N p.1.1)

noncomputable abbrev Ec(self:Int→Int→Qb→Qb→Qb→Qb→Qq→Option Qz):Spec:={ f:=124,ins:=⟨[.agg [.i .i64,.i .i64],.fz [.fz [.sl (.int .i64),.i .i64,.sl Qg,.sl Qg,.sl (.int .i64),.arr (.int .i64) 36,.arr (.int .i64) 36]],.fz [.mp 1],.own 0 0,.fz [.fn 86 [] [.fz [.fz [.sl (.int .i64),.i .i64,.sl Qg,.sl Qg,.sl (.int .i64),.arr (.int .i64) 36,.arr (.int .i64) 36]]]]],[.segs [.fn 124 [] [.fz [.fz [.sl (.int .i64),.i .i64,.sl Qg,.sl Qg,.sl (.int .i64),.arr (.int .i64) 36,.arr (.int .i64) 36]],.fz [.mp 1],.own 0 0,.fz [.fn 86 [] [.fz [.fz [.sl (.int .i64),.i .i64,.sl Qg,.sl Qg,.sl (.int .i64),.arr (.int .i64) 36,.arr (.int .i64) 36]]]]]],.map Qt Qf]⟩,outs:=[⟨[.agg [.i .i64,.i .i64,.i .i64]],[.segs [.fn 124 [] [.fz [.fz [.sl (.int .i64),.i .i64,.sl Qg,.sl Qg,.sl (.int .i64),.arr (.int .i64) 36,.arr (.int .i64) 36]],.fz [.mp 1],.own 0 0,.fz [.fn 86 [] [.fz [.fz [.sl (.int .i64),.i .i64,.sl Qg,.sl Qg,.sl (.int .i64),.arr (.int .i64) 36,.arr (.int .i64) 36]]]]]],.map Qt Qf]⟩],run:=fun p k=>(self p.1.1.1 p.1.1.2.1 p.1.2.1.1 p.1.2.2.2.2.1.1.2.1.1 p.2.1.1.2.1.1 p.2.1.1.2.2.2.2.1.1.2.1.1 p.2.2.1).bind fun r=>k (((r.1,r.2.1,r.2.2.1,()),()),((((),((r.2.2.2.1,()),((),()),(),(((),((r.2.2.2.2.1,()),())),()),())),()),r.2.2.2.2.2,())) }
def Ht(N:Nat)(self:Int→Int→Qb→Qb→Qb→Qb→Qq→Option Qz)(rec:Qb→Qb→Qq→Int→Int→Int→Int→Int→Int→Int→Int→Option QP)(u:List Int×Int×List Qd×List Qd×List Int×List Int×List Int×Unit)(u2:List Int×Int×List Qd×List Qd×List Int×List Int×List Int×Unit)(u3:List Int×Int×List Qd×List Qd×List Int×List Int×List Int×Unit)(u4:Int)(u':List Int×Int×List Qd×List Qd×List Int×List Int×List Int×Unit)(k':Int)(g':List Int×Int×List Qd×List Qd×List Int×List Int×List Int×Unit)(g2':List Int×Int×List Qd×List Qd×List Int×List Int×List Int×Unit)(g3':List (QF×Qe))(s':Int)(s2':Int)(g4':Int)(g5':Int)(g6':Int)(best':Int)(best2':Int)(best3':Int):Option QP:=
 grd (decide (0≤k'∧k'≤31))<|
 grd (decide (0≤(Int.fdiv s2' (2 ^ k'.toNat))∧(0:Int)≤1))<|
 br (decide ((((Int.fdiv s2' (2 ^ k'.toNat)).toNat &&& 1:Nat):Int)=1))
  (rec g' g2' g3' s' s2' g4' g5' g6' best' best2' best3')
  (chk (s'+1)<|
  grd (decide (0≤k'∧k'≤62))<|
  chk ((1:Int)*2 ^ k'.toNat)<|
  grd (decide (0≤s2'∧0≤((1:Int)*2 ^ k'.toNat)))<|
  (self (s'+1) ((s2'.toNat ||| ((1:Int)*2 ^ k'.toNat).toNat:Nat):Int) g' g2' g' g2' g3').bind fun(x_10,y_11,y_12,y_13,y_14,y_15)=>
  (Dr N s' k' u').bind fun x_16=>
  chk (y_11+x_16)<|
  br (decide (best2'<(y_11+x_16)))
   (rec y_13 y_14 y_15 s' s2' g4' g5' g6' k' (y_11+x_16) y_12)
   (br (decide ((y_11+x_16)=best2'))
    (chk (best3'+y_12)<|
    rec y_13 y_14 y_15 s' s2' g4' g5' g6' best' best2' (best3'+y_12))
    (rec y_13 y_14 y_15 s' s2' g4' g5' g6' best' best2' best3')))
def restr_l1(N:Nat)(self:Int→Int→Qb→Qb→Qb→Qb→Qq→Option Qz):List (Int×Unit)→Qb→Qb→Qb→Int→Qb→Qb→Qq→Int→Int→Int→Int→Int→Int→Int→Int→Option QP
 | [],u,u2,u3,u4,g,g2,g3,s,s2,g4,g5,g6,best,best2,best3=>
  some ((g,g2,g3,s,s2,g4,g5,g6,best,best2,best3))
 | e::es,u,u2,u3,u4,g,g2,g3,s,s2,g4,g5,g6,best,best2,best3=>
  Ht N self (fun g_ g2_ g3_ s_ s2_ g4_ g5_ g6_ best_ best2_ best3_=>restr_l1 N self es u u2 u3 u4 g_ g2_ g3_ s_ s2_ g4_ g5_ g6_ best_ best2_ best3_) u u2 u3 u4 u e.1 g g2 g3 s s2 g4 g5 g6 best best2 best3
def Rz(N:Nat)(self:Int→Int→Qb→Qb→Qb→Qb→Qq→Option Qz)(s:Int)(s2:Int)(u:List Int×Int×List Qd×List Qd×List Int×List Int×List Int×Unit)(u2:List Int×Int×List Qd×List Qd×List Int×List Int×List Int×Unit)(g:List Int×Int×List Qd×List Qd×List Int×List Int×List Int×Unit)(g2:List Int×Int×List Qd×List Qd×List Int×List Int×List Int×Unit)(g3:List (QF×Qe)):Option Qz:=
 br (decide (s=(u.2.2.1.length:Int)))
  (some (-1,0,1,g,g2,g3))
  (br ((g3.find? fun(y:QF×Qe)=>Ty.beq Qt y.1 (s,s2)).isSome)
   (some ((((g3.find? fun(y:QF×Qe)=>Ty.beq Qt y.1 (s,s2)).map (·.2)).getD (Ty.dflt Qf)).1,((((g3.find? fun(y:QF×Qe)=>Ty.beq Qt y.1 (s,s2)).map (·.2)).getD (Ty.dflt Qf)).2).1,((((g3.find? fun(y:QF×Qe)=>Ty.beq Qt y.1 (s,s2)).map (·.2)).getD (Ty.dflt Qf)).2).2,g,g2,g3))
   (chk (s+1)<|
   (self (s+1) s2 g g2 g g2 g3).bind fun(x_1,y_2,y_3,y_4,y_5,y_6)=>
   (Anh N u s).bind fun(x_7,y_8,y_9)=>
   ((mayR x_7 y_8 y_9).bind fun es=>restr_l1 N self es u2 x_7 y_8 y_9 y_4 y_5 y_6 s s2 0 0 0 (-1) y_2 y_3).bind fun(g_17,g2_18,g3_19,s_20,s2_21,g4_22,g5_23,g6_24,best_25,best2_26,best3_27)=>
   some (best_25,best2_26,best3_27,g_17,g2_18,(((s_20,s2_21),(best_25,best2_26,best3_27))::g3_19))))
noncomputable def Oj(N:Nat)(self:Int→Int→Qb→Qb→Qb→Qb→Qq→Option Qz):List Spec:=[B1r N,Aa8 N,Ec self]
theorem R8(N:Nat)(self:Int→Int→Qb→Qb→Qb→Qb→Qq→Option Qz)(hself:A0 Try.prog (Ec self)):AllP (A0 Try.prog) (Oj N self):=⟨Awk N,Afr N,hself,trivial⟩
noncomputable def A29:Code:=(Try.f124.body).getD .skip
noncomputable abbrev Cd:Body:={ c:=A29,n:=101,res:=[.cell 6 170],outs:=[⟨[.agg [.i .i64,.i .i64,.i .i64]],[.segs [.fn 124 [] [.fz [.fz [.sl (.int .i64),.i .i64,.sl Qg,.sl Qg,.sl (.int .i64),.arr (.int .i64) 36,.arr (.int .i64) 36]],.fz [.mp 1],.own 0 0,.fz [.fn 86 [] [.fz [.fz [.sl (.int .i64),.i .i64,.sl Qg,.sl Qg,.sl (.int .i64),.arr (.int .i64) 36,.arr (.int .i64) 36]]]]]],.map Qt Qf]⟩],m0:=2 }
abbrev Ahp:altD Cd.outs→Option Qz:=fun r=>some (r.1.1.1,r.1.1.2.1,r.1.1.2.2.1,r.2.1.1.2.1.1,r.2.1.1.2.2.2.2.1.1.2.1.1,r.2.2.1)
abbrev Gp:Sta:=⟨[2,3,4,5,6,10,48],⟨[.fz [.mp 1],.own 0 0,.fz [.fn 86 [] [.fz [.fz [.sl (.int .i64),.i .i64,.sl Qg,.sl Qg,.sl (.int .i64),.arr (.int .i64) 36,.arr (.int .i64) 36]]]],.own 2 0,.own 3 0,.own 4 0,.fn 71 [] [.fz [.fz [.sl (.int .i64),.i .i64,.sl Qg,.sl Qg,.sl (.int .i64),.arr (.int .i64) 36,.arr (.int .i64) 36]],.fz [.fn 38 [.fz [.sl (.int .i64),.i .i64,.sl Qg,.sl Qg,.sl (.int .i64),.arr (.int .i64) 36,.arr (.int .i64) 36]] []],.fe (.int .i64)]],[.segs [.fn 124 [] [.fz [.fz [.sl (.int .i64),.i .i64,.sl Qg,.sl Qg,.sl (.int .i64),.arr (.int .i64) 36,.arr (.int .i64) 36]],.fz [.mp 1],.own 0 0,.fz [.fn 86 [] [.fz [.fz [.sl (.int .i64),.i .i64,.sl Qg,.sl Qg,.sl (.int .i64),.arr (.int .i64) 36,.arr (.int .i64) 36]]]]]],.map Qt Qf,.segs [.i .i64,.i .i64],.segs [.i .i64,.i .i64,.i .i64],.segs [.i .i64,.i .i64,.i .i64]]⟩⟩
abbrev Hj:Sta:=⟨[3,4,5,6,10,11],⟨[.own 0 0,.fz [.fn 86 [] [.fz [.fz [.sl (.int .i64),.i .i64,.sl Qg,.sl Qg,.sl (.int .i64),.arr (.int .i64) 36,.arr (.int .i64) 36]]]],.own 2 0,.own 3 0,.own 4 0,.i .i64],[.segs [.fn 124 [] [.fz [.fz [.sl (.int .i64),.i .i64,.sl Qg,.sl Qg,.sl (.int .i64),.arr (.int .i64) 36,.arr (.int .i64) 36]],.fz [.mp 1],.own 0 0,.fz [.fn 86 [] [.fz [.fz [.sl (.int .i64),.i .i64,.sl Qg,.sl Qg,.sl (.int .i64),.arr (.int .i64) 36,.arr (.int .i64) 36]]]]]],.map Qt Qf,.segs [.i .i64,.i .i64],.segs [.i .i64,.i .i64,.i .i64],.segs [.i .i64,.i .i64,.i .i64]]⟩⟩
abbrev Zl:Leaf QP:=⟨[.c [1,1,1,1,1,1,0],.c [1,1,1,1,1,1,1]],⟨[2,5,6,10],⟨[.fz [.mp 1],.own 2 0,.own 3 0,.own 4 0],[.segs [.fn 124 [] [.fz [.fz [.sl (.int .i64),.i .i64,.sl Qg,.sl Qg,.sl (.int .i64),.arr (.int .i64) 36,.arr (.int .i64) 36]],.fz [.mp 1],.own 0 0,.fz [.fn 86 [] [.fz [.fz [.sl (.int .i64),.i .i64,.sl Qg,.sl Qg,.sl (.int .i64),.arr (.int .i64) 36,.arr (.int .i64) 36]]]]]],.map Qt Qf,.segs [.i .i64,.i .i64],.segs [.i .i64,.i .i64,.i .i64],.segs [.i .i64,.i .i64,.i .i64]]⟩⟩,fun p=>some ((p.2.1.1.2.1.1,p.2.1.1.2.2.2.2.1.1.2.1.1,p.2.2.1,p.2.2.2.1.1,p.2.2.2.1.2.1,p.2.2.2.2.1.1,p.2.2.2.2.1.2.1,p.2.2.2.2.1.2.2.1,p.2.2.2.2.2.1.1,p.2.2.2.2.2.1.2.1,p.2.2.2.2.2.1.2.2.1))⟩
noncomputable def Mo(N:Nat)(self:Int→Int→Qb→Qb→Qb→Qb→Qq→Option Qz):Ai:={ at_:=[.c [1,1,1,1,1,0,1,0],.b 0,.c [1,1,1,1,1,1]],sta:=Gp,exits:=[([.c [1,1,1,1,1,1,0],.c [1,1,1,1,1,1,1]],⟨[2,5,6,10],⟨[.fz [.mp 1],.own 2 0,.own 3 0,.own 4 0],[.segs [.fn 124 [] [.fz [.fz [.sl (.int .i64),.i .i64,.sl Qg,.sl Qg,.sl (.int .i64),.arr (.int .i64) 36,.arr (.int .i64) 36]],.fz [.mp 1],.own 0 0,.fz [.fn 86 [] [.fz [.fz [.sl (.int .i64),.i .i64,.sl Qg,.sl Qg,.sl (.int .i64),.arr (.int .i64) 36,.arr (.int .i64) 36]]]]]],.map Qt Qf,.segs [.i .i64,.i .i64],.segs [.i .i64,.i .i64,.i .i64],.segs [.i .i64,.i .i64,.i .i64]]⟩⟩)],run:=fun p k=>((mayR p.1.2.2.2.2.2.2.1.2.1.1 p.1.2.2.2.2.2.2.1.2.2.1.1.1.1 p.1.2.2.2.2.2.2.1.2.2.2.1).bind fun es=>restr_l1 N self es p.1.2.2.1.1.2.1.1 p.1.2.2.2.2.2.2.1.2.1.1 p.1.2.2.2.2.2.2.1.2.2.1.1.1.1 p.1.2.2.2.2.2.2.1.2.2.2.1 p.2.1.1.2.1.1 p.2.1.1.2.2.2.2.1.1.2.1.1 p.2.2.1 p.2.2.2.1.1 p.2.2.2.1.2.1 p.2.2.2.2.1.1 p.2.2.2.2.1.2.1 p.2.2.2.2.1.2.2.1 p.2.2.2.2.2.1.1 p.2.2.2.2.2.1.2.1 p.2.2.2.2.2.1.2.2.1).bind fun e=>k (.inl ((((),()),(),(),(),()),((((),((e.1,()),((),()),(),(((),((e.2.1,()),())),()),())),()),e.2.2.1,(e.2.2.2.1,e.2.2.2.2.1,()),(e.2.2.2.2.2.1,e.2.2.2.2.2.2.1,e.2.2.2.2.2.2.2.1,()),(e.2.2.2.2.2.2.2.2.1,e.2.2.2.2.2.2.2.2.2.1,e.2.2.2.2.2.2.2.2.2.2,()),()))) }
noncomputable abbrev Jn:Body:={ c:=A29,n:=Cd.n,res:=Cd.res,outs:=Cd.outs,m0:=5 }
theorem Agy(N:Nat)(self:Int→Int→Qb→Qb→Qb→Qb→Qq→Option Qz)(u:List Int×Int×List Qd×List Qd×List Int×List Int×List Int×Unit)(u2:List Int×Int×List Qd×List Qd×List Int×List Int×List Int×Unit)(u3:List Int×Int×List Qd×List Qd×List Int×List Int×List Int×Unit)(u4:Int)(g:List Int×Int×List Qd×List Qd×List Int×List Int×List Int×Unit)(g2:List Int×Int×List Qd×List Qd×List Int×List Int×List Int×Unit)(g3:List (QF×Qe))(s:Int)(s2:Int)(g4:Int)(g5:Int)(g6:Int)(best:Int)(best2:Int)(best3:Int):ev (Z:=Qb×Qb×Qq×Int×Int×Int×Int×Int×Int×Int×Int) Try.prog (Oj N self) Cd [] [Zl] none 400 false (nrm Cd.c 99 [.b 0,.c [1,1,1,1,1,1]]) (stL Gp ((((),()),(),(((),((u,()),())),()),(),(),(),((),((u2,()),(((u3,()),()),()),u4,())),()),((((),((g,()),((),()),(),(((),((g2,()),())),()),())),()),g3,(s,s2,()),(g4,g5,g6,()),(best,best2,best3,()),()))) (stH Gp ((((),()),(),(((),((u,()),())),()),(),(),(),((),((u2,()),(((u3,()),()),()),u4,())),()),((((),((g,()),((),()),(),(((),((g2,()),())),()),())),()),g3,(s,s2,()),(g4,g5,g6,()),(best,best2,best3,()),())))=restr_l1 N self [] u u2 u3 u4 g g2 g3 s s2 g4 g5 g6 best best2 best3:=by kernel_rfl
theorem Aek(N:Nat)(self:Int→Int→Qb→Qb→Qb→Qb→Qq→Option Qz)(e:Int×Unit)(es:List (Int×Unit))(u:List Int×Int×List Qd×List Qd×List Int×List Int×List Int×Unit)(u2:List Int×Int×List Qd×List Qd×List Int×List Int×List Int×Unit)(u3:List Int×Int×List Qd×List Qd×List Int×List Int×List Int×Unit)(u4:Int)(g:List Int×Int×List Qd×List Qd×List Int×List Int×List Int×Unit)(g2:List Int×Int×List Qd×List Qd×List Int×List Int×List Int×Unit)(g3:List (QF×Qe))(s:Int)(s2:Int)(g4:Int)(g5:Int)(g6:Int)(best:Int)(best2:Int)(best3:Int):ev (Z:=Qb×Qb×Qq×Int×Int×Int×Int×Int×Int×Int×Int) Try.prog (Oj N self) Jn [] [⟨[.r,.c [1,1,1,1,1,0,1,0,1]],Hj,fun p=>Ht N self (fun g_ g2_ g3_ s_ s2_ g4_ g5_ g6_ best_ best2_ best3_=>restr_l1 N self es u u2 u3 u4 g_ g2_ g3_ s_ s2_ g4_ g5_ g6_ best_ best2_ best3_) u u2 u3 u4 p.1.2.1.1.2.1.1 p.1.2.2.2.2.2.1 p.2.1.1.2.1.1 p.2.1.1.2.2.2.2.1.1.2.1.1 p.2.2.1 p.2.2.2.1.1 p.2.2.2.1.2.1 p.2.2.2.2.1.1 p.2.2.2.2.1.2.1 p.2.2.2.2.1.2.2.1 p.2.2.2.2.2.1.1 p.2.2.2.2.2.1.2.1 p.2.2.2.2.2.1.2.2.1⟩] none 400 false (nrm Cd.c 99 [.c [1,1,1,1,1,0,1,0,0],.r,.c [1,1,1,1,1,0,1,0,1]]) (pars [49] (encs id Arn.elem e) (stL Gp ((((),()),(),(((),((u,()),())),()),(),(),(),((),((u2,()),(((u3,()),()),()),u4,())),()),((((),((g,()),((),()),(),(((),((g2,()),())),()),())),()),g3,(s,s2,()),(g4,g5,g6,()),(best,best2,best3,()),())))) (stH Gp ((((),()),(),(((),((u,()),())),()),(),(),(),((),((u2,()),(((u3,()),()),()),u4,())),()),((((),((g,()),((),()),(),(((),((g2,()),())),()),())),()),g3,(s,s2,()),(g4,g5,g6,()),(best,best2,best3,()),())))=restr_l1 N self (e::es) u u2 u3 u4 g g2 g3 s s2 g4 g5 g6 best best2 best3:=by kernel_rfl
theorem Ah7(N:Nat)(self:Int→Int→Qb→Qb→Qb→Qb→Qq→Option Qz)(rec:Qb→Qb→Qq→Int→Int→Int→Int→Int→Int→Int→Int→Option QP)(u:List Int×Int×List Qd×List Qd×List Int×List Int×List Int×Unit)(u2:List Int×Int×List Qd×List Qd×List Int×List Int×List Int×Unit)(u3:List Int×Int×List Qd×List Qd×List Int×List Int×List Int×Unit)(u4:Int)(u':List Int×Int×List Qd×List Qd×List Int×List Int×List Int×Unit)(k':Int)(g':List Int×Int×List Qd×List Qd×List Int×List Int×List Int×Unit)(g2':List Int×Int×List Qd×List Qd×List Int×List Int×List Int×Unit)(g3':List (QF×Qe))(s':Int)(s2':Int)(g4':Int)(g5':Int)(g6':Int)(best':Int)(best2':Int)(best3':Int):ev (Z:=Qb×Qb×Qq×Int×Int×Int×Int×Int×Int×Int×Int) Try.prog (Oj N self) Jn [] [⟨[],⟨[],⟨[],[.segs [.fn 124 [] [.fz [.fz [.sl (.int .i64),.i .i64,.sl Qg,.sl Qg,.sl (.int .i64),.arr (.int .i64) 36,.arr (.int .i64) 36]],.fz [.mp 1],.own 0 0,.fz [.fn 86 [] [.fz [.fz [.sl (.int .i64),.i .i64,.sl Qg,.sl Qg,.sl (.int .i64),.arr (.int .i64) 36,.arr (.int .i64) 36]]]]]],.map Qt Qf,.segs [.i .i64,.i .i64],.segs [.i .i64,.i .i64,.i .i64],.segs [.i .i64,.i .i64,.i .i64]]⟩⟩,fun p=>rec p.2.1.1.2.1.1 p.2.1.1.2.2.2.2.1.1.2.1.1 p.2.2.1 p.2.2.2.1.1 p.2.2.2.1.2.1 p.2.2.2.2.1.1 p.2.2.2.2.1.2.1 p.2.2.2.2.1.2.2.1 p.2.2.2.2.2.1.1 p.2.2.2.2.2.1.2.1 p.2.2.2.2.2.1.2.2.1⟩] none 400 false (nrm Cd.c 99 [.c [1,1,1,1,1,0,1,0,1]]) (stL Hj (((),(((),((u',()),())),()),(),(),(),k',()),((((),((g',()),((),()),(),(((),((g2',()),())),()),())),()),g3',(s',s2',()),(g4',g5',g6',()),(best',best2',best3',()),()))) (stH Hj (((),(((),((u',()),())),()),(),(),(),k',()),((((),((g',()),((),()),(),(((),((g2',()),())),()),())),()),g3',(s',s2',()),(g4',g5',g6',()),(best',best2',best3',()),())))=Ht N self rec u u2 u3 u4 u' k' g' g2' g3' s' s2' g4' g5' g6' best' best2' best3':=by kernel_rfl
theorem Aid(N:Nat)(self:Int→Int→Qb→Qb→Qb→Qb→Qq→Option Qz)(hself:A0 Try.prog (Ec self)):Ab Try.prog Cd.c Cd.n Cd.m0 true (Mo N self):=by
 refine Ajd (B:=Cd) (is:=Arn) (g:=.tmp 48) (ps:=#[49]) (assign:=sub A29 [1,1,1,1,1,0,1,0,0]) (body:=sub A29 [1,1,1,1,1,0,1,0,1]) (Z:=Qb×Qb×Qq×Int×Int×Int×Int×Int×Int×Int×Int) (x:=Mo N self) (fun p=>((p.1.2.2.2.2.2.2.1.2.1.1,()),(((p.1.2.2.2.2.2.2.1.2.2.1.1.1.1,()),()),()),p.1.2.2.2.2.2.2.1.2.2.2.1,())) (fun es p=>restr_l1 N self es p.1.2.2.1.1.2.1.1 p.1.2.2.2.2.2.2.1.2.1.1 p.1.2.2.2.2.2.2.1.2.2.1.1.1.1 p.1.2.2.2.2.2.2.1.2.2.2.1 p.2.1.1.2.1.1 p.2.1.1.2.2.2.2.1.1.2.1.1 p.2.2.1 p.2.2.2.1.1 p.2.2.2.1.2.1 p.2.2.2.2.1.1 p.2.2.2.2.1.2.1 p.2.2.2.2.1.2.2.1 p.2.2.2.2.2.1.1 p.2.2.2.2.2.1.2.1 p.2.2.2.2.2.1.2.2.1) (staA:=Hj) (fun es q p=>Ht N self (fun g_ g2_ g3_ s_ s2_ g4_ g5_ g6_ best_ best2_ best3_=>restr_l1 N self es q.2.2.1.1.2.1.1 q.2.2.2.2.2.2.1.2.1.1 q.2.2.2.2.2.2.1.2.2.1.1.1.1 q.2.2.2.2.2.2.1.2.2.2.1 g_ g2_ g3_ s_ s2_ g4_ g5_ g6_ best_ best2_ best3_) q.2.2.1.1.2.1.1 q.2.2.2.2.2.2.1.2.1.1 q.2.2.2.2.2.2.1.2.2.1.1.1.1 q.2.2.2.2.2.2.1.2.2.2.1 p.1.2.1.1.2.1.1 p.1.2.2.2.2.2.1 p.2.1.1.2.1.1 p.2.1.1.2.2.2.2.1.1.2.1.1 p.2.2.1 p.2.2.2.1.1 p.2.2.2.1.2.1 p.2.2.2.2.1.1 p.2.2.2.2.1.2.1 p.2.2.2.2.1.2.2.1 p.2.2.2.2.2.1.1 p.2.2.2.2.2.1.2.1 p.2.2.2.2.2.1.2.2.1) [] (fun e=>.inl ((((),()),(),(),(),()),((((),((e.1,()),((),()),(),(((),((e.2.1,()),())),()),())),()),e.2.2.1,(e.2.2.2.1,e.2.2.2.2.1,()),(e.2.2.2.2.2.1,e.2.2.2.2.2.2.1,e.2.2.2.2.2.2.2.1,()),(e.2.2.2.2.2.2.2.2.1,e.2.2.2.2.2.2.2.2.2.1,e.2.2.2.2.2.2.2.2.2.2,()),()))) (fun _ _ _=>rfl) rfl (by kernel_rfl) (fun _=>by kernel_rfl) (by kernel_rfl) Aw8 (Nat.le_of_ble_eq_true (by kernel_rfl)) (by kernel_rfl) ?_ ?_ ?_ ?_
 ·exact fun z E Xc hE hX hx p hp a w hS=>ev_sound (z:=z) (B:=Cd) (loops:=[]) (leaves:=[Zl]) (top:=true) (R8 N self hself) mixed trivial hE hX ⟨(fun p hp=>by obtain rfl:=Option.some.inj hp;exact hx),trivial⟩ Aa.no 400 false _ _ _ ((Agy N self p.1.2.2.1.1.2.1.1 p.1.2.2.2.2.2.2.1.2.1.1 p.1.2.2.2.2.2.2.1.2.2.1.1.1.1 p.1.2.2.2.2.2.2.1.2.2.2.1 p.2.1.1.2.1.1 p.2.1.1.2.2.2.2.1.1.2.1.1 p.2.2.1 p.2.2.2.1.1 p.2.2.2.1.2.1 p.2.2.2.2.1.1 p.2.2.2.2.1.2.1 p.2.2.2.2.1.2.2.1 p.2.2.2.2.2.1.1 p.2.2.2.2.2.1.2.1 p.2.2.2.2.2.1.2.2.1).trans hp) a w hS
 ·intro z E Xc hE hX hx e he q b hb a w hS
  simp only[List.not_mem_nil]at he
 ·exact fun z E Xc hE hX e es p hl hp a w hS=>ev_sound (z:=z) (B:=Jn) (loops:=[]) (leaves:=[_]) (top:=false) (R8 N self hself) mixed trivial hE hX ⟨hl,trivial⟩ Aa.no 400 false _ _ _ ((Aek N self e es p.1.2.2.1.1.2.1.1 p.1.2.2.2.2.2.2.1.2.1.1 p.1.2.2.2.2.2.2.1.2.2.1.1.1.1 p.1.2.2.2.2.2.2.1.2.2.2.1 p.2.1.1.2.1.1 p.2.1.1.2.2.2.2.1.1.2.1.1 p.2.2.1 p.2.2.2.1.1 p.2.2.2.1.2.1 p.2.2.2.2.1.1 p.2.2.2.2.1.2.1 p.2.2.2.2.1.2.2.1 p.2.2.2.2.2.1.1 p.2.2.2.2.2.1.2.1 p.2.2.2.2.2.1.2.2.1).trans hp) a w hS
 ·exact fun z E Xc hE hX es q he hs p hp a w hS=>ev_sound (z:=z) (B:=Jn) (loops:=[]) (leaves:=[_]) (top:=false) (R8 N self hself) mixed trivial hE hX ⟨he,trivial⟩ Aa.no 400 false _ _ _ ((Ah7 N self (fun g_ g2_ g3_ s_ s2_ g4_ g5_ g6_ best_ best2_ best3_=>restr_l1 N self es q.2.2.1.1.2.1.1 q.2.2.2.2.2.2.1.2.1.1 q.2.2.2.2.2.2.1.2.2.1.1.1.1 q.2.2.2.2.2.2.1.2.2.2.1 g_ g2_ g3_ s_ s2_ g4_ g5_ g6_ best_ best2_ best3_) q.2.2.1.1.2.1.1 q.2.2.2.2.2.2.1.2.1.1 q.2.2.2.2.2.2.1.2.2.1.1.1.1 q.2.2.2.2.2.2.1.2.2.2.1 p.1.2.1.1.2.1.1 p.1.2.2.2.2.2.1 p.2.1.1.2.1.1 p.2.1.1.2.2.2.2.1.1.2.1.1 p.2.2.1 p.2.2.2.1.1 p.2.2.2.1.2.1 p.2.2.2.2.1.1 p.2.2.2.2.1.2.1 p.2.2.2.2.1.2.2.1 p.2.2.2.2.2.1.1 p.2.2.2.2.2.1.2.1 p.2.2.2.2.2.1.2.2.1).trans hp) a w hS
abbrev Ald:Sta:=⟨[0,1,2,3,4],⟨[.agg [.i .i64,.i .i64],.fz [.fz [.sl (.int .i64),.i .i64,.sl Qg,.sl Qg,.sl (.int .i64),.arr (.int .i64) 36,.arr (.int .i64) 36]],.fz [.mp 1],.own 0 0,.fz [.fn 86 [] [.fz [.fz [.sl (.int .i64),.i .i64,.sl Qg,.sl Qg,.sl (.int .i64),.arr (.int .i64) 36,.arr (.int .i64) 36]]]]],[.segs [.fn 124 [] [.fz [.fz [.sl (.int .i64),.i .i64,.sl Qg,.sl Qg,.sl (.int .i64),.arr (.int .i64) 36,.arr (.int .i64) 36]],.fz [.mp 1],.own 0 0,.fz [.fn 86 [] [.fz [.fz [.sl (.int .i64),.i .i64,.sl Qg,.sl Qg,.sl (.int .i64),.arr (.int .i64) 36,.arr (.int .i64) 36]]]]]],.map Qt Qf]⟩⟩
theorem Azk(N:Nat)(self:Int→Int→Qb→Qb→Qb→Qb→Qq→Option Qz)(s:Int)(s2:Int)(u:List Int×Int×List Qd×List Qd×List Int×List Int×List Int×Unit)(u2:List Int×Int×List Qd×List Qd×List Int×List Int×List Int×Unit)(g:List Int×Int×List Qd×List Qd×List Int×List Int×List Int×Unit)(g2:List Int×Int×List Qd×List Qd×List Int×List Int×List Int×Unit)(g3:List (QF×Qe)):ev (Z:=Int×Int×Int×Qb×Qb×Qq) Try.prog (Oj N self) Cd [Mo N self] [] (some Ahp) 400 false [.c [0],.c [1]] (stL Ald (((s,s2,()),(u,()),((),()),(),(((),((u2,()),())),()),()),((((),((g,()),((),()),(),(((),((g2,()),())),()),())),()),g3,()))) (stH Ald (((s,s2,()),(u,()),((),()),(),(((),((u2,()),())),()),()),((((),((g,()),((),()),(),(((),((g2,()),())),()),())),()),g3,())))=Rz N self s s2 u u2 g g2 g3:=by kernel_rfl
theorem A9a(N:Nat)(self:Int→Int→Qb→Qb→Qb→Qb→Qq→Option Qz)(hself:A0 Try.prog (Ec self)):A0 Try.prog (Ec (Rz N self)):=A1 (B:=Cd) (loops:=[Mo N self]) (leaves:=[]) (fun p=>Rz N self p.1.1.1 p.1.1.2.1 p.1.2.1.1 p.1.2.2.2.2.1.1.2.1.1 p.2.1.1.2.1.1 p.2.1.1.2.2.2.2.1.1.2.1.1 p.2.2.1) (fun r=>(((r.1,r.2.1,r.2.2.1,()),()),((((),((r.2.2.2.1,()),((),()),(),(((),((r.2.2.2.2.1,()),())),()),())),()),r.2.2.2.2.2,()))) Ahp (fun _ _ _=>rfl) (fun r z h=>by cases h;rfl) Try.func124 (by kernel_rfl) (by kernel_rfl) (by kernel_rfl) rfl rfl (by kernel_rfl) (fun args w=>Sem.pv_run _ _ _ (by kernel_rfl) w) (R8 N self hself) mixed ⟨Aid N self hself,trivial⟩ (fun z E Xc hE hX hret=>trivial) (fun p=>Azk N self p.1.1.1 p.1.1.2.1 p.1.2.1.1 p.1.2.2.2.2.1.1.2.1.1 p.2.1.1.2.1.1 p.2.1.1.2.2.2.2.1.1.2.1.1 p.2.2.1)
def Jt(N:Nat):Nat→Int→Int→Qb→Qb→Qb→Qb→Qq→Option Qz
 | 0=>fun _ _ _ _ _ _ _=>none
 | n+1=>Rz N (Jt N n)
theorem A7l(N:Nat):∀n,A0 Try.prog (Ec (Jt N n))
 | 0=>A0.none (fun _ _ _=>rfl) (fun args w=>Sem.pv_run _ _ _ (by kernel_rfl) w)
 | n+1=>A9a N (Jt N n) (A7l N n)
noncomputable abbrev Al1(N:Nat):Spec:=Ec (Jt N N)
theorem Ak0(N:Nat):A0 Try.prog (Al1 N):=A7l N N

def Rm(N:Nat)(used:Int)(from_:List Int×Int×List Qd×List Qd×List Int×List Int×List Int×Unit)(from_2:List Int×Int×List Qd×List Qd×List Int×List Int×List Int×Unit)(g:List (QF×Qe)):Option Qq:=
 (Jt N N 0 used from_ from_2 from_ from_2 g).bind fun(x_1,y_2,y_3,y_4,y_5,y_6)=>
 some (((0,used),(x_1,y_2,y_3))::y_6)
def M1(N:Nat)(d:List Int×Int×List Qd×List Qd×List Int×List Int×List Int×Unit)(t:List Int×Int×List Qd×List Qd×List Int×List Int×List Int×Unit)(used:Int):Option Qq:=
 Rm N used d t []
noncomputable def Xj(N:Nat):List Spec:=[Al1 N]
theorem A3t(N:Nat):AllP (A0 Try.prog) (Xj N):=⟨Ak0 N,trivial⟩
noncomputable def Ayk:Code:=(Try.f85.body).getD .skip
noncomputable abbrev Dp:Body:={ c:=Ayk,n:=19,res:=[.tmp 6],outs:=[⟨[.mp 0],[.map Qt Qf]⟩],m0:=0 }
abbrev Rc:altD Dp.outs→Option Qq:=fun r=>some r.2.1
abbrev Wi:List PI:=[.c [1,1,1,1,0],.c [1,1,1,1,1]]
abbrev Nd:Sta:=⟨[2,7,8],⟨[.i .i64,.fz [.mp 1],.own 0 0],[.segs [.fn 124 [] [.fz [.fz [.sl (.int .i64),.i .i64,.sl Qg,.sl Qg,.sl (.int .i64),.arr (.int .i64) 36,.arr (.int .i64) 36]],.fz [.mp 1],.own 0 0,.fz [.fn 86 [] [.fz [.fz [.sl (.int .i64),.i .i64,.sl Qg,.sl Qg,.sl (.int .i64),.arr (.int .i64) 36,.arr (.int .i64) 36]]]]]],.map Qt Qf]⟩⟩
abbrev Ov(N:Nat):Leaf Qq:=⟨Wi,Nd,fun p=>Rm N p.1.1 p.2.1.1.2.1.1 p.2.1.1.2.2.2.2.1.1.2.1.1 p.2.2.1⟩
theorem Afu(N:Nat)(used:Int)(from_:List Int×Int×List Qd×List Qd×List Int×List Int×List Int×Unit)(from_2:List Int×Int×List Qd×List Qd×List Int×List Int×List Int×Unit)(g:List (QF×Qe)):ev (Z:=Qq) Try.prog (Xj N) Dp [] [] (some Rc) 400 true Wi (stL Nd ((used,((),()),(),()),((((),((from_,()),((),()),(),(((),((from_2,()),())),()),())),()),g,()))) (stH Nd ((used,((),()),(),()),((((),((from_,()),((),()),(),(((),((from_2,()),())),()),())),()),g,())))=Rm N used from_ from_2 g:=by kernel_rfl
theorem Agb(N:Nat){z:Qq}{E:EE}{Xc:Ctx}(hE:EOK Dp.m0 E)(hX:CxOK true Xc)(hret:Aa Try.prog Dp E Xc z (some Rc)):Ag Try.prog Dp.c Dp.n Dp.m0 E Xc z (Ov N):=A2 (B:=Dp) (loops:=[]) (leaves:=[]) (A3t N) mixed trivial hE hX trivial hret (fun p=>Afu N p.1.1 p.2.1.1.2.1.1 p.2.1.1.2.2.2.2.1.1.2.1.1 p.2.2.1)
abbrev Aam:Sta:=⟨[0,1,2],⟨[.fz [.sl (.int .i64),.i .i64,.sl Qg,.sl Qg,.sl (.int .i64),.arr (.int .i64) 36,.arr (.int .i64) 36],.agg [.fn 86 [] [.fz [.fz [.sl (.int .i64),.i .i64,.sl Qg,.sl Qg,.sl (.int .i64),.arr (.int .i64) 36,.arr (.int .i64) 36]]]],.i .i64],[]⟩⟩
theorem Axd(N:Nat)(d:List Int×Int×List Qd×List Qd×List Int×List Int×List Int×Unit)(t:List Int×Int×List Qd×List Qd×List Int×List Int×List Int×Unit)(used:Int):ev (Z:=Qq) Try.prog (Xj N) Dp [] [Ov N] (some Rc) 400 false [.c [0],.c [1]] (stL Aam ((d,(((),((t,()),())),()),used,()),())) (stH Aam ((d,(((),((t,()),())),()),used,()),()))=M1 N d t used:=by kernel_rfl
noncomputable def Aai(N:Nat):Spec:={ f:=85,ins:=⟨[.fz [.sl (.int .i64),.i .i64,.sl Qg,.sl Qg,.sl (.int .i64),.arr (.int .i64) 36,.arr (.int .i64) 36],.agg [.fn 86 [] [.fz [.fz [.sl (.int .i64),.i .i64,.sl Qg,.sl Qg,.sl (.int .i64),.arr (.int .i64) 36,.arr (.int .i64) 36]]]],.i .i64],[]⟩,outs:=[⟨[.mp 0],[.map Qt Qf]⟩],run:=fun p k=>(M1 N p.1.1 p.1.2.1.1.2.1.1 p.1.2.2.1).bind fun r=>k (((),()),(r,())) }
theorem Agz(N:Nat):A0 Try.prog (Aai N):=A1 (B:=Dp) (loops:=[]) (leaves:=[Ov N]) (fun p=>M1 N p.1.1 p.1.2.1.1.2.1.1 p.1.2.2.1) (fun r=>(((),()),(r,()))) Rc (fun _ _ _=>rfl) (fun r z h=>by cases h;rfl) Try.func85 (by kernel_rfl) (by kernel_rfl) (by kernel_rfl) rfl rfl (by kernel_rfl) (fun args w=>Sem.pv_run _ _ _ (by kernel_rfl) w) (A3t N) mixed trivial (fun z E Xc hE hX hret=>⟨Agb N hE hX hret,trivial⟩) (fun p=>Axd N p.1.1 p.1.2.1.1.2.1.1 p.1.2.2.1)

def Ho(N:Nat)(rec:Int→Int→Int→Qq→Qd→Option Qd)(used:Int)(u:Int)(u2:Int)(rests:List (QF×Qe))(out:List Int):Option Qd:=
 chk (u2+1)<|
 rec used u (u2+1) rests out
def dbestr_l1(N:Nat):Nat→Int→Int→Int→Qq→Qd→Option Qd
 | 0,_,_,_,_,_=>none
 | n_+1,used,u,u2,rests,out=>
  br (decide (u2<u))
   (lim (out.length+[(((rests.find? fun(y:QF×Qe)=>Ty.beq Qt y.1 (u2,used)).map (·.2)).getD (Ty.dflt Qf)).1].length)<|
   br (!decide ((((rests.find? fun(y:QF×Qe)=>Ty.beq Qt y.1 (u2,used)).map (·.2)).getD (Ty.dflt Qf)).1=-1))
    (grd (decide (0≤(((rests.find? fun(y:QF×Qe)=>Ty.beq Qt y.1 (u2,used)).map (·.2)).getD (Ty.dflt Qf)).1∧(((rests.find? fun(y:QF×Qe)=>Ty.beq Qt y.1 (u2,used)).map (·.2)).getD (Ty.dflt Qf)).1≤62))<|
    chk ((1:Int)*2 ^ ((((rests.find? fun(y:QF×Qe)=>Ty.beq Qt y.1 (u2,used)).map (·.2)).getD (Ty.dflt Qf)).1).toNat)<|
    grd (decide (0≤used∧0≤((1:Int)*2 ^ ((((rests.find? fun(y:QF×Qe)=>Ty.beq Qt y.1 (u2,used)).map (·.2)).getD (Ty.dflt Qf)).1).toNat)))<|
    Ho N (dbestr_l1 N n_) ((used.toNat ||| ((1:Int)*2 ^ ((((rests.find? fun(y:QF×Qe)=>Ty.beq Qt y.1 (u2,used)).map (·.2)).getD (Ty.dflt Qf)).1).toNat).toNat:Nat):Int) u u2 rests (out++[(((rests.find? fun(y:QF×Qe)=>Ty.beq Qt y.1 (u2,used)).map (·.2)).getD (Ty.dflt Qf)).1]))
    (Ho N (dbestr_l1 N n_) used u u2 rests (out++[(((rests.find? fun(y:QF×Qe)=>Ty.beq Qt y.1 (u2,used)).map (·.2)).getD (Ty.dflt Qf)).1])))
   (some (out))
def Ks(N:Nat)(d:List Int×Int×List Qd×List Qd×List Int×List Int×List Int×Unit)(t:List Int×Int×List Qd×List Qd×List Int×List Int×List Int×Unit):Option Qd:=
 (M1 N d t 0).bind fun x_1=>
 (dbestr_l1 N N 0 (d.2.2.1.length:Int) 0 x_1 []).bind fun out_2=>
 some out_2
noncomputable def Rx(N:Nat):List Spec:=[Aai N]
theorem So(N:Nat):AllP (A0 Try.prog) (Rx N):=⟨Agz N,trivial⟩
noncomputable def B23:Code:=(Try.f54.body).getD .skip
noncomputable abbrev B1:Body:={ c:=B23,n:=40,res:=[.tmp 4],outs:=[⟨[.sl (.int .i64)],[]⟩],m0:=0 }
abbrev Aa5:altD B1.outs→Option Qd:=fun r=>some r.1.1
abbrev Ml:List PI:=[.c [1,1,1,1,0,1,0,0,0],.c [1,1,1,1,0,1,0,0,1],.l [1,1,1,1,0,1,0,0],.b 0,.c [1,1,1,1,1]]
abbrev He:Sta:=⟨[5,6,7,18,19],⟨[.mp 0,.ols 1,.i .i64,.i .i64,.i .i64],[.map Qt Qf,.lst (.int .i64)]⟩⟩
abbrev Gs(rec:Int→Int→Int→Qq→Qd→Option Qd):Leaf Qd:=⟨Ml,He,fun p=>rec p.1.2.2.1 p.1.2.2.2.1 p.1.2.2.2.2.1 p.2.1 p.2.2.1⟩
abbrev F9:Leaf Qd:=⟨[.c [1,1,1,1,1,0],.c [1,1,1,1,1,1]],⟨[6],⟨[.ols 0],[.lst (.int .i64)]⟩⟩,fun p=>some (p.2.1)⟩
abbrev W6:List PI:=[.c [1,1,1,1,0,1,0,0,1,1,1],.l [1,1,1,1,0,1,0,0],.b 0,.c [1,1,1,1,1]]
abbrev Nm:Sta:=⟨[5,6,7,18,19],⟨[.mp 0,.ols 1,.i .i64,.i .i64,.i .i64],[.map Qt Qf,.lst (.int .i64)]⟩⟩
abbrev Pp(N:Nat)(rec:Int→Int→Int→Qq→Qd→Option Qd):Leaf Qd:=⟨W6,Nm,fun p=>Ho N rec p.1.2.2.1 p.1.2.2.2.1 p.1.2.2.2.2.1 p.2.1 p.2.2.1⟩
theorem Adw(N:Nat)(rec:Int→Int→Int→Qq→Qd→Option Qd)(used:Int)(u:Int)(u2:Int)(rests:List (QF×Qe))(out:List Int):ev (Z:=List Int) Try.prog (Rx N) B1 [] [Gs rec,F9] none 400 true W6 (stL Nm (((),(),used,u,u2,()),(rests,out,()))) (stH Nm (((),(),used,u,u2,()),(rests,out,())))=Ho N rec used u u2 rests out:=by kernel_rfl
theorem Agx(N:Nat)(rec:Int→Int→Int→Qq→Qd→Option Qd){z:List Int}{top:Bool}{E:EE}{Xc:Ctx}(hE:EOK B1.m0 E)(hX:CxOK top Xc)(hrec:Ag Try.prog B1.c B1.n B1.m0 E Xc z (Gs rec))(h0:Ag Try.prog B1.c B1.n B1.m0 E Xc z F9):Ag Try.prog B1.c B1.n B1.m0 E Xc z (Pp N rec):=A2 (B:=B1) (loops:=[]) (leaves:=[Gs rec,F9]) (So N) mixed trivial hE hX ⟨hrec,h0,trivial⟩ Aa.no (fun p=>Adw N rec p.1.2.2.1 p.1.2.2.2.1 p.1.2.2.2.2.1 p.2.1 p.2.2.1)
noncomputable def Pd(N:Nat):Ai:={ at_:=Ml,sta:=He,exits:=[([.c [1,1,1,1,1,0],.c [1,1,1,1,1,1]],⟨[6],⟨[.ols 0],[.lst (.int .i64)]⟩⟩)],run:=fun p k=>(dbestr_l1 N N p.1.2.2.1 p.1.2.2.2.1 p.1.2.2.2.2.1 p.2.1 p.2.2.1).bind fun e=>k (.inl (((),()),(e,()))) }
theorem Ahb(N n_:Nat)(used:Int)(u:Int)(u2:Int)(rests:List (QF×Qe))(out:List Int):ev (Z:=List Int) Try.prog (Rx N) B1 [] [Gs (dbestr_l1 N n_),F9,Pp N (dbestr_l1 N n_)] none 400 true Ml (stL He (((),(),used,u,u2,()),(rests,out,()))) (stH He (((),(),used,u,u2,()),(rests,out,())))=dbestr_l1 N (n_+1) used u u2 rests out:=by kernel_rfl
theorem Agk(N:Nat){top:Bool}:Ab Try.prog B1.c B1.n B1.m0 top (Pd N):=A3 (Z:=List Int) (N:=N) (fun m p=>dbestr_l1 N m p.1.2.2.1 p.1.2.2.2.1 p.1.2.2.2.2.1 p.2.1 p.2.2.1) (fun e=>.inl (((),()),(e,()))) (fun _ _ _=>rfl) (fun _=>rfl) (fun m z E Xc hE hX hrec hx=>A2 (B:=B1) (loops:=[]) (leaves:=[Gs (dbestr_l1 N m),F9,Pp N (dbestr_l1 N m)]) (So N) mixed trivial hE hX ⟨hrec,(fun p hp=>by obtain rfl:=Option.some.inj hp;exact hx),Agx N _ hE hX hrec (fun p hp=>by obtain rfl:=Option.some.inj hp;exact hx),trivial⟩ Aa.no (fun p=>Ahb N m p.1.2.2.1 p.1.2.2.2.1 p.1.2.2.2.2.1 p.2.1 p.2.2.1))
abbrev Abf:Sta:=⟨[0,1],⟨[.fz [.sl (.int .i64),.i .i64,.sl Qg,.sl Qg,.sl (.int .i64),.arr (.int .i64) 36,.arr (.int .i64) 36],.agg [.fn 86 [] [.fz [.fz [.sl (.int .i64),.i .i64,.sl Qg,.sl Qg,.sl (.int .i64),.arr (.int .i64) 36,.arr (.int .i64) 36]]]]],[]⟩⟩
theorem Axa(N:Nat)(d:List Int×Int×List Qd×List Qd×List Int×List Int×List Int×Unit)(t:List Int×Int×List Qd×List Qd×List Int×List Int×List Int×Unit):ev (Z:=List Int) Try.prog (Rx N) B1 [Pd N] [] (some Aa5) 400 false [.c [0],.c [1]] (stL Abf ((d,(((),((t,()),())),()),()),())) (stH Abf ((d,(((),((t,()),())),()),()),()))=Ks N d t:=by kernel_rfl
noncomputable def Acp(N:Nat):Spec:={ f:=54,ins:=⟨[.fz [.sl (.int .i64),.i .i64,.sl Qg,.sl Qg,.sl (.int .i64),.arr (.int .i64) 36,.arr (.int .i64) 36],.agg [.fn 86 [] [.fz [.fz [.sl (.int .i64),.i .i64,.sl Qg,.sl Qg,.sl (.int .i64),.arr (.int .i64) 36,.arr (.int .i64) 36]]]]],[]⟩,outs:=[⟨[.sl (.int .i64)],[]⟩],run:=fun p k=>(Ks N p.1.1 p.1.2.1.1.2.1.1).bind fun r=>k ((r,()),()) }
theorem Agi(N:Nat):A0 Try.prog (Acp N):=A1 (B:=B1) (loops:=[Pd N]) (leaves:=[]) (fun p=>Ks N p.1.1 p.1.2.1.1.2.1.1) (fun r=>((r,()),())) Aa5 (fun _ _ _=>rfl) (fun r z h=>by cases h;rfl) Try.func54 (by kernel_rfl) (by kernel_rfl) (by kernel_rfl) rfl rfl (by kernel_rfl) (fun args w=>Sem.pv_run _ _ _ (by kernel_rfl) w) (So N) mixed ⟨Agk N,trivial⟩ (fun z E Xc hE hX hret=>trivial) (fun p=>Axa N p.1.1 p.1.2.1.1.2.1.1)

def richest_S(N:Nat)(d:List Int)(d2:Int)(d3:List Qd)(d4:List Qd)(d5:List Int):Option (List Int×Int×Int):=
 ((Al N d d2 d3 d4 d5).bind fun e=>match e with
 | .inl (x_1,y_2)=>
  (br (!decide (y_2=0))
   (some ([],0,y_2))
   ((A5c N x_1).bind fun x_3=>
   (Ks N x_1 x_3).bind fun x_4=>
   (Hq N x_1 x_4).bind fun x_5=>
   some (x_4,x_5,0)))
 | .inr x_6=>
  (br (!decide (x_6=0))
   (some ([],0,x_6))
   (none)))
noncomputable def A8l(N:Nat):List Spec:=[Bw N,A3l N,Auq N,Acp N]
theorem Alh(N:Nat):AllP (A0 Try.prog) (A8l N):=⟨Cb N,A9n N,Apu N,Agi N,trivial⟩
noncomputable def Axv:Code:=(Try.f23.body).getD .skip
noncomputable abbrev Xy:Body:={ c:=Axv,n:=24,res:=[.tmp 2,.tmp 3,.tmp 4],outs:=[⟨[.sl (.int .i64),.i .i64,.i .i64],[]⟩],m0:=0 }
abbrev A8a:altD Xy.outs→Option (List Int×Int×Int):=fun r=>some (r.1.1,r.1.2.1,r.1.2.2.1)
abbrev A7b:Sta:=⟨[0],⟨[.agg [.sl (.int .i64),.i .i64,.sl Qg,.sl Qg,.sl (.int .i64)]],[]⟩⟩
theorem Aos(N:Nat)(d:List Int)(d2:Int)(d3:List Qd)(d4:List Qd)(d5:List Int):ev (Z:=List Int×Int×Int) Try.prog (A8l N) Xy [] [] (some A8a) 400 false [.c [0],.c [1]] (stL A7b (((d,d2,d3,d4,d5,()),()),())) (stH A7b (((d,d2,d3,d4,d5,()),()),()))=richest_S N d d2 d3 d4 d5:=by kernel_rfl
noncomputable def A4b(N:Nat):Spec:={ f:=23,ins:=⟨[.agg [.sl (.int .i64),.i .i64,.sl Qg,.sl Qg,.sl (.int .i64)]],[]⟩,outs:=[⟨[.sl (.int .i64),.i .i64,.i .i64],[]⟩],run:=fun p k=>(richest_S N p.1.1.1 p.1.1.2.1 p.1.1.2.2.1 p.1.1.2.2.2.1 p.1.1.2.2.2.2.1).bind fun r=>k ((r.1,r.2.1,r.2.2,()),()) }
theorem A95(N:Nat):A0 Try.prog (A4b N):=A1 (B:=Xy) (loops:=[]) (leaves:=[]) (fun p=>richest_S N p.1.1.1 p.1.1.2.1 p.1.1.2.2.1 p.1.1.2.2.2.1 p.1.1.2.2.2.2.1) (fun r=>((r.1,r.2.1,r.2.2,()),())) A8a (fun _ _ _=>rfl) (fun r z h=>by cases h;rfl) Try.func23 (by kernel_rfl) (by kernel_rfl) (by kernel_rfl) rfl rfl (by kernel_rfl) (fun args w=>Sem.pv_run _ _ _ (by kernel_rfl) w) (Alh N) mixed trivial (fun z E Xc hE hX hret=>trivial) (fun p=>Aos N p.1.1.1 p.1.1.2.1 p.1.1.2.2.1 p.1.1.2.2.2.1 p.1.1.2.2.2.2.1)

end Go.Proofs.Ytgeijboidfadaaa.Fd

namespace Go.Proofs.Ytgeijboidfadaaa
set_option linter.all false
open Go

noncomputable abbrev A04:=Fe.Ajf
theorem A3m(N:Nat):A0 Try.prog (A04 N):=Fe.Ahs N
abbrev A4n:=Fe.Rn
noncomputable abbrev Wp:=Fe.Acy
theorem A1t(N:Nat):A0 Try.prog (Wp N):=Fe.Afy N
abbrev A0t:=Fe.clears_S
noncomputable abbrev A4w:=Fd.A2n
theorem A92(N:Nat):A0 Try.prog (A4w N):=Fd.A6f N
abbrev Abi:=Fd.Km
noncomputable abbrev Si:=Fd.A4b
theorem Yr(N:Nat):A0 Try.prog (Si N):=Fd.A95 N
abbrev V3:=Fd.richest_S
def Dg(N:Nat)(rec:Int→Int→Int→Qd→Int→Int→Qd→Int→Qx→Qx→Qd→Qd→Option ((Unit)⊕QD))(sum:Int)(many:Int)(owed:Int)(u:List Int)(u2:Int)(u3:Int)(d:List Int)(d2:Int)(d3:List Qd)(d4:List Qd)(d5:List Int)(balances:List Int):Option ((Unit)⊕QD):=
 chk (u3+1)<|
 rec sum many owed u u2 (u3+1) d d2 d3 d4 d5 balances
def trewarded_l1(N:Nat):Nat→Int→Int→Int→Qd→Int→Int→Qd→Int→Qx→Qx→Qd→Qd→Option ((Unit)⊕QD)
 | 0,_,_,_,_,_,_,_,_,_,_,_,_=>none
 | n_+1,sum,many,owed,u,u2,u3,d,d2,d3,d4,d5,balances=>
  br (decide (u3<u2))
   (idx u u3 fun x_15=>
   br (decide (x_15=-1))
    (Dg N (trewarded_l1 N n_) sum many owed u u2 u3 d d2 d3 d4 d5 balances)
    (br (decide (x_15<0))
     (some (.inl ()))
     (br (decide ((d4.length:Int)≤x_15))
      (some (.inl ()))
      (rng u3 balances.length<|
      get balances u3.toNat fun x_16=>
      idx d5 u3 fun x_17=>
      chk (x_16-x_17)<|
      rng u3 balances.length<|
      get balances u3.toNat fun _=>
      chk ((d3.length:Int)+x_15)<|
      rng ((d3.length:Int)+x_15) (balances.set u3.toNat (x_16-x_17)).length<|
      get (balances.set u3.toNat (x_16-x_17)) (((d3.length:Int)+x_15).toNat) fun x_19=>
      idx d5 u3 fun x_20=>
      chk (x_19+x_20)<|
      rng ((d3.length:Int)+x_15) (balances.set u3.toNat (x_16-x_17)).length<|
      get (balances.set u3.toNat (x_16-x_17)) (((d3.length:Int)+x_15).toNat) fun _=>
      chk (many+1)<|
      idx d5 u3 fun x_22=>
      chk (owed+x_22)<|
      Dg N (trewarded_l1 N n_) sum (many+1) (owed+x_22) u u2 u3 d d2 d3 d4 d5 ((balances.set u3.toNat (x_16-x_17)).set (((d3.length:Int)+x_15).toNat) (x_19+x_20))))))
   (some (.inr (sum,many,owed,balances)))
def trewarded_l2(N:Nat):Nat→Qd→(List Qe)→Int→Int→Qd→Option ((Unit)⊕(List Int×List Int))
 | 0,_,_,_,_,_=>none
 | n_+1,balances,u,u2,u3,got=>
  br (decide (u3<u2))
   (idx u u3 fun x_31=>
   br (decide (x_31.1<0))
    (some (.inl ()))
    (br (decide ((got.length:Int)≤x_31.1))
     (some (.inl ()))
     (br (decide (x_31.2.1<0))
      (some (.inl ()))
      (br (decide ((got.length:Int)≤x_31.2.1))
       (some (.inl ()))
       (rng x_31.2.1 got.length<|
       get got x_31.2.1.toNat fun x_32=>
       chk (x_32+x_31.2.2)<|
       rng x_31.2.1 got.length<|
       get got x_31.2.1.toNat fun _=>
       rng x_31.1 (got.set x_31.2.1.toNat (x_32+x_31.2.2)).length<|
       get (got.set x_31.2.1.toNat (x_32+x_31.2.2)) x_31.1.toNat fun x_34=>
       chk (x_34-x_31.2.2)<|
       rng x_31.1 (got.set x_31.2.1.toNat (x_32+x_31.2.2)).length<|
       get (got.set x_31.2.1.toNat (x_32+x_31.2.2)) x_31.1.toNat fun _=>
       chk (u3+1)<|
       trewarded_l2 N n_ balances u u2 (u3+1) ((got.set x_31.2.1.toNat (x_32+x_31.2.2)).set x_31.1.toNat (x_34-x_31.2.2)))))))
   (some (.inr (balances,got)))
def trewarded_S(N:Nat)(numbers:List Int):Option Bool:=
 (A37 N numbers).bind fun(x_1,y_2,y_3)=>
 (Abi N 4 x_1 y_2 y_3).bind fun(x_4,y_5,y_6,y_7,y_8,y_9,y_10,y_11)=>
 (V3 N x_4 y_5 y_6 y_7 y_8).bind fun(x_12,y_13,y_14)=>
 br (!decide (y_14=0))
  (some false)
  (br (!decide ((x_12.length:Int)=(y_6.length:Int)))
   (some false)
   (chk ((y_6.length:Int)+(y_7.length:Int))<|
   grd (lmI ((y_6.length:Int)+(y_7.length:Int)))<|
   (trewarded_l1 N N y_13 0 0 x_12 (x_12.length:Int) 0 x_4 y_5 y_6 y_7 y_8 (List.replicate ((y_6.length:Int)+(y_7.length:Int)).toNat (0:Int))).bind fun e=>match e with
   | .inl _=>
    some false
   | .inr (sum_23,many_24,owed_25,balances_26)=>
    (A4n N balances_26).bind fun(x_27,y_28)=>
    (A0t N balances_26 x_27).bind fun(x_29,y_30)=>
    br (!decide (y_28=0))
     (some false)
     (br (!decide (y_30=0))
      (some false)
      (br (!x_29)
       (some false)
       (br (decide (many_24<(x_27.length:Int)))
        (some false)
        (br (!decide (owed_25=sum_23))
         (some false)
         (grd (lmI (balances_26.length:Int))<|
         (trewarded_l2 N N balances_26 x_27 (x_27.length:Int) 0 (List.replicate (balances_26.length:Int).toNat (0:Int))).bind fun e=>match e with
         | .inl _=>
          some false
         | .inr (balances_36,got_37)=>
          (K7 N got_37 balances_36).bind fun x_38=>
          br x_38
           ((Lm N).bind fun x_39=>
           some x_39)
           (some false))))))))
noncomputable def Ez(N:Nat):List Spec:=[Avm N,A89 N,A6w N,A04 N,Wp N,A4w N,Si N]
theorem G0(N:Nat):AllP (A0 Try.prog) (Ez N):=⟨Ar2 N,A0j N,A9k N,A3m N,A1t N,A92 N,Yr N,trivial⟩
noncomputable def Aka:Code:=(Try.f5.body).getD .skip
noncomputable abbrev A8:Body:={ c:=Aka,n:=187,res:=[.tmp 2],outs:=[⟨[.b],[]⟩],m0:=0 }
abbrev W4:altD A8.outs→Option Bool:=fun r=>some r.1.1
abbrev H4:List PI:=[.c [1,1,1,1,1,1,0,1,0,0,0],.c [1,1,1,1,1,1,0,1,0,0,1],.l [1,1,1,1,1,1,0,1,0,0],.b 0,.c [1,1,1,1,1,1,1]]
abbrev Dx:Sta:=⟨[3,5,7,8,9,45,46,47],⟨[.own 0 0,.i .i64,.ols 1,.i .i64,.i .i64,.sl (.int .i64),.i .i64,.i .i64],[.segs [.sl (.int .i64),.i .i64,.sl Qg,.sl Qg,.sl (.int .i64)],.lst (.int .i64)]⟩⟩
abbrev Cz(rec:Int→Int→Int→Qd→Int→Int→Qd→Int→Qx→Qx→Qd→Qd→Option ((Unit)⊕QD)):Leaf ((Unit)⊕QD):=⟨H4,Dx,fun p=>rec p.1.2.1 p.1.2.2.2.1 p.1.2.2.2.2.1 p.1.2.2.2.2.2.1 p.1.2.2.2.2.2.2.1 p.1.2.2.2.2.2.2.2.1 p.2.1.1 p.2.1.2.1 p.2.1.2.2.1 p.2.1.2.2.2.1 p.2.1.2.2.2.2.1 p.2.2.1⟩
abbrev Ch:Leaf ((Unit)⊕QD):=⟨[.c [1,1,1,1,1,1,0,1,0,0,1,1,0,0,1,1,0,1,0,0],.c [1,1,1,1,1,1,0,1,0,0,1,1,0,0,1,1,0,1,0,1],.c [1,1,1,1,1,1,0,1,0,0,1,1,0,0,1,1,1],.b 1,.c [1,1,1,1,1,1,0,1,0,0,1,1,1],.l [1,1,1,1,1,1,0,1,0,0],.b 0,.c [1,1,1,1,1,1,1]],⟨[],⟨[],[]⟩⟩,fun p=>some (.inl ())⟩
abbrev Cj:Leaf ((Unit)⊕QD):=⟨[.c [1,1,1,1,1,1,1,0],.c [1,1,1,1,1,1,1,1]],⟨[5,7,8,9],⟨[.i .i64,.ols 0,.i .i64,.i .i64],[.lst (.int .i64)]⟩⟩,fun p=>some (.inr (p.1.1,p.1.2.2.1,p.1.2.2.2.1,p.2.1))⟩
abbrev Og:List PI:=[.c [1,1,1,1,1,1,0,1,0,0,1,1,1],.l [1,1,1,1,1,1,0,1,0,0],.b 0,.c [1,1,1,1,1,1,1]]
abbrev H3:Sta:=⟨[3,5,7,8,9,45,46,47],⟨[.own 0 0,.i .i64,.ols 1,.i .i64,.i .i64,.sl (.int .i64),.i .i64,.i .i64],[.segs [.sl (.int .i64),.i .i64,.sl Qg,.sl Qg,.sl (.int .i64)],.lst (.int .i64)]⟩⟩
abbrev Ib(N:Nat)(rec:Int→Int→Int→Qd→Int→Int→Qd→Int→Qx→Qx→Qd→Qd→Option ((Unit)⊕QD)):Leaf ((Unit)⊕QD):=⟨Og,H3,fun p=>Dg N rec p.1.2.1 p.1.2.2.2.1 p.1.2.2.2.2.1 p.1.2.2.2.2.2.1 p.1.2.2.2.2.2.2.1 p.1.2.2.2.2.2.2.2.1 p.2.1.1 p.2.1.2.1 p.2.1.2.2.1 p.2.1.2.2.2.1 p.2.1.2.2.2.2.1 p.2.2.1⟩
theorem A1o(N:Nat)(rec:Int→Int→Int→Qd→Int→Int→Qd→Int→Qx→Qx→Qd→Qd→Option ((Unit)⊕QD))(sum:Int)(many:Int)(owed:Int)(u:List Int)(u2:Int)(u3:Int)(d:List Int)(d2:Int)(d3:List Qd)(d4:List Qd)(d5:List Int)(balances:List Int):ev (Z:=(Unit)⊕QD) Try.prog (Ez N) A8 [] [Cz rec,Ch,Cj] none 400 true Og (stL H3 (((),sum,(),many,owed,u,u2,u3,()),((d,d2,d3,d4,d5,()),balances,()))) (stH H3 (((),sum,(),many,owed,u,u2,u3,()),((d,d2,d3,d4,d5,()),balances,())))=Dg N rec sum many owed u u2 u3 d d2 d3 d4 d5 balances:=by kernel_rfl
theorem A1q(N:Nat)(rec:Int→Int→Int→Qd→Int→Int→Qd→Int→Qx→Qx→Qd→Qd→Option ((Unit)⊕QD)){z:(Unit)⊕QD}{top:Bool}{E:EE}{Xc:Ctx}(hE:EOK A8.m0 E)(hX:CxOK top Xc)(hrec:Ag Try.prog A8.c A8.n A8.m0 E Xc z (Cz rec))(h0:Ag Try.prog A8.c A8.n A8.m0 E Xc z Ch)(h1:Ag Try.prog A8.c A8.n A8.m0 E Xc z Cj):Ag Try.prog A8.c A8.n A8.m0 E Xc z (Ib N rec):=A2 (B:=A8) (loops:=[]) (leaves:=[Cz rec,Ch,Cj]) (G0 N) mixed trivial hE hX ⟨hrec,h0,h1,trivial⟩ Aa.no (fun p=>A1o N rec p.1.2.1 p.1.2.2.2.1 p.1.2.2.2.2.1 p.1.2.2.2.2.2.1 p.1.2.2.2.2.2.2.1 p.1.2.2.2.2.2.2.2.1 p.2.1.1 p.2.1.2.1 p.2.1.2.2.1 p.2.1.2.2.2.1 p.2.1.2.2.2.2.1 p.2.2.1)
noncomputable def Cy(N:Nat):Ai:={ at_:=H4,sta:=Dx,exits:=[([.c [1,1,1,1,1,1,0,1,0,0,1,1,0,0,1,1,0,1,0,0],.c [1,1,1,1,1,1,0,1,0,0,1,1,0,0,1,1,0,1,0,1],.c [1,1,1,1,1,1,0,1,0,0,1,1,0,0,1,1,1],.b 1,.c [1,1,1,1,1,1,0,1,0,0,1,1,1],.l [1,1,1,1,1,1,0,1,0,0],.b 0,.c [1,1,1,1,1,1,1]],⟨[],⟨[],[]⟩⟩),([.c [1,1,1,1,1,1,1,0],.c [1,1,1,1,1,1,1,1]],⟨[5,7,8,9],⟨[.i .i64,.ols 0,.i .i64,.i .i64],[.lst (.int .i64)]⟩⟩)],run:=fun p k=>(trewarded_l1 N N p.1.2.1 p.1.2.2.2.1 p.1.2.2.2.2.1 p.1.2.2.2.2.2.1 p.1.2.2.2.2.2.2.1 p.1.2.2.2.2.2.2.2.1 p.2.1.1 p.2.1.2.1 p.2.1.2.2.1 p.2.1.2.2.2.1 p.2.1.2.2.2.2.1 p.2.2.1).bind fun e=>match e with | .inl x=>k (.inl ((),())) | .inr x=>k (.inr (.inl ((x.1,(),x.2.1,x.2.2.1,()),(x.2.2.2,())))) }
theorem A1s(N n_:Nat)(sum:Int)(many:Int)(owed:Int)(u:List Int)(u2:Int)(u3:Int)(d:List Int)(d2:Int)(d3:List Qd)(d4:List Qd)(d5:List Int)(balances:List Int):ev (Z:=(Unit)⊕QD) Try.prog (Ez N) A8 [] [Cz (trewarded_l1 N n_),Ch,Cj,Ib N (trewarded_l1 N n_)] none 400 true H4 (stL Dx (((),sum,(),many,owed,u,u2,u3,()),((d,d2,d3,d4,d5,()),balances,()))) (stH Dx (((),sum,(),many,owed,u,u2,u3,()),((d,d2,d3,d4,d5,()),balances,())))=trewarded_l1 N (n_+1) sum many owed u u2 u3 d d2 d3 d4 d5 balances:=by kernel_rfl
theorem O9(N:Nat){top:Bool}:Ab Try.prog A8.c A8.n A8.m0 top (Cy N):=A3 (Z:=(Unit)⊕QD) (N:=N) (fun m p=>trewarded_l1 N m p.1.2.1 p.1.2.2.2.1 p.1.2.2.2.2.1 p.1.2.2.2.2.2.1 p.1.2.2.2.2.2.2.1 p.1.2.2.2.2.2.2.2.1 p.2.1.1 p.2.1.2.1 p.2.1.2.2.1 p.2.1.2.2.2.1 p.2.1.2.2.2.2.1 p.2.2.1) (fun e=>match e with | .inl x=>.inl ((),()) | .inr x=>.inr (.inl ((x.1,(),x.2.1,x.2.2.1,()),(x.2.2.2,())))) (fun _ p k=>A9 (trewarded_l1 N N p.1.2.1 p.1.2.2.2.1 p.1.2.2.2.2.1 p.1.2.2.2.2.2.1 p.1.2.2.2.2.2.2.1 p.1.2.2.2.2.2.2.2.1 p.2.1.1 p.2.1.2.1 p.2.1.2.2.1 p.2.1.2.2.2.1 p.2.1.2.2.2.2.1 p.2.2.1) _ _ (fun e=>by rcases e with x | x<;>rfl)) (fun _=>rfl) (fun m z E Xc hE hX hrec hx=>A2 (B:=A8) (loops:=[]) (leaves:=[Cz (trewarded_l1 N m),Ch,Cj,Ib N (trewarded_l1 N m)]) (G0 N) mixed trivial hE hX ⟨hrec,(fun p hp=>by obtain rfl:=Option.some.inj hp;exact hx),(fun p hp=>by obtain rfl:=Option.some.inj hp;exact hx),A1q N _ hE hX hrec (fun p hp=>by obtain rfl:=Option.some.inj hp;exact hx) (fun p hp=>by obtain rfl:=Option.some.inj hp;exact hx),trivial⟩ Aa.no (fun p=>A1s N m p.1.2.1 p.1.2.2.2.1 p.1.2.2.2.2.1 p.1.2.2.2.2.2.1 p.1.2.2.2.2.2.2.1 p.1.2.2.2.2.2.2.2.1 p.2.1.1 p.2.1.2.1 p.2.1.2.2.1 p.2.1.2.2.2.1 p.2.1.2.2.2.2.1 p.2.2.1))
abbrev Gy:List PI:=[.c [1,1,1,1,1,1,1,1,1,1,1,0,1,0,0,0],.c [1,1,1,1,1,1,1,1,1,1,1,0,1,0,0,1],.l [1,1,1,1,1,1,1,1,1,1,1,0,1,0,0],.b 2,.c [1,1,1,1,1,1,1,1,1,1,1,1]]
abbrev Dw:Sta:=⟨[7,15,134,135,136],⟨[.sl (.int .i64),.ols 0,.sl Qf,.i .i64,.i .i64],[.lst (.int .i64)]⟩⟩
abbrev Q2(rec:Qd→(List Qe)→Int→Int→Qd→Option ((Unit)⊕(List Int×List Int))):Leaf ((Unit)⊕(List Int×List Int)):=⟨Gy,Dw,fun p=>rec p.1.1 p.1.2.2.1 p.1.2.2.2.1 p.1.2.2.2.2.1 p.2.1⟩
abbrev Oc:Leaf ((Unit)⊕(List Int×List Int)):=⟨[.c [1,1,1,1,1,1,1,1,1,1,1,0,1,0,0,1,1,0,0,1,0,1,0,0],.c [1,1,1,1,1,1,1,1,1,1,1,0,1,0,0,1,1,0,0,1,0,1,0,1],.c [1,1,1,1,1,1,1,1,1,1,1,0,1,0,0,1,1,0,0,1,1],.b 3,.c [1,1,1,1,1,1,1,1,1,1,1,0,1,0,0,1,1,1],.l [1,1,1,1,1,1,1,1,1,1,1,0,1,0,0],.b 2,.c [1,1,1,1,1,1,1,1,1,1,1,1]],⟨[],⟨[],[]⟩⟩,fun p=>some (.inl ())⟩
abbrev Od:Leaf ((Unit)⊕(List Int×List Int)):=⟨[.c [1,1,1,1,1,1,1,1,1,1,1,1,0],.c [1,1,1,1,1,1,1,1,1,1,1,1,1]],⟨[7,15],⟨[.sl (.int .i64),.ols 0],[.lst (.int .i64)]⟩⟩,fun p=>some (.inr (p.1.1,p.2.1))⟩
noncomputable def Io(N:Nat):Ai:={ at_:=Gy,sta:=Dw,exits:=[([.c [1,1,1,1,1,1,1,1,1,1,1,0,1,0,0,1,1,0,0,1,0,1,0,0],.c [1,1,1,1,1,1,1,1,1,1,1,0,1,0,0,1,1,0,0,1,0,1,0,1],.c [1,1,1,1,1,1,1,1,1,1,1,0,1,0,0,1,1,0,0,1,1],.b 3,.c [1,1,1,1,1,1,1,1,1,1,1,0,1,0,0,1,1,1],.l [1,1,1,1,1,1,1,1,1,1,1,0,1,0,0],.b 2,.c [1,1,1,1,1,1,1,1,1,1,1,1]],⟨[],⟨[],[]⟩⟩),([.c [1,1,1,1,1,1,1,1,1,1,1,1,0],.c [1,1,1,1,1,1,1,1,1,1,1,1,1]],⟨[7,15],⟨[.sl (.int .i64),.ols 0],[.lst (.int .i64)]⟩⟩)],run:=fun p k=>(trewarded_l2 N N p.1.1 p.1.2.2.1 p.1.2.2.2.1 p.1.2.2.2.2.1 p.2.1).bind fun e=>match e with | .inl x=>k (.inl ((),())) | .inr x=>k (.inr (.inl ((x.1,(),()),(x.2,())))) }
theorem A1n(N n_:Nat)(balances:List Int)(u:List Qe)(u2:Int)(u3:Int)(got:List Int):ev (Z:=(Unit)⊕(List Int×List Int)) Try.prog (Ez N) A8 [Cy N] [Q2 (trewarded_l2 N n_),Oc,Od] none 400 true Gy (stL Dw ((balances,(),u,u2,u3,()),(got,()))) (stH Dw ((balances,(),u,u2,u3,()),(got,())))=trewarded_l2 N (n_+1) balances u u2 u3 got:=by kernel_rfl
theorem A1u(N:Nat){top:Bool}:Ab Try.prog A8.c A8.n A8.m0 top (Io N):=A3 (Z:=(Unit)⊕(List Int×List Int)) (N:=N) (fun m p=>trewarded_l2 N m p.1.1 p.1.2.2.1 p.1.2.2.2.1 p.1.2.2.2.2.1 p.2.1) (fun e=>match e with | .inl x=>.inl ((),()) | .inr x=>.inr (.inl ((x.1,(),()),(x.2,())))) (fun _ p k=>A9 (trewarded_l2 N N p.1.1 p.1.2.2.1 p.1.2.2.2.1 p.1.2.2.2.2.1 p.2.1) _ _ (fun e=>by rcases e with x | x<;>rfl)) (fun _=>rfl) (fun m z E Xc hE hX hrec hx=>A2 (B:=A8) (loops:=[Cy N]) (leaves:=[Q2 (trewarded_l2 N m),Oc,Od]) (G0 N) mixed ⟨O9 N,trivial⟩ hE hX ⟨hrec,(fun p hp=>by obtain rfl:=Option.some.inj hp;exact hx),(fun p hp=>by obtain rfl:=Option.some.inj hp;exact hx),trivial⟩ Aa.no (fun p=>A1n N m p.1.1 p.1.2.2.1 p.1.2.2.2.1 p.1.2.2.2.2.1 p.2.1))
abbrev Vr:Sta:=⟨[0],⟨[.sl (.int .u8)],[]⟩⟩
theorem Afe(N:Nat)(numbers:List Int):ev (Z:=Bool) Try.prog (Ez N) A8 [Cy N,Io N] [] (some W4) 400 false [.c [0],.c [1]] (stL Vr ((numbers,()),())) (stH Vr ((numbers,()),()))=trewarded_S N numbers:=by kernel_rfl
noncomputable def Ae4(N:Nat):Spec:={ f:=5,ins:=⟨[.sl (.int .u8)],[]⟩,outs:=[⟨[.b],[]⟩],run:=fun p k=>(trewarded_S N p.1.1).bind fun r=>k ((r,()),()) }
theorem A1w(N:Nat):A0 Try.prog (Ae4 N):=A1 (B:=A8) (loops:=[Cy N,Io N]) (leaves:=[]) (fun p=>trewarded_S N p.1.1) (fun r=>((r,()),())) W4 (fun _ _ _=>rfl) (fun r z h=>by cases h;rfl) Try.func5 (by kernel_rfl) (by kernel_rfl) (by kernel_rfl) rfl rfl (by kernel_rfl) (fun args w=>Sem.pv_run _ _ _ (by kernel_rfl) w) (G0 N) mixed ⟨O9 N,A1u N,trivial⟩ (fun z E Xc hE hX hret=>trivial) (fun p=>Afe N p.1.1)

end Go.Proofs.Ytgeijboidfadaaa

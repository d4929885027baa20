/-
  Parts of a proof, put together: PFE, PGu.
  Conditions: none.
-/
import Derived.Test.YtgeijboidfadaaaZd
import Derived.Test.YtgeijboidfadaaaZg
namespace Go.Proofs.Ytgeijboidfadaaa.Fd
set_option linter.all false
open Go

def sumN(f:Nat→Int):Nat→Int
 | 0=>0
 | n+1=>sumN f n+f n
theorem Nk{f g:Nat→Int}:∀ {n:Nat},(∀i,i<n→f i=g i)→sumN f n=sumN g n
 | 0,_=>rfl
 | n+1,h=>by rw[sumN,sumN,Nk (fun i hi=>h i (by omega)),h n (by omega)]
def upd{α:Type}(J:Nat→α)(i:Nat)(v:α):Nat→α:=fun x=>if x=i then v else J x
theorem Ku{α:Type}(J:Nat→α)(i:Nat)(v:α):upd J i v i=v:=if_pos rfl
theorem A32{α:Type}{J:Nat→α}{i x:Nat}{v:α}(h:x≠i):upd J i v x=J x:=if_neg h
structure Mt (n m:Nat) (can:Nat→Nat→Bool) (J:Nat→Int):Prop where
 ok:∀i,i<n→J i=-1∨∃k:Nat,J i=k∧k<m∧can i k=true
 inj:∀i j,i<n→j<n→i≠j→J i=J j→J i=-1
def pv(w:Nat→Nat→Int)(i:Nat)(x:Int):Int:=if x=-1 then 0 else w i x.toNat
def wt(w:Nat→Nat→Int)(n:Nat)(J:Nat→Int):Int:=sumN (fun i=>pv w i (J i)) n
def Usd(n:Nat)(J:Nat→Int)(k:Nat):Prop:=∃i,i<n∧J i=k
section
variable {n m:Nat} {can:Nat→Nat→Bool} {w:Nat→Nat→Int}
theorem Auf(i:Nat):pv w i (-1)=0:=if_pos rfl
theorem A22(i k:Nat):pv w i (k:Int)=w i k:=by
 unfold pv
 rw[if_neg (by omega),Int.toNat_natCast]
theorem Mt.drop{J:Nat→Int}(h:Mt n m can J)(i:Nat):Mt n m can (upd J i (-1)):=by
 refine⟨fun x hx=>?_,fun x y hx hy hxy he=>?_⟩
 ·by_cases e:x=i
  ·subst e;exact .inl (Ku _ _ _)
  ·rw[A32 e];exact h.ok x hx
 ·by_cases e:x=i
  ·subst e;exact Ku _ _ _
  ·by_cases e2:y=i
   ·subst e2
    rw[Ku]at he
    exact he
   ·rw[A32 e]at he ⊢
    rw[A32 e2]at he
    exact h.inj x y hx hy hxy he
theorem Usd.A32{J:Nat→Int}{i k:Nat}{v:Int}(hv:v≠k)(h:Usd n (upd J i v) k):Usd n J k:=by
 obtain⟨x,hx,e⟩:=h
 by_cases c:x=i
 ·subst c;rw[Ku]at e;exact absurd e hv
 ·rw[Proofs.Ytgeijboidfadaaa.Fd.A32 c]at e;exact⟨x,hx,e⟩
structure Az3 (n m:Nat) (can:Nat→Nat→Bool) (w:Nat→Nat→Int) (fr:Nat→Prop) (v:Int):Prop where
 ex:∃J,Mt n m can J∧(∀k,fr k→¬Usd n J k)∧wt w n J=v
 le:∀J,Mt n m can J→(∀k,fr k→¬Usd n J k)→wt w n J≤v
end
end Go.Proofs.Ytgeijboidfadaaa.Fd
namespace Go.Proofs.Ytgeijboidfadaaa.Fd
set_option linter.all false
open Go
def mayL(can:Nat→Nat→Bool)(m i:Nat):List Nat:=(List.range m).filter (can i)
theorem Pb{can:Nat→Nat→Bool}{m i k:Nat}:k∈mayL can m i↔k<m∧can i k=true:=by
 unfold mayL
 rw[List.mem_filter,List.mem_range]
def joinsL(can:Nat→Nat→Bool)(m:Nat):Nat→Nat→Nat→List (List Int)
 | 0,_,_=>[[]]
 | d+1,i,u=>(joinsL can m d (i+1) u).map ((-1)::·)++(mayL can m i).flatMap fun k=>if u.testBit k then []else(joinsL can m d (i+1) (u ||| 2 ^ k)).map ((k:Int)::·)
def valJ(t:Nat→Nat→Int):Nat→List Int→Int
 | _,[]=>0
 | i,x::l=>pv t i x+valJ t (i+1) l
def okJ(can:Nat→Nat→Bool)(m:Nat):Nat→Nat→List Int→Prop
 | _,_,[]=>True
 | i,u,x::l=>(x=-1∧okJ can m (i+1) u l)∨∃k:Nat,x=k∧k<m∧can i k=true∧u.testBit k=false∧okJ can m (i+1) (u ||| 2 ^ k) l
section
variable {can:Nat→Nat→Bool} {m:Nat} {t:Nat→Nat→Int}
theorem Ca:∀ {d i u:Nat} {l:List Int},l∈joinsL can m d i u↔l.length=d∧okJ can m i u l
 | 0,i,u,l=>by
  simp only[joinsL,List.mem_singleton]
  constructor
  ·rintro rfl;exact⟨rfl,trivial⟩
  ·rintro ⟨h,_⟩;exact List.eq_nil_of_length_eq_zero h
 | d+1,i,u,l=>by
  simp only[joinsL,List.mem_append,List.mem_map,List.mem_flatMap]
  constructor
  ·rintro (⟨a,ha,rfl⟩ | ⟨k,hk,hl⟩)
   ·obtain⟨h1,h2⟩:=Ca.1 ha
    exact⟨by simp[h1],.inl ⟨rfl,h2⟩⟩
   ·obtain⟨k1,k2⟩:=Pb.1 hk
    cases hb:u.testBit k
    ·rw[hb]at hl
     simp only[Bool.false_eq_true,if_false,List.mem_map]at hl
     obtain⟨a,ha,rfl⟩:=hl
     obtain⟨h1,h2⟩:=Ca.1 ha
     exact⟨by simp[h1],.inr ⟨k,rfl,k1,k2,hb,h2⟩⟩
    ·rw[hb]at hl
     simp at hl
  ·rintro ⟨h,ho⟩
   cases l with
   | nil=>simp at h
   | cons x l=>
    have hl:l.length=d:=by simpa using h
    rcases ho with⟨rfl,h2⟩ | ⟨k,rfl,k1,k2,hb,h2⟩
    ·exact .inl ⟨l,Ca.2 ⟨hl,h2⟩,rfl⟩
    ·refine .inr ⟨k,Pb.2 ⟨k1,k2⟩,?_⟩
     rw[hb]
     simp only[Bool.false_eq_true,if_false,List.mem_map]
     exact⟨l,Ca.2 ⟨hl,h2⟩,rfl⟩
def rsS(t:Nat→Nat→Int)(rec:Nat→Int×Int×Int)(i u:Nat)(b:Int×Int×Int)(k:Nat):Int×Int×Int:=
 if u.testBit k then b else if b.2.1<(rec (u ||| 2 ^ k)).2.1+t i k then((k:Int),(rec (u ||| 2 ^ k)).2.1+t i k,(rec (u ||| 2 ^ k)).2.2)
  else if(rec (u ||| 2 ^ k)).2.1+t i k=b.2.1 then(b.1,b.2.1,b.2.2+(rec (u ||| 2 ^ k)).2.2)else b
def rsR(can:Nat→Nat→Bool)(t:Nat→Nat→Int)(m:Nat):Nat→Nat→Nat→Int×Int×Int
 | 0,_,_=>(-1,0,1)
 | d+1,i,u=>(mayL can m i).foldl (rsS t (rsR can t m d (i+1)) i u) (-1,(rsR can t m d (i+1) u).2.1,(rsR can t m d (i+1) u).2.2)
def blR(can:Nat→Nat→Bool)(t:Nat→Nat→Int)(m:Nat):Nat→Nat→Nat→List Int
 | 0,_,_=>[]
 | d+1,i,u=>(rsR can t m (d+1) i u).1::blR can t m d (i+1) (if(rsR can t m (d+1) i u).1=-1 then u else u ||| 2 ^ (rsR can t m (d+1) i u).1.toNat)
structure Bst (t:Nat→Nat→Int) (i:Nat) (C:List (List Int)) (c w:Int):Prop where
 le:∀l∈C,valJ t i l≤c
 ways:(C.countP (fun l=>decide (valJ t i l=c)):Int)=w
theorem Es{α:Type}{p:α→Bool}{l:List α}(h:∀x∈l,p x=false):l.countP p=0:=by
 rw[List.countP_eq_zero]
 intro x hx
 rw[h x hx];simp
theorem Bst.group{i:Nat}{x:Int}{C:List (List Int)}{c w:Int}(h:Bst t (i+1) C c w):Bst t i (C.map (x::·)) (c+pv t i x) w:=by
 refine⟨fun l hl=>?_,?_⟩
 ·rw[List.mem_map]at hl
  obtain⟨a,ha,rfl⟩:=hl
  have:=h.le a ha
  rw[valJ];omega
 ·rw[List.countP_map,←h.ways]
  congr 1
  refine List.countP_congr fun a _=>?_
  simp only[Function.comp,decide_eq_true_eq]
  rw[valJ]
  constructor<;>intro h<;>omega
theorem Bst.gt{i:Nat}{C G:List (List Int)}{c w c' w':Int}(h:Bst t i C c w)(h':Bst t i G c' w')(hlt:c<c'):Bst t i (C++G) c' w':=by
 refine⟨fun l hl=>?_,?_⟩
 ·rcases List.mem_append.1 hl with hl | hl
  ·have:=h.le l hl;omega
  ·exact h'.le l hl
 ·rw[List.countP_append,Es (l:=C) (fun l hl=>by
   have:=h.le l hl
   rw[decide_eq_false_iff_not];omega),Nat.zero_add]
  exact h'.ways
theorem Bst.same{i:Nat}{C G:List (List Int)}{c w w':Int}(h:Bst t i C c w)(h':Bst t i G c w'):Bst t i (C++G) c (w+w'):=by
 refine⟨fun l hl=>?_,?_⟩
 ·rcases List.mem_append.1 hl with hl | hl
  ·exact h.le l hl
  ·exact h'.le l hl
 ·rw[List.countP_append]
  have:=h.ways
  have:=h'.ways
  omega
theorem Bst.lt{i:Nat}{C G:List (List Int)}{c w c' w':Int}(h:Bst t i C c w)(h':Bst t i G c' w')(hlt:c'<c):Bst t i (C++G) c w:=by
 refine⟨fun l hl=>?_,?_⟩
 ·rcases List.mem_append.1 hl with hl | hl
  ·exact h.le l hl
  ·have:=h'.le l hl;omega
 ·rw[List.countP_append,Es (l:=G) (fun l hl=>by
   have:=h'.le l hl
   rw[decide_eq_false_iff_not];omega),Nat.add_zero]
  exact h.ways
def Fnd(can:Nat→Nat→Bool)(t:Nat→Nat→Int)(m:Nat)(rec:Nat→Int×Int×Int)(i u:Nat)(b:Int×Int×Int):Prop:=
 b.1=-1∧b.2.1=(rec u).2.1∨∃k:Nat,b.1=k∧k∈mayL can m i∧u.testBit k=false∧b.2.1=(rec (u ||| 2 ^ k)).2.1+t i k
theorem Ahd{d i u:Nat}(ih:∀u,Bst t (i+1) (joinsL can m d (i+1) u) (rsR can t m d (i+1) u).2.1 (rsR can t m d (i+1) u).2.2) :
  ∀(ks:List Nat) (C:List (List Int)) (b:Int×Int×Int),(∀k∈ks,k∈mayL can m i)→Bst t i C b.2.1 b.2.2→Fnd can t m (rsR can t m d (i+1)) i u b →
   Bst t i (C++ks.flatMap fun k=>if u.testBit k then []else(joinsL can m d (i+1) (u ||| 2 ^ k)).map ((k:Int)::·)) (ks.foldl (rsS t (rsR can t m d (i+1)) i u) b).2.1 (ks.foldl (rsS t (rsR can t m d (i+1)) i u) b).2.2 ∧
   Fnd can t m (rsR can t m d (i+1)) i u (ks.foldl (rsS t (rsR can t m d (i+1)) i u) b)
 | [],C,b,_,h,hf=>by simpa using ⟨h,hf⟩
 | k::ks,C,b,hk,h,hf=>by
  rw[List.foldl_cons,List.flatMap_cons,←List.append_assoc]
  have hm:=hk k (by simp)
  have hks:∀k∈ks,k∈mayL can m i:=fun x hx=>hk x (by simp[hx])
  cases hb:u.testBit k
  ·have hg:=(ih (u ||| 2 ^ k)).group (x:=(k:Int))
   rw[A22]at hg
   simp only[Bool.false_eq_true,if_false]
   have key:Bst t i (C++(joinsL can m d (i+1) (u ||| 2 ^ k)).map ((k:Int)::·)) (rsS t (rsR can t m d (i+1)) i u b k).2.1 (rsS t (rsR can t m d (i+1)) i u b k).2.2∧Fnd can t m (rsR can t m d (i+1)) i u (rsS t (rsR can t m d (i+1)) i u b k):=by
    unfold rsS
    rw[hb]
    simp only[Bool.false_eq_true,if_false]
    by_cases c1:b.2.1<(rsR can t m d (i+1) (u ||| 2 ^ k)).2.1+t i k
    ·rw[if_pos c1]
     exact⟨h.gt hg c1,.inr ⟨k,rfl,hm,hb,rfl⟩⟩
    ·rw[if_neg c1]
     by_cases c2:(rsR can t m d (i+1) (u ||| 2 ^ k)).2.1+t i k=b.2.1
     ·rw[if_pos c2]
      rw[c2]at hg
      exact⟨h.same hg,hf⟩
     ·rw[if_neg c2]
      exact⟨h.lt hg (by omega),hf⟩
   exact Ahd ih ks _ _ hks key.1 key.2
  ·simp only[if_true,List.append_nil]
   have:rsS t (rsR can t m d (i+1)) i u b k=b:=by unfold rsS;rw[hb];rfl
   rw[this]
   exact Ahd ih ks _ _ hks h hf
theorem Af2:∀(d i u:Nat),Bst t i (joinsL can m d i u) (rsR can t m d i u).2.1 (rsR can t m d i u).2.2∧(0<d→Fnd can t m (rsR can t m (d-1) (i+1)) i u (rsR can t m d i u))
 | 0,i,u=>⟨⟨fun l hl=>by simp only[joinsL,List.mem_singleton]at hl;subst hl;exact Int.le_refl _,by simp[joinsL,rsR,valJ]⟩,fun h=>by omega⟩
 | d+1,i,u=>by
  have ih:∀u,Bst t (i+1) (joinsL can m d (i+1) u) (rsR can t m d (i+1) u).2.1 (rsR can t m d (i+1) u).2.2:=fun u=>(Af2 d (i+1) u).1
  have h0:=(ih u).group (x:=-1)
  rw[Auf,Int.add_zero]at h0
  have:=Ahd (u:=u) ih (mayL can m i) _ (-1,(rsR can t m d (i+1) u).2.1,(rsR can t m d (i+1) u).2.2) (fun k hk=>hk) h0 (.inl ⟨rfl,rfl⟩)
  exact⟨this.1,fun _=>this.2⟩
theorem B6m(d i u:Nat):Bst t i (joinsL can m d i u) (rsR can t m d i u).2.1 (rsR can t m d i u).2.2:=(Af2 d i u).1
theorem Ay8{d i u:Nat}:Fnd can t m (rsR can t m d (i+1)) i u (rsR can t m (d+1) i u):=(Af2 (d+1) i u).2 (by omega)
theorem A27:∀(d i u:Nat),okJ can m i u (blR can t m d i u)∧(blR can t m d i u).length=d∧valJ t i (blR can t m d i u)=(rsR can t m d i u).2.1
 | 0,i,u=>⟨trivial,rfl,rfl⟩
 | d+1,i,u=>by
  have hf:=Ay8 (can:=can) (t:=t) (m:=m) (d:=d) (i:=i) (u:=u)
  unfold blR
  rcases hf with⟨h1,h2⟩ | ⟨k,h1,h2,h3,h4⟩
  ·obtain⟨q1,q2,q3⟩:=A27 d (i+1) u
   rw[h1,if_pos rfl]
   exact⟨.inl ⟨rfl,q1⟩,by simp[q2],by rw[valJ,Auf,q3,h2];omega⟩
  ·obtain⟨q1,q2,q3⟩:=A27 d (i+1) (u ||| 2 ^ k)
   obtain⟨k1,k2⟩:=Pb.1 h2
   rw[h1,if_neg (by omega),Int.toNat_natCast]
   exact⟨.inr ⟨k,rfl,k1,k2,h3,q1⟩,by simp[q2],by rw[valJ,A22,q3,h4];omega⟩
theorem Aox{u k j:Nat}:(u ||| 2 ^ k).testBit j=(u.testBit j || decide (k=j)):=by rw[Nat.testBit_or,Nat.testBit_two_pow]
theorem Ux:∀ {l:List Int} {i u:Nat},okJ can m i u l↔(∀j,j<l.length→l.getD j (-1)=-1∨∃k:Nat,l.getD j (-1)=k∧k<m∧can (i+j) k=true∧u.testBit k=false)∧∀a b,a<b→b<l.length→l.getD a (-1)=l.getD b (-1)→l.getD a (-1)=-1
 | [],i,u=>by
  constructor
  ·exact fun _=>⟨fun j h=>by simp at h,fun a b _ h=>by simp at h⟩
  ·exact fun _=>trivial
 | x::l,i,u=>by
  have e0:(x::l).getD 0 (-1)=x:=rfl
  have es:∀j,(x::l).getD (j+1) (-1)=l.getD j (-1):=fun j=>rfl
  unfold okJ
  constructor
  ·rintro (⟨rfl,h⟩ | ⟨k,rfl,k1,k2,k3,h⟩)
   ·obtain⟨h1,h2⟩:=Ux.1 h
    refine⟨fun j hj=>?_,fun a b hab hb he=>?_⟩
    ·cases j with
     | zero=>exact .inl rfl
     | succ j=>
      rw[es,show i+(j+1)=i+1+j by omega]
      exact h1 j (by simpa using hj)
    ·cases a with
     | zero=>rfl
     | succ a=>
      cases b with
      | zero=>omega
      | succ b=>rw[es]at he ⊢;rw[es]at he;exact h2 a b (by omega) (by simpa using hb) he
   ·obtain⟨h1,h2⟩:=Ux.1 h
    refine⟨fun j hj=>?_,fun a b hab hb he=>?_⟩
    ·cases j with
     | zero=>exact .inr ⟨k,rfl,k1,by simpa using k2,k3⟩
     | succ j=>
      rw[es,show i+(j+1)=i+1+j by omega]
      rcases h1 j (by simpa using hj)with h | ⟨q,a,b,c,d⟩
      ·exact .inl h
      ·rw[Aox,Bool.or_eq_false_iff]at d
       exact .inr ⟨q,a,b,c,d.1⟩
    ·cases b with
     | zero=>omega
     | succ b=>
      cases a with
      | zero=>
       rw[e0,es]at he
       rcases h1 b (by simpa using hb)with h | ⟨q,a,_,_,d⟩
       ·omega
       ·rw[Aox,Bool.or_eq_false_iff]at d
        have:k=q:=by omega
        simp[this]at d
      | succ a=>rw[es]at he ⊢;rw[es]at he;exact h2 a b (by omega) (by simpa using hb) he
  ·rintro ⟨h1,h2⟩
   have g2:∀a b,a<b→b<l.length→l.getD a (-1)=l.getD b (-1)→l.getD a (-1)=-1:=fun a b hab hb he=>h2 (a+1) (b+1) (by omega) (by simpa using hb) he
   rcases h1 0 (by simp)with h | ⟨k,ha,hb,hc,hd⟩
   ·refine .inl ⟨h,Ux.2 ⟨fun j hj=>?_,g2⟩⟩
    have:=h1 (j+1) (by simpa using hj)
    rw[es,show i+(j+1)=i+1+j by omega]at this
    exact this
   ·rw[e0]at ha
    refine .inr ⟨k,ha,hb,by simpa using hc,hd,Ux.2 ⟨fun j hj=>?_,g2⟩⟩
    have:=h1 (j+1) (by simpa using hj)
    rw[es,show i+(j+1)=i+1+j by omega]at this
    rcases this with h | ⟨q,q1,q2,q3,q4⟩
    ·exact .inl h
    ·refine .inr ⟨q,q1,q2,q3,?_⟩
     rw[Aox,q4,Bool.false_or,decide_eq_false_iff_not]
     intro e
     have:=h2 0 (j+1) (by omega) (by simpa using hj) (by rw[e0,es,ha,q1,e])
     rw[e0]at this
     omega
def fnJ(l:List Int):Nat→Int:=fun j=>l.getD j (-1)
theorem Ao8{l:List Int}{u:Nat}:okJ can m 0 u l↔Mt l.length m can (fnJ l)∧∀k,u.testBit k=true→¬Usd l.length (fnJ l) k:=by
 rw[Ux]
 unfold fnJ
 constructor
 ·rintro ⟨h1,h2⟩
  refine⟨⟨fun i hi=>?_,fun i j hi hj hij he=>?_⟩,fun k hk=>?_⟩
  ·rcases h1 i hi with h | ⟨k,a,b,c,d⟩
   ·exact .inl h
   ·exact .inr ⟨k,a,b,by simpa using c⟩
  ·rcases Nat.lt_or_gt_of_ne hij with h | h
   ·exact h2 i j h hj he
   ·have:=h2 j i h hi he.symm
    rw[he];exact this
  ·rintro ⟨i,hi,e⟩
   dsimp only at e
   rcases h1 i hi with h | ⟨q,a,b,c,d⟩
   ·omega
   ·have:q=k:=by omega
    subst this
    rw[hk]at d;cases d
 ·rintro ⟨h1,h2⟩
  refine⟨fun j hj=>?_,fun a b hab hb he=>h1.inj a b (by omega) hb (by omega) he⟩
  rcases h1.ok j hj with h | ⟨k,a,b,c⟩
  ·exact .inl h
  ·refine .inr ⟨k,a,b,by simpa using c,?_⟩
   cases hk:u.testBit k
   ·rfl
   ·exact absurd ⟨j,hj,a⟩ (h2 k hk)
theorem A7h(f:Nat→Int):∀n:Nat,sumN f (n+1)=f 0+sumN (fun i=>f (i+1)) n
 | 0=>by simp[sumN]
 | n+1=>by
  rw[sumN,A7h f n,sumN];omega
theorem Ahx:∀(l:List Int) (i:Nat),valJ t i l=sumN (fun j=>pv t (i+j) (l.getD j (-1))) l.length
 | [],_=>rfl
 | x::l,i=>by
  rw[valJ,Ahx l (i+1),List.length_cons,A7h]
  congr 1
  refine Nk fun j _=>?_
  rw[show i+(j+1)=i+1+j by omega];rfl
theorem Atr(l:List Int):valJ t 0 l=wt t l.length (fnJ l):=by
 rw[Ahx]
 refine Nk fun j _=>?_
 rw[Nat.zero_add];rfl
theorem Ar9{f:Nat→Int}{n j:Nat}(h:j<n):((List.range n).map f).getD j (-1)=f j:=by
 simp[List.getD,h]
theorem B4t{n u:Nat}{l:List Int}(h:l∈joinsL can m n 0 u):Mt n m can (fnJ l)∧(∀k,u.testBit k=true→¬Usd n (fnJ l) k)∧valJ t 0 l=wt t n (fnJ l):=by
 obtain⟨hl,ho⟩:=Ca.1 h
 obtain⟨h1,h2⟩:=Ao8.1 ho
 rw[hl]at h1 h2
 exact⟨h1,h2,by rw[Atr,hl]⟩
end
end Go.Proofs.Ytgeijboidfadaaa.Fd
namespace Go.Proofs.Ytgeijboidfadaaa.Fd
set_option linter.all false
open Go

def up(i x:Nat):Nat:=if x<i then x else x+1
section
variable {n m:Nat} {can:Nat→Nat→Bool} {t:Nat→Nat→Int}
theorem Mt.bd{J:Nat→Int}(h:Mt n m can J){i:Nat}(hi:i<n):-1≤J i∧J i<m:=by
 rcases h.ok i hi with e | ⟨k,e,hk,_⟩<;>omega
theorem Az3.congr{fr fr':Nat→Prop}{v:Int}(h:Az3 n m can t fr v)(hf:∀k,fr k↔fr' k):Az3 n m can t fr' v:=by
 have:fr=fr':=funext fun k=>propext (hf k)
 rw[←this];exact h
theorem Awa{l:List Int}{u:Nat}:l∈joinsL can m n 0 u↔l.length=n∧Mt n m can (fnJ l)∧∀k,u.testBit k=true→¬Usd n (fnJ l) k:=by
 constructor
 ·intro h
  obtain⟨h1,h2,_⟩:=B4t (t:=fun _ _=>0) h
  exact⟨(Ca.1 h).1,h1,h2⟩
 ·rintro ⟨h1,h2⟩
  exact Ca.2 ⟨h1,Ao8.2 (by rw[h1];exact h2)⟩
theorem Ad5{l:List Int}(h:l.length=n):valJ t 0 l=wt t n (fnJ l):=by rw[Atr,h]
theorem B6w{f:Nat→Int}{j:Nat}(h:j<n):fnJ ((List.range n).map f) j=f j:=Ar9 h
theorem Mt.congr{J J':Nat→Int}(h:Mt n m can J)(he:∀i,i<n→J i=J' i):Mt n m can J':=by
 refine⟨fun i hi=>by rw[←he i hi];exact h.ok i hi,fun i j hi hj hij e=>?_⟩
 rw[←he i hi,←he j hj]at e
 rw[←he i hi]
 exact h.inj i j hi hj hij e
end
end Go.Proofs.Ytgeijboidfadaaa.Fd
namespace Go.Proofs.Ytgeijboidfadaaa.Fd
set_option linter.all false
open Go

theorem drop_cons{α:Type}{l:List α}{k:Nat}(h:k<l.length)(d:α):l.drop k=l.getD k d::l.drop (k+1):=by
 rw[List.drop_eq_getElem_cons h];simp[List.getD,h]
theorem gets{α:Type}{l:List α}{k:Nat}(h:k<l.length)(d:α):l[((k:Nat):Int).toNat]?=some (l.getD k d):=by simp[List.getD,h]
theorem Av{α:Type}{l:List α}{i:Nat}{d:α}(h:i<l.length):l.getD i d∈l:=by
 simp[List.getD,h]
theorem D7(k:Nat):((k+1:Nat):Int)=(k:Int)+1:=by omega
theorem in_v(N:Nat)(n lo hi:Int):Ap N n lo hi=some (decide (lo≤n∧n≤hi)):=by
 unfold Ap br
 by_cases h:lo≤n<;>simp[h]
theorem Kx{α:Type}{f:α→Option Bool}{p:α→Bool}{s:List α}{N:Nat}(hf:∀x∈s,f x=some (p x))(hs:s.length≤1000000)(hN:s.length<N) :
  (((ixS (fun x=>(f x).bind fun c=>some (!c)) N s).bind fun x=>some (decide (0≤x))).bind fun x=>some (!x))=some (s.all p):=by
 rw[Vp (p:=fun x=>!p x) (fun x hx=>by rw[hf x hx];rfl) hs hN]
 simp only[Option.bind_some,V4]
def okv(x:Int):Bool:=decide (-1≤x∧x≤5)
def okw(x:Int):Bool:=decide (1≤x∧x≤9)
def okr(x:Int):Bool:=decide (0≤x∧x≤99)
def okl(n:Nat)(r:List Int):Bool:=decide (r.length=n)
structure Sm (W:List Int) (L F:List (List Int)) (R:List Int):Prop where
 w:W.length≤100
 l:L.length≤100
 f:F.length≤100
 r:R.length≤100
 lr:∀x∈L,x.length≤100
 fr:∀x∈F,x.length≤100
section
variable (N:Nat)
theorem All:∀(n:Nat) (s:List Int) (u u2:Int),ixfv_l1 N n s u u2=ixL (Le N) n s u u2
 | 0,_,_,_=>rfl
 | n+1,s,u,u2=>by unfold ixfv_l1 ixL;simp only[All n]
theorem Ab5:∀(n:Nat) (s:List (List Int)) (u u2:Int),ixfva_l1 N n s u u2=ixL (I3 N) n s u u2
 | 0,_,_,_=>rfl
 | n+1,s,u,u2=>by unfold ixfva_l1 ixL;simp only[Ab5 n]
theorem An1:∀(n:Nat) (s:List Int) (u u2:Int),Bf N n s u u2=ixL (Cm N) n s u u2
 | 0,_,_,_=>rfl
 | n+1,s,u,u2=>by unfold Bf ixL;simp only[An1 n]
theorem Aih:∀(n:Nat) (s:List Int) (u u2:Int),Bd N n s u u2=ixL (Cn N) n s u u2
 | 0,_,_,_=>rfl
 | n+1,s,u,u2=>by unfold Bd ixL;simp only[Aih n]
end
section
variable {N:Nat} {W:List Int} {s:Int} {L F:List (List Int)} {R:List Int}
theorem Az5{l:List Int}(h:l.length≤1000000)(hN:l.length<N):Lc N l=some (l.all okv):=by
 unfold Lc A5x A8q
 rw[←Kx (f:=Hm N) (p:=okv) (s:=l) (N:=N) (fun x _=>?_) h hN]
 ·unfold ixS
  rw[All]
  rfl
 ·unfold Hm okv
  rw[in_v];rfl
theorem B18{l:List Int}(h:l.length≤1000000)(hN:l.length<N):D1 N l=some (l.all okw):=by
 unfold D1 Ko Ka
 rw[←Kx (f:=Cx N) (p:=okw) (s:=l) (N:=N) (fun x _=>?_) h hN]
 ·unfold ixS
  rw[An1]
  rfl
 ·unfold Cx okw
  rw[in_v];rfl
theorem B0y{l:List Int}(h:l.length≤1000000)(hN:l.length<N):D0 N l=some (l.all okr):=by
 unfold D0 Ki Kg
 rw[←Kx (f:=Cw N) (p:=okr) (s:=l) (N:=N) (fun x _=>?_) h hN]
 ·unfold ixS
  rw[Aih]
  rfl
 ·unfold Cw okr
  rw[in_v];rfl
theorem Aaa{l:List (List Int)}(h:l.length≤1000000)(hN:l.length<N)(hr:∀x∈l,x.length≤1000000∧x.length<N):Fy N l=some (l.all fun r=>r.all okv):=by
 unfold Fy Vn Vb
 rw[←Kx (f:=B7 N) (p:=fun r=>r.all okv) (s:=l) (N:=N) (fun x hx=>?_) h hN]
 ·unfold ixS
  rw[Ab5]
  rfl
 ·unfold B7
  rw[Az5 (hr x hx).1 (hr x hx).2];rfl
theorem ixflo_gen:∀(n:Nat) (l:List (List Int)) (u u2:Int),ixflo_l1 N n l u u2 (W,s,L,F,R)=(ixL (fun x=>some (!okl W.length x)) n l u u2).map fun r=>match r with | .inl i=>.inl (i,(W,s,L,F,R)) | .inr _=>.inr (W,s,L,F,R)
 | 0,_,_,_=>rfl
 | n+1,l,u,u2=>by
  have e:∀x,Fl N x (W,s,L,F,R)=some (!okl W.length x,(W,s,L,F,R)):=fun x=>by
   unfold Fl Ao okl
   simp only[Option.bind_some]
   congr 3
   exact decide_eq_decide.2 (by omega)
  unfold ixflo_l1 ixL
  simp only[e,Option.bind_some,ixflo_gen n]
  unfold br
  split
  ·unfold idx
   split
   ·cases l[u2.toNat]? with
    | none=>rfl
    | some a=>
     dsimp only
     cases okl W.length a
     ·rfl
     ·simp only[Bool.not_true,Bool.false_eq_true,if_false]
      unfold chk
      split<;>rfl
   ·rfl
  ·rfl
theorem Adh{l:List (List Int)}(h:l.length≤1000000)(hN:l.length<N):Fs N l (W,s,L,F,R)=some (l.all (okl W.length)):=by
 unfold Fs Vj ixflo_S
 rw[←Kx (f:=fun x=>some (okl W.length x)) (p:=okl W.length) (s:=l) (N:=N) (fun x _=>rfl) h hN]
 unfold ixS
 rw[ixflo_gen]
 simp only[Option.bind_some]
 cases ixL (fun x=>some (!okl W.length x)) N l l.length 0 with
 | none=>rfl
 | some r=>cases r<;>rfl
end
def errD(W:List Int)(s:Int)(L F:List (List Int))(R:List Int):Int:=
 if ¬(1≤(W.length:Int)∧(W.length:Int)≤5)then 2 else if 6<(L.length:Int)then 2 else if 6<(F.length:Int)then 2 else if L.all (okl W.length)=false then 2 else if F.all (okl W.length)=false then 2 else
 if ¬((R.length:Int)=(L.length:Int))then 2 else if(W.all okw&&decide (0≤s∧s≤3)&&R.all okr&&(L.all fun r=>r.all okv)&&F.all fun r=>r.all okv)=true then 0 else 3
section
variable {N:Nat} {W:List Int} {s:Int} {L F:List (List Int)} {R:List Int}
theorem Auz(hN:110≤N)(h:Sm W L F R):B2 N W s L F R=some (errD W s L F R):=by
 obtain⟨hw,hl,hf,hr,hlr,hfr⟩:=h
 unfold B2 errD
 rw[in_v]
 simp only[Option.bind_some]
 by_cases c1:1≤(W.length:Int)∧(W.length:Int)≤5
 rotate_left
 ·rw[Ue c1,if_pos c1]
 rw[Gg c1,if_neg (by simpa using c1)]
 by_cases c2:6<(L.length:Int)
 ·rw[Ax c2,if_pos c2]
 rw[Ae c2,if_neg c2]
 by_cases c3:6<(F.length:Int)
 ·rw[Ax c3,if_pos c3]
 rw[Ae c3,if_neg c3,Adh (by omega) (by omega),Adh (by omega) (by omega),B18 (by omega) (by omega),in_v,B0y (by omega) (by omega),
  Aaa (by omega) (by omega) (fun x hx=>⟨by have:=hlr x hx;omega,by have:=hlr x hx;omega⟩),Aaa (by omega) (by omega) (fun x hx=>⟨by have:=hfr x hx;omega,by have:=hfr x hx;omega⟩)]
 simp only[Option.bind_some]
 cases L.all (okl W.length)
 ·rfl
 cases F.all (okl W.length)
 ·rfl
 by_cases c4:(R.length:Int)=(L.length:Int)
 rotate_left
 ·simp only[Bool.not_true,Bq,Bool.true_eq_false,if_false]
  rw[Ue c4,if_pos c4]
 simp only[Bool.not_true,Bq,Bool.true_eq_false,if_false]
 rw[Gg c4,if_neg (not_not_intro c4)]
 cases W.all okw<;>cases decide (0≤s∧s≤3)<;>cases R.all okr<;>cases (L.all fun r=>r.all okv)<;>cases (F.all fun r=>r.all okv)<;>rfl
end
end Go.Proofs.Ytgeijboidfadaaa.Fd
namespace Go.Proofs.Ytgeijboidfadaaa.Fd
set_option linter.all false
open Go

def tabA(g:Nat→Int):List Int:=(List.range 36).map g
theorem Iy(g:Nat→Int):(tabA g).length=36:=by simp[tabA]
theorem Wr{g:Nat→Int}{x:Nat}(h:x<36):(tabA g).getD x 0=g x:=by simp[tabA,List.getD,h]
theorem Aiq(g:Nat→Int)(x:Nat)(v:Int):(tabA g).set x v=tabA (upd g x v):=by
 refine List.ext_getElem (by simp[tabA]) fun i h1 h2=>?_
 simp only[tabA,List.getElem_set,List.getElem_map,List.getElem_range,upd]
 by_cases e:x=i
 ·rw[if_pos e,if_pos e.symm]
 ·rw[if_neg e,if_neg (Ne.symm e)]
def agA(W a b:List Int)(t:Nat):Int:=if a.getD t 0=b.getD t 0∧a.getD t 0≠-1 then W.getD t 0 else 0
def slA(a b:List Int)(t:Nat):Int:=if a.getD t 0≠-1∧b.getD t 0≠-1∧a.getD t 0≠b.getD t 0 then 1 else 0
def agP(W a b:List Int)(k:Nat):Int:=sumN (agA W a b) k
def slP(a b:List Int)(k:Nat):Int:=sumN (slA a b) k
def agF(W:List Int)(L F:List (List Int))(i k:Nat):Int:=if i<L.length∧k<F.length then agP W (L.getD i []) (F.getD k []) W.length else 0
def slF(W:List Int)(L F:List (List Int))(i k:Nat):Int:=if i<L.length∧k<F.length then slP (L.getD i []) (F.getD k []) W.length else 0
theorem Uh{f:Nat→Int}{m:Int}(h:∀i,0≤f i∧f i≤m)(hm:0≤m∧m≤10):∀n:Nat,n≤1000→0≤sumN f n∧sumN f n≤10*n
 | 0,_=>by simp[sumN]
 | n+1,hn=>by
  have h1:=Uh h hm n (by omega)
  have h2:=h n
  rw[sumN];omega
structure Fine (W:List Int) (s:Int) (L F:List (List Int)) (R:List Int):Prop where
 w1:1≤W.length
 w5:W.length≤5
 l6:L.length≤6
 f6:F.length≤6
 lw:∀x∈L,x.length=W.length
 fw:∀x∈F,x.length=W.length
 rl:R.length=L.length
 w:∀x∈W,1≤x∧x≤9
 s:0≤s∧s≤3
 r:∀x∈R,0≤x∧x≤99
 lv:∀r∈L,∀x∈r,-1≤x∧x≤5
 fv:∀r∈F,∀x∈r,-1≤x∧x≤5
section
variable {W:List Int} {s:Int} {L F:List (List Int)} {R:List Int}
theorem A3k:errD W s L F R=0↔Fine W s L F R:=by
 unfold errD
 constructor
 ·intro h
  split at h
  ·cases h
  rename_i c1
  split at h
  ·cases h
  rename_i c2
  split at h
  ·cases h
  rename_i c3
  split at h
  ·cases h
  rename_i c4
  split at h
  ·cases h
  rename_i c5
  split at h
  ·cases h
  rename_i c6
  split at h
  rotate_left
  ·cases h
  rename_i c7
  simp only[Bool.and_eq_true,List.all_eq_true,okw,okr,okv,decide_eq_true_eq]at c7
  simp only[Bool.not_eq_false,List.all_eq_true,okl,decide_eq_true_eq]at c4 c5
  exact⟨by omega,by omega,by omega,by omega,c4,c5,by omega,c7.1.1.1.1,c7.1.1.1.2,c7.1.1.2,c7.1.2,c7.2⟩
 ·intro h
  have c4:L.all (okl W.length)=true:=by simpa [okl]using h.lw
  have c5:F.all (okl W.length)=true:=by simpa [okl]using h.fw
  have h1:=h.w1;have h2:=h.w5;have h3:=h.l6;have h4:=h.f6;have h5:=h.rl
  rw[if_neg (by omega),if_neg (by omega),if_neg (by omega),if_neg (by simp[c4]),if_neg (by simp[c5]),if_neg (by omega),if_pos]
  simp only[Bool.and_eq_true,List.all_eq_true,okw,okr,okv,decide_eq_true_eq]
  exact⟨⟨⟨⟨h.w,h.s⟩,h.r⟩,h.lv⟩,h.fv⟩
theorem Fine.sm(h:Fine W s L F R):Sm W L F R:=by
 have h1:=h.w1;have h2:=h.w5;have h3:=h.l6;have h4:=h.f6;have h5:=h.rl
 exact⟨by omega,by omega,by omega,by omega,fun x hx=>by have:=h.lw x hx;omega,fun x hx=>by have:=h.fw x hx;omega⟩
def dkT(W:List Int)(s:Int)(L F:List (List Int))(R:List Int)(A B:Nat→Nat→Int):Dk:=(W,s,L,F,R,tabA (fun x=>A (x / 6) (x % 6)),tabA (fun x=>B (x / 6) (x % 6)),())
def dkO(W:List Int)(s:Int)(L F:List (List Int))(R:List Int):Dk:=dkT W s L F R (agF W L F) (slF W L F)
theorem Ayc(hw:∀x∈W,1≤x∧x≤9)(t:Nat):0≤W.getD t 0∧W.getD t 0≤9:=by
 by_cases h:t<W.length
 ·have:=hw _ (Av (d:=0) h);omega
 ·have:W.getD t 0=0:=by simp[List.getD,List.getElem?_eq_none (show W.length≤t by omega)]
  omega
theorem Axs(hw:∀x∈W,1≤x∧x≤9)(a b:List Int)(t:Nat):0≤agA W a b t∧agA W a b t≤9:=by
 have:=Ayc hw t
 unfold agA;split<;>omega
theorem Awm(a b:List Int)(t:Nat):0≤slA a b t∧slA a b t≤1:=by unfold slA;split<;>omega
theorem Adc(hw:∀x∈W,1≤x∧x≤9)(a b:List Int){t:Nat}(ht:t≤5):0≤agP W a b t∧agP W a b t≤50:=by
 have:=Uh (Axs hw a b) (by omega) t (by omega)
 unfold agP;omega
theorem Axw(a b:List Int){t:Nat}(ht:t≤5):0≤slP a b t∧slP a b t≤50:=by
 have:=Uh (Awm a b) (by omega) t (by omega)
 unfold slP;omega
theorem Ast{α:Type}(J:Nat→α)(i:Nat)(v w:α):upd (upd J i v) i w=upd J i w:=by
 funext x;unfold upd;split<;>rfl
theorem Ayz{α:Type}(J:Nat→α)(i:Nat):upd J i (J i)=J:=by
 funext x;unfold upd;split
 ·rename_i e;rw[e]
 ·rfl
theorem Gn{N:Nat}(h:Fine W s L F R){i k:Nat}(hi:i<6)(hk:k<6){a b:List Int}(ha:a.length=W.length)(hb:b.length=W.length){u u4:List (List Int)}{u2 u3 u5 u6:Int}{o1 o5:List Int}{o2:Int}{o3 o4:List (List Int)} :
  ∀(n t:Nat) (g g':Nat→Int),W.length<n+t→t≤W.length→g (i*6+k)=agP W a b t→g' (i*6+k)=slP a b t →
   opened_l3 N n i a k b u u2 u3 u4 u5 u6 a a.length t W s L F R o1 o2 o3 o4 o5 (tabA g) (tabA g')=some ((i:Int),a,u,u2,u3,u4,u5,u6,W,s,L,F,R,o1,o2,o3,o4,o5,tabA (upd g (i*6+k) (agP W a b W.length)),tabA (upd g' (i*6+k) (slP a b W.length)))
 | 0,t,_,_,hn,ht,_,_=>by omega
 | n+1,t,g,g',hn,ht,e1,e2=>by
  unfold opened_l3
  have hw5:=h.w5
  by_cases c:t<W.length
  ·have hx:i*6+k<36:=by omega
   have hj:∀g g':Nat→Int,Ei N (opened_l3 N n) i a k b u u2 u3 u4 u5 u6 a a.length t W s L F R o1 o2 o3 o4 o5 (tabA g) (tabA g')=opened_l3 N n i a k b u u2 u3 u4 u5 u6 a a.length ((t+1:Nat):Int) W s L F R o1 o2 o3 o4 o5 (tabA g) (tabA g'):=fun g g'=>by
    unfold Ei
    rw[Af (by omega)];rfl
   have b1:=Adc h.w a b (t:=t) (by omega)
   have b2:=Axw a b (t:=t) (by omega)
   have b3:=Ayc h.w t
   have s1:agP W a b (t+1)=agP W a b t+agA W a b t:=rfl
   have s2:slP a b (t+1)=slP a b t+slA a b t:=rfl
   rw[Ax (by omega),idx_eq (by omega) (gets (by omega) 0)]
   unfold agA at s1
   unfold slA at s2
   by_cases c1:a.getD t 0=-1
   ·rw[if_neg (by omega)]at s1 s2
    rw[Ax c1,hj,Gn h hi hk ha hb n (t+1) g g' (by omega) (by omega) (by omega) (by omega)]
   rw[Ae c1,idx_eq (by omega) (gets (by omega) 0)]
   by_cases c2:b.getD t 0=-1
   ·rw[if_neg (by omega)]at s1 s2
    rw[Ax c2,hj,Gn h hi hk ha hb n (t+1) g g' (by omega) (by omega) (by omega) (by omega)]
   rw[Ae c2,idx_eq (by omega) (gets (by omega) 0)]
   by_cases c3:a.getD t 0=b.getD t 0
   ·rw[if_pos ⟨c3,c1⟩]at s1
    rw[if_neg (by omega)]at s2
    rw[Ax c3,B3 (by omega),B3 (by omega)]
    simp only[Int.toNat_natCast]
    rw[Nn 0 (by rw[Iy];exact hx),Wr hx,e1,idx_eq (by omega) (gets (k:=t) (l:=W) (by omega) 0),Af (by omega),B3 (by omega),B3 (by omega),Nn 0 (by rw[Iy];exact hx),Aiq,hj,
     Gn h hi hk ha hb n (t+1) _ _ (by omega) (by omega) (by rw[Ku];omega) (by omega),Ast]
   ·rw[if_neg (by omega)]at s1
    rw[if_pos ⟨c1,c2,c3⟩]at s2
    rw[Ae c3,B3 (by omega),B3 (by omega)]
    simp only[Int.toNat_natCast]
    rw[Nn 0 (by rw[Iy];exact hx),Wr hx,e2,Af (by omega),B3 (by omega),B3 (by omega),Nn 0 (by rw[Iy];exact hx),Aiq,hj,
     Gn h hi hk ha hb n (t+1) _ _ (by omega) (by omega) (by omega) (by rw[Ku];omega),Ast]
  ·obtain rfl:t=W.length:=by omega
   rw[Ae (by omega),←e1,←e2,Ayz,Ayz]
def gK(A:Nat→Nat→Int)(i k:Nat):Nat→Int:=fun x=>if x / 6<i∨(x / 6=i∧x % 6<k)then A (x / 6) (x % 6)else 0
theorem Atw(A:Nat→Nat→Int){i k:Nat}(hk:k<6):upd (gK A i k) (i*6+k) (A i k)=gK A i (k+1):=by
 funext x
 unfold upd gK
 by_cases e:x=i*6+k
 ·rw[if_pos e,if_pos (by omega),show x / 6=i by omega,show x % 6=k by omega]
 ·rw[if_neg e]
  by_cases c:x / 6<i∨(x / 6=i∧x % 6<k)
  ·rw[if_pos c,if_pos (by omega)]
  ·rw[if_neg c,if_neg (by omega)]
theorem As4(A:Nat→Nat→Int){i k:Nat}(hk:k<6):gK A i k (i*6+k)=0:=if_neg (by omega)
theorem B04{A:Nat→Nat→Int}{i m:Nat}(h:∀k,m≤k→A i k=0):gK A i m=gK A (i+1) 0:=by
 funext x
 unfold gK
 by_cases c:x / 6<i∨(x / 6=i∧x % 6<m)
 ·rw[if_pos c,if_pos (by omega)]
 ·rw[if_neg c]
  by_cases d:x / 6=i
  ·rw[if_pos (by omega),d,h _ (by omega)]
  ·rw[if_neg (by omega)]
theorem B0c{A:Nat→Nat→Int}{n:Nat}(h:∀i k,n≤i→A i k=0):gK A n 0=fun x=>A (x / 6) (x % 6):=by
 funext x
 unfold gK
 by_cases c:x / 6<n
 ·rw[if_pos (.inl c)]
 ·rw[if_neg (by omega),h _ _ (by omega)]
theorem A08{N:Nat}(hN:110≤N)(h:Fine W s L F R){i:Nat}(hi:i<L.length){u:List (List Int)}{u2 u3:Int}{o1 o5:List Int}{o2:Int}{o3 o4:List (List Int)} :
  ∀(n k:Nat),F.length<n+k→k≤F.length →
   opened_l2 N n i (L.getD i []) u u2 u3 F F.length k W s L F R o1 o2 o3 o4 o5 (tabA (gK (agF W L F) i k)) (tabA (gK (slF W L F) i k))=some (u,u2,u3,W,s,L,F,R,o1,o2,o3,o4,o5,tabA (gK (agF W L F) (i+1) 0),tabA (gK (slF W L F) (i+1) 0))
 | 0,k,hn,hk=>by omega
 | n+1,k,hn,hk=>by
  unfold opened_l2
  have hl6:=h.l6;have hf6:=h.f6;have hw5:=h.w5
  by_cases c:k<F.length
  ·have ih:=A08 hN h hi (u:=u) (u2:=u2) (u3:=u3) (o1:=o1) (o5:=o5) (o2:=o2) (o3:=o3) (o4:=o4) n (k+1) (by omega) (by omega)
   rw[D7]at ih
   have e:=Gn (N:=N) h (i:=i) (k:=k) (by omega) (by omega) (h.lw _ (Av (d:=[]) hi)) (h.fw _ (Av (d:=[]) c)) (u:=u) (u4:=F) (u2:=u2) (u3:=u3) (u5:=F.length) (u6:=k) (o1:=o1) (o5:=o5) (o2:=o2) (o3:=o3) (o4:=o4)
    N 0 (gK (agF W L F) i k) (gK (slF W L F) i k) (by omega) (by omega) (As4 _ (by omega)) (As4 _ (by omega))
   have a1:agP W (L.getD i []) (F.getD k []) W.length=agF W L F i k:=(if_pos ⟨hi,c⟩).symm
   have a2:slP (L.getD i []) (F.getD k []) W.length=slF W L F i k:=(if_pos ⟨hi,c⟩).symm
   rw[a1,a2,Atw _ (by omega),Atw _ (by omega),show((0:Nat):Int)=0 from rfl]at e
   rw[Ax (by omega),idx_eq (by omega) (gets c []),e]
   simp only[Option.bind_some]
   rw[Af (by omega)]
   exact ih
  ·obtain rfl:k=F.length:=by omega
   rw[Ae (by omega),B04 (A:=agF W L F) (i:=i) (m:=F.length) (fun k hk=>by unfold agF;exact if_neg (by omega)),B04 (A:=slF W L F) (i:=i) (m:=F.length) (fun k hk=>by unfold slF;exact if_neg (by omega))]
theorem A1m{N:Nat}(hN:110≤N)(h:Fine W s L F R){o1 o5:List Int}{o2:Int}{o3 o4:List (List Int)} :
  ∀(n i:Nat),L.length<n+i→i≤L.length →
   opened_l1 N n L L.length i W s L F R o1 o2 o3 o4 o5 (tabA (gK (agF W L F) i 0)) (tabA (gK (slF W L F) i 0))=some (o1,o2,o3,o4,o5,tabA (fun x=>agF W L F (x / 6) (x % 6)),tabA (fun x=>slF W L F (x / 6) (x % 6)))
 | 0,i,hn,hi=>by omega
 | n+1,i,hn,hi=>by
  unfold opened_l1
  have hl6:=h.l6;have hf6:=h.f6
  by_cases c:i<L.length
  ·have ih:=A1m hN h (o1:=o1) (o5:=o5) (o2:=o2) (o3:=o3) (o4:=o4) n (i+1) (by omega) (by omega)
   rw[D7]at ih
   have e:=A08 hN h c (u:=L) (u2:=L.length) (u3:=i) (o1:=o1) (o5:=o5) (o2:=o2) (o3:=o3) (o4:=o4) N 0 (by omega) (by omega)
   rw[show((0:Nat):Int)=0 from rfl]at e
   rw[Ax (by omega),idx_eq (by omega) (gets c []),e]
   simp only[Option.bind_some]
   rw[Af (by omega)]
   exact ih
  ·obtain rfl:i=L.length:=by omega
   rw[Ae (by omega),B0c (A:=agF W L F) (fun i k hi=>by unfold agF;exact if_neg (by omega)),B0c (A:=slF W L F) (fun i k hi=>by unfold slF;exact if_neg (by omega))]
theorem Ayt{N:Nat}(hN:110≤N)(h:Sm W L F R):Al N W s L F R=some (if errD W s L F R=0 then .inl (dkO W s L F R,0)else .inr (errD W s L F R)):=by
 unfold Al
 rw[Auz hN h]
 simp only[Option.bind_some]
 by_cases c:errD W s L F R=0
 ·have hF:=A3k.1 c
  have e:=A1m hN hF (o1:=W) (o2:=s) (o3:=L) (o4:=F) (o5:=R) N 0 (by have:=hF.l6;omega) (by omega)
  have z:∀A:Nat→Nat→Int,tabA (gK A 0 0)=List.replicate 36 (0:Int):=fun A=>by
   rw[show gK A 0 0=fun _=>0 by funext x;exact if_neg (by omega)];rfl
  rw[z,z,show((0:Nat):Int)=0 from rfl]at e
  rw[Gg c,if_pos c,e];rfl
 ·rw[Ue c,if_neg c]
end
end Go.Proofs.Ytgeijboidfadaaa.Fd
namespace Go.Proofs.Ytgeijboidfadaaa.Fd
set_option linter.all false
open Go

def alI(p:Nat→Bool)(n:Nat):Bool:=(List.range' 0 n).all p
theorem A2k{p:Nat→Bool}{n:Nat}:alI p n=true↔∀i,i<n→p i=true:=by
 unfold alI
 rw[List.all_eq_true]
 constructor
 ·exact fun h i hi=>h i (by simp[List.mem_range'_1,hi])
 ·exact fun h i hi=>h i (by have:=List.mem_range'_1.1 hi;omega)
def canT(A B:Nat→Nat→Int)(s:Int)(i k:Nat):Bool:=decide (0<A i k)&&decide (B i k≤s)
section
variable {W:List Int} {s:Int} {L F:List (List Int)} {R:List Int} {A B:Nat→Nat→Int} {N:Nat}
theorem B57{i k:Nat}(hi:i<6)(hk:k<6):agD (dkT W s L F R A B) i k=A i k:=by
 unfold agD dkT
 rw[Wr (by omega),show(i*6+k) / 6=i by omega,show(i*6+k) % 6=k by omega]
theorem B7p{i k:Nat}(hi:i<6)(hk:k<6):slD (dkT W s L F R A B) i k=B i k:=by
 unfold slD dkT
 rw[Wr (by omega),show(i*6+k) / 6=i by omega,show(i*6+k) % 6=k by omega]
theorem B7o{i k:Nat}(hi:i<6)(hk:k<6){Z:Type}{f:Int→Option Z}:get (dkT W s L F R A B).2.2.2.2.2.1 (i*6+k) f=f (A i k):=by
 have e:=B57 (W:=W) (s:=s) (L:=L) (F:=F) (R:=R) (A:=A) (B:=B) hi hk
 unfold agD at e
 rw[Nn 0 (by unfold dkT;rw[Iy];omega),e]
theorem Aaq(h:Fine W s L F R)(i k:Nat):0≤agF W L F i k∧agF W L F i k≤50:=by
 unfold agF
 split
 ·exact Adc h.w _ _ h.w5
 ·omega
abbrev canF(W:List Int)(s:Int)(L F:List (List Int)):Nat→Nat→Bool:=canT (agF W L F) (slF W L F) s
def inm(m:Nat)(x:Int):Bool:=decide (-1≤x∧x≤(m:Int)-1)
def hasB(l:List Int)(x:Int):Bool:=l.any fun y=>decide (x=y)
theorem A8m{l:List Int}{x:Int}:hasB l x=true↔x∈l:=by simp[hasB]
def dupI(l:List Int)(i:Nat):Bool:=decide (l.getD i 0=-1) || !hasB (l.take i) (l.getD i 0)
def cnI(can:Nat→Nat→Bool)(l:List Int)(i:Nat):Bool:=decide (l.getD i 0=-1) || can i (l.getD i 0).toNat
def errJ(e:Int)(n m:Nat)(can:Nat→Nat→Bool)(l:List Int):Int:=
 if ¬e=0 then e else if ¬(l.length:Int)=(n:Int)then 2 else if l.all (inm m)=false then 1 else if alI (dupI l) l.length=false then 5 else if alI (cnI can l) l.length=false then 8 else 0
end
end Go.Proofs.Ytgeijboidfadaaa.Fd
namespace Go.Proofs.Ytgeijboidfadaaa.Fd
set_option linter.all false
open Go

section
variable {N:Nat}
theorem Ajc{l:List Int}{m:Int}(hl:l.length≤1000)(hm:0≤m∧m≤1000)(hr:∀x∈l,-m≤x∧x≤m):∀(n k:Nat) (s:Int),l.length<n+k→k≤l.length→(-(m*k)≤s∧s≤m*k)→sum_l1 N n s l l.length k=some (s+(l.drop k).sum)
 | 0,k,s,h,_,_=>by omega
 | n+1,k,s,h,hk,hs=>by
  unfold sum_l1
  have hmk:m*(k:Int)≤1000*1000:=Int.mul_le_mul hm.2 (by omega) (by omega) (by omega)
  by_cases c:k<l.length
  ·have hx:=hr _ (Av (d:=0) c)
   have g:=gets c 0
   rw[drop_cons c 0]
   generalize l.getD k 0=x at *
   have e:m*((k+1:Nat):Int)=m*k+m:=by rw[Int.natCast_add,Int.mul_add];simp
   have ih:=Ajc hl hm hr n (k+1) (s+x) (by omega) (by omega) (by omega)
   rw[D7]at ih
   rw[Ax (by omega),idx_eq (by omega) g,Af (by omega),Af (by omega),ih,List.sum_cons]
   congr 1;omega
  ·rw[Ae (by omega),List.drop_of_length_le (by omega)];simp
theorem B81{l:List Int}{m:Int}(hl:l.length≤1000)(hN:l.length<N)(hm:0≤m∧m≤1000)(hr:∀x∈l,-m≤x∧x≤m):Oe N l=some l.sum:=by
 unfold Oe
 have:=Ajc (N:=N) hl hm hr N 0 0 (by omega) (by omega) (by simp)
 simp only[Int.natCast_zero,List.drop_zero,Int.zero_add]at this
 rw[this];rfl
end
def wlJ(t:Nat→Nat→Int):Nat→List Int→List Int
 | _,[]=>[]
 | i,x::l=>(if x=-1 then []else [t i x.toNat])++wlJ t (i+1) l
theorem Asi(t:Nat→Nat→Int):∀(l:List Int) (i:Nat),(wlJ t i l).sum=valJ t i l
 | [],_=>rfl
 | x::l,i=>by
  rw[wlJ,valJ,List.sum_append,Asi t l (i+1)]
  unfold pv
  split<;>simp
theorem Av4(t:Nat→Nat→Int):∀(l:List Int) (i:Nat),(wlJ t i l).length≤l.length
 | [],_=>Nat.le_refl _
 | x::l,i=>by
  have:=Av4 t l (i+1)
  rw[wlJ,List.length_append,List.length_cons]
  split<;>simp<;>omega
theorem Acz{t:Nat→Nat→Int}{m:Int}(h:∀i k,0≤t i k∧t i k≤m):∀(l:List Int) (i:Nat),∀x∈wlJ t i l,0≤x∧x≤m
 | [],_,x,hx=>by cases hx
 | y::l,i,x,hx=>by
  rw[wlJ,List.mem_append]at hx
  rcases hx with hx | hx
  ·split at hx
   ·cases hx
   ·simp only[List.mem_singleton]at hx
    subst hx;exact h _ _
  ·exact Acz h l (i+1) x hx
theorem A67{t:Nat→Nat→Int}{m:Int}(h:∀i k,0≤t i k∧t i k≤m)(hm:0≤m):∀(l:List Int) (i:Nat),0≤valJ t i l∧valJ t i l≤m*l.length
 | [],_=>by simp[valJ]
 | x::l,i=>by
  have h1:=A67 h hm l (i+1)
  have h2:=h i x.toNat
  rw[valJ,List.length_cons,Int.natCast_add,Int.mul_add]
  unfold pv
  split<;>simp<;>omega
section
variable {W:List Int} {s:Int} {L F:List (List Int)} {R:List Int} {A B:Nat→Nat→Int} {N:Nat}
theorem W3{l:List Int}(hl:l.length≤6)(hR:l.length≤R.length):∀(n k:Nat) (acc:List Int),l.length<n+k→k≤l.length→acc.length≤k→dreward_l1 N n (dkT W s L F R A B) l l.length k acc=some (acc++wlJ (fun i _=>R.getD i 0) k (l.drop k))
 | 0,k,_,h,_,_=>by omega
 | n+1,k,acc,h,hk,ha=>by
  unfold dreward_l1
  by_cases c:k<l.length
  ·have hj:∀acc,acc.length≤k+1→Fu N (dreward_l1 N n) (dkT W s L F R A B) l l.length k acc=some (acc++wlJ (fun i _=>R.getD i 0) (k+1) (l.drop (k+1))):=fun acc ha=>by
    have ih:=W3 hl hR n (k+1) acc (by omega) (by omega) ha
    rw[D7]at ih
    unfold Fu
    rw[Af (by omega),ih]
   rw[Ax (by omega),idx_eq (by omega) (gets c 0),drop_cons c 0,wlJ]
   by_cases c1:l.getD k 0=-1
   ·rw[Gg c1,hj _ (by omega),if_pos c1,List.nil_append]
   ·rw[Ue c1,if_neg c1,idx_eq (by omega) (show(dkT W s L F R A B).2.2.2.2.1[((k:Nat):Int).toNat]?=some (R.getD k 0)from gets (l:=R) (by omega) 0),No (by simp;omega),hj _ (by simp;omega),List.append_assoc]
  ·rw[Ae (by omega),List.drop_of_length_le (by omega)]
   simp[wlJ]
theorem Ag3(hr:∀x∈R,0≤x∧x≤99)(t:Nat):0≤R.getD t 0∧R.getD t 0≤99:=by
 by_cases h:t<R.length
 ·exact hr _ (Av (d:=0) h)
 ·have:R.getD t 0=0:=by simp[List.getD,List.getElem?_eq_none (show R.length≤t by omega)]
  omega
theorem Axo(hN:110≤N)(hr:∀x∈R,0≤x∧x≤99){l:List Int}(hl:l.length≤6)(hR:l.length≤R.length):Hq N (dkT W s L F R A B) l=some (valJ (fun i _=>R.getD i 0) 0 l):=by
 have e:=W3 (N:=N) (W:=W) (s:=s) (L:=L) (F:=F) (R:=R) (A:=A) (B:=B) hl hR N 0 [] (by omega) (by omega) (by simp)
 have h1:=Av4 (fun i _=>R.getD i 0) l 0
 rw[show((0:Nat):Int)=0 from rfl,List.drop_zero,List.nil_append]at e
 unfold Hq
 rw[e]
 simp only[Option.bind_some]
 rw[B81 (m:=1000) (by omega) (by omega) (by omega) (fun x hx=>by have:=Acz (t:=fun i _=>R.getD i 0) (fun i _=>Ag3 hr i) l 0 x hx;omega),Asi];rfl
theorem Yu{e:Int}{n m:Nat}{can:Nat→Nat→Bool}{l:List Int}(h:errJ e n m can l=0):e=0∧l.length=n∧l.all (inm m)=true∧alI (dupI l) l.length=true∧alI (cnI can l) l.length=true:=by
 unfold errJ at h
 split at h
 ·rename_i c;exact absurd h c
 rename_i c
 split at h
 ·cases h
 rename_i c1
 split at h
 ·cases h
 rename_i c2
 split at h
 ·cases h
 rename_i c3
 split at h
 ·cases h
 rename_i c4
 exact⟨by omega,by omega,by simpa using c2,by simpa using c3,by simpa using c4⟩
def mayE(can:Nat→Nat→Bool)(m i:Nat):List (Int×Unit):=(mayL can m i).map fun(j:Nat)=>((j:Int),())
theorem B5z(hF:F.length≤6){i:Nat}(hi:i<6):mayR (dkT W s L F R A B) (dkT W s L F R A B) i=some (mayE (canT A B s) F.length i):=by
 unfold mayR mayE mayL mayF
 rw[if_pos ⟨⟨by omega,by omega⟩,hF,Iy _,Iy _⟩]
 congr 2
 simp only[Int.toNat_natCast,Nat.sub_zero]
 rw[←List.range_eq_range']
 refine List.filter_congr fun k hk=>?_
 have hk:k<F.length:=by simpa [dkT]using hk
 unfold canD canT
 rw[B57 hi (by omega),B7p hi (by omega)];rfl
end
end Go.Proofs.Ytgeijboidfadaaa.Fd
namespace Go.Proofs.Ytgeijboidfadaaa.Fd
set_option linter.all false
open Go

abbrev MK:=List ((Int×Int)×(Int×(Int×Int)))
def lkM(g:MK)(i u:Int):Option (Int×(Int×Int)):=(g.find? fun(y:(Int×Int)×(Int×(Int×Int)))=>Ty.beq (.pair (.int .i64) (.int .i64)) y.1 (i,u)).map (·.2)
theorem Oy(a b:Int)(v:Int×(Int×Int))(g:MK)(i u:Int):lkM (((a,b),v)::g) i u=if a=i∧b=u then some v else lkM g i u:=by
 have e:Ty.beq (.pair (.int .i64) (.int .i64)) (a,b) (i,u)=decide (a=i∧b=u):=by
  show(decide (a=i)&&decide (b=u))=_
  by_cases h1:a=i<;>by_cases h2:b=u<;>simp[h1,h2]
 unfold lkM
 rw[List.find?_cons]
 by_cases h:a=i∧b=u
 ·rw[if_pos h,show(Ty.beq (.pair (.int .i64) (.int .i64)) (((a,b),v):(Int×Int)×(Int×(Int×Int))).1 (i,u))=true by rw[e,decide_eq_true h]];rfl
 ·rw[if_neg h,show(Ty.beq (.pair (.int .i64) (.int .i64)) (((a,b),v):(Int×Int)×(Int×(Int×Int))).1 (i,u))=false by rw[e,decide_eq_false h]]
theorem Azo(g:MK)(i u:Int):(g.find? fun(y:(Int×Int)×(Int×(Int×Int)))=>Ty.beq (.pair (.int .i64) (.int .i64)) y.1 (i,u)).isSome=(lkM g i u).isSome:=by
 unfold lkM;rw[Option.isSome_map]
def hasM(g:MK)(i u:Nat):Prop:=(lkM g i u).isSome=true
def subM(g g':MK):Prop:=∀i u:Nat,hasM g i u→hasM g' i u
theorem subM.refl(g:MK):subM g g:=fun _ _ h=>h
theorem subM.trans{a b c:MK}(h:subM a b)(k:subM b c):subM a c:=fun i u x=>k i u (h i u x)
structure MOK (can:Nat→Nat→Bool) (t:Nat→Nat→Int) (m n:Nat) (g:MK):Prop where
 val:∀(i u:Nat) v,lkM g i u=some v→v=rsR can t m (n-i) i u
 clo:∀i u:Nat,hasM g i u→i+1<n→hasM g (i+1) u∧∀k∈mayL can m i,u.testBit k=false→hasM g (i+1) (u ||| 2 ^ k)
theorem MOK.nil{can:Nat→Nat→Bool}{t:Nat→Nat→Int}{m n:Nat}:MOK can t m n []:=⟨fun i u v h=>by simp[lkM]at h,fun i u h=>by simp[hasM,lkM]at h⟩
theorem MOK.cons{can:Nat→Nat→Bool}{t:Nat→Nat→Int}{m n:Nat}{g:MK}(h:MOK can t m n g){i u:Nat}(h1:i+1<n→hasM g (i+1) u∧∀k∈mayL can m i,u.testBit k=false→hasM g (i+1) (u ||| 2 ^ k)) :
  MOK can t m n ((((i:Int),(u:Int)),rsR can t m (n-i) i u)::g)∧subM g ((((i:Int),(u:Int)),rsR can t m (n-i) i u)::g)∧hasM ((((i:Int),(u:Int)),rsR can t m (n-i) i u)::g) i u:=by
 have hsub:subM g ((((i:Int),(u:Int)),rsR can t m (n-i) i u)::g):=fun i' u' hh=>by
  unfold hasM at *
  rw[Oy]
  split
  ·rfl
  ·exact hh
 refine⟨⟨fun i' u' v hv=>?_,fun i' u' hh hi=>?_⟩,hsub,?_⟩
 ·rw[Oy]at hv
  split at hv
  ·rename_i e
   obtain rfl:i=i':=by omega
   obtain rfl:u=u':=by omega
   simp only[Option.some.injEq]at hv
   exact hv.symm
  ·exact h.val i' u' v hv
 ·unfold hasM at hh
  rw[Oy]at hh
  split at hh
  ·rename_i e
   obtain rfl:i=i':=by omega
   obtain rfl:u=u':=by omega
   exact⟨hsub _ _ (h1 hi).1,fun k hk hb=>hsub _ _ ((h1 hi).2 k hk hb)⟩
  ·obtain⟨x,y⟩:=h.clo i' u' hh hi
   exact⟨hsub _ _ x,fun k hk hb=>hsub _ _ (y k hk hb)⟩
 ·unfold hasM
  rw[Oy,if_pos ⟨rfl,rfl⟩];rfl
theorem MOK.get{can:Nat→Nat→Bool}{t:Nat→Nat→Int}{m n:Nat}{g:MK}(h:MOK can t m n g){i u:Nat}(hh:hasM g i u):lkM g i u=some (rsR can t m (n-i) i u):=by
 unfold hasM at hh
 cases e:lkM g i u with
 | none=>rw[e]at hh;cases hh
 | some v=>rw[h.val i u v e]
theorem A14{α β:Type}{f:α→List β}{B:Nat}:∀ {l:List α},(∀x∈l,(f x).length≤B)→(l.flatMap f).length≤l.length*B
 | [],_=>by simp
 | x::l,h=>by
  have h1:=h x (by simp)
  have h2:=A14 (l:=l) (fun y hy=>h y (by simp[hy]))
  rw[List.flatMap_cons,List.length_append,List.length_cons,Nat.add_mul];omega
theorem Al3(can:Nat→Nat→Bool)(m i:Nat):(mayL can m i).length≤m:=by
 have:=List.length_filter_le (can i) (List.range m)
 simpa [mayL]using this
theorem Tf{can:Nat→Nat→Bool}{m:Nat}(hm:m≤6):∀d i u:Nat,(joinsL can m d i u).length≤7 ^ d
 | 0,_,_=>by simp[joinsL]
 | d+1,i,u=>by
  have h1:=Tf (can:=can) hm d (i+1) u
  have h2:((mayL can m i).flatMap fun k=>if u.testBit k then []else(joinsL can m d (i+1) (u ||| 2 ^ k)).map ((k:Int)::·)).length≤(mayL can m i).length*7 ^ d:=A14 fun k _=>by
   split
   ·simp
   ·rw[List.length_map];exact Tf hm d (i+1) _
  have h3:=Al3 can m i
  have h4:(mayL can m i).length*7 ^ d≤6*7 ^ d:=Nat.mul_le_mul_right _ (by omega)
  rw[joinsL,List.length_append,List.length_map,Nat.pow_succ]
  omega
theorem Alf{can:Nat→Nat→Bool}{t:Nat→Nat→Int}{m:Nat}(hm:m≤6){T:Int}(ht:∀i k,0≤t i k∧t i k≤T)(hT:0≤T)(d i u:Nat) :
  (0≤(rsR can t m d i u).2.1∧(rsR can t m d i u).2.1≤T*d)∧0≤(rsR can t m d i u).2.2∧(rsR can t m d i u).2.2≤((7 ^ d:Nat):Int):=by
 obtain⟨q1,q2,q3⟩:=A27 (can:=can) (t:=t) (m:=m) d i u
 have hb:=B6m (can:=can) (t:=t) (m:=m) d i u
 have h1:=A67 ht hT (blR can t m d i u) i
 rw[q2,q3]at h1
 have h2:=List.countP_le_length (p:=fun l=>decide (valJ t i l=(rsR can t m d i u).2.1)) (l:=joinsL can m d i u)
 have h3:=Tf (can:=can) hm d i u
 have h4:=hb.ways
 exact⟨h1,by omega,by omega⟩
theorem B2b{u k:Nat}:((((Int.fdiv (u:Int) (2 ^ ((k:Nat):Int).toNat)).toNat &&& 1:Nat):Int)=1)↔u.testBit k=true:=by
 have e:(Int.fdiv (u:Int) (2 ^ ((k:Nat):Int).toNat)).toNat=u / 2 ^ k:=by
  rw[Int.toNat_natCast,Int.fdiv_eq_ediv_of_nonneg _ (by exact Int.le_of_lt (Int.pow_pos (by omega)))]
  rw[show((2:Int) ^ k)=((2 ^ k:Nat):Int)by simp,←Int.natCast_ediv,Int.toNat_natCast]
 rw[e,Nat.and_one_is_mod,Nat.testBit_eq_decide_div_mod_eq,decide_eq_true_eq]
 omega
theorem B32{u k:Nat}:0≤Int.fdiv (u:Int) (2 ^ ((k:Nat):Int).toNat):=Int.fdiv_nonneg (by omega) (Int.le_of_lt (Int.pow_pos (by omega)))
theorem Xt{k:Nat}(hk:k<6):∃q:Nat,2 ^ k=q∧((1:Int)*2 ^ ((k:Nat):Int).toNat)=(q:Int)∧q<64:=by
 refine⟨_,rfl,by simp,?_⟩
 have:2 ^ k<2 ^ 6:=Nat.pow_lt_pow_right (by omega) hk
 simpa using this
theorem Ake{u k:Nat}(hu:u<64)(hk:k<6):u ||| 2 ^ k<64:=Nat.or_lt_two_pow (n:=6) hu (by obtain⟨q,h1,_,h2⟩:=Xt hk;omega)
section
variable {W:List Int} {s:Int} {L F:List (List Int)} {R:List Int} {A B:Nat→Nat→Int} {N:Nat}
def Aaf(A:Nat→Nat→Int)(R:List Int)(i k:Nat):Int:=595*A i k+R.getD i 0
theorem B1n(hA:∀i k,0≤A i k∧A i k≤50)(hr:∀x∈R,0≤x∧x≤99){i k:Nat}(hi:i<6)(hk:k<6)(hR:i<R.length):Dr N i k (dkT W s L F R A B)=some (Aaf A R i k):=by
 have h1:=hA i k
 have h2:=Ag3 hr i
 unfold Dr Aaf
 rw[B3 (by omega),B3 (by omega)]
 simp only[Int.toNat_natCast]
 rw[B7o hi hk,Af (by omega),idx_eq (by omega) (show(dkT W s L F R A B).2.2.2.2.1[((i:Nat):Int).toNat]?=some (R.getD i 0)from gets (l:=R) hR 0),Af (by omega)]

theorem U5{t:Nat→Nat→Int}(hF:F.length≤6)(hL:L.length≤6)(ht:∀i k,0≤t i k∧t i k≤30000)(htv:∀i k:Nat,i<L.length→k<F.length→Dr N i k (dkT W s L F R A B)=some (t i k)){self:Int→Int→Dk→Dk→Dk→Dk→MK→Option (Int×Int×Int×Dk×Dk×MK)}{i d u:Nat}(hi:i+1+d=L.length)(hu:u<64)
  (hself:∀(u:Nat) g,u<64→MOK (canT A B s) t F.length L.length g→∃g',self ((i:Int)+1) u (dkT W s L F R A B) (dkT W s L F R A B) (dkT W s L F R A B) (dkT W s L F R A B) g=some ((rsR (canT A B s) t F.length d (i+1) u).1,(rsR (canT A B s) t F.length d (i+1) u).2.1,(rsR (canT A B s) t F.length d (i+1) u).2.2,dkT W s L F R A B,dkT W s L F R A B,g')∧MOK (canT A B s) t F.length L.length g'∧subM g g'∧(i+1<L.length→hasM g' (i+1) u))
  {x4:Int} {P:Nat} (hP:7 ^ d=P):∀(ks:List Nat) (g:MK) (b:Int×Int×Int) (Wb:Nat),(∀k∈ks,k<F.length)→MOK (canT A B s) t F.length L.length g→(0≤b.2.1∧b.2.1≤30000*(d+1))→0≤b.2.2→b.2.2≤Wb→Wb+ks.length*P≤10000000 →
   ∃g',restr_l1 N self (ks.map fun(j:Nat)=>((j:Int),())) (dkT W s L F R A B) (dkT W s L F R A B) (dkT W s L F R A B) x4 (dkT W s L F R A B) (dkT W s L F R A B) g i u 0 0 0 b.1 b.2.1 b.2.2 =
    some (dkT W s L F R A B,dkT W s L F R A B,g',(i:Int),(u:Int),0,0,0,(ks.foldl (rsS t (rsR (canT A B s) t F.length d (i+1)) i u) b).1,(ks.foldl (rsS t (rsR (canT A B s) t F.length d (i+1)) i u) b).2.1,(ks.foldl (rsS t (rsR (canT A B s) t F.length d (i+1)) i u) b).2.2) ∧
    MOK (canT A B s) t F.length L.length g'∧subM g g'∧∀k∈ks,u.testBit k=false→i+1<L.length→hasM g' (i+1) (u ||| 2 ^ k)
 | [],g,b,Wb,_,hg,_,_,_,_=>⟨g,rfl,hg,subM.refl g,fun k hk=>by cases hk⟩
 | k::ks,g,b,Wb,hk,hg,hb1,hb2,hb3,hWb=>by
  have hk0:=hk k (by simp)
  have hks:∀x∈ks,x<F.length:=fun x hx=>hk x (by simp[hx])
  rw[List.length_cons,Nat.add_mul,Nat.one_mul]at hWb
  rw[List.map_cons,List.foldl_cons,restr_l1,Ht]
  dsimp only
  rw[Gz (by rw[decide_eq_true_eq];omega),Gz (by rw[decide_eq_true_eq];exact⟨B32,by omega⟩)]
  by_cases hbit:u.testBit k=true
  ·rw[Ax (B2b.2 hbit)]
   obtain⟨g',e1,e2,e3,e4⟩:=U5 hF hL ht htv hi hu hself (x4:=x4) hP ks g b Wb hks hg hb1 hb2 hb3 (by omega)
   have es:rsS t (rsR (canT A B s) t F.length d (i+1)) i u b k=b:=by unfold rsS;rw[if_pos hbit]
   rw[es]
   refine⟨g',e1,e2,e3,fun x hx hxb hi=>?_⟩
   rcases List.mem_cons.1 hx with rfl | hx
   ·rw[hbit]at hxb;cases hxb
   ·exact e4 x hx hxb hi
  ·rw[Ae (fun h=>hbit (B2b.1 h))]
   obtain⟨q,hq,p1,p2⟩:=Xt (k:=k) (by omega)
   rw[Af (by omega),Gz (by rw[decide_eq_true_eq];omega),p1,Af (by omega),Gz (by rw[decide_eq_true_eq];omega)]
   simp only[Int.toNat_natCast]
   subst hq
   have hu':=Ake hu (show k<6 by omega)
   obtain⟨g1,e1,e2,e3,e4⟩:=hself (u ||| 2 ^ k) g hu' hg
   rw[e1]
   simp only[Option.bind_some]
   rw[htv i k (by omega) hk0]
   simp only[Option.bind_some]
   obtain⟨⟨r1,r2⟩,r3,r4⟩:=Alf (can:=canT A B s) (t:=t) hF ht (by omega) d (i+1) (u ||| 2 ^ k)
   have ht0:=ht i k
   have hd:(d:Int)≤5:=by omega
   rw[hP]at r4
   have hbit':u.testBit k=false:=by simpa using hbit
   have fin:∀b',rsS t (rsR (canT A B s) t F.length d (i+1)) i u b k=b'→(0≤b'.2.1∧b'.2.1≤30000*(d+1))→0≤b'.2.2→b'.2.2≤((Wb+P:Nat):Int)→∃g',restr_l1 N self (ks.map fun(j:Nat)=>((j:Int),())) (dkT W s L F R A B) (dkT W s L F R A B) (dkT W s L F R A B) x4 (dkT W s L F R A B) (dkT W s L F R A B) g1 i u 0 0 0 b'.1 b'.2.1 b'.2.2 =
    some (dkT W s L F R A B,dkT W s L F R A B,g',(i:Int),(u:Int),0,0,0,(ks.foldl (rsS t (rsR (canT A B s) t F.length d (i+1)) i u) (rsS t (rsR (canT A B s) t F.length d (i+1)) i u b k)).1,(ks.foldl (rsS t (rsR (canT A B s) t F.length d (i+1)) i u) (rsS t (rsR (canT A B s) t F.length d (i+1)) i u b k)).2.1,(ks.foldl (rsS t (rsR (canT A B s) t F.length d (i+1)) i u) (rsS t (rsR (canT A B s) t F.length d (i+1)) i u b k)).2.2) ∧
    MOK (canT A B s) t F.length L.length g'∧subM g g'∧∀x∈k::ks,u.testBit x=false→i+1<L.length→hasM g' (i+1) (u ||| 2 ^ x):=fun b' hb' q1 q2 q3=>by
    obtain⟨g',f1,f2,f3,f4⟩:=U5 hF hL ht htv hi hu hself (x4:=x4) hP ks g1 b' (Wb+P) hks e2 q1 q2 q3 (by omega)
    rw[hb']
    refine⟨g',f1,f2,e3.trans f3,fun x hx hxb hi=>?_⟩
    rcases List.mem_cons.1 hx with rfl | hx
    ·exact f3 _ _ (e4 hi)
    ·exact f4 x hx hxb hi
   have es:rsS t (rsR (canT A B s) t F.length d (i+1)) i u b k=if b.2.1<(rsR (canT A B s) t F.length d (i+1) (u ||| 2 ^ k)).2.1+t i k then((k:Int),(rsR (canT A B s) t F.length d (i+1) (u ||| 2 ^ k)).2.1+t i k,(rsR (canT A B s) t F.length d (i+1) (u ||| 2 ^ k)).2.2)
     else if(rsR (canT A B s) t F.length d (i+1) (u ||| 2 ^ k)).2.1+t i k=b.2.1 then(b.1,b.2.1,b.2.2+(rsR (canT A B s) t F.length d (i+1) (u ||| 2 ^ k)).2.2)else b:=by
    unfold rsS;rw[if_neg hbit]
   have hmul:30000*((d:Int)+1)=30000*d+30000:=by omega
   rw[Af (by omega)]
   by_cases c1:b.2.1<(rsR (canT A B s) t F.length d (i+1) (u ||| 2 ^ k)).2.1+t i k
   ·rw[if_pos c1]at es
    rw[Ax c1]
    exact fin _ es ⟨by dsimp only;omega,by dsimp only;omega⟩ (by dsimp only;omega) (by dsimp only;omega)
   ·rw[if_neg c1]at es
    rw[Ae c1]
    by_cases c2:(rsR (canT A B s) t F.length d (i+1) (u ||| 2 ^ k)).2.1+t i k=b.2.1
    ·rw[if_pos c2]at es
     rw[Ax c2,Af (by omega)]
     exact fin _ es hb1 (by dsimp only;omega) (by dsimp only;omega)
    ·rw[if_neg c2]at es
     rw[Ae c2]
     exact fin _ es hb1 hb2 (by omega)
theorem Ad3{t:Nat→Nat→Int}(hF:F.length≤6)(hL:L.length≤6)(ht:∀i k,0≤t i k∧t i k≤30000)(htv:∀i k:Nat,i<L.length→k<F.length→Dr N i k (dkT W s L F R A B)=some (t i k)) :
  ∀(fu d i u:Nat) (g:MK),d<fu→i+d=L.length→u<64→MOK (canT A B s) t F.length L.length g →
   ∃g',Jt N fu i u (dkT W s L F R A B) (dkT W s L F R A B) (dkT W s L F R A B) (dkT W s L F R A B) g=some ((rsR (canT A B s) t F.length d i u).1,(rsR (canT A B s) t F.length d i u).2.1,(rsR (canT A B s) t F.length d i u).2.2,dkT W s L F R A B,dkT W s L F R A B,g')∧MOK (canT A B s) t F.length L.length g'∧subM g g'∧(i<L.length→hasM g' i u)
 | 0,d,i,u,g,h,_,_,_=>by omega
 | fu+1,d,i,u,g,h,hid,hu,hg=>by
  show ∃g',Rz N (Jt N fu) i u (dkT W s L F R A B) (dkT W s L F R A B) (dkT W s L F R A B) (dkT W s L F R A B) g=_∧_
  unfold Rz
  have hdl:(dkT W s L F R A B).2.2.1.length=L.length:=rfl
  rw[hdl]
  cases d with
  | zero=>
   rw[Ax (by omega)]
   exact⟨g,rfl,hg,subM.refl g,fun h=>by omega⟩
  | succ d=>
   rw[Ae (by omega),Azo]
   by_cases c:hasM g i u
   ·have e:=hg.get c
    rw[show L.length-i=d+1 by omega]at e
    unfold hasM at c
    rw[c,Ah9]
    unfold lkM at e
    rw[e]
    exact⟨g,rfl,hg,subM.refl g,fun _=>c⟩
   ·rw[Bool.eq_false_iff.2 c,Bq,Af (by omega)]
    have hself:∀(u:Nat) g,u<64→MOK (canT A B s) t F.length L.length g→∃g',Jt N fu ((i:Int)+1) u (dkT W s L F R A B) (dkT W s L F R A B) (dkT W s L F R A B) (dkT W s L F R A B) g=some ((rsR (canT A B s) t F.length d (i+1) u).1,(rsR (canT A B s) t F.length d (i+1) u).2.1,(rsR (canT A B s) t F.length d (i+1) u).2.2,dkT W s L F R A B,dkT W s L F R A B,g')∧MOK (canT A B s) t F.length L.length g'∧subM g g'∧(i+1<L.length→hasM g' (i+1) u):=fun u g hu hg=>by
     have:=Ad3 hF hL ht htv fu d (i+1) u g (by omega) (by omega) hu hg
     rwa [D7]at this
    obtain⟨g1,e1,e2,e3,e4⟩:=hself u g hu hg
    rw[e1]
    simp only[Option.bind_some]
    have em:Anh N (dkT W s L F R A B) (i:Int)=some (dkT W s L F R A B,dkT W s L F R A B,(i:Int)):=rfl
    rw[em]
    simp only[Option.bind_some]
    rw[B5z hF (by omega)]
    simp only[Option.bind_some]
    obtain⟨⟨r1,r2⟩,r3,r4⟩:=Alf (can:=canT A B s) (t:=t) hF ht (by omega) d (i+1) u
    have h7:(7:Nat) ^ d≤7 ^ 5:=Nat.pow_le_pow_right (by omega) (by omega)
    have h7':(mayL (canT A B s) F.length i).length*7 ^ d≤6*7 ^ 5:=Nat.mul_le_mul (by have:=Al3 (canT A B s) F.length i;omega) h7
    obtain⟨g2,f1,f2,f3,f4⟩:=U5 hF hL ht htv (i:=i) (d:=d) (u:=u) (by omega) hu hself (x4:=(i:Int)) rfl (mayL (canT A B s) F.length i) g1 (-1,(rsR (canT A B s) t F.length d (i+1) u).2.1,(rsR (canT A B s) t F.length d (i+1) u).2.2) (7 ^ d)
     (fun k hk=>(Pb.1 hk).1) e2 ⟨r1,by dsimp only;omega⟩ r3 r4 (by omega)
    unfold mayE
    rw[f1]
    simp only[Option.bind_some]
    have er:rsR (canT A B s) t F.length (d+1) i u=(mayL (canT A B s) F.length i).foldl (rsS t (rsR (canT A B s) t F.length d (i+1)) i u) (-1,(rsR (canT A B s) t F.length d (i+1) u).2.1,(rsR (canT A B s) t F.length d (i+1) u).2.2):=rfl
    rw[←er]
    obtain⟨k1,k2,k3⟩:=f2.cons (i:=i) (u:=u) (fun hi=>⟨f3 _ _ (e4 hi),fun k hk hb=>f4 k hk hb hi⟩)
    rw[show L.length-i=d+1 by omega]at k1 k2 k3
    exact⟨_,rfl,k1,e3.trans (f3.trans k2),fun _=>k3⟩
theorem Azv{t:Nat→Nat→Int}(hN:110≤N)(hF:F.length≤6)(hL:L.length≤6)(ht:∀i k,0≤t i k∧t i k≤30000)(htv:∀i k:Nat,i<L.length→k<F.length→Dr N i k (dkT W s L F R A B)=some (t i k)){u:Nat}(hu:u<64) :
  ∃g,M1 N (dkT W s L F R A B) (dkT W s L F R A B) u=some g∧(0<L.length→MOK (canT A B s) t F.length L.length g∧hasM g 0 u)∧lkM g 0 u=some (rsR (canT A B s) t F.length L.length 0 u):=by
 obtain⟨g,e1,e2,e3,e4⟩:=Ad3 hF hL ht htv N L.length 0 u [] (by omega) (by omega) hu MOK.nil
 unfold M1 Rm
 rw[show((0:Nat):Int)=0 from rfl]at e1
 rw[e1]
 simp only[Option.bind_some]
 refine⟨_,rfl,fun h0=>?_,by rw[Oy,if_pos ⟨rfl,rfl⟩]⟩
 have hg:hasM g 0 u:=e4 h0
 obtain⟨k1,k2,k3⟩:=e2.cons (i:=0) (u:=u) (fun hi=>e2.clo 0 u hg hi)
 rw[Nat.sub_zero]at k1 k3
 exact⟨k1,k3⟩
theorem A1a{t:Nat→Nat→Int}(hF:F.length≤6)(hL:L.length≤6){g:MK}(hg:MOK (canT A B s) t F.length L.length g):∀(n d i u:Nat) (out:List Int),d<n→i+d=L.length→u<64→out.length≤i→(i<L.length→hasM g i u) →
  dbestr_l1 N n u L.length i g out=some (out++blR (canT A B s) t F.length d i u)
 | 0,d,i,u,out,h,_,_,_,_=>by omega
 | n+1,d,i,u,out,h,hid,hu,ho,hh=>by
  unfold dbestr_l1
  cases d with
  | zero=>
   rw[Ae (by omega)]
   simp[blR]
  | succ d=>
   have e:=hg.get (hh (by omega))
   rw[show L.length-i=d+1 by omega]at e
   have e':((g.find? fun(y:(Int×Int)×(Int×(Int×Int)))=>Ty.beq (.pair (.int .i64) (.int .i64)) y.1 ((i:Int),(u:Int))).map (·.2)).getD (Ty.dflt (.pair (.int .i64) (.pair (.int .i64) (.int .i64))))=rsR (canT A B s) t F.length (d+1) i u:=by
    unfold lkM at e
    rw[e];rfl
   rw[Ax (by omega),e',No (by simp;omega)]
   have hj:∀(u':Nat) x,u'<64→(i+1<L.length→hasM g (i+1) u')→Ho N (dbestr_l1 N n) u' L.length i g (out++[x])=some (out++[x]++blR (canT A B s) t F.length d (i+1) u'):=fun u' x hu' hh'=>by
    have:=A1a hF hL hg n d (i+1) u' (out++[x]) (by omega) (by omega) hu' (by simp;omega) hh'
    rw[D7]at this
    unfold Ho
    rw[Af (by omega),this]
   rw[blR]
   rcases Ay8 (can:=canT A B s) (t:=t) (m:=F.length) (d:=d) (i:=i) (u:=u)with⟨h1,_⟩ | ⟨k,h1,h2,h3,_⟩
   ·rw[h1,Gg (by first | trivial | rfl),if_pos rfl,hj u _ hu (fun hi=>(hg.clo i u (hh (by omega)) hi).1)]
    simp
   ·obtain⟨k1,k2⟩:=Pb.1 h2
    obtain⟨q,hq,p1,p2⟩:=Xt (k:=k) (by omega)
    rw[h1,Ue (show ¬((k:Int)=-1)by omega)]
    rw[Gz (by rw[decide_eq_true_eq];exact(show(0:Int)≤(k:Int)∧(k:Int)≤62 by omega)),p1,Af (by omega),Gz (by rw[decide_eq_true_eq];omega),if_neg (show ¬((k:Int)=-1)by omega)]
    simp only[Int.toNat_natCast]
    subst hq
    rw[hj _ _ (Ake hu (by omega)) (fun hi=>(hg.clo i u (hh (by omega)) hi).2 k h2 h3)]
    simp
theorem B2c{t:Nat→Nat→Int}(hN:110≤N)(hF:F.length≤6)(hL:L.length≤6)(ht:∀i k,0≤t i k∧t i k≤30000)(htv:∀i k:Nat,i<L.length→k<F.length→Dr N i k (dkT W s L F R A B)=some (t i k)) :
  Ks N (dkT W s L F R A B) (dkT W s L F R A B)=some (blR (canT A B s) t F.length L.length 0 0):=by
 obtain⟨g,e1,e2,e3⟩:=Azv hN hF hL ht htv (u:=0) (by omega)
 unfold Ks
 rw[show((0:Nat):Int)=0 from rfl]at e1
 rw[e1]
 simp only[Option.bind_some]
 have hdl:(dkT W s L F R A B).2.2.1.length=L.length:=rfl
 rw[hdl]
 by_cases h0:0<L.length
 ·obtain⟨hg,hh⟩:=e2 h0
  have:=A1a (N:=N) hF hL hg N L.length 0 0 [] (by omega) (by omega) (by omega) (by simp) (fun _=>hh)
  rw[show((0:Nat):Int)=0 from rfl,List.nil_append]at this
  rw[this];rfl
 ·have hz:L.length=0:=by omega
  obtain⟨M,rfl⟩:∃M,N=M+1:=⟨N-1,by omega⟩
  rw[dbestr_l1,hz,Ae (by omega)]
  simp[blR]

end
end Go.Proofs.Ytgeijboidfadaaa.Fd
namespace Go.Proofs.Ytgeijboidfadaaa.Fd
set_option linter.all false
open Go

theorem Na{l:List Int}{i:Nat}(h:i<l.length):l.getD i 0=fnJ l i:=by simp[fnJ,List.getD,h]
theorem Au3{n m:Nat}{can:Nat→Nat→Bool}{l:List Int}:errJ 0 n m can l=0↔l∈joinsL can m n 0 0:=by
 rw[Ca,Ao8]
 constructor
 ·intro h
  obtain⟨_,h1,h2,h3,h4⟩:=Yu h
  rw[A2k]at h3 h4
  refine⟨h1,⟨fun i hi=>?_,fun i j hi hj hij he=>?_⟩,fun k hk=>by simp at hk⟩
  ·have hx:=List.all_eq_true.1 h2 _ (Av (d:=0) hi)
   unfold inm at hx
   rw[decide_eq_true_eq,Na hi]at hx
   have hc:=h4 i hi
   unfold cnI at hc
   rw[Bool.or_eq_true,decide_eq_true_eq,Na hi]at hc
   rcases hc with hc | hc
   ·exact .inl hc
   ·by_cases e:fnJ l i=-1
    ·exact .inl e
    ·exact .inr ⟨(fnJ l i).toNat,by omega,by omega,hc⟩
  ·have key:∀i j,i<j→j<l.length→fnJ l i=fnJ l j→fnJ l j=-1:=fun i j hij hj he=>by
    have hd:=h3 j hj
    unfold dupI at hd
    rw[Bool.or_eq_true,decide_eq_true_eq,Na hj,Bool.not_eq_true',←Bool.not_eq_true,A8m]at hd
    rcases hd with hd | hd
    ·exact hd
    ·refine absurd ?_ hd
     rw[←he,←Na (show i<l.length by omega)]
     exact List.mem_iff_getElem.2 ⟨i,by simp;omega,by simp[List.getD,show i<l.length by omega]⟩
   rcases Nat.lt_or_gt_of_ne hij with h | h
   ·rw[he];exact key i j h hj he
   ·exact key j i h hi he.symm
 ·rintro ⟨hl,h1,_⟩
  have hb:l.all (inm m)=true:=by
   rw[List.all_eq_true]
   intro x hx
   obtain⟨i,hi,rfl⟩:=List.getElem_of_mem hx
   have e:l[i]=fnJ l i:=by simp[fnJ,List.getD,hi]
   unfold inm
   rw[decide_eq_true_eq,e]
   rcases h1.ok i hi with h | ⟨k,h,hk,_⟩<;>omega
  have hd:alI (dupI l) l.length=true:=by
   rw[A2k]
   intro j hj
   unfold dupI
   rw[Bool.or_eq_true,decide_eq_true_eq,Na hj,Bool.not_eq_true',←Bool.not_eq_true,A8m]
   by_cases e:fnJ l j=-1
   ·exact .inl e
   ·refine .inr fun hm=>?_
    obtain⟨i,hi,he⟩:=List.getElem_of_mem hm
    simp only[List.length_take]at hi
    have hij:i<j:=by omega
    refine e (h1.inj j i hj (by omega) (by omega) ?_)
    rw[←he,←Na (show i<l.length by omega)]
    simp[List.getD,show i<l.length by omega]
  have hc:alI (cnI can l) l.length=true:=by
   rw[A2k]
   intro i hi
   unfold cnI
   rw[Bool.or_eq_true,decide_eq_true_eq,Na hi]
   rcases h1.ok i hi with h | ⟨k,h,_,hc⟩
   ·exact .inl h
   ·right;rw[h,Int.toNat_natCast];exact hc
  unfold errJ
  rw[if_neg (by simp),if_neg (by omega),hb,hd,hc]
  simp
section
variable {W:List Int} {s:Int} {L F:List (List Int)} {R:List Int} {A B:Nat→Nat→Int} {N:Nat}
theorem Al6{l:List Int}(h:l∈joinsL (canF W s L F) F.length L.length 0 0):l.length=L.length∧l.all (inm F.length)=true:=by
 obtain⟨_,h1,h2,_⟩:=Yu (Au3.2 h)
 exact⟨h1,h2⟩
theorem Ayf{t:Nat→Nat→Int}:blR (canF W s L F) t F.length L.length 0 0∈joinsL (canF W s L F) F.length L.length 0 0:=by
 obtain⟨q1,q2,_⟩:=A27 (can:=canF W s L F) (t:=t) (m:=F.length) L.length 0 0
 exact Ca.2 ⟨q2,q1⟩
end
end Go.Proofs.Ytgeijboidfadaaa.Fd
namespace Go.Proofs.Ytgeijboidfadaaa.Fd
set_option linter.all false
open Go

section
variable {W:List Int} {s:Int} {L F:List (List Int)} {R:List Int} {A B:Nat→Nat→Int} {N:Nat}
abbrev Aup(W:List Int)(s:Int)(L F:List (List Int))(R:List Int):List Int:=blR (canF W s L F) (Aaf (agF W L F) R) F.length L.length 0 0
abbrev rewT(R:List Int):Nat→Nat→Int:=fun i _=>R.getD i 0
theorem Awi(hN:110≤N)(h:Sm W L F R):richest_S N W s L F R=some (if errD W s L F R=0 then(Aup W s L F R,valJ (rewT R) 0 (Aup W s L F R),0)else([],0,errD W s L F R)):=by
 unfold richest_S
 rw[Ayt hN h]
 by_cases c:errD W s L F R=0
 rotate_left
 ·rw[if_neg c,if_neg c]
  simp only[Option.bind_some]
  rw[Ue c]
 have hF:=A3k.1 c
 rw[if_pos c,if_pos c]
 simp only[Option.bind_some]
 rw[Gg (by first | trivial | rfl)]
 unfold dkO
 rw[show A5c N (dkT W s L F R (agF W L F) (slF W L F))=some (dkT W s L F R (agF W L F) (slF W L F))from rfl]
 simp only[Option.bind_some]
 have hl6:=hF.l6;have hf6:=hF.f6;have hrl:=hF.rl
 rw[B2c hN hf6 hl6 (t:=Aaf (agF W L F) R) (fun i k=>by have:=Aaq hF i k;have:=Ag3 hF.r i;unfold Aaf;omega) (fun i k hi hk=>B1n (Aaq hF) hF.r (by omega) (by omega) (by omega))]
 simp only[Option.bind_some]
 obtain⟨j1,j2⟩:=Al6 (W:=W) (s:=s) (L:=L) (F:=F) (Ayf (t:=Aaf (agF W L F) R))
 rw[Axo hN hF.r (Nat.le_trans (Nat.le_of_eq j1) hl6) (Nat.le_of_eq (j1.trans hrl.symm))];rfl
theorem B29(f:Nat→Int)(k:Nat):(List.range (k+1)).map f=(List.range k).map f++[f k]:=by rw[List.range_succ,List.map_append];rfl
theorem A4a(f:Nat→Int):∀n:Nat,((List.range n).map f).sum=sumN f n
 | 0=>rfl
 | n+1=>by rw[B29,List.sum_append,A4a f n,sumN];simp
end
end Go.Proofs.Ytgeijboidfadaaa.Fd
namespace Go.Proofs.Ytgeijboidfadaaa.Fd
set_option linter.all false
open Go
theorem wrap32(x:Int):0≤IntKind.u32.wrap x∧IntKind.u32.wrap x<4294967296:=by
 have:=P5 .u32 x
 have h1:IntKind.u32.min=0:=by decide
 have h2:IntKind.u32.max=4294967295:=by decide
 unfold inR at this
 rw[h1,h2]at this
 omega
def Bell(b:List Int)(b2:Int):Prop:=b.length≤9223372036854775807∧0≤b2∧b2≤b.length
abbrev Ajz(b:List Int)(r:List Int×Int×Int):Prop:=r.1=b∧Bell b r.2.1
theorem Ad4(n:Nat):0≤IntKind.i64.wrap ((n &&& 65535:Nat):Int)∧IntKind.i64.wrap ((n &&& 65535:Nat):Int)≤65535:=by
 have:n &&& 65535≤65535:=Nat.and_le_right
 rw[wrap64 (by omega)]
 omega
theorem fdiv_nonneg{x:Int}(h:0≤x):0≤Int.fdiv x (2 ^ 7):=by
 rw[Int.fdiv_eq_ediv_of_nonneg _ (by decide)]
 exact Int.ediv_nonneg h (by decide)
theorem A5y(N:Nat){b:List Int}{b2 b3:Int}(hb:b.length≤9223372036854775807)(h0:0≤b2)(h1:b2<b.length∨b.length=0∧b2=0):Ok (Rh N b b2 b3) fun r=>(0≤r.1∧r.1≤65535)∧Ajz b r.2:=by
 unfold Rh
 refine Ok.brd (fun h=>?_) (fun h=>?_)
 ·refine Ok.idx h0 (by omega) (fun a _ _=>Ok.chk (by omega) (Ok.grd ?_ (Ok.grd ?_ (Ok.some ?_))))
  ·simp only[decide_eq_true_eq];exact⟨(wrap32 _).1,fdiv_nonneg (wrap32 _).1⟩
  ·simp only[decide_eq_true_eq];exact⟨Int.natCast_nonneg _,by decide⟩
  ·exact⟨Ad4 _,rfl,hb,by dsimp only;omega,by dsimp only;omega⟩
 ·refine Ok.grd ?_ (Ok.grd ?_ (Ok.some ?_))
  ·simp only[decide_eq_true_eq];exact⟨(wrap32 _).1,fdiv_nonneg (wrap32 _).1⟩
  ·simp only[decide_eq_true_eq];exact⟨Int.natCast_nonneg _,by decide⟩
  ·exact⟨Ad4 _,rfl,hb,by dsimp only;omega,by dsimp only;omega⟩
theorem B3q(N:Nat){b:List Int}{b2 b3:Int}(hb:Bell b b2):Ok (Yy N b b2 b3) fun r=>(0≤r.1∧r.1≤65535)∧Ajz b r.2:=by
 obtain⟨h1,h2,h3⟩:=hb
 unfold Yy
 refine Ok.brd (fun h=>A5y N h1 (by omega) (by omega)) (fun h=>A5y N h1 h2 (by omega))
theorem Fi(N:Nat){n:Int}{b:List Int}{b2 b3:Int}(hb:Bell b b2)(hn:-1000000≤n∧n≤1000000):Ok (B8 N n b b2 b3) fun r=>(0≤r.1∧r.1≤max 0 n)∧Ajz b r.2:=by
 unfold B8
 refine Ok.bind (B3q N hb) (fun r hr=>?_)
 obtain⟨x,c,c2,c3⟩:=r
 refine Ok.chk (by omega) (Ok.grd (by simp only[Bool.not_eq_true',decide_eq_false_iff_not];omega) (Ok.some ⟨?_,hr.2⟩))
 obtain⟨⟨h1,h2⟩,_⟩:=hr
 dsimp only at *
 have hm:0<max 1 (n+1):=by omega
 have:=Int.tmod_lt_of_pos x hm
 have:=Int.tmod_nonneg (max 1 (n+1)) h1
 omega
theorem Yx(N:Nat){lo hi:Int}{b:List Int}{b2 b3:Int}(hb:Bell b b2)(hn:(-1000≤lo∧lo≤1000)∧-1000≤hi∧hi≤1000):Ok (D6 N lo hi b b2 b3) fun r=>(lo≤r.1∧r.1≤max lo hi)∧Ajz b r.2:=by
 unfold D6
 refine Ok.chk (by omega) (Ok.bind (Fi N hb (by omega)) (fun r hr=>?_))
 obtain⟨x,c,c2,c3⟩:=r
 obtain⟨h,h2⟩:=hr
 dsimp only at *
 refine Ok.chk (by omega) (Ok.some ⟨by dsimp only;omega,h2⟩)
theorem Awc(N:Nat){n:Int}{b:List Int}{b2 b3:Int}(hb:Bell b b2)(hn:-1000≤n∧n≤1000):Ok (Jb N n b b2 b3) fun r=>Ajz b r.2:=by
 unfold Jb
 refine Ok.chk (by omega) (Ok.bind (Fi N hb (by omega)) (fun r hr=>?_))
 obtain⟨x,c,c2,c3⟩:=r
 exact Ok.some hr.2

def BelR(b b':List Int)(b2:Int):Prop:=b'=b∧Bell b b2
section
variable {N:Nat} {b:List Int}
theorem Ajy{often b2 b3:Int}(ho:-1000≤often∧often≤1000)(hb:Bell b b2):Ok (made1_S N often b b2 b3) fun r=>(-1≤r.1∧r.1≤2)∧BelR b r.2.1 r.2.2.1:=by
 unfold made1_S
 refine Ok.bind (Awc N hb ho) ?_
 rintro ⟨x,c1,c2,c3⟩ ⟨hc,hb1⟩
 dsimp only at hc hb1 ⊢
 obtain rfl:=hc.symm
 refine Ok.br (fun _=>Ok.some ⟨by dsimp only;omega,rfl,hb1⟩) (fun _=>?_)
 refine Ok.bind (Fi N hb1 (by omega)) ?_
 rintro ⟨y,d1,d2,d3⟩ ⟨hy,hc,hb2⟩
 dsimp only at hy hc hb2 ⊢
 obtain rfl:=hc.symm
 exact Ok.some ⟨by dsimp only;omega,rfl,hb2⟩
theorem Acl{things u g d:Int}(hu:0≤u∧u≤100):∀(n k:Nat) (b2 b3:Int) (W:List Int),u<n+k→(k:Int)≤u→Bell b b2→W.length=k→(∀x∈W,1≤x∧x≤9) →
  Ok (made_l1 N n things u k b b2 b3 g d W) fun z=>z.1=things∧BelR b z.2.1 z.2.2.1∧z.2.2.2.2.1=g∧z.2.2.2.2.2.1=d∧(z.2.2.2.2.2.2.length:Int)=u∧∀x∈z.2.2.2.2.2.2,1≤x∧x≤9
 | 0,k,b2,b3,W,h,_,_,_,_=>by omega
 | n+1,k,b2,b3,W,h,hk,hb,hW,hw=>by
  unfold made_l1
  refine Ok.brd (fun c=>?_) (fun c=>Ok.some ⟨rfl,⟨rfl,hb⟩,rfl,rfl,by dsimp only;omega,hw⟩)
  refine Ok.bind (Yx N hb (by omega)) ?_
  rintro ⟨x,c1,c2,c3⟩ ⟨hx,hc,hb1⟩
  dsimp only at hx hc hb1 ⊢
  obtain rfl:=hc.symm
  refine Ok.lim (by simp;omega) (Ok.chk (by omega) ?_)
  have:=Acl (things:=things) (g:=g) (d:=d) hu n (k+1) c2 c3 (W++[x]) (by omega) (by omega) hb1 (by simp[hW]) (fun w hm=>by
   rcases List.mem_append.1 hm with hm | hm
   ·exact hw w hm
   ·simp at hm;subst hm;omega)
  rw[D7]at this
  exact this
theorem Aar{many often u u2 u3 g d:Int}{d2:List Int}{d3:List (List Int)}{d4:List Int}(ho:2≤often∧often≤5)(hu:0≤u3∧u3≤100):∀(n k:Nat) (b2 b3:Int) (l:List Int),u3<n+k→(k:Int)≤u3→Bell b b2→l.length=k→(∀x∈l,-1≤x∧x≤2) →
  Ok (made_l3 N n many often u u2 u3 k b b2 b3 g d l d2 d3 d4) fun z=>∃b2' b3' l',z=(many,often,u,u2,b,b2',b3',g,d,l',d2,d3,d4)∧Bell b b2'∧(l'.length:Int)=u3∧∀x∈l',-1≤x∧x≤2
 | 0,k,b2,b3,l,h,_,_,_,_=>by omega
 | n+1,k,b2,b3,l,h,hk,hb,hW,hw=>by
  unfold made_l3
  refine Ok.brd (fun c=>?_) (fun c=>Ok.some ⟨b2,b3,l,rfl,hb,by omega,hw⟩)
  refine Ok.bind (Ajy (by omega) hb) ?_
  rintro ⟨x,c1,c2,c3⟩ ⟨hx,hc,hb1⟩
  dsimp only at hx hc hb1 ⊢
  obtain rfl:=hc.symm
  refine Ok.lim (by simp;omega) (Ok.chk (by omega) ?_)
  have:=Aar (many:=many) (often:=often) (u:=u) (u2:=u2) (g:=g) (d:=d) (d2:=d2) (d3:=d3) (d4:=d4) ho hu n (k+1) c2 c3 (l++[x]) (by omega) (by omega) hb1 (by simp[hW]) (fun w hm=>by
   rcases List.mem_append.1 hm with hm | hm
   ·exact hw w hm
   ·simp at hm;subst hm;omega)
  rw[D7]at this
  exact this
theorem Aag{often u u2 u3 g d:Int}{d2:List Int}{d3 d4:List (List Int)}{d5:List Int}(ho:2≤often∧often≤5)(hu:0≤u3∧u3≤100):∀(n k:Nat) (b2 b3:Int) (l:List Int),u3<n+k→(k:Int)≤u3→Bell b b2→l.length=k→(∀x∈l,-1≤x∧x≤2) →
  Ok (made_l5 N n often u u2 u3 k b b2 b3 g d l d2 d3 d4 d5) fun z=>∃b2' b3' l',z=(often,u,u2,b,b2',b3',g,d,l',d2,d3,d4,d5)∧Bell b b2'∧(l'.length:Int)=u3∧∀x∈l',-1≤x∧x≤2
 | 0,k,b2,b3,l,h,_,_,_,_=>by omega
 | n+1,k,b2,b3,l,h,hk,hb,hW,hw=>by
  unfold made_l5
  refine Ok.brd (fun c=>?_) (fun c=>Ok.some ⟨b2,b3,l,rfl,hb,by omega,hw⟩)
  refine Ok.bind (Ajy (by omega) hb) ?_
  rintro ⟨x,c1,c2,c3⟩ ⟨hx,hc,hb1⟩
  dsimp only at hx hc hb1 ⊢
  obtain rfl:=hc.symm
  refine Ok.lim (by simp;omega) (Ok.chk (by omega) ?_)
  have:=Aag (often:=often) (u:=u) (u2:=u2) (g:=g) (d:=d) (d2:=d2) (d3:=d3) (d4:=d4) (d5:=d5) ho hu n (k+1) c2 c3 (l++[x]) (by omega) (by omega) hb1 (by simp[hW]) (fun w hm=>by
   rcases List.mem_append.1 hm with hm | hm
   ·exact hw w hm
   ·simp at hm;subst hm;omega)
  rw[D7]at this
  exact this
def Ash(m:Nat)(r:List Int):Prop:=r.length=m∧∀x∈r,-1≤x∧x≤2
theorem Ad2(hN:110≤N){many often u g d:Int}{W:List Int}(hW:W.length≤5)(ho:2≤often∧often≤5)(hu:0≤u∧u≤6):∀(n k:Nat) (b2 b3:Int) (L:List (List Int)) (R:List Int),u<n+k→(k:Int)≤u→Bell b b2→L.length=k→R.length=k→(∀r∈L,Ash W.length r)→(∀x∈R,0≤x∧x≤99) →
  Ok (made_l2 N n many often u k b b2 b3 g d W L R) fun z=>∃b2' b3' L' R',z=(many,often,b,b2',b3',g,d,W,L',R')∧Bell b b2'∧((L'.length:Int)=u∧R'.length=L'.length)∧(∀r∈L',Ash W.length r)∧∀x∈R',0≤x∧x≤99
 | 0,k,b2,b3,L,R,h,_,_,_,_,_,_=>by omega
 | n+1,k,b2,b3,L,R,h,hk,hb,hL,hR,hl,hr=>by
  unfold made_l2
  refine Ok.brd (fun c=>?_) (fun c=>Ok.some ⟨b2,b3,L,R,rfl,hb,⟨by omega,by omega⟩,hl,hr⟩)
  have e:=Aar (N:=N) (many:=many) (often:=often) (u:=u) (u2:=(k:Int)) (u3:=W.length) (g:=g) (d:=d) (d2:=W) (d3:=L) (d4:=R) ho (by omega) N 0 b2 b3 [] (by omega) (by omega) hb rfl (fun x h=>by cases h)
  rw[show((0:Nat):Int)=0 from rfl]at e
  refine Ok.bind e ?_
  rintro _ ⟨b2',b3',l',rfl,hb1,hl1,hl2⟩
  dsimp only
  refine Ok.lim (by simp;omega) (Ok.bind (Fi N hb1 (by omega)) ?_)
  rintro ⟨y,d1,d2,d3⟩ ⟨hy,hc,hb2⟩
  dsimp only at hy hc hb2 ⊢
  obtain rfl:=hc.symm
  refine Ok.lim (by simp;omega) (Ok.chk (by omega) ?_)
  have:=Ad2 hN (many:=many) (g:=g) (d:=d) hW ho hu n (k+1) d2 d3 (L++[l']) (R++[y]) (by omega) (by omega) hb2 (by simp[hL]) (by simp[hR]) (fun r hm=>by
   rcases List.mem_append.1 hm with hm | hm
   ·exact hl r hm
   ·simp at hm;subst hm;exact⟨by omega,hl2⟩) (fun x hm=>by
   rcases List.mem_append.1 hm with hm | hm
   ·exact hr x hm
   ·simp at hm;subst hm;omega)
  rw[D7]at this
  exact this
theorem Aay(hN:110≤N){often u g d:Int}{W R:List Int}{L:List (List Int)}(hW:W.length≤5)(ho:2≤often∧often≤5)(hu:0≤u∧u≤6):∀(n k:Nat) (b2 b3:Int) (F:List (List Int)),u<n+k→(k:Int)≤u→Bell b b2→F.length=k→(∀r∈F,Ash W.length r) →
  Ok (made_l4 N n often u k b b2 b3 g d W L F R) fun z=>∃b2' b3' F',z=(b,b2',b3',g,d,W,L,F',R)∧Bell b b2'∧(F'.length:Int)=u∧∀r∈F',Ash W.length r
 | 0,k,b2,b3,F,h,_,_,_,_=>by omega
 | n+1,k,b2,b3,F,h,hk,hb,hL,hl=>by
  unfold made_l4
  refine Ok.brd (fun c=>?_) (fun c=>Ok.some ⟨b2,b3,F,rfl,hb,by omega,hl⟩)
  have e:=Aag (N:=N) (often:=often) (u:=u) (u2:=(k:Int)) (u3:=W.length) (g:=g) (d:=d) (d2:=W) (d3:=L) (d4:=F) (d5:=R) ho (by omega) N 0 b2 b3 [] (by omega) (by omega) hb rfl (fun x h=>by cases h)
  rw[show((0:Nat):Int)=0 from rfl]at e
  refine Ok.bind e ?_
  rintro _ ⟨b2',b3',l',rfl,hb1,hl1,hl2⟩
  dsimp only
  refine Ok.lim (by simp;omega) (Ok.chk (by omega) ?_)
  have:=Aay hN (g:=g) (d:=d) (L:=L) (R:=R) hW ho hu n (k+1) b2' b3' (F++[l']) (by omega) (by omega) hb1 (by simp[hL]) (fun r hm=>by
   rcases List.mem_append.1 hm with hm | hm
   ·exact hl r hm
   ·simp at hm;subst hm;exact⟨by omega,hl2⟩)
  rw[D7]at this
  exact this
theorem B61(hN:110≤N){things b2 b3:Int}(ht:0≤things∧things≤6)(hb:Bell b b2) :
  Ok (Km N things b b2 b3) fun z=>Fine z.1 z.2.1 z.2.2.1 z.2.2.2.1 z.2.2.2.2.1∧((z.2.2.1.length:Int)≤things∧(z.2.2.2.1.length:Int)≤things)∧((∀r∈z.2.2.1,∀x∈r,x≤2)∧∀r∈z.2.2.2.1,∀x∈r,x≤2)∧z.2.1≤2∧BelR b z.2.2.2.2.2.1 z.2.2.2.2.2.2.1:=by
 unfold Km
 refine Ok.bind (Fi N hb (by omega)) ?_
 rintro ⟨x,c1,c2,c3⟩ ⟨hx,hc,hb1⟩
 dsimp only at hx hc hb1 ⊢
 obtain rfl:=hc.symm
 refine Ok.bind (Yx N hb1 (by omega)) ?_
 rintro ⟨m,d1,d2,d3⟩ ⟨hm,hc,hb2⟩
 dsimp only at hm hc hb2 ⊢
 obtain rfl:=hc.symm
 have e1:=Acl (N:=N) (things:=things) (g:=0) (d:=x) (u:=m) (by omega) N 0 d2 d3 [] (by omega) (by omega) hb2 rfl (fun w h=>by cases h)
 rw[show((0:Nat):Int)=0 from rfl]at e1
 refine Ok.bind e1 ?_
 rintro ⟨t',f1,f2,f3,g',x',W⟩ ⟨q1,⟨q2,hb3⟩,q3,q4,hl,hW⟩
 dsimp only at q1 q2 q3 q4 hb3 hl hW ⊢
 obtain rfl:=q1.symm
 obtain rfl:=q2.symm
 obtain rfl:=q3.symm
 obtain rfl:=q4.symm
 refine Ok.bind (Fi N hb3 (by omega)) ?_
 rintro ⟨many,h1,h2,h3⟩ ⟨hmany,hc,hb4⟩
 dsimp only at hmany hc hb4 ⊢
 obtain rfl:=hc.symm
 refine Ok.bind (Yx N hb4 (by omega)) ?_
 rintro ⟨often,i1,i2,i3⟩ ⟨hoften,hc,hb5⟩
 dsimp only at hoften hc hb5 ⊢
 obtain rfl:=hc.symm
 refine Ok.bind (Fi N hb5 (by omega)) ?_
 rintro ⟨u,j1,j2,j3⟩ ⟨hu,hc,hb6⟩
 dsimp only at hu hc hb6 ⊢
 obtain rfl:=hc.symm
 have e2:=Ad2 hN (many:=many) (often:=often) (u:=u) (g:=0) (d:=x) (W:=W) (by omega) (by omega) (by omega) N 0 j2 j3 [] [] (by omega) (by omega) hb6 rfl rfl (fun x h=>by cases h) (fun x h=>by cases h)
 rw[show((0:Nat):Int)=0 from rfl]at e2
 refine Ok.bind e2 ?_
 rintro _ ⟨k2,k3,L,R,rfl,hb7,⟨hL,hR⟩,hl2,hr2⟩
 dsimp only
 have e3:=Aay hN (often:=often) (u:=many) (g:=0) (d:=x) (W:=W) (L:=L) (R:=R) (by omega) (by omega) (by omega) N 0 k2 k3 [] (by omega) (by omega) hb7 rfl (fun x h=>by cases h)
 rw[show((0:Nat):Int)=0 from rfl]at e3
 refine Ok.bind e3 ?_
 rintro _ ⟨l2,l3,F,rfl,hb8,hF,hf2⟩
 dsimp only
 exact Ok.some ⟨⟨by dsimp only;omega,by dsimp only;omega,by dsimp only;omega,by dsimp only;omega,fun r hr=>(hl2 r hr).1,fun r hr=>(hf2 r hr).1,hR,hW,by dsimp only;omega,hr2,fun r hr x hx=>by have:=(hl2 r hr).2 x hx;omega,fun r hr x hx=>by have:=(hf2 r hr).2 x hx;omega⟩,⟨by dsimp only;omega,by dsimp only;omega⟩,⟨fun r hr x hx=>((hl2 r hr).2 x hx).2,fun r hr x hx=>((hf2 r hr).2 x hx).2⟩,by dsimp only;omega,rfl,hb8⟩
end
end Go.Proofs.Ytgeijboidfadaaa.Fd
namespace Go.Proofs.Ytgeijboidfadaaa.Fd
set_option linter.all false
open Go

structure B56 (u:Nat) (p:List Int) (τ:Nat→Nat):Prop where
 len:p.length=u
 bd:∀i,i<u→∃q:Nat,p.getD i 0=q∧q<u∧τ q=i
 inv:∀x,x<u→τ x<u∧p.getD (τ x) 0=x
structure TwoW (n:Nat) (a b:Nat→Nat):Prop where
 la:∀x,x<n→a x<n∧b (a x)=x
 lb:∀x,x<n→b x<n∧a (b x)=x
theorem TwoW.symm{n:Nat}{a b:Nat→Nat}(h:TwoW n a b):TwoW n b a:=⟨h.lb,h.la⟩
theorem Ayl{l l':List Int}(h:l.Perm l'):l.sum=l'.sum:=by
 induction h with
 | nil=>rfl
 | cons x _ ih=>simp[ih]
 | swap x y l=>simp only[List.sum_cons];omega
 | trans _ _ h1 h2=>exact h1.trans h2
theorem TwoW.perm{n:Nat}{a b:Nat→Nat}(h:TwoW n a b):((List.range n).map a).Perm (List.range n):=by
 refine(List.perm_ext_iff_of_nodup ?_ List.nodup_range).2 fun x=>?_
 ·unfold List.Nodup
  rw[List.pairwise_map]
  refine List.Pairwise.imp_of_mem ?_ List.nodup_range
  intro x y hx hy hxy e
  rw[List.mem_range]at hx hy
  exact hxy (by rw[←(h.la x hx).2,e,(h.la y hy).2])
 ·rw[List.mem_map]
  constructor
  ·rintro ⟨y,hy,rfl⟩
   exact List.mem_range.2 (h.la y (List.mem_range.1 hy)).1
  ·intro hx
   have hx':=List.mem_range.1 hx
   exact⟨b x,List.mem_range.2 (h.lb x hx').1,(h.lb x hx').2⟩
theorem TwoW.sum{n:Nat}{a b:Nat→Nat}(h:TwoW n a b)(f:Nat→Int):sumN (fun x=>f (a x)) n=sumN f n:=by
 rw[←A4a,←A4a]
 have:=Ayl (h.perm.map f)
 rw[List.map_map]at this
 exact this
def mvI(b2:Nat→Nat)(v:Int):Int:=if v=-1 then -1 else(b2 v.toNat:Nat)
def rnJ(n:Nat)(a1 b2:Nat→Nat)(l:List Int):List Int:=(List.range n).map fun x=>mvI b2 (fnJ l (a1 x))
section
variable {n m:Nat} {a1 b1 a2 b2:Nat→Nat} {can can':Nat→Nat→Bool} {t t':Nat→Nat→Int}
theorem B6i(h1:TwoW n a1 b1)(h2:TwoW m a2 b2)(ht:∀i k,i<n→k<m→t' i k=t (a1 i) (a2 k)){l:List Int}(hl:l∈joinsL can m n 0 0):valJ t' 0 (rnJ n a1 b2 l)=valJ t 0 l:=by
 obtain⟨l1,l2,_⟩:=Awa.1 hl
 rw[Ad5 (n:=n) (by simp[rnJ]),Ad5 l1]
 unfold wt
 rw[←h1.sum (fun i=>pv t i (fnJ l i))]
 refine Nk fun i hi=>?_
 rw[show fnJ (rnJ n a1 b2 l) i=mvI b2 (fnJ l (a1 i))from B6w hi]
 rcases l2.ok (a1 i) (h1.la i hi).1 with h | ⟨k,x,y,_⟩
 ·rw[h];simp[mvI,pv]
 ·unfold mvI
  rw[if_neg (by omega),x,Int.toNat_natCast,A22,A22,ht i _ hi (h2.lb k y).1,(h2.lb k y).2]
end
end Go.Proofs.Ytgeijboidfadaaa.Fd
namespace Go.Proofs.Ytgeijboidfadaaa.Fd
set_option linter.all false
open Go
structure OrdD (L F:List (List Int)) (R:List Int) (Lo Fo:List (List Int)) (Ro:List Int) (a1 b1 a2 b2:Nat→Nat):Prop where
 ll:Lo.length=L.length
 fl:Fo.length=F.length
 w1:TwoW L.length a1 b1
 w2:TwoW F.length a2 b2
 gl:∀x,x<L.length→Lo.getD x []=L.getD (a1 x) []
 gr:∀x,x<L.length→Ro.getD x 0=R.getD (a1 x) 0
 gf:∀x,x<F.length→Fo.getD x []=F.getD (a2 x) []
section
variable {W:List Int} {s:Int} {L F Lo Fo:List (List Int)} {R Ro:List Int} {a1 b1 a2 b2:Nat→Nat} {N:Nat}
theorem OrdD.symm(h:OrdD L F R Lo Fo Ro a1 b1 a2 b2):OrdD Lo Fo Ro L F R b1 a1 b2 a2:=
 ⟨h.ll.symm,h.fl.symm,by rw[h.ll];exact h.w1.symm,by rw[h.fl];exact h.w2.symm,
 fun x hx=>by rw[h.ll]at hx;rw[h.gl _ (h.w1.lb x hx).1,(h.w1.lb x hx).2],fun x hx=>by rw[h.ll]at hx;rw[h.gr _ (h.w1.lb x hx).1,(h.w1.lb x hx).2],
 fun x hx=>by rw[h.fl]at hx;rw[h.gf _ (h.w2.lb x hx).1,(h.w2.lb x hx).2]⟩
theorem OrdD.ag(h:OrdD L F R Lo Fo Ro a1 b1 a2 b2){i k:Nat}(hi:i<L.length)(hk:k<F.length):agF W Lo Fo i k=agF W L F (a1 i) (a2 k):=by
 unfold agF
 rw[if_pos ⟨by rw[h.ll];exact hi,by rw[h.fl];exact hk⟩,if_pos ⟨(h.w1.la i hi).1,(h.w2.la k hk).1⟩,h.gl i hi,h.gf k hk]
theorem OrdD.sl(h:OrdD L F R Lo Fo Ro a1 b1 a2 b2){i k:Nat}(hi:i<L.length)(hk:k<F.length):slF W Lo Fo i k=slF W L F (a1 i) (a2 k):=by
 unfold slF
 rw[if_pos ⟨by rw[h.ll];exact hi,by rw[h.fl];exact hk⟩,if_pos ⟨(h.w1.la i hi).1,(h.w2.la k hk).1⟩,h.gl i hi,h.gf k hk]
theorem OrdD.can(h:OrdD L F R Lo Fo Ro a1 b1 a2 b2){i k:Nat}(hi:i<L.length)(hk:k<F.length):canF W s Lo Fo i k=canF W s L F (a1 i) (a2 k):=by
 unfold canF canT
 rw[h.ag hi hk,h.sl hi hk]
theorem OrdD.val(h:OrdD L F R Lo Fo Ro a1 b1 a2 b2){l:List Int}(hl:l∈joinsL (canF W s L F) F.length L.length 0 0):valJ (agF W Lo Fo) 0 (rnJ L.length a1 b2 l)=valJ (agF W L F) 0 l:=B6i h.w1 h.w2 (fun i k hi hk=>h.ag hi hk) hl
theorem B56.two{u:Nat}{p:List Int}{τ:Nat→Nat}(h:B56 u p τ):TwoW u τ (fun i=>(p.getD i 0).toNat):=by
 refine⟨fun x hx=>⟨(h.inv x hx).1,by rw[(h.inv x hx).2,Int.toNat_natCast]⟩,fun x hx=>?_⟩
 obtain⟨q,e,h1,h2⟩:=h.bd x hx
 rw[e,Int.toNat_natCast]
 exact⟨h1,h2⟩
end
end Go.Proofs.Ytgeijboidfadaaa.Fd

namespace Go.Proofs.Ytgeijboidfadaaa
set_option linter.all false
open Go

theorem Ay4:Lm 1100=some true:=by kernel_rfl
section
open Fe
variable {N:Nat} {a c:Nat} {J R:List Int}
theorem Arj{s:List Int}(hs:s.length≤1000)(hN:s.length<N):K7 N s s=some true:=by
 have e:∀(n k:Nat),s.length<n+k→k≤s.length→equali_l1 N n s s (s.length:Int) k=some (.inr ()):=by
  intro n
  induction n with
  | zero=>intro k h _;omega
  | succ n ih=>
   intro k h hk
   unfold equali_l1
   by_cases c:k<s.length
   ·have:=ih (k+1) (by omega) (by omega)
    rw[show((k+1:Nat):Int)=(k:Int)+1 by omega]at this
    rw[Ax (by omega),Agq 0 (by omega) (by omega),Agq 0 (by omega) (by omega),Gg (by trivial),Af (by omega)]
    exact this
   ·rw[Ae (by omega)]
 unfold K7 R0
 have:=e N 0 (by omega) (by omega)
 rw[show((0:Nat):Int)=0 from rfl]at this
 rw[Gg (by trivial),this];rfl
def many(J:List Int)(k:Nat):Nat:=((List.range k).filter fun i=>decide (J.getD i 0≠-1)).length
theorem Abn(k:Nat):many J (k+1)=if J.getD k 0=-1 then many J k else many J k+1:=by
 unfold many
 rw[List.range_succ,List.filter_append]
 by_cases h:J.getD k 0=-1
 ·rw[if_pos h,List.filter_cons_of_neg (by simpa using h),List.filter_nil,List.append_nil]
 ·rw[if_neg h,List.filter_cons_of_pos (by simpa using h),List.filter_nil,List.length_append];rfl
theorem B34(k:Nat):many J k≤k:=by
 unfold many;exact Nat.le_trans (List.length_filter_le _ _) (by simp)
theorem B21{t:Nat→Nat→Int}(k:Nat)(h:k<J.length):Fd.valJ t k (J.drop k)=Fd.pv t k (J.getD k 0)+Fd.valJ t (k+1) (J.drop (k+1)):=by
 rw[Fe.Nw h,Fd.valJ]
theorem B2g(hp:PJ a c J R){d:List Int}{d2:Int}{L F:List (List Int)}(hL:L.length=a)(hF:F.length=c){sum:Int} :
  ∀(n k:Nat) (owed:Int) (b:List Int),a<n+k→k≤a→BJ a c J R k b→-99*(k:Int)≤owed∧owed≤99*(k:Int) →
   ∃b',BJ a c J R a b'∧trewarded_l1 N n sum (many J k:Int) owed J (J.length:Int) k d d2 L F R b=some (.inr (sum,(many J a:Int),owed+Fd.valJ (Fd.rewT R) k (J.drop k),b'))
 | 0,k,owed,b,h,hk,_,_=>by omega
 | n+1,k,owed,b,h,hk,hb,ho=>by
  have ha4:=hp.a4;have hc4:=hp.c4;have hjl:=hp.jl;have hrl:=hp.rl;have hbn:=hb.n
  unfold trewarded_l1
  by_cases c1:k<a
  ·have hm:=B34 (J:=J) k
   have hrk:=hp.rr k
   have hj:∀(mm:Int) (ow:Int) (b2:List Int),Dg N (trewarded_l1 N n) sum mm ow J (J.length:Int) k d d2 L F R b2=trewarded_l1 N n sum mm ow J (J.length:Int) ((k+1:Nat):Int) d d2 L F R b2:=fun mm ow b2=>by
    unfold Dg
    rw[Af (by omega),O8]
   rw[Ax (by omega),idx_eq (by omega) (gets (by omega) 0)]
   rw[B21 k (by omega)]
   by_cases e:J.getD k 0=-1
   ·obtain⟨b',h1,h2⟩:=B2g hp (d:=d) (d2:=d2) hL hF (sum:=sum) n (k+1) owed b (by omega) (by omega) (hb.skip c1 e) (by omega)
    refine⟨b',h1,?_⟩
    rw[Ax e,hj]
    rw[Abn,if_pos e]at h2
    rw[h2]
    unfold Fd.pv
    rw[if_pos e,Int.zero_add]
   ·have h0:0≤J.getD k 0∧J.getD k 0<(c:Int):=(hp.jr k c1).resolve_left e
    obtain⟨z1,z2⟩:=hb.zero hp c1 h0
    have hR:R[((k:Nat):Int).toNat]?=some (R.getD k 0):=gets (by omega) 0
    have hB:b[((k:Nat):Int).toNat]?=some (b.getD k 0):=gets (by omega) 0
    have e4:((L.length:Int)+J.getD k 0).toNat=a+(J.getD k 0).toNat:=by omega
    have hset:(b.set k (0-R.getD k 0)).getD (a+(J.getD k 0).toNat) 0=0:=by
     rw[Br _ _ _ _ _ (by omega),if_neg (by omega)];exact z2
    have hB2:(b.set k (0-R.getD k 0))[((L.length:Int)+J.getD k 0).toNat]?=some 0:=by
     rw[e4,List.getElem?_eq_getElem (by rw[List.length_set];omega)]
     rw[List.getD_eq_getElem?_getD,List.getElem?_eq_getElem (by rw[List.length_set];omega)]at hset
     exact congrArg some hset
    obtain⟨b',h1,h2⟩:=B2g hp (d:=d) (d2:=d2) hL hF (sum:=sum) n (k+1) (owed+R.getD k 0) _ (by omega) (by omega) (hb.next hp c1 h0) (by omega)
    refine⟨b',h1,?_⟩
    rw[Ae e,Ae (by omega),Ae (by omega),B3 (by omega),get_eq hB,idx_eq (by omega) hR,z1,Af (by omega),B3 (by omega),get_eq hB,Af (by omega)]
    rw[show((k:Nat):Int).toNat=k by omega,B3 (by rw[List.length_set];omega),get_eq hB2,idx_eq (by omega) hR,Af (by omega),B3 (by rw[List.length_set];omega),get_eq hB2,Af (by omega),idx_eq (by omega) hR,Af (by omega),hj,e4]
    rw[Abn,if_neg e]at h2
    rw[show(0:Int)-R.getD k 0=-R.getD k 0 by omega,show(0:Int)+R.getD k 0=R.getD k 0 by omega,←O8,h2]
    unfold Fd.pv
    rw[if_neg e]
    simp only[Fd.rewT,Int.add_assoc]
  ·obtain rfl:k=a:=by omega
   refine⟨b,hb,?_⟩
   rw[Ae (by omega),List.drop_of_length_le (by omega),Fd.valJ,Int.add_zero]
theorem Ayv{l:List Int}{z:Pay}(h1:0≤z.1∧z.1<(l.length:Int))(h2:0≤z.2.1∧z.2.1<(l.length:Int))(h3:z.1≠z.2.1) :
  (l.set z.2.1.toNat (l.getD z.2.1.toNat 0+z.2.2)).set z.1.toNat (l.getD z.1.toNat 0-z.2.2)=pay1 (-1) l z:=by
 unfold pay1 setI
 rw[List.set_comm _ _ (by omega),Int.neg_mul,Int.one_mul]
 congr 2
 omega
theorem B51{n0:Nat}{l:List Pay}{bal:List Int}(hn:n0≤1000)(hl:l.length≤1000)(hp:Aat n0 l):∀(f k:Nat) (got:List Int),l.length<f+k→k≤l.length→got.length=n0→Fe.Bnd (100000+1000000*(k:Int)) got →
  trewarded_l2 N f bal l (l.length:Int) k got=some (.inr (bal,(l.drop k).foldl (pay1 (-1)) got))
 | 0,k,own,h,hk,_,_=>by omega
 | f+1,k,own,h,hk,ho,hb=>by
  unfold trewarded_l2
  by_cases c:k<l.length
  ·have hz:=hp _ (Fe.Av (d:=(0,0,0)) c)
   have hd:l.drop k=l.getD k (0,0,0)::l.drop (k+1):=by
    rw[List.drop_eq_getElem_cons c,List.getD_eq_getElem?_getD,List.getElem?_eq_getElem c];rfl
   rw[Ax (by omega),idx_eq (by omega) (gets c (0,0,0)),hd]
   generalize l.getD k (0,0,0)=z at hz ⊢
   obtain⟨z1,z2,z3,z4,z5⟩:=hz
   have b1:=hb z.1.toNat
   have b2:=hb z.2.1.toNat
   have g2:(own.set z.2.1.toNat (own.getD z.2.1.toNat 0+z.2.2)).getD z.1.toNat 0=own.getD z.1.toNat 0:=by
    rw[Br _ _ _ _ _ (by omega),if_neg (by omega)]
   have e1:(own.set z.2.1.toNat (own.getD z.2.1.toNat 0+z.2.2))[z.1.toNat]?=some (own.getD z.1.toNat 0):=by
    rw[getI (by rw[List.length_set];omega),g2]
   have ih:=B51 hn hl hp (bal:=bal) f (k+1) (pay1 (-1) own z) (by omega) (by omega) (by rw[Wf];exact ho) (by
    have h6:=Aj4 (f:=-1) (.inr rfl) (l:=own) (z:=z) (by omega) (by omega) z3 ⟨z4,z5⟩ hb
    have e:(100000+1000000*((k+1:Nat):Int))=100000+1000000*(k:Int)+1000000:=by omega
    rw[e];exact h6)
   rw[Ae (by omega),Ae (by omega),Ae (by omega),Ae (by omega)]
   rw[B3 (by omega),get_eq (getI (by omega)),Af (by omega),B3 (by omega),get_eq (getI (by omega)),B3 (by rw[List.length_set];omega),get_eq e1,Af (by omega),B3 (by rw[List.length_set];omega),get_eq e1,Af (by omega),←O8,Ayv (by omega) (by omega) z3,ih,List.foldl_cons]
  ·rw[Ae (by omega),List.drop_of_length_le (by omega)];rfl
theorem B4n{W:List Int}{s:Int}{L F:List (List Int)}(h:Fd.Fine W s L F R)(hl:L.length≤4)(hf:F.length≤4)(hm:J∈Fd.joinsL (Fd.canF W s L F) F.length L.length 0 0):PJ L.length F.length J R:=by
 obtain⟨-,h1,h2,h3,-⟩:=Fd.Yu (Fd.Au3.2 hm)
 refine⟨hl,hf,h1,h.rl,fun i hi=>?_,fun i k hik hk hne=>?_,fun i=>Fd.Ag3 h.r i⟩
 ·have h4:=List.all_eq_true.1 h2 _ (Fe.Av (d:=0) (show i<J.length by omega))
  unfold Fd.inm at h4
  have h5:=of_decide_eq_true h4
  omega
 ·have h4:=Fd.A2k.1 h3 k (by omega)
  unfold Fd.dupI at h4
  rw[Bool.or_eq_true]at h4
  rcases h4 with h4 | h4
  ·exact absurd (of_decide_eq_true h4) hne
  ·intro e
   have h5:Fd.hasB (J.take k) (J.getD k 0)=true:=by
    rw[Fd.A8m,←e]
    have:(J.take k).getD i 0=J.getD i 0:=by simp[List.getD_eq_getElem?_getD,List.getElem?_take,hik]
    rw[←this]
    exact Fe.Av (by rw[List.length_take];omega)
   rw[h5]at h4;cases h4
theorem Aie(n j:Nat):(List.replicate n (0:Int)).getD j 0=0:=by
 rw[List.getD_eq_getElem?_getD,List.getElem?_replicate];split<;>rfl
theorem A6j{a:List Int}(h0:Ty.inB (.sl (.int .u8)) a):trewarded_S 1100 a=some true:=by
 have l0:a.length≤9223372036854775807:=h0.1
 unfold trewarded_S A37
 simp only[Option.bind_some]
 obtain⟨⟨W,s,L,F,R,c,c2,c3⟩,em,hF,hlen,-⟩:=Fd.B61 (N:=1100) (b:=a) (by omega) (things:=4) (b2:=0) (b3:=0) (by omega) ⟨l0,by omega,by omega⟩
 dsimp only at hF hlen
 rw[show Abi 1100 4 a 0 0=_ from em]
 simp only[Option.bind_some]
 have d:=Fd.A3k.2 hF
 rw[show V3 1100 W s L F R=_ from Fd.Awi (by omega) hF.sm,if_pos d]
 simp only[Option.bind_some]
 have hm:Fd.Aup W s L F R∈Fd.joinsL (Fd.canF W s L F) F.length L.length 0 0:=Fd.Ayf
 generalize Fd.Aup W s L F R=J at hm ⊢
 have hp:=B4n hF (by omega) (by omega) hm
 have hjl:=hp.jl
 rw[Gg (by trivial),Gg (by omega),Af (by omega),show((L.length:Int)+(F.length:Int)).toNat=L.length+F.length by omega]
 have hlm:lmI ((L.length:Int)+(F.length:Int))=true:=Afm.2 (by omega)
 rw[Gz hlm]
 obtain⟨b,hb,e1⟩:=B2g (N:=1100) hp (d:=W) (d2:=s) (L:=L) (F:=F) rfl rfl (sum:=Fd.valJ (Fd.rewT R) 0 J) 1100 0 0 _ (by have:=hp.a4;omega) (by omega) BJ.start (by omega)
 rw[show((many J 0:Nat):Int)=0 from rfl,show((0:Nat):Int)=0 from rfl,List.drop_zero,Int.zero_add]at e1
 rw[e1]
 simp only[Option.bind_some]
 obtain⟨hg,hlp,hlg⟩:=A01 hb hp
 have hbal:=hb.bals hp
 have hdl:=B0p hb hp
 have hok:=B2r hbal hg
 rw[show A4n 1100 b=_ from B4i (by omega) hbal rfl hg hlg]
 simp only[Option.bind_some]
 generalize payA b (putF b b.length 0 [] [])=pays at hlp hdl hok ⊢
 have hlen2:pays.length≤1000:=by have:(F6 L.length b).length≤L.length:=Nat.le_trans (List.length_filter_le _ _) (by simp)
                                 omega
 rw[show A0t 1100 b pays=_ from Ayu (by omega) hbal hlen2 hok hdl]
 simp only[Option.bind_some]
 have hmq:(F6 L.length b).length≤many J L.length:=filter_le _ _ _ (fun x hx hb0=>by
  have hx:x<L.length:=List.mem_range.1 hx
  have h2:=(Eh hb hp (l:=x) (Za.2 ⟨hx,of_decide_eq_true hb0⟩)).2.1
  exact decide_eq_true (by omega))
 rw[Gg (by trivial),Gg (by trivial),Bool.not_true,Bq,Ae (by omega),Gg (by trivial)]
 have hbn:=hb.n
 have hlm2:lmI (b.length:Int)=true:=Afm.2 (by omega)
 rw[Gz hlm2,show((b.length:Int)).toNat=b.length by omega]
 have hok2:Aat (List.replicate b.length (0:Int)).length pays:=by rw[List.length_replicate];exact hok
 have e2:=B51 (N:=1100) (n0:=b.length) (bal:=b) (by omega) hlen2 hok 1100 0 (List.replicate b.length 0) (by omega) (by omega) (by simp) (fun j=>by rw[Aie];omega)
 rw[show((0:Nat):Int)=0 from rfl,List.drop_zero]at e2
 rw[e2]
 simp only[Option.bind_some]
 have hgot:pays.foldl (pay1 (-1)) (List.replicate b.length 0)=b:=by
  apply List.ext_getElem (by rw[Vi];simp)
  intro j h1 h2
  have h3:=A4g (-1) pays (List.replicate b.length 0) hok2 j
  rw[Aie,hdl j,List.getD_eq_getElem?_getD,List.getElem?_eq_getElem h1,List.getD_eq_getElem?_getD,List.getElem?_eq_getElem h2]at h3
  simp only[Option.getD_some]at h3
  omega
 rw[hgot,Arj (by omega) (by omega),Ay4]
 rfl
end
end Go.Proofs.Ytgeijboidfadaaa

/-
  Parts of a proof, put together: FD9, FDa, FDb, FDj, FAw, FLd, FLe, FL1, FL2, FL3, FDk, FL9, InQ, FG, FS, FT.
  Conditions: none.
-/
import Derived.Test.YthncjilcflilcaaGreatZd
import Derived.Test.YthncjilcflilcaaGreatZe
import Derived.Test.YthncjilcflilcaaGreatZf
import Derived.Test.YthncjilcflilcaaGreatZg
namespace Go.Proofs.YthncjilcflilcaaGreat
set_option linter.all false
open Go
def apL:List Int→List Int→Int
 | x::a,y::b=>(if x=y then 0 else 1)+apL a b
 | _,_=>0
theorem Mb:∀a b:List Int,0≤apL a b∧apL a b≤a.length
 | [],_=>by simp[apL]
 | _::_,[]=>by simp[apL];omega
 | x::a,y::b=>by
  have:=Mb a b
  rw[apL,List.length_cons]
  split<;>omega
theorem Abp:∀a b:List Int,apL a b=apL b a
 | [],[]=>rfl
 | [],_::_=>rfl
 | _::_,[]=>rfl
 | x::a,y::b=>by
  rw[apL,apL,Abp a b]
  by_cases h:x=y
  ·rw[if_pos h,if_pos h.symm]
  ·rw[if_neg h,if_neg (Ne.symm h)]
theorem Ac1:∀ {a b:List Int},a.length=b.length→apL a b=0→a=b
 | [],[],_,_=>rfl
 | [],_::_,h,_=>by simp at h
 | _::_,[],h,_=>by simp at h
 | x::a,y::b,hl,h=>by
  have:=Mb a b
  rw[apL]at h
  split at h
  ·rename_i e
   rw[e,Ac1 (a:=a) (b:=b) (by simpa using hl) (by omega)]
  ·omega
section
variable {N:Nat}
theorem Yx{a b:List Int}(ha:a.length≤1000)(hb:a.length≤b.length):∀(n k:Nat) (x:Int),a.length<n+k→k≤a.length→0≤x∧x≤k→apart_l1 N n a b x k=some (x+apL (a.drop k) (b.drop k))
 | 0,k,x,h,_,_=>by omega
 | n+1,k,x,h,hk,hx=>by
  unfold apart_l1
  by_cases c:k<a.length
  ·have hj:∀x,0≤x∧x≤(k:Int)+1→Lv N (apart_l1 N n) a b x k=some (x+apL (a.drop (k+1)) (b.drop (k+1))):=fun x hx=>by
    have ih:=Yx ha hb n (k+1) x (by omega) (by omega) (by omega)
    rw[A9]at ih
    unfold Lv
    rw[A3 (by omega),ih]
   rw[A2 (by omega),idx_eq (by omega) (gets c 0),idx_eq (by omega) (gets (by omega) 0),drop_cons c 0,drop_cons (l:=b) (by omega) 0,apL]
   by_cases e:a.getD k 0=b.getD k 0
   ·rw[A6 e,hj _ (by omega),if_pos e,Int.zero_add]
   ·rw[A8 e,A3 (by omega),hj _ (by omega),if_neg e,Int.add_assoc]
  ·rw[A1 (by omega),List.drop_of_length_le (by omega)]
   simp[apL]
theorem Afm{a b:List Int}(ha:a.length≤1000)(hN:a.length<N)(hb:a.length≤b.length):Me N a b=some (apL a b):=by
 have e:=Yx (N:=N) ha hb N 0 0 (by omega) (by omega) (by omega)
 rw[show((0:Nat):Int)=0 from rfl,List.drop_zero,List.drop_zero,Int.zero_add]at e
 unfold Me
 rw[e];rfl
end
section
variable {W:List Int} {s:Int} {L F:List (List Int)} {R:List Int} {A B:Nat→Nat→Int} {N:Nat}
structure ExtJ (can:Nat→Nat→Bool) (A:Nat→Nat→Int) (m:Nat) (J:List Int) (w0:Int) (l l':List Int) (left:Int):Prop where
 mem:l'∈joinsL can m J.length 0 0
 pre:l'.take l.length=l
 more:w0<valJ A 0 l'
 ap:apL (J.drop l.length) (l'.drop l.length)≤left
def PutR(can:Nat→Nat→Bool)(A:Nat→Nat→Int)(m:Nat)(J:List Int)(w0:Int)(l:List Int)(left:Int)(dk:Dk):((List Int×Dk×Int)⊕(List Int×List Int×Dk×Int))→Prop
 | .inl g=>g=(J,dk,w0)∧∀l',¬ExtJ can A m J w0 l l' left
 | .inr r=>r.2=(J,dk,w0)∧ExtJ can A m J w0 l r.1 left
def stpB(can:Nat→Nat→Bool)(J l:List Int)(left:Int)(k:Int):Bool:=(decide (k=-1) || (!hasB l k&&can l.length k.toNat))&&!(!decide (k=J.getD l.length 0)&&decide (left=0))
def nowJ(J l:List Int)(left:Int)(k:Int):Int:=if k=J.getD l.length 0 then left else left-1
theorem A2n{l l':List Int}{k:Int}(hl:l.length<l'.length):l'.take (l.length+1)=l++[k]↔l'.take l.length=l∧l'.getD l.length 0=k:=by
 rw[Gj hl 0]
 constructor
 ·intro h
  have:=List.append_inj' h rfl
  simpa using this
 ·rintro ⟨h1,h2⟩
  rw[h1,h2]
theorem Qq{can:Nat→Nat→Bool}{m:Nat}{J l l':List Int}{w0 left:Int}(hl:l.length<J.length):ExtJ can A m J w0 l l' left↔∃k:Int,(-1≤k∧k≤(m:Int)-1)∧(0≤left→stpB can J l left k=true)∧ExtJ can A m J w0 (l++[k]) l' (nowJ J l left k):=by
 constructor
 ·rintro ⟨h1,h2,h3,h4⟩
  obtain⟨m1,m2⟩:=Am.1 h1
  obtain⟨m3,_⟩:=Oa.1 m2
  have hl':l.length<l'.length:=by omega
  have e0:l'.getD l.length 0=fnJ l' l.length:=Ef hl'
  have hdrop:apL (J.drop l.length) (l'.drop l.length)=(if J.getD l.length 0=l'.getD l.length 0 then 0 else 1)+apL (J.drop (l.length+1)) (l'.drop (l.length+1)):=by
   rw[drop_cons hl 0,drop_cons hl' 0,apL]
  have hb:=Mb (J.drop (l.length+1)) (l'.drop (l.length+1))
  refine⟨l'.getD l.length 0,?_,fun hleft=>?_,⟨h1,?_,h3,?_⟩⟩
  ·rw[e0]
   rcases m3.ok l.length hl' with h | ⟨k,h,hk,_⟩<;>omega
  ·unfold stpB
   rw[Bool.and_eq_true]
   constructor
   ·rw[Bool.or_eq_true,decide_eq_true_eq,e0]
    rcases m3.ok l.length hl' with h | ⟨k,h,hk,hc⟩
    ·exact .inl h
    ·right
     rw[h,Int.toNat_natCast,hc,Bool.and_true,Bool.not_eq_true',←Bool.not_eq_true,Lw]
     intro hm
     obtain⟨j,hj,e⟩:=List.getElem_of_mem hm
     have e1:fnJ l' j=k:=by
      rw[←e]
      have:l[j]?=l'[j]?:=by rw[←h2,List.getElem?_take_of_lt hj]
      simp only[fnJ,List.getD,←this,List.getElem?_eq_getElem hj,Option.getD_some]
     have:=m3.inj j l.length (by omega) hl' (by omega) (by rw[e1,h])
     omega
   ·rw[Bool.not_eq_true',Bool.and_eq_false_iff]
    by_cases e:l'.getD l.length 0=J.getD l.length 0
    ·left;rw[decide_eq_true e];rfl
    ·right
     rw[decide_eq_false_iff_not]
     intro h0
     rw[if_neg (Ne.symm e)]at hdrop
     omega
  ·rw[List.length_append,List.length_singleton]
   exact(A2n hl').2 ⟨h2,rfl⟩
  ·rw[List.length_append,List.length_singleton]
   unfold nowJ
   by_cases e:l'.getD l.length 0=J.getD l.length 0
   ·rw[if_pos e];rw[if_pos e.symm]at hdrop;omega
   ·rw[if_neg e];rw[if_neg (Ne.symm e)]at hdrop;omega
 ·rintro ⟨k,_,_,h1,h2,h3,h4⟩
  obtain⟨m1,_⟩:=Am.1 h1
  have hl':l.length<l'.length:=by omega
  rw[List.length_append,List.length_singleton]at h2 h4
  obtain⟨h5,h6⟩:=(A2n hl').1 h2
  refine⟨h1,h5,h3,?_⟩
  rw[drop_cons hl 0,drop_cons hl' 0,apL,h6]
  unfold nowJ at h4
  split at h4
  ·rename_i e;rw[if_pos e.symm];omega
  ·rename_i e;rw[if_neg (Ne.symm e)];omega
theorem Api{can:Nat→Nat→Bool}{m:Nat}{l:List Int}{k:Int}(h:l∈joinsL can m l.length 0 0)(hk:-1≤k∧k≤(m:Int)-1)(hc:(decide (k=-1) || (!hasB l k&&can l.length k.toNat))=true):l++[k]∈joinsL can m (l++[k]).length 0 0:=by
 obtain⟨_,h2⟩:=Am.1 h
 obtain⟨h3,_⟩:=Oa.1 h2
 refine Am.2 ⟨rfl,Oa.2 ⟨?_,fun k hk=>by simp at hk⟩⟩
 have e1:∀j,j<l.length→fnJ (l++[k]) j=fnJ l j:=fun j hj=>by simp[fnJ,List.getD,List.getElem?_append_left hj]
 have e2:fnJ (l++[k]) l.length=k:=by simp[fnJ,List.getD]
 rw[Bool.or_eq_true,decide_eq_true_eq,Bool.and_eq_true,Bool.not_eq_true',←Bool.not_eq_true,Lw]at hc
 have hnew:∀j,j<l.length→fnJ l j=k→k=-1:=fun j hj e=>by
  rcases hc with hc | ⟨hc,_⟩
  ·exact hc
  ·exact absurd (by rw[←e,←Ef hj];exact Ab hj) hc
 rw[List.length_append,List.length_singleton]
 refine⟨fun i hi=>?_,fun i j hi hj hij he=>?_⟩
 ·rcases Nat.lt_or_ge i l.length with h | h
  ·rw[e1 i h];exact h3.ok i h
  ·obtain rfl:i=l.length:=by omega
   rw[e2]
   rcases hc with hc | ⟨_,hc⟩
   ·exact .inl hc
   ·by_cases e:k=-1
    ·exact .inl e
    ·exact .inr ⟨k.toNat,by omega,by omega,hc⟩
 ·rcases Nat.lt_or_ge i l.length with h | h
  ·rw[e1 i h]at he ⊢
   rcases Nat.lt_or_ge j l.length with h' | h'
   ·rw[e1 j h']at he
    exact h3.inj i j h h' hij he
   ·obtain rfl:j=l.length:=by omega
    rw[e2]at he
    rw[he];exact hnew i h he
  ·obtain rfl:i=l.length:=by omega
   rw[e2]at he ⊢
   have hj':j<l.length:=by omega
   rw[e1 j hj']at he
   exact hnew j hj' he.symm
def Alc(can:Nat→Nat→Bool)(A:Nat→Nat→Int)(m:Nat)(J:List Int)(w0:Int)(l:List Int)(left:Int)(dk:Dk)(j:Nat):((List Int×List Int×Dk×Int)⊕(List Int×Dk×Int))→Prop
 | .inl r=>r.2=(J,dk,w0)∧ExtJ can A m J w0 l r.1 left
 | .inr g=>g=(J,dk,w0)∧∀l' (k:Int),(j:Int)-1≤k→k≤(m:Int)-1→stpB can J l left k=true→¬ExtJ can A m J w0 (l++[k]) l' (nowJ J l left k)
theorem A8q{J:List Int}{w0 left:Int}{self:List Int→Int→List Int→Dk→Int→List Int→Dk→Int→Option ((List Int×Dk×Int)⊕(List Int×List Int×Dk×Int))}{l:List Int}(hl0:l≠[])(hN:110≤N)(hF:F.length≤6)(hJ:J.length≤6)(hlJ:(l:List Int).length<J.length)(hleft:0≤left∧left≤100)(hl:(l:List Int)∈joinsL (canT A B s) F.length (l:List Int).length 0 0)
  (hself:∀k:Int,stpB (canT A B s) J l left k=true→-1≤k∧k≤(F.length:Int)-1→∃r,self ((l++[k])) (nowJ J l left k) J (dkT W s L F R A B) w0 J (dkT W s L F R A B) w0=some r∧PutR (canT A B s) A F.length J w0 ((l++[k])) (nowJ J l left k) (dkT W s L F R A B) r) :
  ∀(n j:Nat),F.length+1<n+j→j≤F.length+1→∃r,put_l1 N self n l left J (dkT W s L F R A B) (l.length:Int) ((j:Int)-1) J (dkT W s L F R A B) w0=some r∧Alc (canT A B s) A F.length J w0 l left (dkT W s L F R A B) j r
 | 0,j,h,_=>by omega
 | n+1,j,h,hj=>by
  unfold put_l1
  have hdf:(dkT W s L F R A B).2.2.2.1.length=F.length:=rfl
  rw[hdf]
  by_cases c:j<F.length+1
  rotate_left
  ·rw[A1 (by omega)]
   exact⟨_,rfl,rfl,fun l' k h1 h2=>by omega⟩
  obtain⟨rn,n1,n2⟩:=A8q hl0 hN hF hJ hlJ hleft hl hself n (j+1) (by omega) (by omega)
  rw[show((j+1:Nat):Int)-1=(j:Int)-1+1 by omega]at n1
  rw[A2 (by omega)]
  -- what follows where the step may not be
  have hskip:stpB (canT A B s) J l left ((j:Int)-1)=false→∃r,Jg N self (put_l1 N self n) l left J (dkT W s L F R A B) (l.length:Int) ((j:Int)-1) J (dkT W s L F R A B) w0=some r∧Alc (canT A B s) A F.length J w0 l left (dkT W s L F R A B) j r:=fun hs=>by
   unfold Jg
   rw[A3 (by omega),n1]
   refine⟨rn,rfl,?_⟩
   cases rn with
   | inl r=>exact n2
   | inr g=>
    refine⟨n2.1,fun l' k h1 h2 h3=>?_⟩
    by_cases e:k=(j:Int)-1
    ·rw[e,hs]at h3;cases h3
    ·exact n2.2 l' k (by omega) h2 h3
  have hstep:stpB (canT A B s) J l left ((j:Int)-1)=true→∃r,put_j2 N self (put_l1 N self n) l left J (dkT W s L F R A B) (l.length:Int) ((j:Int)-1) (nowJ J l left ((j:Int)-1)) J (dkT W s L F R A B) w0=some r∧Alc (canT A B s) A F.length J w0 l left (dkT W s L F R A B) j r:=fun hs=>by
   obtain⟨r,r1,r2⟩:=hself ((j:Int)-1) hs (by omega)
   unfold put_j2
   have ecl:Ep N l=some l:=by
    unfold Ep
    rw[Av (by simp[hl0]),Ay (by simp only[List.length_nil];omega)];rfl
   rw[ecl]
   simp only[Option.bind_some]
   rw[Ay (by simp only[List.length_singleton];omega)]
   rw[r1]
   simp only[Option.bind_some]
   cases r with
   | inl g=>
    obtain⟨rfl,g2⟩:=r2
    dsimp only
    unfold Jg
    rw[A3 (by omega),n1]
    refine⟨rn,rfl,?_⟩
    cases rn with
    | inl r=>exact n2
    | inr g=>
     refine⟨n2.1,fun l' k h1 h2 h3=>?_⟩
     by_cases e:k=(j:Int)-1
     ·subst e;exact g2 l'
     ·exact n2.2 l' k (by omega) h2 h3
   | inr r=>
    obtain⟨l',g1,g2,g3⟩:=r
    obtain⟨e,hx⟩:=r2
    simp only[Prod.mk.injEq]at e
    obtain⟨rfl,rfl,rfl⟩:=e
    dsimp only at hx ⊢
    have hne:l'≠[]:=fun e=>by
     subst e
     have:=(Am.1 hx.mem).1
     simp at this;omega
    rw[Av (by simp[hne])]
    refine⟨_,rfl,rfl,?_⟩
    exact(Qq hlJ).2 ⟨(j:Int)-1,by omega,fun _=>hs,hx⟩
  have hgj:J[((l.length:Int):Int).toNat]?=some (J.getD (l:List Int).length 0):=gets hlJ 0
  generalize hji:J.getD (l:List Int).length 0=ji at *
  have es:stpB (canT A B s) J l left ((j:Int)-1)=((decide ((j:Int)-1=-1) || (!hasB l ((j:Int)-1)&&canT A B s (l:List Int).length ((j:Int)-1).toNat))&&!(!decide ((j:Int)-1=ji)&&decide (left=0))):=by unfold stpB;rw[hji]
  have en:nowJ J l left ((j:Int)-1)=if(j:Int)-1=ji then left else left-1:=by unfold nowJ;rw[hji]
  by_cases c0:(j:Int)-1=-1
  ·rw[A6 c0,idx_eq (by omega) hgj]
   rw[decide_eq_true c0,Bool.true_or,Bool.true_and]at es
   by_cases c1:(j:Int)-1=ji
   ·rw[A6 c1,idx_eq (by omega) hgj,A6 c1]
    rw[if_pos c1]at en
    rw[en]at hstep
    exact hstep (by rw[es,decide_eq_true c1];rfl)
   ·rw[A8 c1]
    rw[if_neg c1]at en
    rw[en]at hstep
    by_cases c2:left=0
    ·rw[A2 c2]
     exact hskip (by rw[es,decide_eq_false c1,decide_eq_true c2];rfl)
    ·rw[A1 c2,idx_eq (by omega) hgj,A8 c1,A3 (by omega)]
     exact hstep (by rw[es,decide_eq_false c2,Bool.and_false];rfl)
  ·rw[A8 c0,Ky (by omega) (by omega)]
   rw[decide_eq_false c0,Bool.false_or]at es
   simp only[Option.bind_some]
   obtain⟨q,hq⟩:∃q:Nat,(j:Int)-1=q:=⟨((j:Int)-1).toNat,by omega⟩
   cases hb:hasB l ((j:Int)-1)
   rotate_left
   ·rw[hb]at es
    rw[Ah]
    exact hskip (by rw[es];rfl)
   rw[hb,Bool.not_false,Bool.true_and]at es
   rw[Ad]
   have hcan:I8 N (dkT W s L F R A B) (l.length:Int) ((j:Int)-1)=some (canT A B s (l:List Int).length ((j:Int)-1).toNat):=by
    rw[hq,Int.toNat_natCast]
    exact A8i (i:=(l:List Int).length) (by omega) (by omega)
   rw[hcan]
   simp only[Option.bind_some]
   cases hcn:canT A B s (l:List Int).length ((j:Int)-1).toNat
   ·rw[hcn]at es
    rw[Bool.not_false,Ah]
    exact hskip (by rw[es];rfl)
   rw[hcn,Bool.true_and]at es
   rw[Bool.not_true,Ad,idx_eq (by omega) hgj]
   by_cases c1:(j:Int)-1=ji
   ·rw[A6 c1,idx_eq (by omega) hgj,A6 c1]
    rw[if_pos c1]at en
    rw[en]at hstep
    exact hstep (by rw[es,decide_eq_true c1];rfl)
   ·rw[A8 c1]
    rw[if_neg c1]at en
    rw[en]at hstep
    by_cases c2:left=0
    ·rw[A2 c2]
     exact hskip (by rw[es,decide_eq_false c1,decide_eq_true c2];rfl)
    ·rw[A1 c2,idx_eq (by omega) hgj,A8 c1,A3 (by omega)]
     exact hstep (by rw[es,decide_eq_false c2,Bool.and_false];rfl)
def Ad4(can:Nat→Nat→Bool)(A:Nat→Nat→Int)(m:Nat)(J:List Int)(w0:Int)(l:List Int)(left:Int)(dk:Dk)(j:Nat):((List Int×List Int×Dk×Int)⊕(List Int×Dk×Int))→Prop
 | .inl r=>r.2=(J,dk,w0)∧ExtJ can A m J w0 l r.1 left
 | .inr g=>g=(J,dk,w0)∧∀l' (k:Int),(j:Int)-1≤k→k≤(m:Int)-1→stpB can J l left k=true→¬ExtJ can A m J w0 (l++[k]) l' (nowJ J l left k)
theorem A1k{J:List Int}{w0 left:Int}(hN:110≤N)(hF:F.length≤6)(hJ:J.length≤6)(hlJ:([]:List Int).length<J.length)(hleft:0≤left∧left≤100)(hl:([]:List Int)∈joinsL (canT A B s) F.length ([]:List Int).length 0 0)
  (hself:∀k:Int,stpB (canT A B s) J [] left k=true→-1≤k∧k≤(F.length:Int)-1→∃r,Py N N ([k]) (nowJ J [] left k) J (dkT W s L F R A B) w0 J (dkT W s L F R A B) w0=some r∧PutR (canT A B s) A F.length J w0 ([k]) (nowJ J [] left k) (dkT W s L F R A B) r) :
  ∀(n j:Nat),F.length+1<n+j→j≤F.length+1→∃r,put0_l1 N n left J (dkT W s L F R A B) 0 ((j:Int)-1) J (dkT W s L F R A B) w0=some r∧Ad4 (canT A B s) A F.length J w0 [] left (dkT W s L F R A B) j r
 | 0,j,h,_=>by omega
 | n+1,j,h,hj=>by
  unfold put0_l1
  have hdf:(dkT W s L F R A B).2.2.2.1.length=F.length:=rfl
  rw[hdf]
  by_cases c:j<F.length+1
  rotate_left
  ·rw[A1 (by omega)]
   exact⟨_,rfl,rfl,fun l' k h1 h2=>by omega⟩
  obtain⟨rn,n1,n2⟩:=A1k hN hF hJ hlJ hleft hl hself n (j+1) (by omega) (by omega)
  rw[show((j+1:Nat):Int)-1=(j:Int)-1+1 by omega]at n1
  rw[A2 (by omega)]
  -- what follows where the step may not be
  have hskip:stpB (canT A B s) J [] left ((j:Int)-1)=false→∃r,Fw N (put0_l1 N n) left J (dkT W s L F R A B) 0 ((j:Int)-1) J (dkT W s L F R A B) w0=some r∧Ad4 (canT A B s) A F.length J w0 [] left (dkT W s L F R A B) j r:=fun hs=>by
   unfold Fw
   rw[A3 (by omega),n1]
   refine⟨rn,rfl,?_⟩
   cases rn with
   | inl r=>exact n2
   | inr g=>
    refine⟨n2.1,fun l' k h1 h2 h3=>?_⟩
    by_cases e:k=(j:Int)-1
    ·rw[e,hs]at h3;cases h3
    ·exact n2.2 l' k (by omega) h2 h3
  have hstep:stpB (canT A B s) J [] left ((j:Int)-1)=true→∃r,Di N (put0_l1 N n) left J (dkT W s L F R A B) 0 ((j:Int)-1) (nowJ J [] left ((j:Int)-1)) J (dkT W s L F R A B) w0=some r∧Ad4 (canT A B s) A F.length J w0 [] left (dkT W s L F R A B) j r:=fun hs=>by
   obtain⟨r,r1,r2⟩:=hself ((j:Int)-1) hs (by omega)
   unfold Di
   rw[show Zl N=some ()from rfl]
   simp only[Option.bind_some]
   rw[r1]
   simp only[Option.bind_some]
   cases r with
   | inl g=>
    obtain⟨rfl,g2⟩:=r2
    dsimp only
    unfold Fw
    rw[A3 (by omega),n1]
    refine⟨rn,rfl,?_⟩
    cases rn with
    | inl r=>exact n2
    | inr g=>
     refine⟨n2.1,fun l' k h1 h2 h3=>?_⟩
     by_cases e:k=(j:Int)-1
     ·subst e;exact g2 l'
     ·exact n2.2 l' k (by omega) h2 h3
   | inr r=>
    obtain⟨l',g1,g2,g3⟩:=r
    obtain⟨e,hx⟩:=r2
    simp only[Prod.mk.injEq]at e
    obtain⟨rfl,rfl,rfl⟩:=e
    dsimp only at hx ⊢
    have hne:l'≠[]:=fun e=>by
     subst e
     have:=(Am.1 hx.mem).1
     simp at this;omega
    rw[Av (by simp[hne])]
    refine⟨_,rfl,rfl,?_⟩
    exact(Qq hlJ).2 ⟨(j:Int)-1,by omega,fun _=>hs,hx⟩
  have hgj:J[(0:Int).toNat]?=some (J.getD ([]:List Int).length 0):=gets (k:=0) hlJ 0
  generalize hji:J.getD ([]:List Int).length 0=ji at *
  have es:stpB (canT A B s) J [] left ((j:Int)-1)=((decide ((j:Int)-1=-1) || (!hasB [] ((j:Int)-1)&&canT A B s ([]:List Int).length ((j:Int)-1).toNat))&&!(!decide ((j:Int)-1=ji)&&decide (left=0))):=by unfold stpB;rw[hji]
  have en:nowJ J [] left ((j:Int)-1)=if(j:Int)-1=ji then left else left-1:=by unfold nowJ;rw[hji]
  by_cases c0:(j:Int)-1=-1
  ·rw[A6 c0,idx_eq (by omega) hgj]
   rw[decide_eq_true c0,Bool.true_or,Bool.true_and]at es
   by_cases c1:(j:Int)-1=ji
   ·rw[A6 c1,idx_eq (by omega) hgj,A6 c1]
    rw[if_pos c1]at en
    rw[en]at hstep
    exact hstep (by rw[es,decide_eq_true c1];rfl)
   ·rw[A8 c1]
    rw[if_neg c1]at en
    rw[en]at hstep
    by_cases c2:left=0
    ·rw[A2 c2]
     exact hskip (by rw[es,decide_eq_false c1,decide_eq_true c2];rfl)
    ·rw[A1 c2,idx_eq (by omega) hgj,A8 c1,A3 (by omega)]
     exact hstep (by rw[es,decide_eq_false c2,Bool.and_false];rfl)
  ·rw[A8 c0,Ky (by simp) (by simp;omega)]
   rw[decide_eq_false c0,Bool.false_or]at es
   simp only[Option.bind_some]
   obtain⟨q,hq⟩:∃q:Nat,(j:Int)-1=q:=⟨((j:Int)-1).toNat,by omega⟩
   cases hb:hasB [] ((j:Int)-1)
   rotate_left
   ·rw[hb]at es
    rw[Ah]
    exact hskip (by rw[es];rfl)
   rw[hb,Bool.not_false,Bool.true_and]at es
   rw[Ad]
   have hcan:I8 N (dkT W s L F R A B) 0 ((j:Int)-1)=some (canT A B s ([]:List Int).length ((j:Int)-1).toNat):=by
    rw[hq,Int.toNat_natCast]
    exact A8i (i:=([]:List Int).length) (by omega) (by omega)
   rw[hcan]
   simp only[Option.bind_some]
   cases hcn:canT A B s ([]:List Int).length ((j:Int)-1).toNat
   ·rw[hcn]at es
    rw[Bool.not_false,Ah]
    exact hskip (by rw[es];rfl)
   rw[hcn,Bool.true_and]at es
   rw[Bool.not_true,Ad,idx_eq (by omega) hgj]
   by_cases c1:(j:Int)-1=ji
   ·rw[A6 c1,idx_eq (by omega) hgj,A6 c1]
    rw[if_pos c1]at en
    rw[en]at hstep
    exact hstep (by rw[es,decide_eq_true c1];rfl)
   ·rw[A8 c1]
    rw[if_neg c1]at en
    rw[en]at hstep
    by_cases c2:left=0
    ·rw[A2 c2]
     exact hskip (by rw[es,decide_eq_false c1,decide_eq_true c2];rfl)
    ·rw[A1 c2,idx_eq (by omega) hgj,A8 c1,A3 (by omega)]
     exact hstep (by rw[es,decide_eq_false c2,Bool.and_false];rfl)

end
end Go.Proofs.YthncjilcflilcaaGreat

namespace Go.Proofs.YthncjilcflilcaaGreat
set_option linter.all false
open Go

section
variable {W:List Int} {s:Int} {L F:List (List Int)} {R:List Int} {A B:Nat→Nat→Int} {N:Nat}
theorem Bt{can:Nat→Nat→Bool}{m n:Nat}{l:List Int}(h:l∈joinsL can m n 0 0):l.length=n∧l.all (inm m)=true:=by
 obtain⟨_,h1,h2,_⟩:=Bu (Eb.2 h)
 exact⟨h1,h2⟩
theorem A1m{can:Nat→Nat→Bool}{m:Nat}:([]:List Int)∈joinsL can m ([]:List Int).length 0 0:=by simp[joinsL]
theorem A2o{can:Nat→Nat→Bool}{J l:List Int}{left k:Int}(h:stpB can J l left k=true)(hl:0≤left∧left≤100):0≤nowJ J l left k∧nowJ J l left k≤100:=by
 unfold stpB at h
 rw[Bool.and_eq_true,Bool.not_eq_true',Bool.and_eq_false_iff]at h
 unfold nowJ
 split
 ·exact hl
 ·rename_i e
  rcases h.2 with h | h
  ·rw[decide_eq_false e]at h;cases h
  ·rw[decide_eq_false_iff_not]at h;omega
theorem A6y{can:Nat→Nat→Bool}{m:Nat}{J l:List Int}{left k:Int}(h:stpB can J l left k=true)(hk:-1≤k∧k≤(m:Int)-1)(hl:l∈joinsL can m l.length 0 0):l++[k]∈joinsL can m (l++[k]).length 0 0:=by
 unfold stpB at h
 rw[Bool.and_eq_true]at h
 exact Api hl hk h.1
theorem Ag3{J:List Int}{w0:Int}(hN:110≤N)(hF:F.length≤6)(hJ:J.length≤6)(hA:∀i k,0≤A i k∧A i k≤50):∀(fu d:Nat) (l:List Int) (left:Int),d<fu→l.length+d=J.length→l≠[]→0≤left∧left≤100→l∈joinsL (canT A B s) F.length l.length 0 0 →
  ∃r,Py N fu l left J (dkT W s L F R A B) w0 J (dkT W s L F R A B) w0=some r∧PutR (canT A B s) A F.length J w0 l left (dkT W s L F R A B) r
 | 0,d,l,left,h,_,_,_,_=>by omega
 | fu+1,d,l,left,h,hd,hne,hleft,hl=>by
  show ∃r,put_S N (Py N fu) l left J (dkT W s L F R A B) w0 J (dkT W s L F R A B) w0=some r∧_
  unfold put_S
  cases d with
  | zero=>
   have hlen:l.length=J.length:=by omega
   rw[A2 (by omega),Lu hN hA (by omega) hF (Bt hl).2]
   simp only[Option.bind_some]
   by_cases c:w0<valJ A 0 l
   ·rw[A2 c]
    refine⟨_,rfl,rfl,?_⟩
    rw[hlen]at hl
    exact⟨hl,List.take_length,c,by rw[List.drop_of_length_le (by omega),show List.drop l.length l=[]from List.drop_length];simp[apL,hleft.1]⟩
   ·rw[A1 c]
    refine⟨_,rfl,rfl,fun l' hx=>?_⟩
    have h1:=(Bt hx.mem).1
    have h2:=hx.pre
    rw[List.take_of_length_le (by omega)]at h2
    rw[h2]at hx
    exact c hx.more
  | succ d=>
   have hlJ:l.length<J.length:=by omega
   rw[A1 (by omega)]
   obtain⟨r,r1,r2⟩:=A8q (N:=N) (W:=W) (s:=s) (L:=L) (F:=F) (R:=R) (A:=A) (B:=B) (w0:=w0) (self:=Py N fu) hne hN hF hJ hlJ hleft hl (fun k hs hk=>Ag3 hN hF hJ hA fu d (l++[k]) _ (by omega) (by simp;omega) (by simp) (A2o hs hleft) (A6y hs hk hl)) N 0 (by omega) (by omega)
   rw[show((0:Nat):Int)-1=-1 from rfl]at r1
   rw[r1]
   simp only[Option.bind_some]
   cases r with
   | inl r=>
    obtain⟨l',g1,g2,g3⟩:=r
    exact⟨_,rfl,r2⟩
   | inr g=>
    obtain⟨g1,g2,g3⟩:=g
    refine⟨_,rfl,r2.1,fun l' hx=>?_⟩
    obtain⟨k,hk,hs,hx'⟩:=(Qq hlJ).1 hx
    exact r2.2 l' k (by omega) hk.2 (hs hleft.1) hx'
structure Bp (can:Nat→Nat→Bool) (A:Nat→Nat→Int) (m:Nat) (J l:List Int):Prop where
 mem:l∈joinsL can m J.length 0 0
 more:valJ A 0 J<valJ A 0 l
theorem Bp.ap{can:Nat→Nat→Bool}{m:Nat}{J l:List Int}(h:Bp can A m J l):0<apL J l∧apL J l≤J.length:=by
 have h1:=Mb J l
 refine⟨?_,h1.2⟩
 rcases Int.lt_or_eq_of_le h1.1 with h2 | h2
 ·exact h2
 ·have:=Ac1 (by rw[(Bt h.mem).1]) h2.symm
  have hm:=h.more
  rw[←this]at hm;omega
theorem changed_v{J:List Int}(hN:110≤N)(hF:F.length≤6)(hJ:J.length≤6)(hJ0:0<J.length)(hA:∀i k,0≤A i k∧A i k≤50)(hJm:J∈joinsL (canT A B s) F.length J.length 0 0){more:Int}(hm:0≤more∧more≤100) :
  ∃r,Mg N (dkT W s L F R A B) J more=some r∧match r with
   | .inl _=>∀l,Bp (canT A B s) A F.length J l→more<apL J l
   | .inr l=>Bp (canT A B s) A F.length J l∧apL J l≤more:=by
 unfold Mg
 rw[Lu hN hA hJ hF (Bt hJm).2]
 simp only[Option.bind_some]
 unfold Aev
 rw[A1 (by omega)]
 obtain⟨r,r1,r2⟩:=A1k (N:=N) (W:=W) (s:=s) (L:=L) (F:=F) (R:=R) (A:=A) (B:=B) (w0:=valJ A 0 J) hN hF hJ hJ0 hm A1m (fun k hs hk=>by
  have:=Ag3 (N:=N) (W:=W) (s:=s) (L:=L) (F:=F) (R:=R) (A:=A) (B:=B) (w0:=valJ A 0 J) hN hF hJ hA N (J.length-1) [k] (nowJ J [] more k) (by omega) (by simp;omega) (by simp) (A2o hs hm) (A6y hs hk A1m)
  exact this) N 0 (by omega) (by omega)
 rw[show((0:Nat):Int)-1=-1 from rfl]at r1
 rw[r1]
 simp only[Option.bind_some]
 cases r with
 | inl r=>
  obtain⟨l',g1,g2,g3⟩:=r
  refine⟨_,rfl,⟨r2.2.mem,r2.2.more⟩,?_⟩
  have:=r2.2.ap
  simpa using this
 | inr g=>
  obtain⟨g1,g2,g3⟩:=g
  refine⟨_,rfl,fun l' hb=>?_⟩
  by_cases h:more<apL J l'
  ·exact h
  ·have hx:ExtJ (canT A B s) A F.length J (valJ A 0 J) [] l' more:=⟨hb.mem,by simp,hb.more,by simpa using Int.not_lt.1 h⟩
   obtain⟨k,hk,hs,hx'⟩:=(Qq (l:=[]) hJ0).1 hx
   exact absurd hx' (r2.2 l' k (by omega) hk.2 (hs hm.1))
theorem V5{J:List Int}(hN:110≤N)(hF:F.length≤6)(hJ:J.length≤6)(hA:∀i k,0≤A i k∧A i k≤50)(hJm:J∈joinsL (canT A B s) F.length J.length 0 0)(hex:∃l,Bp (canT A B s) A F.length J l) :
  ∀n k:Nat,J.length<n+k→(∀l,Bp (canT A B s) A F.length J l→(k:Int)<apL J l)→∃l,change_l1 N n J (dkT W s L F R A B) J.length k=some l∧Bp (canT A B s) A F.length J l∧∀l',Bp (canT A B s) A F.length J l'→apL J l≤apL J l'
 | 0,k,h,hk=>by
  obtain⟨l,hl⟩:=hex
  have:=hk l hl
  have:=hl.ap
  omega
 | n+1,k,h,hk=>by
  unfold change_l1
  have hlt:k<J.length:=by
   obtain⟨l,hl⟩:=hex
   have:=hk l hl
   have:=hl.ap
   omega
  obtain⟨r,r1,r2⟩:=changed_v (N:=N) (W:=W) (s:=s) (L:=L) (F:=F) (R:=R) (A:=A) (B:=B) hN hF hJ (by omega) hA hJm (more:=(k:Int)+1) (by omega)
  rw[A2 (by omega),A3 (by omega),r1]
  simp only[Option.bind_some]
  cases r with
  | inl u=>
   have ih:=V5 hN hF hJ hA hJm hex n (k+1) (by omega) (fun l hl=>by have:=r2 l hl;omega)
   rw[A9]at ih
   dsimp only
   rw[A3 (by omega)]
   exact ih
  | inr l=>
   dsimp only at r2 ⊢
   have hne:l≠[]:=fun e=>by
    have:=(Bt r2.1.mem).1
    rw[e]at this
    simp at this;omega
   rw[Av (by simp[hne])]
   exact⟨l,rfl,r2.1,fun l' hl'=>by have:=hk l' hl';omega⟩
theorem Anx(hN:110≤N)(h:Sm W L F R){J:List Int}(hJ:J.length≤100):∃r,Lq N W s L F R J=some r ∧
  ((errJ (errD W s L F R) L.length F.length (canF W s L F) J≠0∧r=([],errJ (errD W s L F R) L.length F.length (canF W s L F) J)) ∨
  (errJ (errD W s L F R) L.length F.length (canF W s L F) J=0∧((valJ (agF W L F) 0 J=Au W s L F∧r=([],6)) ∨
   (valJ (agF W L F) 0 J<Au W s L F∧r.2=0∧Bp (canF W s L F) (agF W L F) F.length J r.1∧∀l,Bp (canF W s L F) (agF W L F) F.length J l→apL J r.1≤apL J l)))):=by
 unfold Lq
 rw[Yn hN h hJ]
 by_cases c:errJ (errD W s L F R) L.length F.length (canF W s L F) J=0
 rotate_left
 ·rw[if_neg c]
  simp only[Option.bind_some]
  rw[A8 c]
  exact⟨_,rfl,.inl ⟨c,rfl⟩⟩
 obtain⟨c1,c2,c3,_⟩:=Bu c
 have hF:=Ac.1 c1
 have hl6:=hF.l6;have hf6:=hF.f6
 have hm:J∈joinsL (canF W s L F) F.length L.length 0 0:=by rw[c1]at c;exact Eb.1 c
 rw[if_pos c]
 simp only[Option.bind_some]
 rw[A6 (by first | trivial | rfl)]
 unfold dkO
 rw[Lu hN (Al hF) (by omega) hf6 c3]
 simp only[Option.bind_some]
 have e0:=Fv (N:=N) (W:=W) (s:=s) (R:=R) (B:=slF W L F) hN hf6 hl6 (Al hF) (u:=0) (by omega)
 rw[show((0:Nat):Int)=0 from rfl]at e0
 rw[e0]
 simp only[Option.bind_some]
 have ev:(rsR (canT (agF W L F) (slF W L F) s) (agF W L F) F.length L.length 0 0).2.1=Au W s L F:=rfl
 rw[ev]
 by_cases d:valJ (agF W L F) 0 J=Au W s L F
 ·rw[A2 d]
  exact⟨_,rfl,.inr ⟨c,.inl ⟨d,rfl⟩⟩⟩
 rw[A1 d]
 have hlt:valJ (agF W L F) 0 J<Au W s L F:=by have:=Rt hm;omega
 have hex:∃l,Bp (canF W s L F) (agF W L F) F.length J l:=⟨A8e W s L F,by rw[c2];exact G7,by rw[Td];exact hlt⟩
 obtain⟨l,l1,l2,l3⟩:=V5 (N:=N) (W:=W) (s:=s) (L:=L) (F:=F) (R:=R) (A:=agF W L F) (B:=slF W L F) hN hf6 (by omega) (Al hF) (by rw[c2];exact hm) hex N 0 (by omega) (fun l hl=>by have:=hl.ap;omega)
 rw[show((0:Nat):Int)=0 from rfl]at l1
 rw[l1]
 exact⟨_,rfl,.inr ⟨c,.inr ⟨hlt,rfl,l2,l3⟩⟩⟩
def RC(can:Nat→Nat→Bool)(A:Nat→Nat→Int)(m:Nat)(J:List Int)(l:List (List Int))(few:Int):Prop:=
 (few=0∧∀x∈l,¬Bp can A m J x)∨(0<few∧(∃x∈l,Bp can A m J x∧apL J x=few)∧∀x∈l,Bp can A m J x→few≤apL J x)
theorem Qw(hN:110≤N)(h:Fine W s L F R){J:List Int}(hJm:J∈joinsL (canF W s L F) F.length L.length 0 0){l:List (List Int)}(hl:l.length≤100000)(hr:∀r∈l,r∈joinsL (canF W s L F) F.length L.length 0 0):∀(n k:Nat) (few:Int),l.length<n+k→k≤l.length→RC (canF W s L F) (agF W L F) F.length J (l.take k) few →
  ∃f,rchange_l1 N n J l few k W s L F R=some f∧RC (canF W s L F) (agF W L F) F.length J l f
 | 0,k,few,h,_,_=>by omega
 | n+1,k,few,hn,hk,hf=>by
  unfold rchange_l1
  have hl6:=h.l6
  by_cases c:k<l.length
  rotate_left
  ·rw[A1 (by omega)]
   rw[List.take_of_length_le (by omega)]at hf
   exact⟨few,rfl,hf⟩
  have hx:=hr _ (Ab (d:=[]) c)
  obtain⟨j1,j2⟩:=Bt hx
  obtain⟨j3,j4⟩:=Bt hJm
  have hj:∀f,RC (canF W s L F) (agF W L F) F.length J (l.take (k+1)) f→∃f',Cw N (rchange_l1 N n) J l f k W s L F R=some f'∧RC (canF W s L F) (agF W L F) F.length J l f':=fun f hf=>by
   have ih:=Qw hN h hJm hl hr n (k+1) f (by omega) (by omega) hf
   rw[A9]at ih
   unfold Cw
   rw[A3 (by omega)]
   exact ih
  rw[A2 (by omega),idx_eq (by omega) (gets c []),Afm (by omega) (by omega) (by omega)]
  simp only[Option.bind_some]
  rw[idx_eq (by omega) (gets c []),Ez hN h hx,Ez hN h hJm]
  simp only[Option.bind_some]
  rw[Gj c []]at hj
  generalize l.getD k []=x at *
  by_cases c1:valJ (agF W L F) 0 J<valJ (agF W L F) 0 x
  rotate_left
  ·rw[A1 c1]
   refine hj few ?_
   have hnb:¬Bp (canF W s L F) (agF W L F) F.length J x:=fun h=>c1 h.more
   rcases hf with⟨f1,f2⟩ | ⟨f1,⟨y,y1,y2⟩,f3⟩
   ·refine .inl ⟨f1,fun y hy=>?_⟩
    rcases List.mem_append.1 hy with hy | hy
    ·exact f2 y hy
    ·rw[List.mem_singleton.1 hy];exact hnb
   ·refine .inr ⟨f1,⟨y,List.mem_append_left _ y1,y2⟩,fun z hz hb=>?_⟩
    rcases List.mem_append.1 hz with hz | hz
    ·exact f3 z hz hb
    ·rw[List.mem_singleton.1 hz]at hb;exact absurd hb hnb
  have hb:Bp (canF W s L F) (agF W L F) F.length J x:=⟨by rw[j3];exact hx,c1⟩
  have hap:=hb.ap
  rw[A2 c1]
  rcases hf with⟨f1,f2⟩ | ⟨f1,⟨y,y1,y2⟩,f3⟩
  ·rw[A2 f1]
   refine hj _ (.inr ⟨hap.1,⟨x,by simp,hb,rfl⟩,fun z hz hbz=>?_⟩)
   rcases List.mem_append.1 hz with hz | hz
   ·exact absurd hbz (f2 z hz)
   ·rw[List.mem_singleton.1 hz];exact Int.le_refl _
  ·rw[A1 (by omega)]
   by_cases c2:apL J x<few
   ·rw[A2 c2]
    refine hj _ (.inr ⟨hap.1,⟨x,by simp,hb,rfl⟩,fun z hz hbz=>?_⟩)
    rcases List.mem_append.1 hz with hz | hz
    ·have:=f3 z hz hbz;omega
    ·rw[List.mem_singleton.1 hz];exact Int.le_refl _
   ·rw[A1 c2]
    refine hj _ (.inr ⟨f1,⟨y,List.mem_append_left _ y1,y2⟩,fun z hz hbz=>?_⟩)
    rcases List.mem_append.1 hz with hz | hz
    ·exact f3 z hz hbz
    ·rw[List.mem_singleton.1 hz];omega
theorem Aim(hN:110≤N)(h:Sm W L F R)(hp:(F.length+1) ^ L.length<N∨¬errD W s L F R=0)(hp2:(F.length+1) ^ L.length≤100000∨¬errD W s L F R=0){J:List Int}(hJ:J.length≤100):∃r,N1 N W s L F R J=some r ∧
  ((errJ (errD W s L F R) L.length F.length (canF W s L F) J≠0∧r=(0,errJ (errD W s L F R) L.length F.length (canF W s L F) J)) ∨
  (errJ (errD W s L F R) L.length F.length (canF W s L F) J=0∧(((∀l,¬Bp (canF W s L F) (agF W L F) F.length J l)∧r=(0,6)) ∨
   (r.2=0∧(∃l,Bp (canF W s L F) (agF W L F) F.length J l∧apL J l=r.1)∧∀l,Bp (canF W s L F) (agF W L F) F.length J l→r.1≤apL J l)))):=by
 unfold N1
 rw[Ii hN h hJ]
 simp only[Option.bind_some]
 by_cases c:errJ (errD W s L F R) L.length F.length (canF W s L F) J=0
 rotate_left
 ·rw[A8 c]
  exact⟨_,rfl,.inl ⟨c,rfl⟩⟩
 obtain⟨c1,c2,c3,_⟩:=Bu c
 have hF:=Ac.1 c1
 have hm:J∈joinsL (canF W s L F) F.length L.length 0 0:=by rw[c1]at c;exact Eb.1 c
 have hp':(F.length+1) ^ L.length<N:=hp.resolve_right (fun h=>h c1)
 have hp2':(F.length+1) ^ L.length≤100000:=hp2.resolve_right (fun h=>h c1)
 have hlen:(allR W s L F).length≤(F.length+1) ^ L.length:=by
  rw[←Br];exact List.length_filter_le _ _
 rw[A6 c,Aq3 hN hF hp' hp2']
 simp only[Option.bind_some]
 obtain⟨f,f1,f2⟩:=Qw hN hF hm (l:=allR W s L F) (by omega) (fun r hr=>Dn.1 hr) N 0 0 (by omega) (by omega) (.inl ⟨rfl,fun x hx=>by simp at hx⟩)
 rw[show((0:Nat):Int)=0 from rfl]at f1
 rw[f1]
 simp only[Option.bind_some]
 have hmem:∀l,Bp (canF W s L F) (agF W L F) F.length J l→l∈allR W s L F:=fun l hl=>Dn.2 (by have:=hl.mem;rw[c2]at this;exact this)
 rcases f2 with⟨g1,g2⟩ | ⟨g1,⟨y,y1,y2,y3⟩,g3⟩
 ·rw[A2 g1]
  exact⟨_,rfl,.inr ⟨c,.inl ⟨fun l hl=>g2 l (hmem l hl) hl,rfl⟩⟩⟩
 ·rw[A1 (by omega)]
  exact⟨_,rfl,.inr ⟨c,.inr ⟨rfl,⟨y,y2,y3⟩,fun l hl=>g3 l (hmem l hl) hl⟩⟩⟩
end
end Go.Proofs.YthncjilcflilcaaGreat

namespace Go.Proofs.YthncjilcflilcaaGreat
set_option linter.all false
open Go

section
variable {W:List Int} {s:Int} {L F:List (List Int)} {R:List Int} {A B:Nat→Nat→Int} {N:Nat}
def cutA(A:Nat→Nat→Int)(a b:Nat)(i k:Nat):Int:=if i=a∧k=b then 0 else A i k
theorem Apt{a b:Nat}(ha:a<6)(hb:b<6):(tabA (fun x=>A (x / 6) (x % 6))).set (a*6+b) 0=tabA (fun x=>cutA A a b (x / 6) (x % 6)):=by
 rw[Xe]
 refine Acf fun x hx=>?_
 unfold upd cutA
 by_cases e:x=a*6+b
 ·rw[if_pos e,if_pos (by omega)]
 ·rw[if_neg e,if_neg (by omega)]
theorem A5t{a b i k:Nat}:canT (cutA A a b) B s i k=(canT A B s i k&&!decide (i=a∧k=b)):=by
 unfold canT cutA
 by_cases e:i=a∧k=b
 ·rw[if_pos e,decide_eq_true e];simp
 ·rw[if_neg e,decide_eq_false e];simp
theorem A5v{m n a b:Nat}(ha:a<n){l:List Int}:l∈joinsL (canT (cutA A a b) B s) m n 0 0↔l∈joinsL (canT A B s) m n 0 0∧fnJ l a≠b:=by
 rw[T5,T5]
 constructor
 ·rintro ⟨h1,h2,h3⟩
  refine⟨⟨h1,⟨fun i hi=>?_,h2.inj⟩,h3⟩,fun e=>?_⟩
  ·rcases h2.ok i hi with h | ⟨k,x,y,z⟩
   ·exact .inl h
   ·rw[A5t,Bool.and_eq_true]at z
    exact .inr ⟨k,x,y,z.1⟩
  ·rcases h2.ok a ha with h | ⟨k,x,y,z⟩
   ·omega
   ·rw[A5t,Bool.and_eq_true,Bool.not_eq_true',decide_eq_false_iff_not]at z
    exact z.2 ⟨rfl,by omega⟩
 ·rintro ⟨⟨h1,h2,h3⟩,hne⟩
  refine⟨h1,⟨fun i hi=>?_,h2.inj⟩,h3⟩
  rcases h2.ok i hi with h | ⟨k,x,y,z⟩
  ·exact .inl h
  ·refine .inr ⟨k,x,y,?_⟩
   rw[A5t,z,Bool.true_and,Bool.not_eq_true',decide_eq_false_iff_not]
   rintro ⟨rfl,rfl⟩
   exact hne x
theorem Wk{n a b:Nat}{l:List Int}(hl:l.length=n)(hne:fnJ l a≠b)(hb:∀i,i<n→-1≤fnJ l i):valJ (cutA A a b) 0 l=valJ A 0 l:=by
 rw[A3b hl,A3b hl]
 refine Bq fun i hi=>?_
 have h1:=hb i hi
 unfold pv
 split
 ·rfl
 ·unfold cutA
  rw[if_neg]
  rintro ⟨rfl,h⟩
  exact hne (by omega)
theorem Ai3(hA:∀i k,0≤A i k∧A i k≤50)(a b i k:Nat):0≤cutA A a b i k∧cutA A a b i k≤50:=by
 unfold cutA
 split
 ·omega
 ·exact hA i k
def Ag5(W:List Int)(s:Int)(L F:List (List Int))(a b:Nat):Int:=
 if(B0 W s L F).countP (fun l=>decide (fnJ l a=b))=(B0 W s L F).length then 1 else if(B0 W s L F).countP (fun l=>decide (fnJ l a=b))=0 then 2 else 0
theorem A1f:0<(B0 W s L F).length:=List.length_pos_of_mem (E1.2 ⟨G7,Td⟩)
theorem Ph{can:Nat→Nat→Bool}{m n:Nat}{l:List Int}(h:l∈joinsL can m n 0 0):∀i,i<n→-1≤fnJ l i:=fun i hi=>by
 obtain⟨_,h2,_⟩:=T5.1 h
 rcases h2.ok i hi with h | ⟨k,h,_⟩<;>omega
theorem Aj9{a b:Nat}(ha:a<L.length) :
  ((rsR (canT (cutA (agF W L F) a b) (slF W L F) s) (cutA (agF W L F) a b) F.length L.length 0 0).2.1<Au W s L F∧(B0 W s L F).countP (fun l=>decide (fnJ l a=b))=(B0 W s L F).length) ∨
  ((rsR (canT (cutA (agF W L F) a b) (slF W L F) s) (cutA (agF W L F) a b) F.length L.length 0 0).2.1=Au W s L F∧(rsR (canT (cutA (agF W L F) a b) (slF W L F) s) (cutA (agF W L F) a b) F.length L.length 0 0).2.2=(B0 W s L F).length-(B0 W s L F).countP (fun l=>decide (fnJ l a=b))∧(B0 W s L F).countP (fun l=>decide (fnJ l a=b))<(B0 W s L F).length):=by
 have hb:=T2 (can:=canT (cutA (agF W L F) a b) (slF W L F) s) (t:=cutA (agF W L F) a b) (m:=F.length) L.length 0 0
 obtain⟨q1,q2,q3⟩:=Hq (can:=canT (cutA (agF W L F) a b) (slF W L F) s) (t:=cutA (agF W L F) a b) (m:=F.length) L.length 0 0
 have hm:=Am.2 ⟨q2,q1⟩
 obtain⟨m1,m2⟩:=(A5v ha).1 hm
 have hv:valJ (agF W L F) 0 (blR (canT (cutA (agF W L F) a b) (slF W L F) s) (cutA (agF W L F) a b) F.length L.length 0 0)=(rsR (canT (cutA (agF W L F) a b) (slF W L F) s) (cutA (agF W L F) a b) F.length L.length 0 0).2.1:=by
  rw[←q3,Wk q2 m2 (Ph m1)]
 have hle:=Rt m1
 rw[hv]at hle
 -- best joins without the pair
 have hsplit:(B0 W s L F).length=(B0 W s L F).countP (fun l=>decide (fnJ l a=b))+(B0 W s L F).countP (fun l=>!decide (fnJ l a=b)):=by
  have:=List.length_eq_countP_add_countP (fun l=>decide (fnJ l a=b)) (l:=B0 W s L F)
  rw[this]
  congr 1
  refine List.countP_congr fun l _=>?_
  by_cases e:fnJ l a=b<;>simp[e]
 have hwo:∀l∈B0 W s L F,fnJ l a≠b→Au W s L F≤(rsR (canT (cutA (agF W L F) a b) (slF W L F) s) (cutA (agF W L F) a b) F.length L.length 0 0).2.1:=fun l hl hne=>by
  obtain⟨l1,l2⟩:=E1.1 hl
  have:=hb.le l ((A5v ha).2 ⟨l1,hne⟩)
  rw[Wk (Bt l1).1 hne (Ph l1),l2]at this
  exact this
 by_cases c:(rsR (canT (cutA (agF W L F) a b) (slF W L F) s) (cutA (agF W L F) a b) F.length L.length 0 0).2.1<Au W s L F
 ·refine .inl ⟨c,?_⟩
  rw[List.countP_eq_length]
  intro l hl
  rw[decide_eq_true_eq]
  by_cases e:fnJ l a=b
  ·exact e
  ·have:=hwo l hl e;omega
 ·have hV:(rsR (canT (cutA (agF W L F) a b) (slF W L F) s) (cutA (agF W L F) a b) F.length L.length 0 0).2.1=Au W s L F:=by omega
  have hways:=hb.ways
  have hc:(joinsL (canT (cutA (agF W L F) a b) (slF W L F) s) F.length L.length 0 0).countP (fun l=>decide (valJ (cutA (agF W L F) a b) 0 l=(rsR (canT (cutA (agF W L F) a b) (slF W L F) s) (cutA (agF W L F) a b) F.length L.length 0 0).2.1))=(B0 W s L F).countP (fun l=>!decide (fnJ l a=b)):=by
   rw[hV]
   unfold B0
   rw[List.countP_filter]
   rw[List.countP_eq_length_filter,List.countP_eq_length_filter]
   refine((List.perm_ext_iff_of_nodup (List.Pairwise.filter _ (Fp _ _ _)) (List.Pairwise.filter _ Xh)).2 fun l=>?_).length_eq
   rw[List.mem_filter,List.mem_filter,Dn,A5v ha,decide_eq_true_eq,Bool.and_eq_true,Bool.not_eq_true',decide_eq_false_iff_not,decide_eq_true_eq]
   constructor
   ·rintro ⟨⟨x1,x2⟩,x3⟩
    rw[Wk (Bt x1).1 x2 (Ph x1)]at x3
    exact⟨x1,x2,x3⟩
   ·rintro ⟨x1,x2,x3⟩
    exact⟨⟨x1,x2⟩,by rw[Wk (Bt x1).1 x2 (Ph x1)];exact x3⟩
  rw[hc]at hways
  refine .inr ⟨hV,by omega,?_⟩
  have:0<(B0 W s L F).countP (fun l=>!decide (fnJ l a=b)):=by
   rw[List.countP_pos_iff]
   exact⟨_,E1.2 ⟨m1,by rw[hv,hV]⟩,by rw[Bool.not_eq_true',decide_eq_false_iff_not];exact m2⟩
  omega
theorem Agq(hN:110≤N)(h:Sm W L F R)(a b:Int):Jn N W s L F R a b=some (if errD W s L F R=0 then if ¬(0≤a∧a≤(L.length:Int)-1)then(0,1)else if ¬(0≤b∧b≤(F.length:Int)-1)then(0,1)else(Ag5 W s L F a.toNat b.toNat,0)else(0,errD W s L F R)):=by
 unfold Jn
 rw[Bo hN h]
 by_cases c:errD W s L F R=0
 rotate_left
 ·rw[if_neg c,if_neg c]
  simp only[Option.bind_some]
  rw[A8 c]
 have hF:=Ac.1 c
 have hl6:=hF.l6;have hf6:=hF.f6
 rw[if_pos c,if_pos c]
 simp only[Option.bind_some]
 rw[A6 (by first | trivial | rfl)]
 unfold dkO
 rw[A4u (by omega),J2 (by omega)]
 simp only[Option.bind_some]
 by_cases c1:0≤a∧a≤(L.length:Int)-1
 rotate_left
 ·rw[A8 c1,if_pos c1]
 rw[A6 c1,if_neg (not_not_intro c1)]
 by_cases c2:0≤b∧b≤(F.length:Int)-1
 rotate_left
 ·rw[A8 c2,if_pos c2]
 rw[A6 c2,if_neg (not_not_intro c2)]
 obtain⟨i,rfl⟩:∃i:Nat,a=i:=⟨a.toNat,(Int.toNat_of_nonneg c1.1).symm⟩
 obtain⟨k,rfl⟩:∃k:Nat,b=k:=⟨b.toNat,(Int.toNat_of_nonneg c2.1).symm⟩
 have e0:=Fv (N:=N) (W:=W) (s:=s) (R:=R) (B:=slF W L F) hN hf6 hl6 (Al hF) (u:=0) (by omega)
 have e1:=Fv (N:=N) (W:=W) (s:=s) (R:=R) (A:=cutA (agF W L F) i k) (B:=slF W L F) hN hf6 hl6 (Ai3 (Al hF) i k) (u:=0) (by omega)
 rw[show((0:Nat):Int)=0 from rfl]at e0 e1
 rw[e0]
 simp only[Option.bind_some]
 rw[Ag (by omega),Ag (by omega)]
 simp only[Int.toNat_natCast]
 rw[Pt (by omega) (by omega)]
 have ed:(((dkT W s L F R (agF W L F) (slF W L F)).1,(dkT W s L F R (agF W L F) (slF W L F)).2.1,(dkT W s L F R (agF W L F) (slF W L F)).2.2.1,(dkT W s L F R (agF W L F) (slF W L F)).2.2.2.1,(dkT W s L F R (agF W L F) (slF W L F)).2.2.2.2.1,(dkT W s L F R (agF W L F) (slF W L F)).2.2.2.2.2.1.set (i*6+k) 0,(dkT W s L F R (agF W L F) (slF W L F)).2.2.2.2.2.2.1,()):Dk)=dkT W s L F R (cutA (agF W L F) i k) (slF W L F):=by
  unfold dkT
  dsimp only
  rw[Apt (by omega) (by omega)]
 rw[ed,e1]
 simp only[Option.bind_some]
 have ev:(rsR (canT (agF W L F) (slF W L F) s) (agF W L F) F.length L.length 0 0).2.1=Au W s L F:=rfl
 have en:(rsR (canT (agF W L F) (slF W L F) s) (agF W L F) F.length L.length 0 0).2.2=A3g W s L F:=rfl
 rw[ev,en,←Ma]
 have hpos:=A1f (W:=W) (s:=s) (L:=L) (F:=F)
 unfold Ag5
 rcases Aj9 (W:=W) (s:=s) (L:=L) (F:=F) (a:=i) (b:=k) (by omega)with⟨f1,f2⟩ | ⟨f1,f2,f3⟩
 ·rw[A2 f1,if_pos f2]
 ·have hn:¬((rsR (canT (cutA (agF W L F) i k) (slF W L F) s) (cutA (agF W L F) i k) F.length L.length 0 0).2.1<Au W s L F):=by omega
  rw[A1 hn,f2,if_neg (by omega)]
  by_cases d:(B0 W s L F).countP (fun l=>decide (fnJ l i=(k:Int)))=0
  ·rw[if_pos d,d,A2 (by omega)]
  ·rw[if_neg d,A1 (by omega)]
theorem Aa6{α:Type}{p:α→Bool}{l:List α}{k:Nat}(c:k<l.length)(d:α):(l.take (k+1)).countP p=(l.take k).countP p+(if p (l.getD k d)=true then 1 else 0):=by
 rw[Gj c d,List.countP_append,List.countP_cons,List.countP_nil,Nat.zero_add]
theorem Un{l:List (List Int)}(hl:l.length≤100000){a b:Nat}(ha:∀r∈l,a<r.length):∀(n k:Nat),l.length<n+k→k≤l.length→rfates_l1 N n l a b ((l.take k).countP (fun r=>decide (fnJ r a=b)):Nat) k=some (l,((l.countP (fun r=>decide (fnJ r a=b)):Nat):Int))
 | 0,k,h,_=>by omega
 | n+1,k,hn,hk=>by
  unfold rfates_l1
  by_cases c:k<l.length
  ·have ih:=Un hl ha (b:=b) n (k+1) (by omega) (by omega)
   rw[A9,Aa6 c []]at ih
   have hlen:=List.countP_le_length (p:=fun r=>decide (fnJ r a=b)) (l:=l.take k)
   rw[List.length_take]at hlen
   have hx:=ha _ (Ab (d:=[]) c)
   rw[A2 (by omega),idx_eq (by omega) (gets c []),idx_eq (by omega) (gets hx 0),Ef hx]
   unfold N8
   by_cases e:fnJ (l.getD k []) a=b
   ·rw[if_pos (decide_eq_true e)]at ih
    rw[A2 e,A3 (by omega),A3 (by omega),←ih]
    congr 1
   ·rw[if_neg (by rw[decide_eq_true_eq];exact e),Nat.add_zero]at ih
    rw[A1 e,A3 (by omega),ih]
  ·rw[A1 (by omega),List.take_of_length_le (by omega)]
theorem A78(hlen:(B0 W s L F).length≤100000)(hlN:(B0 W s L F).length<N){a b:Nat}(ha:a<L.length):rfates_S N (B0 W s L F) a b=some (Ag5 W s L F a b):=by
 have e:=Un (N:=N) (l:=B0 W s L F) hlen (a:=a) (b:=b) (fun r hr=>by have:=(Bt (E1.1 hr).1).1;omega) N 0 (by omega) (by omega)
 rw[List.take_zero,List.countP_nil,show((0:Nat):Int)=0 from rfl]at e
 unfold rfates_S
 rw[e]
 simp only[Option.bind_some]
 unfold Ag5
 by_cases c1:(B0 W s L F).countP (fun r=>decide (fnJ r a=(b:Int)))=(B0 W s L F).length
 ·rw[A2 (by omega),if_pos c1]
 ·rw[A1 (by omega),if_neg c1]
  by_cases c2:(B0 W s L F).countP (fun r=>decide (fnJ r a=(b:Int)))=0
  ·rw[A2 (by omega),if_pos c2]
  ·rw[A1 (by omega),if_neg c2]
def rmF(F:List (List Int))(k:Nat):List (List Int):=F.take k++F.drop (k+1)
theorem Pa{k:Nat}(hk:k<F.length):(rmF F k).length=F.length-1:=by
 unfold rmF
 rw[List.length_append,List.length_take,List.length_drop];omega
theorem Ago{k:Nat}(hk:k<F.length)(y:Nat):(rmF F k).getD y []=F.getD (up k y) []:=by
 unfold rmF up
 by_cases h:y<k
 ·rw[if_pos h]
  simp[List.getD,List.getElem?_append_left (show y<(F.take k).length by simp;omega),List.getElem?_take_of_lt h]
 ·rw[if_neg h]
  simp only[List.getD]
  rw[List.getElem?_append_right (by simp;omega),List.getElem?_drop]
  congr 2
  simp;omega
theorem Ag9{k:Nat}:∀r∈rmF F k,r∈F:=fun r hr=>by
 unfold rmF at hr
 rcases List.mem_append.1 hr with h | h
 ·exact List.mem_of_mem_take h
 ·exact List.mem_of_mem_drop h
theorem Fine.rmF(h:Fine W s L F R){k:Nat}(hk:k<F.length):Fine W s L (Proofs.YthncjilcflilcaaGreat.rmF F k) R:=by
 have:=Pa hk
 have hf:=h.f6
 exact⟨h.w1,h.w5,h.l6,by omega,h.lw,fun x hx=>h.fw x (Ag9 x hx),h.rl,h.w,h.s,h.r,h.lv,fun r hr=>h.fv r (Ag9 r hr)⟩
theorem Md{k y n:Nat}(hk:k<n):y<n-1↔up k y<n:=by unfold up;split<;>omega
theorem Alq{k:Nat}(hk:k<F.length):agF W L (rmF F k)=fun i y=>agF W L F i (up k y):=by
 funext i y
 unfold agF
 rw[Pa hk,Ago hk]
 by_cases c:i<L.length∧y<F.length-1
 ·rw[if_pos c,if_pos ⟨c.1,(Md hk).1 c.2⟩]
 ·rw[if_neg c,if_neg (fun h=>c ⟨h.1,(Md hk).2 h.2⟩)]
theorem Aqd{k:Nat}(hk:k<F.length):slF W L (rmF F k)=fun i y=>slF W L F i (up k y):=by
 funext i y
 unfold slF
 rw[Pa hk,Ago hk]
 by_cases c:i<L.length∧y<F.length-1
 ·rw[if_pos c,if_pos ⟨c.1,(Md hk).1 c.2⟩]
 ·rw[if_neg c,if_neg (fun h=>c ⟨h.1,(Md hk).2 h.2⟩)]
theorem Aoi{k:Nat}(hk:k<F.length):canF W s L (rmF F k)=fun i y=>canF W s L F i (up k y):=by
 funext i y
 unfold canF canT
 rw[Alq hk,Aqd hk]
theorem Ami{k:Nat}(hk:k<F.length):Au W s L (rmF F k)=vK W s L F k:=by
 have h1:=A5q (W:=W) (s:=s) (L:=L) (F:=rmF F k)
 rw[Alq hk,Aoi hk,Pa hk]at h1
 exact(Ex.rmF hk h1).uniq (Af5 k)
def Dd(W:List Int)(s:Int)(L F:List (List Int))(n:Nat):List Int:=((List.range n).filter fun k=>decide (vK W s L F k=Au W s L F)).map fun(k:Nat)=>(k:Int)
theorem Vz(n:Nat):Dd W s L F (n+1)=Dd W s L F n++(if vK W s L F n=Au W s L F then [(n:Int)]else []):=by
 unfold Dd
 rw[List.range_succ,List.filter_append,List.map_append]
 congr 1
 rw[List.filter_cons]
 by_cases h:vK W s L F n=Au W s L F
 ·rw[if_pos (decide_eq_true h),if_pos h];rfl
 ·rw[if_neg (by rw[decide_eq_true_eq];exact h),if_neg h];rfl
theorem On(n:Nat):(Dd W s L F n).length≤n:=by
 have:=List.length_filter_le (fun k=>decide (vK W s L F k=Au W s L F)) (List.range n)
 simpa [Dd]using this
theorem X1(hN:110≤N)(h:Fine W s L F R):∀n k:Nat,F.length<n+k→k≤F.length→Gc N n (dkO W s L F R) F.length k (Dd W s L F k)=some (Dd W s L F F.length)
 | 0,k,hn,_=>by omega
 | n+1,k,hn,hk=>by
  unfold Gc
  have hf6:=h.f6;have hl6:=h.l6
  by_cases c:k<F.length
  ·have ih:=X1 hN h n (k+1) (by omega) (by omega)
   rw[A9,Vz]at ih
   obtain⟨q,hq,p1,p2⟩:=E0 (k:=k) (by omega)
   have hlen:=On (W:=W) (s:=s) (L:=L) (F:=F) k
   have e1:=Fv (N:=N) (W:=W) (s:=s) (R:=R) (B:=slF W L F) hN hf6 hl6 (Al h) (u:=q) p2
   have e0:=Fv (N:=N) (W:=W) (s:=s) (R:=R) (B:=slF W L F) hN hf6 hl6 (Al h) (u:=0) (by omega)
   rw[show((0:Nat):Int)=0 from rfl]at e0
   rw[A2 (by omega),Av (by rw[decide_eq_true_eq];omega),p1,A3 (by omega),show C0 N (dkO W s L F R) (q:Int)=_ from e1]
   simp only[Option.bind_some]
   rw[show C0 N (dkO W s L F R) 0=_ from e0]
   simp only[Option.bind_some]
   subst hq
   have ev:(rsR (canT (agF W L F) (slF W L F) s) (agF W L F) F.length L.length 0 0).2.1=Au W s L F:=rfl
   have ek:(rsR (canT (agF W L F) (slF W L F) s) (agF W L F) F.length L.length 0 (2 ^ k)).2.1=vK W s L F k:=rfl
   rw[ev,ek]
   unfold Qd
   by_cases d:vK W s L F k=Au W s L F
   ·rw[if_pos d]at ih
    rw[A2 d,Ay (by simp;omega),A3 (by omega),ih]
   ·rw[if_neg d,List.append_nil]at ih
    rw[A1 d,A3 (by omega),ih]
  ·obtain rfl:k=F.length:=by omega
   rw[A1 (by omega)]
theorem Aov(hN:110≤N)(h:Sm W L F R):Wf N W s L F R=some (if errD W s L F R=0 then(Dd W s L F F.length,0)else([],errD W s L F R)):=by
 unfold Wf
 rw[Bo hN h]
 by_cases c:errD W s L F R=0
 rotate_left
 ·rw[if_neg c,if_neg c]
  simp only[Option.bind_some]
  rw[A8 c]
 have hF:=Ac.1 c
 have e:=X1 hN hF N 0 (by have:=hF.f6;omega) (by omega)
 rw[show((0:Nat):Int)=0 from rfl,show Dd W s L F 0=[]from rfl]at e
 rw[if_pos c,if_pos c]
 simp only[Option.bind_some]
 rw[A6 (by first | trivial | rfl),e];rfl
theorem Vw(hN:110≤N)(h:Fine W s L F R)(hp:(F.length+1) ^ L.length<N)(hp2:(F.length+1) ^ L.length≤100000):∀n k:Nat,F.length<n+k→k≤F.length→Dz N n (Au W s L F) k W s L F R (Dd W s L F k)=some (Dd W s L F F.length)
 | 0,k,hn,_=>by omega
 | n+1,k,hn,hk=>by
  unfold Dz
  have hf6:=h.f6;have hl6:=h.l6
  by_cases c:k<F.length
  ·have ih:=Vw hN h hp hp2 n (k+1) (by omega) (by omega)
   rw[A9,Vz]at ih
   have hlen:=On (W:=W) (s:=s) (L:=L) (F:=F) k
   have hpow:((rmF F k).length+1) ^ L.length≤(F.length+1) ^ L.length:=Nat.pow_le_pow_left (by rw[Pa c];omega) _
   have er:(([]:List (List Int))++F.take k)++F.drop (k+1)=rmF F k:=rfl
   rw[A2 (by omega),Av (by rw[decide_eq_true_eq];omega),Ay (by simp;omega),A3 (by omega),Av (by rw[decide_eq_true_eq];omega),Ay (by simp;omega)]
   simp only[Int.toNat_natCast,show((k:Int)+1).toNat=k+1 by omega]
   rw[er,Mk hN (h.rmF c) (by omega) (by omega)]
   simp only[Option.bind_some]
   rw[Ami c]
   unfold Mc
   by_cases d:vK W s L F k=Au W s L F
   ·rw[if_pos d]at ih
    rw[A2 d,Ay (by simp;omega),A3 (by omega),ih]
   ·rw[if_neg d,List.append_nil]at ih
    rw[A1 d,A3 (by omega),ih]
  ·obtain rfl:k=F.length:=by omega
   rw[A1 (by omega)]
theorem Ao3(hN:110≤N)(h:Sm W L F R)(hp:(F.length+1) ^ L.length<N∨¬errD W s L F R=0)(hp2:(F.length+1) ^ L.length≤100000∨¬errD W s L F R=0):Pk N W s L F R=some (if errD W s L F R=0 then(Dd W s L F F.length,0)else([],errD W s L F R)):=by
 unfold Pk
 rw[Ca hN h]
 simp only[Option.bind_some]
 by_cases c:errD W s L F R=0
 rotate_left
 ·rw[A8 c,if_neg c]
 have hF:=Ac.1 c
 have hp':=hp.resolve_right (fun h=>h c)
 have hp2':=hp2.resolve_right (fun h=>h c)
 have e:=Vw hN hF hp' hp2' N 0 (by have:=hF.f6;omega) (by omega)
 rw[show((0:Nat):Int)=0 from rfl,show Dd W s L F 0=[]from rfl]at e
 rw[A6 c,if_pos c,Mk hN hF hp' hp2']
 simp only[Option.bind_some]
 rw[e];rfl
theorem A02(hN:110≤N)(h:Sm W L F R)(a b:Int):ragree_S N W s L F R a b=some (if errD W s L F R=0 then if ¬(0≤a∧a≤(L.length:Int)-1)then(0,0,false,1)else if ¬(0≤b∧b≤(F.length:Int)-1)then(0,0,false,1)else(agF W L F a.toNat b.toNat,slF W L F a.toNat b.toNat,canF W s L F a.toNat b.toNat,0)else(0,0,false,errD W s L F R)):=by
 have hl:=h.l;have hf:=h.f
 unfold ragree_S
 rw[Ca hN h]
 simp only[Option.bind_some]
 by_cases c:errD W s L F R=0
 rotate_left
 ·rw[A8 c,if_neg c]
 have hF:=Ac.1 c
 rw[A6 c,if_pos c,A3 (by omega),Ho]
 simp only[Option.bind_some]
 by_cases c1:0≤a∧a≤(L.length:Int)-1
 rotate_left
 ·rw[A8 c1,if_pos c1]
 rw[A6 c1,if_neg (not_not_intro c1),A3 (by omega),Ho]
 simp only[Option.bind_some]
 by_cases c2:0≤b∧b≤(F.length:Int)-1
 rotate_left
 ·rw[A8 c2,if_pos c2]
 rw[A6 c2,if_neg (not_not_intro c2)]
 obtain⟨i,rfl⟩:∃i:Nat,a=i:=⟨a.toNat,(Int.toNat_of_nonneg c1.1).symm⟩
 obtain⟨k,rfl⟩:∃k:Nat,b=k:=⟨b.toNat,(Int.toNat_of_nonneg c2.1).symm⟩
 rw[K6 hN hF (by omega) (by omega)];rfl
end
end Go.Proofs.YthncjilcflilcaaGreat

namespace Go.Proofs.YthncjilcflilcaaGreat
set_option linter.all false
open Go

section
variable {W:List Int} {s:Int} {L F:List (List Int)} {R:List Int} {N:Nat}
def setF(F:List (List Int))(k t:Nat)(v:Int):List (List Int):=F.set k ((F.getD k []).set t v)
theorem Ab8(k t:Nat)(v:Int):(setF F k t v).length=F.length:=by simp[setF]
theorem Abs{k t:Nat}{v:Int}:∀r∈setF F k t v,r∈F∨r=(F.getD k []).set t v:=fun r hr=>List.mem_or_eq_of_mem_set hr
theorem Fine.setF(h:Fine W s L F R){k t:Nat}{v:Int}(hk:k<F.length)(hv:0≤v∧v≤5):Fine W s L (Proofs.YthncjilcflilcaaGreat.setF F k t v) R:=by
 have hm:=Ab (d:=[]) hk
 have hl:=Ab8 (F:=F) k t v
 have hf:=h.f6
 refine⟨h.w1,h.w5,h.l6,by omega,h.lw,fun x hx=>?_,h.rl,h.w,h.s,h.r,h.lv,fun r hr x hx=>?_⟩
 ·rcases Abs x hx with hx | rfl
  ·exact h.fw x hx
  ·rw[List.length_set];exact h.fw _ hm
 ·rcases Abs r hr with hr | rfl
  ·exact h.fv r hr x hx
  ·rcases List.mem_or_eq_of_mem_set hx with hx | rfl
   ·exact h.fv _ hm x hx
   ·omega
theorem Agz{l:List Int}(hl:l.length≤1000000):Hy N l=some l:=by
 unfold Hy
 rw[Ay hl]
theorem copied{α:Type}(l:List α)(d:α):l.take (min l.length (List.replicate (l.length:Int).toNat d).length)++(List.replicate (l.length:Int).toNat d).drop (min l.length (List.replicate (l.length:Int).toNat d).length)=l:=by simp
theorem Agy(h:Fine W s L F R){k t:Nat}(hk:k<F.length)(ht:t<W.length)(v:Int):Ji N W s L F R k t v=some (W,s,L,setF F k t v,R):=by
 have h1:=h.w1;have h2:=h.w5;have h3:=h.l6;have h4:=h.f6;have h5:=h.rl
 have hr:=h.fw _ (Ab (d:=[]) hk)
 have hne:∀r:List Int,r.length=W.length→r≠[]∧r.length≤1000000:=fun r e=>⟨fun e2=>by subst e2;simp at e;omega,by omega⟩
 unfold Ji
 rw[Agz (by omega)]
 simp only[Option.bind_some]
 rw[Av (K1.2 (by omega)),Av (K1.2 (by omega)),Agz (by omega)]
 simp only[Option.bind_some]
 rw[copied,copied]
 unfold Ku Pb
 rw[if_pos ⟨⟨by omega,by omega,by simp only[Int.toNat_natCast];omega⟩,fun r hr=>hne r (h.lw r hr),fun r hr=>hne r (h.fw r hr)⟩]
 simp only[Int.toNat_natCast]
 rfl
theorem Ard(hN:110≤N)(h:Sm W L F R)(a t v:Int):with__S N W s L F R a t v=some (if errD W s L F R=0 then if ¬(0≤a∧a≤(F.length:Int)-1)then([],0,[],[],[],1)else if ¬(0≤t∧t≤(W.length:Int)-1)then([],0,[],[],[],1)else
  if ¬(F.getD a.toNat []).getD t.toNat 0=-1 then([],0,[],[],[],5)else if ¬(0≤v∧v≤5)then([],0,[],[],[],3)else(W,s,L,setF F a.toNat t.toNat v,R,0)else([],0,[],[],[],errD W s L F R)):=by
 unfold with__S
 rw[Bo hN h]
 by_cases c:errD W s L F R=0
 rotate_left
 ·rw[if_neg c,if_neg c]
  simp only[Option.bind_some]
  rw[A8 c]
 have hF:=Ac.1 c
 have h1:=hF.w1;have h2:=hF.w5;have h4:=hF.f6
 rw[if_pos c,if_pos c]
 simp only[Option.bind_some]
 rw[A6 (by first | trivial | rfl)]
 unfold dkO
 rw[J2 (by omega)]
 simp only[Option.bind_some]
 by_cases c1:0≤a∧a≤(F.length:Int)-1
 rotate_left
 ·rw[A8 c1,if_pos c1]
 rw[A6 c1,if_neg (not_not_intro c1),A3 (by omega),in_v]
 simp only[Option.bind_some]
 by_cases c2:0≤t∧t≤(W.length:Int)-1
 rotate_left
 ·rw[A8 c2,if_pos c2]
 rw[A6 c2,if_neg (not_not_intro c2)]
 obtain⟨k,rfl⟩:∃k:Nat,a=k:=⟨a.toNat,(Int.toNat_of_nonneg c1.1).symm⟩
 obtain⟨t,rfl⟩:∃k:Nat,t=k:=⟨t.toNat,(Int.toNat_of_nonneg c2.1).symm⟩
 have hk:k<F.length:=by omega
 have ht:t<W.length:=by omega
 have hr:=hF.fw _ (Ab (d:=[]) hk)
 simp only[Int.toNat_natCast]
 rw[idx_eq (by omega) (gets hk []),idx_eq (by omega) (gets (by omega) 0)]
 by_cases c3:(F.getD k []).getD t 0=-1
 rotate_left
 ·rw[A8 c3,if_pos c3]
 rw[A6 c3,if_neg (not_not_intro c3),in_v]
 simp only[Option.bind_some]
 by_cases c4:0≤v∧v≤5
 rotate_left
 ·rw[A8 c4,if_pos c4]
 rw[A6 c4,if_neg (not_not_intro c4),Agy hF hk ht]
 rfl
def maxN(f:Nat→Int):Nat→Int
 | 0=>0
 | n+1=>max (maxN f n) (f n)
theorem Afx{f:Nat→Int}:∀ {n i:Nat},i<n→f i≤maxN f n
 | 0,i,h=>by omega
 | n+1,i,h=>by
  unfold maxN
  by_cases e:i=n
  ·subst e;omega
  ·have:=Afx (f:=f) (n:=n) (i:=i) (by omega);omega
def wK(W:List Int)(s:Int)(L F:List (List Int))(k t:Nat)(v:Nat):Int:=A3g W s L (setF F k t v)
def mK(W:List Int)(s:Int)(L F:List (List Int))(k t:Nat):Int:=maxN (wK W s L F k t) 6
theorem Ajc:0<A3g W s L F:=by rw[←Ma];have:=A1f (W:=W) (s:=s) (L:=L) (F:=F);omega
theorem Xg{k t:Nat}:0<mK W s L F k t:=by
 have:=Afx (f:=wK W s L F k t) (n:=6) (i:=0) (by omega)
 have h2:0<wK W s L F k t 0:=Ajc
 unfold mK;omega
theorem A8f(hN:110≤N)(h:Fine W s L F R){k t:Nat}(hk:k<F.length)(ht:t<W.length){fo tr mo u2 u3 u5 u6:Int}{u:List (List Int)}{u4:List Int}:∀(n v:Nat),6<n+v→v≤6 →
  ask_l3 N n fo tr mo k t (maxN (wK W s L F k t) v) u u2 u3 u4 u5 u6 v W s L F R=some (fo,tr,mo,(k:Int),(t:Int),mK W s L F k t,u,u2,u3,u4,u5,u6,W,s,L,F,R)
 | 0,v,hn,hv=>by omega
 | n+1,v,hn,hv=>by
  unfold ask_l3
  by_cases c:v<6
  ·have ih:=A8f hN h hk ht (fo:=fo) (tr:=tr) (mo:=mo) (u:=u) (u2:=u2) (u3:=u3) (u4:=u4) (u5:=u5) (u6:=u6) n (v+1) (by omega) (by omega)
   rw[A9]at ih
   have hF:Fine W s L (setF F k t v) R:=h.setF hk (by omega)
   rw[A2 (by omega),Agy h hk ht]
   simp only[Option.bind_some]
   rw[Aa3 hN hF]
   simp only[Option.bind_some]
   unfold dkO
   have e0:=Fv (N:=N) (W:=W) (s:=s) (R:=R) (B:=slF W L (setF F k t v)) hN hF.f6 hF.l6 (Al hF) (u:=0) (by omega)
   rw[show((0:Nat):Int)=0 from rfl]at e0
   rw[e0]
   simp only[Option.bind_some]
   rw[A3 (by omega)]
   exact ih
  ·obtain rfl:v=6:=by omega
   rw[A1 (by omega)]
   rfl
def opn(F:List (List Int))(k t:Nat):Prop:=k<F.length∧t<(F.getD k []).length∧(F.getD k []).getD t 0=-1
def lexL(k t k2 t2:Nat):Prop:=k<k2∨(k=k2∧t<t2)
def AskI(W:List Int)(s:Int)(L F:List (List Int))(k0 t0:Nat)(fo tr mo:Int):Prop:=
 (fo=0∧tr=0∧mo=0∧∀k t,opn F k t→¬lexL k t k0 t0) ∨
 (∃f r:Nat,fo=f∧tr=r∧opn F f r∧lexL f r k0 t0∧mo=mK W s L F f r∧∀k t,opn F k t→lexL k t k0 t0→mo≤mK W s L F k t∧(mK W s L F k t=mo→¬lexL k t f r))
theorem AskI.closed{k t:Nat}{fo tr mo:Int}(h:AskI W s L F k t fo tr mo)(ho:¬opn F k t):AskI W s L F k (t+1) fo tr mo:=by
 have key:∀a b,opn F a b→lexL a b k (t+1)→lexL a b k t:=fun a b h1 h2=>by
  rcases h2 with h2 | ⟨rfl,h2⟩
  ·exact .inl h2
  ·by_cases e:b=t
   ·subst e;exact absurd h1 ho
   ·exact .inr ⟨rfl,by omega⟩
 rcases h with⟨h1,h2,h3,h4⟩ | ⟨f,r,h1,h2,h3,h4,h5,h6⟩
 ·exact .inl ⟨h1,h2,h3,fun a b ha hb=>h4 a b ha (key a b ha hb)⟩
 ·exact .inr ⟨f,r,h1,h2,h3,by rcases h4 with h | h;exact .inl h;exact .inr ⟨h.1,by omega⟩,h5,fun a b ha hb=>h6 a b ha (key a b ha hb)⟩
theorem AskI.row{k t:Nat}{fo tr mo:Int}(h:AskI W s L F k t fo tr mo)(ht:(F.getD k []).length≤t):AskI W s L F (k+1) 0 fo tr mo:=by
 have key:∀a b,opn F a b→lexL a b (k+1) 0→lexL a b k t:=fun a b h1 h2=>by
  rcases h2 with h2 | ⟨rfl,h2⟩
  ·by_cases e:a=k
   ·subst e;exact .inr ⟨rfl,by have:=h1.2.1;omega⟩
   ·exact .inl (by omega)
  ·omega
 rcases h with⟨h1,h2,h3,h4⟩ | ⟨f,r,h1,h2,h3,h4,h5,h6⟩
 ·exact .inl ⟨h1,h2,h3,fun a b ha hb=>h4 a b ha (key a b ha hb)⟩
 ·exact .inr ⟨f,r,h1,h2,h3,.inl (by rcases h4 with h | h<;>omega),h5,fun a b ha hb=>h6 a b ha (key a b ha hb)⟩
theorem AskI.take{k t:Nat}{fo tr mo:Int}(h:AskI W s L F k t fo tr mo)(ho:opn F k t)(hm:mo=0∨mK W s L F k t<mo):AskI W s L F k (t+1) k t (mK W s L F k t):=by
 refine .inr ⟨k,t,rfl,rfl,ho,.inr ⟨rfl,by omega⟩,rfl,fun a b ha hb=>?_⟩
 have hq:=Xg (W:=W) (s:=s) (L:=L) (F:=F) (k:=k) (t:=t)
 by_cases e:lexL a b k t
 ·rcases h with⟨h1,h2,h3,h4⟩ | ⟨f,r,h1,h2,h3,h4,h5,h6⟩
  ·exact absurd e (h4 a b ha)
  ·have h7:=h6 a b ha e
   have h8:=Xg (W:=W) (s:=s) (L:=L) (F:=F) (k:=f) (t:=r)
   exact⟨by omega,fun e2=>by omega⟩
 ·have:a=k∧b=t:=by
   rcases hb with hb | ⟨rfl,hb⟩
   ·exact absurd (.inl hb) e
   ·refine⟨rfl,?_⟩
    by_cases e2:b=t
    ·exact e2
    ·exact absurd (.inr ⟨rfl,by omega⟩) e
  obtain⟨rfl,rfl⟩:=this
  exact⟨Int.le_refl _,fun _=>e⟩
theorem AskI.pass{k t:Nat}{fo tr mo:Int}(h:AskI W s L F k t fo tr mo)(hm:¬mo=0)(hm2:¬mK W s L F k t<mo):AskI W s L F k (t+1) fo tr mo:=by
 rcases h with⟨h1,h2,h3,h4⟩ | ⟨f,r,h1,h2,h3,h4,h5,h6⟩
 ·exact absurd h3 hm
 ·refine .inr ⟨f,r,h1,h2,h3,by rcases h4 with h | h;exact .inl h;exact .inr ⟨h.1,by omega⟩,h5,fun a b ha hb=>?_⟩
  by_cases e:lexL a b k t
  ·exact h6 a b ha e
  ·have:a=k∧b=t:=by
    rcases hb with hb | ⟨rfl,hb⟩
    ·exact absurd (.inl hb) e
    ·refine⟨rfl,?_⟩
     by_cases e2:b=t
     ·exact e2
     ·exact absurd (.inr ⟨rfl,by omega⟩) e
   obtain⟨rfl,rfl⟩:=this
   refine⟨by omega,fun _ hx=>?_⟩
   rcases h4 with h | h<;>rcases hx with hx | hx<;>omega
theorem Aat(hN:110≤N)(h:Fine W s L F R){k:Nat}(hk:k<F.length){u2 u3:Int}{u:List (List Int)}:∀(n t:Nat) (fo tr mo:Int),W.length<n+t→t≤W.length→AskI W s L F k t fo tr mo →
  ∃fo' tr' mo',AskI W s L F (k+1) 0 fo' tr' mo'∧ask_l2 N n fo tr mo k u u2 u3 (F.getD k []) ((F.getD k []).length:Int) t W s L F R=some (fo',tr',mo',u,u2,u3,W,s,L,F,R)
 | 0,t,fo,tr,mo,hn,ht,_=>by omega
 | n+1,t,fo,tr,mo,hn,ht,hI=>by
  unfold ask_l2
  have hr:=h.fw _ (Ab (d:=[]) hk)
  have hw5:=h.w5
  by_cases c:t<W.length
  ·have hj:∀fo tr mo,AskI W s L F k (t+1) fo tr mo→∃fo' tr' mo',AskI W s L F (k+1) 0 fo' tr' mo'∧O9 N (ask_l2 N n) fo tr mo k u u2 u3 (F.getD k []) ((F.getD k []).length:Int) t W s L F R=some (fo',tr',mo',u,u2,u3,W,s,L,F,R):=fun fo tr mo hI=>by
    obtain⟨a,b,d,h1,h2⟩:=Aat hN h hk (u:=u) (u2:=u2) (u3:=u3) n (t+1) fo tr mo (by omega) (by omega) hI
    rw[A9]at h2
    refine⟨a,b,d,h1,?_⟩
    unfold O9
    rw[A3 (by omega),h2]
   rw[A2 (by omega),idx_eq (by omega) (gets (by omega) 0)]
   by_cases c1:(F.getD k []).getD t 0=-1
   rotate_left
   ·rw[A8 c1]
    exact hj _ _ _ (hI.closed fun ho=>c1 ho.2.2)
   have e:=A8f hN h hk c (fo:=fo) (tr:=tr) (mo:=mo) (u:=u) (u2:=u2) (u3:=u3) (u4:=F.getD k []) (u5:=((F.getD k []).length:Int)) (u6:=(t:Int)) N 0 (by omega) (by omega)
   rw[show((0:Nat):Int)=0 from rfl,show maxN (wK W s L F k t) 0=0 from rfl]at e
   rw[A6 c1,e]
   simp only[Option.bind_some]
   have ho:opn F k t:=⟨hk,by omega,c1⟩
   by_cases c2:mo=0
   ·rw[A2 c2]
    exact hj _ _ _ (hI.take ho (.inl c2))
   rw[A1 c2]
   by_cases c3:mK W s L F k t<mo
   ·rw[A2 c3]
    exact hj _ _ _ (hI.take ho (.inr c3))
   ·rw[A1 c3]
    exact hj _ _ _ (hI.pass c2 c3)
  ·rw[A1 (by omega)]
   exact⟨fo,tr,mo,hI.row (by omega),rfl⟩
theorem Abr(hN:110≤N)(h:Fine W s L F R):∀(n k:Nat) (fo tr mo:Int),F.length<n+k→k≤F.length→AskI W s L F k 0 fo tr mo →
  ∃r,AskI W s L F F.length 0 r.1 r.2.1 r.2.2∧ask_l1 N n fo tr mo F F.length k W s L F R=some r
 | 0,k,fo,tr,mo,hn,hk,_=>by omega
 | n+1,k,fo,tr,mo,hn,hk,hI=>by
  unfold ask_l1
  have hf6:=h.f6;have hw5:=h.w5
  by_cases c:k<F.length
  ·obtain⟨a,b,d,h1,h2⟩:=Aat hN h c (u:=F) (u2:=(F.length:Int)) (u3:=(k:Int)) N 0 fo tr mo (by omega) (by omega) hI
   rw[show((0:Nat):Int)=0 from rfl]at h2
   obtain⟨r,h3,h4⟩:=Abr hN h n (k+1) a b d (by omega) (by omega) h1
   rw[A9]at h4
   rw[A2 (by omega),idx_eq (by omega) (gets c []),h2]
   simp only[Option.bind_some]
   rw[A3 (by omega)]
   exact⟨r,h3,h4⟩
  ·obtain rfl:k=F.length:=by omega
   rw[A1 (by omega)]
   exact⟨_,hI,rfl⟩
def AskR(W:List Int)(s:Int)(L F:List (List Int))(r:Int×Int×Int×Int):Prop:=
 (r=(0,0,0,6)∧∀k t,¬opn F k t) ∨
 (∃f t:Nat,r=(↑f,↑t,mK W s L F f t,0)∧opn F f t∧∀k x,opn F k x→mK W s L F f t≤mK W s L F k x∧(mK W s L F k x=mK W s L F f t→¬lexL k x f t))
theorem AskR.eq{r q:Int×Int×Int×Int}(h:AskR W s L F r)(h2:AskR W s L F q):r=q:=by
 rcases h with⟨rfl,h⟩ | ⟨f,t,rfl,ho,hm⟩
 ·rcases h2 with⟨rfl,_⟩ | ⟨f2,t2,rfl,ho2,_⟩
  ·rfl
  ·exact absurd ho2 (h _ _)
 ·rcases h2 with⟨rfl,h2⟩ | ⟨f2,t2,rfl,ho2,hm2⟩
  ·exact absurd ho (h2 _ _)
  ·have a:=hm _ _ ho2
   have b:=hm2 _ _ ho
   have e:mK W s L F f t=mK W s L F f2 t2:=by omega
   have a2:=a.2 e.symm
   have b2:=b.2 e
   have:f=f2∧t=t2:=by unfold lexL at a2 b2;omega
   obtain⟨rfl,rfl⟩:=this
   rfl
theorem Arz(hN:110≤N)(h:Sm W L F R):∃r,A9d N W s L F R=some r∧(if errD W s L F R=0 then AskR W s L F r else r=(0,0,0,errD W s L F R)):=by
 unfold A9d
 rw[A5g hN h]
 simp only[Option.bind_some]
 by_cases c:errD W s L F R=0
 rotate_left
 ·rw[A8 c]
  exact⟨_,rfl,by rw[if_neg c]⟩
 have hF:=Ac.1 c
 have hf6:=hF.f6
 rw[A6 c]
 obtain⟨r,h1,h2⟩:=Abr hN hF N 0 0 0 0 (by omega) (by omega) (.inl ⟨rfl,rfl,rfl,fun k t _ hl=>by unfold lexL at hl;omega⟩)
 rw[show((0:Nat):Int)=0 from rfl]at h2
 rw[h2]
 simp only[Option.bind_some,if_pos c]
 rcases h1 with⟨e1,e2,e3,e4⟩ | ⟨f,t,e1,e2,e3,e4,e5,e6⟩
 ·rw[A2 e3]
  exact⟨_,rfl,.inl ⟨rfl,fun k t ho=>e4 k t ho (.inl ho.1)⟩⟩
 ·have hp:=Xg (W:=W) (s:=s) (L:=L) (F:=F) (k:=f) (t:=t)
  rw[A1 (show ¬r.2.2=0 by rw[e5];omega)]
  refine⟨_,rfl,.inr ⟨f,t,by rw[e1,e2,e5],e3,fun k x ho=>?_⟩⟩
  have:=e6 k x ho (.inl ho.1)
  rw[e5]at this
  exact this
end
end Go.Proofs.YthncjilcflilcaaGreat

namespace Go.Proofs.YthncjilcflilcaaGreat
set_option linter.all false
open Go
theorem H5:Ao 1100=some true:=by kernel_rfl
end Go.Proofs.YthncjilcflilcaaGreat

namespace Go.Proofs.YthncjilcflilcaaGreat
set_option linter.all false
open Go

section
variable {W:List Int} {s:Int} {L F:List (List Int)} {R:List Int} {N:Nat}
theorem A49(hN:110≤N)(h:Sm W L F R)(a t v:Int):Fm N W s L F R a t v=some (if errD W s L F R=0 then if ¬(0≤a∧a≤(F.length:Int)-1)then([],0,[],[],[],1)else if ¬(0≤t∧t≤(W.length:Int)-1)then([],0,[],[],[],1)else
  if ¬(F.getD a.toNat []).getD t.toNat 0=-1 then([],0,[],[],[],5)else if ¬(0≤v∧v≤5)then([],0,[],[],[],3)else(W,s,L,setF F a.toNat t.toNat v,R,0)else([],0,[],[],[],errD W s L F R)):=by
 unfold Fm
 rw[Ca hN h]
 simp only[Option.bind_some]
 by_cases c:errD W s L F R=0
 rotate_left
 ·rw[if_neg c,A8 c]
 have hF:=Ac.1 c
 have h1:=hF.w1;have h2:=hF.w5;have h4:=hF.f6
 rw[if_pos c,A6 c,A3 (by omega),Ho]
 simp only[Option.bind_some]
 by_cases c1:0≤a∧a≤(F.length:Int)-1
 rotate_left
 ·rw[A8 c1,if_pos c1]
 rw[A6 c1,if_neg (not_not_intro c1),A3 (by omega),Ho]
 simp only[Option.bind_some]
 by_cases c2:0≤t∧t≤(W.length:Int)-1
 rotate_left
 ·rw[A8 c2,if_pos c2]
 rw[A6 c2,if_neg (not_not_intro c2)]
 obtain⟨k,rfl⟩:∃k:Nat,a=k:=⟨a.toNat,(Int.toNat_of_nonneg c1.1).symm⟩
 obtain⟨t,rfl⟩:∃k:Nat,t=k:=⟨t.toNat,(Int.toNat_of_nonneg c2.1).symm⟩
 have hk:k<F.length:=by omega
 have ht:t<W.length:=by omega
 have hm:=Ab (d:=[]) hk
 have hr:=hF.fw _ hm
 have hv:=hF.fv _ hm _ (Ab (d:=0) (show t<(F.getD k []).length by omega))
 simp only[Int.toNat_natCast]
 rw[idx_eq (by omega) (gets hk []),idx_eq (by omega) (gets (by omega) 0)]
 by_cases c3:(F.getD k []).getD t 0=-1
 rotate_left
 ·rw[A2 (by omega),if_pos c3]
 rw[A1 (by omega),if_neg (not_not_intro c3),Ho]
 simp only[Option.bind_some]
 by_cases c4:0≤v∧v≤5
 rotate_left
 ·rw[A8 c4,if_pos c4]
 have hne:∀r:List Int,r.length=W.length→r≠[]∧r.length≤1000000:=fun r e=>⟨fun e2=>by subst e2;simp at e;omega,by omega⟩
 rw[A6 c4,if_neg (not_not_intro c4)]
 unfold M4 Rc
 rw[if_pos ⟨⟨by omega,by omega,by simp only[Int.toNat_natCast];omega⟩,by omega,fun r hr=>hne r (hF.fw r hr)⟩]
 simp only[Int.toNat_natCast]
 rfl
def Few(N:Nat)(L F:List (List Int)):Prop:=(F.length+1) ^ L.length<N∧(F.length+1) ^ L.length≤100000
theorem A2u(hN:110≤N)(h:Fine W s L F R)(hp:Few N L F){k t:Nat}(hk:k<F.length)(ht:t<W.length)(c:(F.getD k []).getD t 0=-1){fo tr mo:Int}:∀(n v:Nat),6<n+v→v≤6 →
  rask_l3 N n fo tr mo k t (maxN (wK W s L F k t) v) v W s L F R=some (fo,tr,mo,(k:Int),(t:Int),mK W s L F k t,W,s,L,F,R)
 | 0,v,hn,hv=>by omega
 | n+1,v,hn,hv=>by
  unfold rask_l3
  have hw5:=h.w5;have hf6:=h.f6
  by_cases d:v<6
  ·have ih:=A2u hN h hp hk ht c (fo:=fo) (tr:=tr) (mo:=mo) n (v+1) (by omega) (by omega)
   rw[A9]at ih
   have hF:Fine W s L (setF F k t v) R:=h.setF hk (by omega)
   have hfl:=Ab8 (F:=F) k t (v:Int)
   rw[A2 (by omega),A49 hN h.sm,if_pos (Ac.2 h),if_neg (by omega),if_neg (by omega)]
   simp only[Int.toNat_natCast]
   rw[if_neg (not_not_intro c),if_neg (by omega)]
   simp only[Option.bind_some]
   rw[A2 (by first | trivial | rfl),Mk hN hF (by rw[hfl];exact hp.1) (by rw[hfl];exact hp.2)]
   simp only[Option.bind_some]
   unfold R6
   rw[A3 (by omega),Ma]
   exact ih
  ·obtain rfl:v=6:=by omega
   rw[A1 (by omega)]
   rfl
theorem A1c(hN:110≤N)(h:Fine W s L F R){k t:Nat}(hk:k<F.length)(ht:t<W.length)(c:¬(F.getD k []).getD t 0=-1){fo tr mo:Int}:∀(n v:Nat),6<n+v→v≤6 →
  rask_l3 N n fo tr mo k t 0 v W s L F R=some (fo,tr,mo,(k:Int),(t:Int),0,W,s,L,F,R)
 | 0,v,hn,hv=>by omega
 | n+1,v,hn,hv=>by
  unfold rask_l3
  have hw5:=h.w5;have hf6:=h.f6
  by_cases d:v<6
  ·have ih:=A1c hN h hk ht c (fo:=fo) (tr:=tr) (mo:=mo) n (v+1) (by omega) (by omega)
   rw[A9]at ih
   rw[A2 (by omega),A49 hN h.sm,if_pos (Ac.2 h),if_neg (by omega),if_neg (by omega)]
   simp only[Int.toNat_natCast]
   rw[if_pos c]
   simp only[Option.bind_some]
   rw[A1 (by decide)]
   unfold R6
   rw[A3 (by omega)]
   exact ih
  ·obtain rfl:v=6:=by omega
   rw[A1 (by omega)]
theorem A2m(hN:110≤N)(h:Fine W s L F R)(hp:Few N L F){k:Nat}(hk:k<F.length):∀(n t:Nat) (fo tr mo:Int),W.length<n+t→t≤W.length→AskI W s L F k t fo tr mo →
  ∃fo' tr' mo',AskI W s L F (k+1) 0 fo' tr' mo'∧rask_l2 N n fo tr mo k t W s L F R=some (fo',tr',mo',(k:Int),W,s,L,F,R)
 | 0,t,fo,tr,mo,hn,ht,_=>by omega
 | n+1,t,fo,tr,mo,hn,ht,hI=>by
  unfold rask_l2
  have hr:=h.fw _ (Ab (d:=[]) hk)
  have hw5:=h.w5
  by_cases c:t<W.length
  ·have hj:∀fo tr mo,AskI W s L F k (t+1) fo tr mo→∃fo' tr' mo',AskI W s L F (k+1) 0 fo' tr' mo'∧K4 N (rask_l2 N n) fo tr mo k t W s L F R=some (fo',tr',mo',(k:Int),W,s,L,F,R):=fun fo tr mo hI=>by
    obtain⟨a,b,d,h1,h2⟩:=A2m hN h hp hk n (t+1) fo tr mo (by omega) (by omega) hI
    rw[A9]at h2
    refine⟨a,b,d,h1,?_⟩
    unfold K4
    rw[A3 (by omega),h2]
   rw[A2 (by omega)]
   by_cases c1:(F.getD k []).getD t 0=-1
   rotate_left
   ·have e:=A1c hN h hk c c1 (fo:=fo) (tr:=tr) (mo:=mo) N 0 (by omega) (by omega)
    rw[show((0:Nat):Int)=0 from rfl]at e
    rw[e]
    simp only[Option.bind_some]
    rw[A1 (by omega)]
    exact hj _ _ _ (hI.closed fun ho=>c1 ho.2.2)
   have e:=A2u hN h hp hk c c1 (fo:=fo) (tr:=tr) (mo:=mo) N 0 (by omega) (by omega)
   rw[show((0:Nat):Int)=0 from rfl,show maxN (wK W s L F k t) 0=0 from rfl]at e
   rw[e]
   simp only[Option.bind_some]
   have ho:opn F k t:=⟨hk,by omega,c1⟩
   have hp:=Xg (W:=W) (s:=s) (L:=L) (F:=F) (k:=k) (t:=t)
   rw[A2 hp]
   by_cases c2:mo=0
   ·rw[A2 c2]
    exact hj _ _ _ (hI.take ho (.inl c2))
   rw[A1 c2]
   by_cases c3:mK W s L F k t<mo
   ·rw[A2 c3]
    exact hj _ _ _ (hI.take ho (.inr c3))
   ·rw[A1 c3]
    exact hj _ _ _ (hI.pass c2 c3)
  ·rw[A1 (by omega)]
   exact⟨fo,tr,mo,hI.row (by omega),rfl⟩
theorem A2l(hN:110≤N)(h:Fine W s L F R)(hp:Few N L F):∀(n k:Nat) (fo tr mo:Int),F.length<n+k→k≤F.length→AskI W s L F k 0 fo tr mo →
  ∃r,AskI W s L F F.length 0 r.1 r.2.1 r.2.2∧rask_l1 N n fo tr mo k W s L F R=some r
 | 0,k,fo,tr,mo,hn,hk,_=>by omega
 | n+1,k,fo,tr,mo,hn,hk,hI=>by
  unfold rask_l1
  have hf6:=h.f6;have hw5:=h.w5
  by_cases c:k<F.length
  ·obtain⟨a,b,d,h1,h2⟩:=A2m hN h hp c N 0 fo tr mo (by omega) (by omega) hI
   rw[show((0:Nat):Int)=0 from rfl]at h2
   obtain⟨r,h3,h4⟩:=A2l hN h hp n (k+1) a b d (by omega) (by omega) h1
   rw[A9]at h4
   rw[A2 (by omega),h2]
   simp only[Option.bind_some]
   rw[A3 (by omega)]
   exact⟨r,h3,h4⟩
  ·obtain rfl:k=F.length:=by omega
   rw[A1 (by omega)]
   exact⟨_,hI,rfl⟩
theorem Ar4(hN:110≤N)(h:Sm W L F R)(hp:errD W s L F R=0→Few N L F):∃r,A3u N W s L F R=some r∧(if errD W s L F R=0 then AskR W s L F r else r=(0,0,0,errD W s L F R)):=by
 unfold A3u
 rw[Ca hN h]
 simp only[Option.bind_some]
 by_cases c:errD W s L F R=0
 rotate_left
 ·rw[A8 c]
  exact⟨_,rfl,by rw[if_neg c]⟩
 have hF:=Ac.1 c
 have hf6:=hF.f6
 rw[A6 c]
 obtain⟨r,h1,h2⟩:=A2l hN hF (hp c) N 0 0 0 0 (by omega) (by omega) (.inl ⟨rfl,rfl,rfl,fun k t _ hl=>by unfold lexL at hl;omega⟩)
 rw[show((0:Nat):Int)=0 from rfl]at h2
 rw[h2]
 simp only[Option.bind_some,if_pos c]
 rcases h1 with⟨e1,e2,e3,e4⟩ | ⟨f,t,e1,e2,e3,e4,e5,e6⟩
 ·rw[A2 e3]
  exact⟨_,rfl,.inl ⟨rfl,fun k t ho=>e4 k t ho (.inl ho.1)⟩⟩
 ·have hp:=Xg (W:=W) (s:=s) (L:=L) (F:=F) (k:=f) (t:=t)
  rw[A1 (show ¬r.2.2=0 by rw[e5];omega)]
  refine⟨_,rfl,.inr ⟨f,t,by rw[e1,e2,e5],e3,fun k x ho=>?_⟩⟩
  have:=e6 k x ho (.inl ho.1)
  rw[e5]at this
  exact this
end
theorem Aex{W:List Int}{s:Int}{L F:List (List Int)}{R:List Int}(_:Ty.inB (.pair (.sl (.int .i64)) (.pair (.int .i64) (.pair (.sl (.sl (.int .i64))) (.pair (.sl (.sl (.int .i64))) (.sl (.int .i64)))))) (W,s,L,F,R)):A3z 1100 W s L F R=some true:=by
 have aw:((Ao 1100).bind fun x=>some x)=some true:=by rw[H5];rfl
 unfold A3z
 rcases N0 (N:=1100) (W:=W) (s:=s) (L:=L) (F:=F) (R:=R) (by omega)with e | ⟨e,hs⟩
 ·rw[e]
  simp only[Option.bind_some]
  rw[Ah];exact aw
 rw[e]
 simp only[Option.bind_some]
 rw[Ad]
 rcases Acy (N:=1100) (W:=W) (s:=s) (L:=L) (F:=F) (R:=R) 3 with h2 | ⟨h2,w1,w2⟩
 ·rw[h2]
  simp only[Option.bind_some]
  rw[Ah];exact aw
 rw[h2]
 simp only[Option.bind_some]
 rw[Ad,Nc (by omega) hs]
 simp only[Option.bind_some]
 have hp:errD W s L F R=0→Few 1100 L F:=fun c=>by
  have hF:=Ac.1 c
  have h1:=hF.l6;have h2:=hF.f6
  have:=Ti (a:=F.length) (b:=L.length) (by omega) (by omega)
  exact⟨by omega,by omega⟩
 obtain⟨r,e1,r1⟩:=Arz (N:=1100) (by omega) hs
 obtain⟨q,e2,r2⟩:=Ar4 (N:=1100) (by omega) hs hp
 have:r=q:=by
  by_cases c:errD W s L F R=0
  ·rw[if_pos c]at r1 r2
   exact r1.eq r2
  ·rw[if_neg c]at r1 r2
   rw[r1,r2]
 subst this
 rw[e1]
 simp only[Option.bind_some]
 rw[e2]
 simp only[Option.bind_some]
 rw[A2 (by first | trivial | rfl),A2 (by first | trivial | rfl),A2 (by first | trivial | rfl),A2 (by first | trivial | rfl),K0 (by omega) hs]
 simp only[Option.bind_some]
 rw[Ah];exact aw
end Go.Proofs.YthncjilcflilcaaGreat

namespace Go.Proofs.YthncjilcflilcaaGreat
set_option linter.all false
open Go

section
variable {W:List Int} {s:Int} {L F:List (List Int)} {R:List Int} {N:Nat}
theorem A9w{l:List Int}(hl:l.length≤1000000):Ej N l=some l:=by
 unfold Ej
 rw[Ay hl]
theorem Akg(h:Fine W s L F R)(f t v:Int):Gq N W s L F R f t v=some (f,t,v,0,s,W,L,F,R):=by
 have h1:=h.w1;have h2:=h.w5;have h3:=h.l6;have h4:=h.f6;have h5:=h.rl
 unfold Gq
 rw[A9w (by omega)]
 simp only[Option.bind_some]
 rw[Av (K1.2 (by omega)),Av (K1.2 (by omega)),A9w (by omega)]
 simp only[Option.bind_some]
 rw[copied,copied]
 rfl
theorem Aob(hN:110≤N)(h:Fine W s L F R){k t:Nat}{v:Int}(hk:k<F.length)(ht:t<W.length)(c3:(F.getD k []).getD t 0=-1)(c4:0≤v∧v≤5):withp_S N W s L F R k t v=some ((k:Int),(t:Int),v,W,s,L,F,R,0):=by
 unfold withp_S
 have h1:=h.w1;have h2:=h.w5;have h4:=h.f6
 have hr:=h.fw _ (Ab (d:=[]) hk)
 rw[Aa3 hN h]
 simp only[Option.bind_some]
 rw[A6 (by first | trivial | rfl)]
 unfold dkO
 rw[J2 (by omega)]
 simp only[Option.bind_some]
 rw[A6 (by omega),A3 (by omega),in_v]
 simp only[Option.bind_some]
 rw[A6 (by omega),idx_eq (by omega) (gets hk []),idx_eq (by omega) (gets (by omega) 0),A6 c3,in_v]
 simp only[Option.bind_some]
 rw[A6 c4]
 rfl
theorem Arl(hN:110≤N)(h:Sm W L F R)(f t v:Int):∃r,with__S N W s L F R f t v=some r∧Fm N W s L F R f t v=some r∧Dq N r.1 r.2.1 r.2.2.1 r.2.2.2.1 r.2.2.2.2.1 r.1 r.2.1 r.2.2.1 r.2.2.2.1 r.2.2.2.2.1=some true∧fwOK N W s L F R f t v r:=by
 have zero:∀e:Int,Dq N ([]:List Int) 0 ([]:List (List Int)) ([]:List (List Int)) ([]:List Int) [] 0 [] [] []=some true:=fun _=>K0 hN ⟨by simp,by simp,by simp,by simp,fun _ h=>(by cases h),fun _ h=>(by cases h)⟩
 rw[Ard hN h,A49 hN h]
 by_cases c:errD W s L F R=0
 rotate_left
 ·rw[if_neg c]
  exact⟨_,rfl,rfl,zero 0,.inl ⟨rfl,rfl,rfl,rfl,rfl⟩⟩
 have hF:=Ac.1 c
 have h1:=hF.w1;have h2:=hF.w5;have h4:=hF.f6;have h3:=hF.l6
 rw[if_pos c]
 by_cases c1:0≤f∧f≤(F.length:Int)-1
 rotate_left
 ·rw[if_pos c1]
  exact⟨_,rfl,rfl,zero 0,.inl ⟨rfl,rfl,rfl,rfl,rfl⟩⟩
 rw[if_neg (not_not_intro c1)]
 by_cases c2:0≤t∧t≤(W.length:Int)-1
 rotate_left
 ·rw[if_pos c2]
  exact⟨_,rfl,rfl,zero 0,.inl ⟨rfl,rfl,rfl,rfl,rfl⟩⟩
 rw[if_neg (not_not_intro c2)]
 obtain⟨k,rfl⟩:∃k:Nat,f=k:=⟨f.toNat,(Int.toNat_of_nonneg c1.1).symm⟩
 obtain⟨u,rfl⟩:∃k:Nat,t=k:=⟨t.toNat,(Int.toNat_of_nonneg c2.1).symm⟩
 have hk:k<F.length:=by omega
 have ht:u<W.length:=by omega
 have hr:=hF.fw _ (Ab (d:=[]) hk)
 have hne:∀r:List Int,r.length=W.length→r≠[]∧r.length≤1000000:=fun r e=>⟨fun e2=>by subst e2;simp at e;omega,by omega⟩
 simp only[Int.toNat_natCast]
 by_cases c3:(F.getD k []).getD u 0=-1
 rotate_left
 ·rw[if_pos c3]
  exact⟨_,rfl,rfl,zero 0,.inl ⟨rfl,rfl,rfl,rfl,rfl⟩⟩
 rw[if_neg (not_not_intro c3)]
 by_cases c4:0≤v∧v≤5
 rotate_left
 ·rw[if_pos c4]
  exact⟨_,rfl,rfl,zero 0,.inl ⟨rfl,rfl,rfl,rfl,rfl⟩⟩
 rw[if_neg (not_not_intro c4)]
 have hF2:Fine W s L (setF F k u v) R:=hF.setF hk c4
 exact⟨_,rfl,rfl,K0 hN hF2.sm,.inr ⟨k,u,rfl,rfl,rfl,Aob hN hF hk ht c3 c4,Akg hF _ _ _,fun r hr=>hne r (hF.lw r hr),fun r hr=>hne r (hF.fw r hr),hk,by omega⟩⟩
end
theorem Aeh{W:List Int}{s:Int}{L F:List (List Int)}{R:List Int}{f t v:Int}(_:Ty.inB (.pair (.sl (.int .i64)) (.pair (.int .i64) (.pair (.sl (.sl (.int .i64))) (.pair (.sl (.sl (.int .i64))) (.sl (.int .i64)))))) (W,s,L,F,R))(_:Ty.inB (.int .i64) f)(_:Ty.inB (.int .i64) t)(_:Ty.inB (.int .i64) v):Qm 1100 W s L F R f t v=some true:=by
 have aw:((Ao 1100).bind fun x=>some x)=some true:=by rw[H5];rfl
 unfold Qm
 rcases N0 (N:=1100) (W:=W) (s:=s) (L:=L) (F:=F) (R:=R) (by omega)with e | ⟨e,hs⟩
 ·rw[e]
  simp only[Option.bind_some]
  rw[Ah];exact aw
 rw[e]
 simp only[Option.bind_some]
 rw[Ad,Nc (by omega) hs]
 simp only[Option.bind_some]
 obtain⟨r,h1,h2,h3,h4⟩:=Arl (N:=1100) (s:=s) (by omega) hs f t v
 unfold Ks
 rw[h1,h2]
 simp only[Option.bind_some]
 rw[if_pos ⟨rfl,h3,h4⟩]
 unfold Q1
 rw[K0 (by omega) hs]
 simp only[Option.bind_some]
 rw[Ah];exact aw
end Go.Proofs.YthncjilcflilcaaGreat

namespace Go.Proofs.YthncjilcflilcaaGreat
set_option linter.all false
open Go

abbrev Arm:Ty:=.pair (.sl (.int .i64)) (.pair (.int .i64) (.pair (.sl (.sl (.int .i64))) (.pair (.sl (.sl (.int .i64))) (.sl (.int .i64)))))
theorem A6o{W:List Int}{s:Int}{L F:List (List Int)}{R:List Int}{l p q:List Int}(_:Ty.inB Arm (W,s,L,F,R))(_:Ty.inB (.sl (.int .i64)) l)(_:Ty.inB (.sl (.int .i64)) p)(_:Ty.inB (.sl (.int .i64)) q):Y9 1100 W s L F R l p q=some true:=by
 have aw:((Ao 1100).bind fun x=>some x)=some true:=by rw[H5];rfl
 unfold Y9
 rcases N0 (N:=1100) (W:=W) (s:=s) (L:=L) (F:=F) (R:=R) (by omega)with h | ⟨h,hs⟩
 ·rw[h]
  simp only[Option.bind_some]
  rw[Ah];exact aw
 rw[h]
 simp only[Option.bind_some]
 rw[Ad]
 by_cases c1:12<(l.length:Int)
 ·rw[A2 c1];exact aw
 rw[A1 c1]
 by_cases c2:12<(p.length:Int)
 ·rw[A2 c2];exact aw
 rw[A1 c2]
 by_cases c3:12<(q.length:Int)
 ·rw[A2 c3];exact aw
 rw[A1 c3,Nc (by omega) hs,Jt (by omega),Jt (by omega),Jt (by omega)]
 simp only[Option.bind_some]
 rw[Ii (by omega) hs (by omega)]
 simp only[Option.bind_some]
 have tail:∀w r,(if errJ (errD W s L F R) L.length F.length (canF W s L F) l=0 then valJ (agF W L F) 0 l else 0)=w→(if errJ (errD W s L F R) L.length F.length (canF W s L F) l=0 then valJ (fun i _=>R.getD i 0) 0 l else 0)=r →
   Iq 1100 l p q l p q (errJ (errD W s L F R) L.length F.length (canF W s L F) l) w r W s L F R W s L F R W s L F R=some true:=by
  rintro w r hw hr
  unfold Iq
  rw[Ani (by omega) hs (by omega),Ahb (by omega) hs (by omega)]
  have e1:∀x y:Int,(if errJ (errD W s L F R) L.length F.length (canF W s L F) l=0 then(x,(0:Int))else(0,errJ (errD W s L F R) L.length F.length (canF W s L F) l))=((if errJ (errD W s L F R) L.length F.length (canF W s L F) l=0 then x else 0),errJ (errD W s L F R) L.length F.length (canF W s L F) l):=fun x _=>by
   split
   ·rename_i c;rw[c]
   ·rfl
  rw[e1 _ 0,e1 _ 0,hw,hr]
  simp only[Option.bind_some]
  rw[A6 (by first | trivial | rfl),A6 (by first | trivial | rfl),A6 (by first | trivial | rfl),A6 (by first | trivial | rfl),Apk (by omega) hs (by omega) (by omega),A7s (by omega) hs (by omega) (by omega)]
  simp only[Option.bind_some]
  rw[A2 (by first | trivial | rfl),A2 (by first | trivial | rfl),K0 (by omega) hs]
  simp only[Option.bind_some]
  rw[Ah,Fs (by omega) (by omega),Fs (by omega) (by omega),Fs (by omega) (by omega)]
  simp only[Option.bind_some,Ah]
  exact H5
 by_cases c:errJ (errD W s L F R) L.length F.length (canF W s L F) l=0
 ·obtain⟨d1,d2,d3,_⟩:=Bu c
  have hF:=Ac.1 d1
  rw[A2 c,Ac0 (by omega) hF (by omega) d3,Tb (by omega) hF (by omega) d3]
  simp only[Option.bind_some]
  exact tail _ _ (if_pos c) (if_pos c)
 ·rw[A1 c]
  exact tail _ _ (if_neg c) (if_neg c)
end Go.Proofs.YthncjilcflilcaaGreat

namespace Go.Proofs.YthncjilcflilcaaGreat
set_option linter.all false
open Go

theorem Acj{W:List Int}{s:Int}{L F:List (List Int)}{R:List Int}(_:Ty.inB (.pair (.sl (.int .i64)) (.pair (.int .i64) (.pair (.sl (.sl (.int .i64))) (.pair (.sl (.sl (.int .i64))) (.sl (.int .i64)))))) (W,s,L,F,R)):A42 1100 W s L F R=some true:=by
 have aw:((Ao 1100).bind fun x=>some x)=some true:=by rw[H5];rfl
 unfold A42
 rcases N0 (N:=1100) (W:=W) (s:=s) (L:=L) (F:=F) (R:=R) (by omega)with h | ⟨h,hs⟩
 ·rw[h]
  simp only[Option.bind_some]
  rw[Ah];exact aw
 rw[h]
 simp only[Option.bind_some]
 rw[Ad]
 rcases Acy (N:=1100) (W:=W) (s:=s) (L:=L) (F:=F) (R:=R) 4 with h2 | ⟨h2,w1,w2⟩
 ·rw[h2]
  simp only[Option.bind_some]
  rw[Ah];exact aw
 rw[h2]
 simp only[Option.bind_some]
 rw[Ad,Nc (by omega) hs]
 simp only[Option.bind_some]
 rw[Ar7 (by omega) hs,Ahh (by omega) hs,Aoj (by omega) hs,Anj (by omega) hs]
 simp only[Option.bind_some]
 rw[Ca (by omega) hs]
 simp only[Option.bind_some]
 by_cases c:errD W s L F R=0
 rotate_left
 ·rw[if_neg c,if_neg c,if_neg c,if_neg c,A8 c,A2 (by first | trivial | rfl),A2 (by first | trivial | rfl),A2 (by first | trivial | rfl),A2 (by first | trivial | rfl)]
  simp only[List.length_nil,Int.natCast_zero]
  rw[A3 (by omega),A3 (by omega),A3 (by omega),A3 (by omega),A3 (by omega),A3 (by omega),A2 (by decide),K0 (by omega) hs]
  simp only[Option.bind_some]
  rw[Ah];exact aw
 have hF:=Ac.1 c
 have hl6:=hF.l6;have hf6:=hF.f6
 have hp:=Ti (a:=F.length) (b:=L.length) (by omega) (by omega)
 rw[if_pos c,if_pos c,if_pos c,if_pos c,A6 c,Mk (by omega) hF (by omega) (by omega)]
 simp only[Option.bind_some]
 rw[A6 (by first | trivial | rfl),A6 (by first | trivial | rfl),A6 (by first | trivial | rfl),A6 (by first | trivial | rfl),A6 (by first | trivial | rfl),A6 Ma.symm,Adr (by omega) hF (by omega) (by omega)]
 simp only[Option.bind_some]
 have m1:A8e W s L F∈joinsL (canF W s L F) F.length L.length 0 0:=G7
 have m2:Fk W s L F R∈joinsL (canF W s L F) F.length L.length 0 0:=G7
 have n1:B2 1100 W s L F R (A8e W s L F)=some (Au W s L F):=by rw[Ez (by omega) hF m1,Td]
 have n2:B2 1100 W s L F R (Fk W s L F R)=some (Au W s L F):=by rw[Ez (by omega) hF m2,(Yo hF).1]
 obtain⟨j1,j2⟩:=Bh m1
 obtain⟨k1,k2⟩:=Bh m2
 have q1:rjoins_S 1100 W s L F R (A8e W s L F)=some 0:=by rw[Ii (by omega) hs (by rw[j1];omega),c,Eb.2 m1]
 have q2:rjoins_S 1100 W s L F R (Fk W s L F R)=some 0:=by rw[Ii (by omega) hs (by rw[k1];omega),c,Eb.2 m2]
 have q3:Dx 1100 W s L F R (Fk W s L F R)=some (valJ (rewT R) 0 (Fk W s L F R)):=Tb (by omega) hF (by rw[k1];omega) k2
 rw[A6 (by first | trivial | rfl),q1]
 simp only[Option.bind_some]
 rw[A6 (by first | trivial | rfl),n1]
 simp only[Option.bind_some]
 rw[A6 (by first | trivial | rfl),q2]
 simp only[Option.bind_some]
 rw[A6 (by first | trivial | rfl),n2]
 simp only[Option.bind_some]
 rw[A6 (by first | trivial | rfl),q3]
 simp only[Option.bind_some]
 rw[A6 (by first | trivial | rfl),A7s (by omega) hs (by rw[Io];omega) (by rw[Io];omega),c,A59 hF]
 simp only[Option.bind_some]
 rw[A2 (by first | trivial | rfl),A2 (by first | trivial | rfl),K0 (by omega) hs]
 simp only[Option.bind_some]
 rw[Ah];exact aw
end Go.Proofs.YthncjilcflilcaaGreat

namespace Go.Proofs.YthncjilcflilcaaGreat
set_option linter.all false
open Go

theorem A5z{W:List Int}{s:Int}{L F:List (List Int)}{R:List Int}{J:List Int}{a b:Int}(_:Ty.inB (.pair (.sl (.int .i64)) (.pair (.int .i64) (.pair (.sl (.sl (.int .i64))) (.pair (.sl (.sl (.int .i64))) (.sl (.int .i64)))))) (W,s,L,F,R))(_:Ty.inB (.sl (.int .i64)) J)(_:Ty.inB (.int .i64) a)(_:Ty.inB (.int .i64) b):Sk 1100 W s L F R J a b=some true:=by
 have aw:((Ao 1100).bind fun x=>some x)=some true:=by rw[H5];rfl
 unfold Sk
 rcases N0 (N:=1100) (W:=W) (s:=s) (L:=L) (F:=F) (R:=R) (by omega)with h | ⟨h,hs⟩
 ·rw[h]
  simp only[Option.bind_some]
  rw[Ah];exact aw
 rw[h]
 simp only[Option.bind_some]
 rw[Ad]
 rcases Acy (N:=1100) (W:=W) (s:=s) (L:=L) (F:=F) (R:=R) 4 with h2 | ⟨h2,w1,w2⟩
 ·rw[h2]
  simp only[Option.bind_some]
  rw[Ah];exact aw
 rw[h2]
 simp only[Option.bind_some]
 rw[Ad]
 by_cases cj:12<(J.length:Int)
 ·rw[A2 cj];exact aw
 rw[A1 cj,Nc (by omega) hs,Jt (by omega)]
 simp only[Option.bind_some]
 have hpow:errD W s L F R=0→(F.length+1) ^ L.length≤625:=fun d=>by
  have hF:=Ac.1 d
  have hl6:=hF.l6;have hf6:=hF.f6
  exact Ti (by omega) (by omega)
 have hp1:(F.length+1) ^ L.length<1100∨¬errD W s L F R=0:=by
  by_cases d:errD W s L F R=0
  ·have:=hpow d;omega
  ·exact .inr d
 have hp2:(F.length+1) ^ L.length≤100000∨¬errD W s L F R=0:=by
  by_cases d:errD W s L F R=0
  ·have:=hpow d;omega
  ·exact .inr d
 have fin:Ak 1100 J J W s L F R W s L F R W s L F R=some true:=by
  unfold Ak
  rw[Aov (by omega) hs,Ao3 (by omega) hs hp1 hp2]
  simp only[Option.bind_some]
  have hlen:(if errD W s L F R=0 then(Dd W s L F F.length,(0:Int))else([],errD W s L F R)).1.length≤100:=by
   have:=On (W:=W) (s:=s) (L:=L) (F:=F) F.length
   have:=hs.f
   split
   ·dsimp only;omega
   ·simp
  rw[A2 (by first | trivial | rfl),Fs (by omega) (by omega)]
  simp only[Option.bind_some]
  rw[Ah,K0 (by omega) hs]
  simp only[Option.bind_some]
  rw[Ah,Fs (by omega) (by omega)]
  simp only[Option.bind_some]
  rw[Ah];exact aw
 obtain⟨r,r1,r2⟩:=Anx (N:=1100) (by omega) hs (J:=J) (by omega)
 obtain⟨q,q1,q2⟩:=Aim (N:=1100) (by omega) hs hp1 hp2 (J:=J) (by omega)
 rw[r1,q1]
 simp only[Option.bind_some]
 have hbad:∀e:Int,e≠0→r=([],e)→q=(0,e)→(r.2=q.2∧¬r.2=0∧¬0<(r.1.length:Int)):=fun e he h1 h2=>by
  subst h1;subst h2
  exact⟨rfl,he,by simp⟩
 have hcase:(r.2=q.2∧¬r.2=0∧¬0<(r.1.length:Int))∨(r.2=0∧q.2=0∧errJ (errD W s L F R) L.length F.length (canF W s L F) J=0∧Bp (canF W s L F) (agF W L F) F.length J r.1∧apL r.1 J=q.1):=by
  rcases r2 with⟨x1,x2⟩ | ⟨x1,x2⟩
  ·rcases q2 with⟨_,y2⟩ | ⟨y1,_⟩
   ·exact .inl (hbad _ x1 x2 y2)
   ·exact absurd y1 x1
  ·rcases q2 with⟨y1,_⟩ | ⟨_,y2⟩
   ·exact absurd x1 y1
   have hJ:J.length=L.length:=(Bu x1).2.1
   rcases x2 with⟨v1,v2⟩ | ⟨v1,v2,v3,v4⟩
   ·rcases y2 with⟨u1,u2⟩ | ⟨_,⟨l,u1,_⟩,_⟩
    ·exact .inl (hbad 6 (by decide) v2 u2)
    ·have h1:=u1.more
     have h2:=Rt (W:=W) (s:=s) (L:=L) (F:=F) (l:=l) (by have:=u1.mem;rw[hJ]at this;exact this)
     omega
   ·rcases y2 with⟨u1,_⟩ | ⟨u0,⟨l,u1,u2⟩,u3⟩
    ·exact absurd v3 (u1 _)
    ·refine .inr ⟨v2,u0,x1,v3,?_⟩
     have h1:=v4 l u1
     have h2:=u3 _ v3
     rw[Abp];omega
 rcases hcase with⟨z1,z2,z3⟩ | ⟨z1,z2,z3,z4,z5⟩
 ·rw[A6 z1,A8 z2,A1 z3,A1 z2]
  rw[Agq (by omega) hs,A02 (by omega) hs]
  simp only[Option.bind_some]
  by_cases d:errD W s L F R=0
  rotate_left
  ·rw[if_neg d,if_neg d,A6 (by first | trivial | rfl),A8 d,A6 (by first | trivial | rfl),A1 d]
   exact fin
  rw[if_pos d,if_pos d]
  by_cases d1:0≤a∧a≤(L.length:Int)-1
  rotate_left
  ·rw[if_pos d1,if_pos d1,A6 (by first | trivial | rfl),A8 (by decide),A6 (by first | trivial | rfl),A1 (by decide)]
   exact fin
  rw[if_neg (not_not_intro d1),if_neg (not_not_intro d1)]
  by_cases d2:0≤b∧b≤(F.length:Int)-1
  rotate_left
  ·rw[if_pos d2,if_pos d2,A6 (by first | trivial | rfl),A8 (by decide),A6 (by first | trivial | rfl),A1 (by decide)]
   exact fin
  have hF:=Ac.1 d
  have hp:=hpow d
  have hlen:(B0 W s L F).length≤(F.length+1) ^ L.length:=by
   rw[←Br];exact Nat.le_trans (List.length_filter_le _ _) (List.length_filter_le _ _)
  have hrf:=A78 (N:=1100) (W:=W) (s:=s) (L:=L) (F:=F) (by omega) (by omega) (a:=a.toNat) (b:=b.toNat) (by omega)
  rw[Int.toNat_of_nonneg d1.1,Int.toNat_of_nonneg d2.1]at hrf
  rw[if_neg (not_not_intro d2),if_neg (not_not_intro d2),A6 (by first | trivial | rfl),A6 (by first | trivial | rfl),A2 (by first | trivial | rfl),Mk (by omega) hF (by omega) (by omega)]
  simp only[Option.bind_some]
  rw[hrf]
  simp only[Option.bind_some]
  rw[A6 (by first | trivial | rfl)]
  exact fin
 ·obtain⟨c1,c2,c3,_⟩:=Bu z3
  have hF0:=Ac.1 c1
  have hl6:=hF0.l6
  have hm:J∈joinsL (canF W s L F) F.length L.length 0 0:=by rw[c1]at z3;exact Eb.1 z3
  have hm2:r.1∈joinsL (canF W s L F) F.length L.length 0 0:=by have:=z4.mem;rw[c2]at this;exact this
  obtain⟨j1,j2⟩:=Bh hm2
  have hmore:=z4.more
  rw[A6 (z1.trans z2.symm),A6 z1,A2 z1,Ii (by omega) hs (by omega),c1,Eb.2 hm2]
  simp only[Option.bind_some]
  rw[A6 (by first | trivial | rfl),Ez (by omega) hF0 hm2,Ez (by omega) hF0 hm]
  simp only[Option.bind_some]
  rw[A1 (by omega),Afm (by omega) (by omega) (by omega)]
  simp only[Option.bind_some]
  rw[A6 z5]
  rw[Agq (by omega) hs,A02 (by omega) hs]
  simp only[Option.bind_some]
  by_cases d:errD W s L F R=0
  rotate_left
  ·rw[if_neg d,if_neg d,A6 (by first | trivial | rfl),A8 d,A6 (by first | trivial | rfl),A1 d]
   exact fin
  rw[if_pos d,if_pos d]
  by_cases d1:0≤a∧a≤(L.length:Int)-1
  rotate_left
  ·rw[if_pos d1,if_pos d1,A6 (by first | trivial | rfl),A8 (by decide),A6 (by first | trivial | rfl),A1 (by decide)]
   exact fin
  rw[if_neg (not_not_intro d1),if_neg (not_not_intro d1)]
  by_cases d2:0≤b∧b≤(F.length:Int)-1
  rotate_left
  ·rw[if_pos d2,if_pos d2,A6 (by first | trivial | rfl),A8 (by decide),A6 (by first | trivial | rfl),A1 (by decide)]
   exact fin
  have hF:=Ac.1 d
  have hp:=hpow d
  have hlen:(B0 W s L F).length≤(F.length+1) ^ L.length:=by
   rw[←Br];exact Nat.le_trans (List.length_filter_le _ _) (List.length_filter_le _ _)
  have hrf:=A78 (N:=1100) (W:=W) (s:=s) (L:=L) (F:=F) (by omega) (by omega) (a:=a.toNat) (b:=b.toNat) (by omega)
  rw[Int.toNat_of_nonneg d1.1,Int.toNat_of_nonneg d2.1]at hrf
  rw[if_neg (not_not_intro d2),if_neg (not_not_intro d2),A6 (by first | trivial | rfl),A6 (by first | trivial | rfl),A2 (by first | trivial | rfl),Mk (by omega) hF (by omega) (by omega)]
  simp only[Option.bind_some]
  rw[hrf]
  simp only[Option.bind_some]
  rw[A6 (by first | trivial | rfl)]
  exact fin
end Go.Proofs.YthncjilcflilcaaGreat

namespace Go.Proofs.YthncjilcflilcaaGreat
set_option linter.all false
open Go

section
variable {W:List Int} {s:Int} {L F:List (List Int)} {R:List Int} {A B:Nat→Nat→Int} {N:Nat}
def selN(p:Nat→Bool)(n:Nat):List Int:=((List.range n).filter p).map fun(k:Nat)=>(k:Int)
theorem Ia(p:Nat→Bool)(n:Nat):selN p (n+1)=selN p n++(if p n=true then [(n:Int)]else []):=by
 unfold selN
 rw[List.range_succ,List.filter_append,List.map_append]
 congr 1
 rw[List.filter_cons]
 split<;>rfl
theorem El(p:Nat→Bool)(n:Nat):(selN p n).length≤n:=by
 have:=List.length_filter_le p (List.range n)
 simpa [selN]using this
def mtI(W:List Int)(s:Int)(L F:List (List Int))(i:Nat):Int:=(mayL (canF W s L F) F.length i).foldl (fun a k=>max a (agF W L F i k)) 0
def clm(W:List Int)(s:Int)(L F:List (List Int))(k i:Nat):Bool:=canF W s L F i k&&decide (agF W L F i k=mtI W s L F i)
def I4(W:List Int)(s:Int)(L F:List (List Int))(k:Nat):List Int:=selN (clm W s L F k) L.length
def cntB(W:List Int)(s:Int)(L F:List (List Int))(k:Nat):Bool:=decide (2≤(I4 W s L F k).length)
def Aaq(W:List Int)(s:Int)(L F:List (List Int)):List Int:=selN (cntB W s L F) F.length
theorem Al5{i k:Nat}(hk:k<F.length)(hc:canF W s L F i k=true):agF W L F i k≤mtI W s L F i:=
 (Gy (f:=fun k=>agF W L F i k) (mayL (canF W s L F) F.length i) 0).2.1 k (B1.2 ⟨hk,hc⟩)
theorem Ql(hF:F.length≤6){i:Nat}(hi:i<6){found u u2 u5:Int}{out:List Int}:∀(ks:List Nat) (x:Int),(∀k∈ks,k<F.length) →
  dclaims_l2 N (ks.map fun(j:Nat)=>((j:Int),())) found u u2 (dkT W s L F R A B) (dkT W s L F R A B) u5 (dkT W s L F R A B) out i x=some (found,u,u2,dkT W s L F R A B,out,(i:Int),ks.foldl (fun a k=>max a (A i k)) x)
 | [],x,_=>rfl
 | k::ks,x,hk=>by
  have hk0:=hk k (by simp)
  have ih:=Ql hF hi (found:=found) (u:=u) (u2:=u2) (u5:=u5) (out:=out) ks (max x (A i k)) (fun y hy=>hk y (by simp[hy]))
  rw[List.map_cons,List.foldl_cons,dclaims_l2,Dj]
  dsimp only
  rw[Ag (by omega),Ag (by omega)]
  simp only[Int.toNat_natCast]
  rw[Pt hi (by omega),ih]
theorem R3(h:Fine W s L F R){k:Nat}(hk:k<F.length):∀(n i:Nat),L.length<n+i→i≤L.length →
  dclaims_l1 N n k L.length i (dkO W s L F R) (selN (clm W s L F k) i)=some (I4 W s L F k)
 | 0,i,hn,hi=>by omega
 | n+1,i,hn,hi=>by
  unfold dclaims_l1
  have hl6:=h.l6;have hf6:=h.f6
  by_cases c:i<L.length
  ·have ih:=R3 h hk n (i+1) (by omega) (by omega)
   rw[A9,Ia]at ih
   have hlen:=El (clm W s L F k) i
   have em:I9 N (dkO W s L F R) (i:Int)=some (dkO W s L F R,dkO W s L F R,(i:Int)):=rfl
   rw[A2 (by omega),em]
   simp only[Option.bind_some]
   unfold dkO at ih ⊢
   rw[Tt hf6 (by omega)]
   simp only[Option.bind_some]
   unfold mayE
   rw[Ql hf6 (by omega) _ _ (fun k hk=>(B1.1 hk).1)]
   simp only[Option.bind_some]
   rw[A8i (by omega) (by omega)]
   simp only[Option.bind_some]
   unfold Gv
   cases hc:canT (agF W L F) (slF W L F) s i k with
   | false=>
    have hc:canF W s L F i k=false:=hc
    have e:clm W s L F k i=false:=by unfold clm;rw[hc];rfl
    rw[e,if_neg (by simp),List.append_nil]at ih
    rw[Ad,A3 (by omega),ih]
   | true=>
    have hc:canF W s L F i k=true:=hc
    rw[Ah,Ag (by omega),Ag (by omega)]
    simp only[Int.toNat_natCast]
    rw[Pt (by omega) (by omega),show(mayL (canT (agF W L F) (slF W L F) s) F.length i).foldl (fun a k=>max a (agF W L F i k)) 0=mtI W s L F i from rfl]
    by_cases d:agF W L F i k=mtI W s L F i
    ·have e:clm W s L F k i=true:=by unfold clm;rw[hc,decide_eq_true d];rfl
     rw[e,if_pos rfl]at ih
     rw[A2 d,Ay (by simp;omega),A3 (by omega),ih]
    ·have e:clm W s L F k i=false:=by unfold clm;rw[hc,decide_eq_false d];rfl
     rw[e,if_neg (by simp),List.append_nil]at ih
     rw[A1 d,A3 (by omega),ih]
  ·obtain rfl:i=L.length:=by omega
   rw[A1 (by omega)]
   rfl
theorem A21(hN:110≤N)(h:Fine W s L F R){k:Nat}(hk:k<F.length):It N (dkO W s L F R) k=some (I4 W s L F k):=by
 have hl6:=h.l6
 have e:=R3 (N:=N) h hk N 0 (by omega) (by omega)
 rw[show((0:Nat):Int)=0 from rfl,show selN (clm W s L F k) 0=[]from rfl]at e
 unfold It
 rw[show(dkO W s L F R).2.2.1=L from rfl,e];rfl
theorem Aku(hN:110≤N)(h:Sm W L F R)(a:Int):M9 N W s L F R a=some (if errD W s L F R=0 then if ¬(0≤a∧a≤(F.length:Int)-1)then([],1)else(I4 W s L F a.toNat,0)else([],errD W s L F R)):=by
 unfold M9
 rw[Bo hN h]
 by_cases c:errD W s L F R=0
 rotate_left
 ·rw[if_neg c,if_neg c]
  simp only[Option.bind_some]
  rw[A8 c]
 have hF:=Ac.1 c
 have hf6:=hF.f6
 rw[if_pos c,if_pos c]
 simp only[Option.bind_some]
 rw[A6 (by first | trivial | rfl),show Cp N (dkO W s L F R) a=_ from J2 (by omega) a]
 simp only[Option.bind_some]
 by_cases c1:0≤a∧a≤(F.length:Int)-1
 rotate_left
 ·rw[A8 c1,if_pos c1]
 obtain⟨k,rfl⟩:∃k:Nat,a=k:=⟨a.toNat,(Int.toNat_of_nonneg c1.1).symm⟩
 rw[A6 c1,if_neg (not_not_intro c1),A21 hN hF (by omega)]
 rfl
theorem Nw(hN:110≤N)(h:Fine W s L F R):∀(n k:Nat),F.length<n+k→k≤F.length →
  contests_l1 N n (dkO W s L F R) F.length k (selN (cntB W s L F) k)=some (Aaq W s L F)
 | 0,k,hn,hk=>by omega
 | n+1,k,hn,hk=>by
  unfold contests_l1
  have hf6:=h.f6
  by_cases c:k<F.length
  ·have ih:=Nw hN h n (k+1) (by omega) (by omega)
   rw[A9,Ia]at ih
   have hlen:=El (cntB W s L F) k
   rw[A2 (by omega),A21 hN h c]
   simp only[Option.bind_some]
   unfold Hx
   by_cases d:2≤(I4 W s L F k).length
   ·have e:cntB W s L F k=true:=decide_eq_true d
    rw[e,if_pos rfl]at ih
    rw[A2 (by omega),Ay (by simp;omega),A3 (by omega),ih]
   ·have e:cntB W s L F k=false:=decide_eq_false d
    rw[e,if_neg (by simp),List.append_nil]at ih
    rw[A1 (by omega),A3 (by omega),ih]
  ·obtain rfl:k=F.length:=by omega
   rw[A1 (by omega)]
   rfl
theorem Adh(hN:110≤N)(h:Sm W L F R):Jj N W s L F R=some (if errD W s L F R=0 then(Aaq W s L F,0)else([],errD W s L F R)):=by
 unfold Jj
 rw[Bo hN h]
 by_cases c:errD W s L F R=0
 rotate_left
 ·rw[if_neg c,if_neg c]
  simp only[Option.bind_some]
  rw[A8 c]
 have hF:=Ac.1 c
 have hf6:=hF.f6
 have e:=Nw hN hF N 0 (by omega) (by omega)
 rw[show((0:Nat):Int)=0 from rfl,show selN (cntB W s L F) 0=[]from rfl]at e
 rw[if_pos c,if_pos c]
 simp only[Option.bind_some]
 rw[A6 (by first | trivial | rfl),e]
 rfl
theorem A2e(hN:110≤N)(h:Fine W s L F R){i:Nat}(hi:i<L.length):∀(n k:Nat),F.length<n+k→k≤F.length →
  rmay_l1 N n i k W s L F R (selN (canF W s L F i) k)=some (selN (canF W s L F i) F.length)
 | 0,k,hn,hk=>by omega
 | n+1,k,hn,hk=>by
  unfold rmay_l1
  have hf6:=h.f6
  by_cases c:k<F.length
  ·have ih:=A2e hN h hi n (k+1) (by omega) (by omega)
   rw[A9,Ia]at ih
   have hlen:=El (canF W s L F i) k
   rw[A2 (by omega),K6 hN h hi c]
   simp only[Option.bind_some]
   unfold Wi
   cases d:canF W s L F i k with
   | true=>
    rw[d,if_pos rfl]at ih
    rw[Ah,Ay (by simp;omega),A3 (by omega),ih]
   | false=>
    rw[d,if_neg (by simp),List.append_nil]at ih
    rw[Ad,A3 (by omega),ih]
  ·obtain rfl:k=F.length:=by omega
   rw[A1 (by omega)]
theorem Ar2(hN:110≤N)(h:Sm W L F R)(a:Int):A3x N W s L F R a=some (if errD W s L F R=0 then if ¬(0≤a∧a≤(L.length:Int)-1)then([],1)else(selN (canF W s L F a.toNat) F.length,0)else([],errD W s L F R)):=by
 unfold A3x
 rw[Ca hN h]
 simp only[Option.bind_some]
 by_cases c:errD W s L F R=0
 rotate_left
 ·rw[A8 c,if_neg c]
 have hF:=Ac.1 c
 have hf6:=hF.f6;have hl6:=hF.l6
 rw[A6 c,if_pos c,A3 (by omega),Ho]
 simp only[Option.bind_some]
 by_cases c1:0≤a∧a≤(L.length:Int)-1
 rotate_left
 ·rw[A8 c1,if_pos c1]
 obtain⟨i,rfl⟩:∃k:Nat,a=k:=⟨a.toNat,(Int.toNat_of_nonneg c1.1).symm⟩
 have e:=A2e hN hF (i:=i) (by omega) N 0 (by omega) (by omega)
 rw[show((0:Nat):Int)=0 from rfl,show selN (canF W s L F i) 0=[]from rfl]at e
 rw[A6 c1,if_neg (not_not_intro c1),e]
 rfl
def isC(W:List Int)(s:Int)(L F:List (List Int))(k i n:Nat):Bool:=canF W s L F i k&&(List.range n).all fun j=>!(canF W s L F i j&&decide (agF W L F i k<agF W L F i j))
theorem Alb(k i n:Nat):isC W s L F k i (n+1)=(isC W s L F k i n&&!(canF W s L F i n&&decide (agF W L F i k<agF W L F i n))):=by
 unfold isC
 rw[List.range_succ,List.all_append,←Bool.and_assoc]
 simp
theorem Apg{k i:Nat}(hk:k<F.length)(h:Fine W s L F R):isC W s L F k i F.length=clm W s L F k i:=by
 unfold isC clm
 cases hc:canF W s L F i k with
 | false=>rfl
 | true=>
  rw[Bool.true_and,Bool.true_and]
  have hle:=Al5 hk hc
  obtain⟨h1,h2,h3⟩:=Gy (f:=fun k=>agF W L F i k) (mayL (canF W s L F) F.length i) 0
  rw[Bool.eq_iff_iff,List.all_eq_true,decide_eq_true_eq]
  have hpos:0<agF W L F i k:=by
   have:canT (agF W L F) (slF W L F) s i k=true:=hc
   unfold canT at this
   rw[Bool.and_eq_true,decide_eq_true_eq]at this
   exact this.1
  constructor
  ·intro ha
   rcases h3 with h3 | ⟨j,hj,e⟩
   ·have:mtI W s L F i=0:=h3
    omega
   ·obtain⟨j1,j2⟩:=B1.1 hj
    have:=ha j (List.mem_range.2 j1)
    rw[j2,Bool.true_and,Bool.not_eq_true',decide_eq_false_iff_not]at this
    have e:mtI W s L F i=agF W L F i j:=e
    omega
  ·intro e j hj
   rw[List.mem_range]at hj
   rw[Bool.not_eq_true',Bool.and_eq_false_iff]
   by_cases hcj:canF W s L F i j=true
   ·right
    rw[decide_eq_false_iff_not]
    have:=Al5 hj hcj
    omega
   ·left;simpa using hcj
theorem Nt(hN:110≤N)(h:Fine W s L F R){k i:Nat}(hk:k<F.length)(hi:i<L.length){out:List Int}:∀(n j:Nat),F.length<n+j→j≤F.length →
  rclaims1_l2 N n k i (agF W L F i k) (isC W s L F k i j) j W s L F R out=some ((k:Int),(i:Int),isC W s L F k i F.length,W,s,L,F,R,out)
 | 0,j,hn,hj=>by omega
 | n+1,j,hn,hj=>by
  unfold rclaims1_l2
  have hf6:=h.f6
  by_cases c:j<F.length
  ·have ih:=Nt hN h hk hi (out:=out) n (j+1) (by omega) (by omega)
   rw[A9,Alb]at ih
   rw[A2 (by omega),K6 hN h hi c]
   simp only[Option.bind_some]
   unfold Es
   cases d:canF W s L F i j with
   | false=>
    rw[d,Bool.false_and,Bool.not_false,Bool.and_true]at ih
    rw[Ad,A3 (by omega),ih]
   | true=>
    rw[d,Bool.true_and]at ih
    rw[Ah]
    by_cases c2:agF W L F i k<agF W L F i j
    ·rw[decide_eq_true c2,Bool.not_true,Bool.and_false]at ih
     rw[A2 c2,A3 (by omega),ih]
    ·rw[decide_eq_false c2,Bool.not_false,Bool.and_true]at ih
     rw[A1 c2,A3 (by omega),ih]
  ·obtain rfl:j=F.length:=by omega
   rw[A1 (by omega)]
theorem Nx(hN:110≤N)(h:Fine W s L F R){k:Nat}(hk:k<F.length):∀(n i:Nat),L.length<n+i→i≤L.length →
  rclaims1_l1 N n k i W s L F R (selN (clm W s L F k) i)=some (I4 W s L F k)
 | 0,i,hn,hi=>by omega
 | n+1,i,hn,hi=>by
  unfold rclaims1_l1
  have hl6:=h.l6;have hf6:=h.f6
  by_cases c:i<L.length
  ·have ih:=Nx hN h hk n (i+1) (by omega) (by omega)
   rw[A9,Ia]at ih
   have hlen:=El (clm W s L F k) i
   have e:=Nt hN h hk c (out:=selN (clm W s L F k) i) N 0 (by omega) (by omega)
   rw[show((0:Nat):Int)=0 from rfl,Apg hk h,show isC W s L F k i 0=canF W s L F i k by unfold isC;simp]at e
   rw[A2 (by omega),K6 hN h c hk]
   simp only[Option.bind_some]
   rw[e]
   simp only[Option.bind_some]
   unfold Hv
   cases d:clm W s L F k i with
   | true=>
    rw[d,if_pos rfl]at ih
    rw[Ah,Ay (by simp;omega),A3 (by omega),ih]
   | false=>
    rw[d,if_neg (by simp),List.append_nil]at ih
    rw[Ad,A3 (by omega),ih]
  ·obtain rfl:i=L.length:=by omega
   rw[A1 (by omega)]
   rfl
theorem Zp(hN:110≤N)(h:Fine W s L F R){k:Nat}(hk:k<F.length):H3 N W s L F R k=some (I4 W s L F k):=by
 have hl6:=h.l6
 have e:=Nx hN h hk N 0 (by omega) (by omega)
 rw[show((0:Nat):Int)=0 from rfl,show selN (clm W s L F k) 0=[]from rfl]at e
 unfold H3
 rw[e];rfl
theorem Ai6(hN:110≤N)(h:Sm W L F R)(a:Int):N9 N W s L F R a=some (if errD W s L F R=0 then if ¬(0≤a∧a≤(F.length:Int)-1)then([],1)else(I4 W s L F a.toNat,0)else([],errD W s L F R)):=by
 unfold N9
 rw[Ca hN h]
 simp only[Option.bind_some]
 by_cases c:errD W s L F R=0
 rotate_left
 ·rw[A8 c,if_neg c]
 have hF:=Ac.1 c
 have hf6:=hF.f6
 rw[A6 c,if_pos c,A3 (by omega),Ho]
 simp only[Option.bind_some]
 by_cases c1:0≤a∧a≤(F.length:Int)-1
 rotate_left
 ·rw[A8 c1,if_pos c1]
 obtain⟨k,rfl⟩:∃k:Nat,a=k:=⟨a.toNat,(Int.toNat_of_nonneg c1.1).symm⟩
 rw[A6 c1,if_neg (not_not_intro c1),Zp hN hF (by omega)]
 rfl
theorem M3(hN:110≤N)(h:Fine W s L F R):∀(n k:Nat),F.length<n+k→k≤F.length →
  rcontests_l1 N n k W s L F R (selN (cntB W s L F) k)=some (Aaq W s L F)
 | 0,k,hn,hk=>by omega
 | n+1,k,hn,hk=>by
  unfold rcontests_l1
  have hf6:=h.f6
  by_cases c:k<F.length
  ·have ih:=M3 hN h n (k+1) (by omega) (by omega)
   rw[A9,Ia]at ih
   have hlen:=El (cntB W s L F) k
   rw[A2 (by omega),Zp hN h c]
   simp only[Option.bind_some]
   unfold Ft
   by_cases d:2≤(I4 W s L F k).length
   ·have e:cntB W s L F k=true:=decide_eq_true d
    rw[e,if_pos rfl]at ih
    rw[A2 (by omega),Ay (by simp;omega),A3 (by omega),ih]
   ·have e:cntB W s L F k=false:=decide_eq_false d
    rw[e,if_neg (by simp),List.append_nil]at ih
    rw[A1 (by omega),A3 (by omega),ih]
  ·obtain rfl:k=F.length:=by omega
   rw[A1 (by omega)]
   rfl
theorem A8j(hN:110≤N)(h:Sm W L F R):H8 N W s L F R=some (if errD W s L F R=0 then(Aaq W s L F,0)else([],errD W s L F R)):=by
 unfold H8
 rw[Ca hN h]
 simp only[Option.bind_some]
 by_cases c:errD W s L F R=0
 rotate_left
 ·rw[A8 c,if_neg c]
 have hF:=Ac.1 c
 have hf6:=hF.f6
 have e:=M3 hN hF N 0 (by omega) (by omega)
 rw[show((0:Nat):Int)=0 from rfl,show selN (cntB W s L F) 0=[]from rfl]at e
 rw[A6 c,if_pos c,e]
 rfl
end
end Go.Proofs.YthncjilcflilcaaGreat

namespace Go.Proofs.YthncjilcflilcaaGreat
set_option linter.all false
open Go

section
variable {W:List Int} {s:Int} {L F:List (List Int)} {R:List Int} {N:Nat}
theorem Aox(hN:110≤N)(h:Sm W L F R)(a b:Int):Kr N W s L F R a b=some (if errD W s L F R=0 then if ¬(0≤a∧a≤(L.length:Int)-1)then(0,0,false,1)else if ¬(0≤b∧b≤(F.length:Int)-1)then(0,0,false,1)else(agF W L F a.toNat b.toNat,slF W L F a.toNat b.toNat,canF W s L F a.toNat b.toNat,0)else(0,0,false,errD W s L F R)):=by
 unfold Kr
 rw[Bo hN h]
 by_cases c:errD W s L F R=0
 rotate_left
 ·rw[if_neg c,if_neg c]
  simp only[Option.bind_some]
  rw[A8 c]
 have hF:=Ac.1 c
 have hl6:=hF.l6;have hf6:=hF.f6
 rw[if_pos c,if_pos c]
 simp only[Option.bind_some]
 rw[A6 (by first | trivial | rfl)]
 unfold dkO
 rw[A4u (by omega),J2 (by omega)]
 simp only[Option.bind_some]
 by_cases c1:0≤a∧a≤(L.length:Int)-1
 rotate_left
 ·rw[A8 c1,if_pos c1]
 rw[A6 c1,if_neg (not_not_intro c1)]
 by_cases c2:0≤b∧b≤(F.length:Int)-1
 rotate_left
 ·rw[A8 c2,if_pos c2]
 rw[A6 c2,if_neg (not_not_intro c2)]
 obtain⟨i,rfl⟩:∃i:Nat,a=i:=⟨a.toNat,(Int.toNat_of_nonneg c1.1).symm⟩
 obtain⟨k,rfl⟩:∃k:Nat,b=k:=⟨b.toNat,(Int.toNat_of_nonneg c2.1).symm⟩
 rw[Ag (by omega),Ag (by omega)]
 simp only[Int.toNat_natCast]
 rw[Pt (by omega) (by omega),Ag (by omega),Ag (by omega),Aqv (by omega) (by omega),A8i (by omega) (by omega)]
 rfl
theorem Aqr(hN:110≤N)(h:Sm W L F R)(a:Int):lmay_S N W s L F R a=some (if errD W s L F R=0 then if ¬(0≤a∧a≤(L.length:Int)-1)then([],1)else(selN (canF W s L F a.toNat) F.length,0)else([],errD W s L F R)):=by
 unfold lmay_S
 rw[Bo hN h]
 by_cases c:errD W s L F R=0
 rotate_left
 ·rw[if_neg c,if_neg c]
  simp only[Option.bind_some]
  rw[A8 c]
 have hF:=Ac.1 c
 have hl6:=hF.l6;have hf6:=hF.f6
 rw[if_pos c,if_pos c]
 simp only[Option.bind_some]
 rw[A6 (by first | trivial | rfl),show Js N (dkO W s L F R) a=_ from A4u (by omega) a]
 simp only[Option.bind_some]
 by_cases c1:0≤a∧a≤(L.length:Int)-1
 rotate_left
 ·rw[A8 c1,if_pos c1]
 rw[A6 c1,if_neg (not_not_intro c1)]
 obtain⟨i,rfl⟩:∃i:Nat,a=i:=⟨a.toNat,(Int.toNat_of_nonneg c1.1).symm⟩
 rw[show I9 N (dkO W s L F R) (i:Int)=some (dkO W s L F R,dkO W s L F R,(i:Int))from rfl]
 simp only[Option.bind_some]
 unfold Sx J7 dkO
 rw[Tt hf6 (by omega)]
 simp only[Option.map_some,Option.bind_some,Int.toNat_natCast]
 unfold mayE selN mayL
 rw[List.map_map]
 rfl
end
theorem A67{W:List Int}{s:Int}{L F:List (List Int)}{R:List Int}{a b:Int}(_:Ty.inB (.pair (.sl (.int .i64)) (.pair (.int .i64) (.pair (.sl (.sl (.int .i64))) (.pair (.sl (.sl (.int .i64))) (.sl (.int .i64)))))) (W,s,L,F,R))(_:Ty.inB (.int .i64) a)(_:Ty.inB (.int .i64) b):To 1100 W s L F R a b=some true:=by
 unfold To
 rcases N0 (N:=1100) (W:=W) (s:=s) (L:=L) (F:=F) (R:=R) (by omega)with e | ⟨e,hs⟩
 ·rw[e]
  simp only[Option.bind_some]
  rw[Ah,H5]
  rfl
 have hl:=hs.l;have hf:=hs.f
 rw[e]
 simp only[Option.bind_some]
 rw[Ad,Nc (by omega) hs]
 simp only[Option.bind_some]
 rw[A5g (by omega) hs,Ca (by omega) hs]
 simp only[Option.bind_some]
 rw[A6 (by first | trivial | rfl),Aox (by omega) hs,A02 (by omega) hs]
 simp only[Option.bind_some]
 rw[A6 (by first | trivial | rfl),A6 (by first | trivial | rfl)]
 rw[beq_self_eq_true,Bool.not_true,Ad,A6 (by first | trivial | rfl),Aqr (by omega) hs,Ar2 (by omega) hs]
 simp only[Option.bind_some]
 have lk:∀l:List Int,l.length≤100→Bl 1100 l l=some true:=fun l h=>Fs (by omega) (by omega)
 rw[A6 (by first | trivial | rfl),lk _ (by
  split
  ·split
   ·simp
   ·have:=El (canF W s L F a.toNat) F.length;dsimp only;omega
  ·simp)]
 simp only[Option.bind_some]
 rw[Bool.not_true,Ad,Aku (by omega) hs,Ai6 (by omega) hs]
 simp only[Option.bind_some]
 rw[A6 (by first | trivial | rfl),lk _ (by
  split
  ·split
   ·simp
   ·have:=El (clm W s L F b.toNat) L.length;dsimp only;unfold I4;omega
  ·simp)]
 simp only[Option.bind_some]
 rw[Bool.not_true,Ad,Adh (by omega) hs,A8j (by omega) hs]
 simp only[Option.bind_some]
 rw[A2 (by first | trivial | rfl),lk _ (by
  split
  ·have:=El (cntB W s L F) F.length;dsimp only;unfold Aaq;omega
  ·simp)]
 simp only[Option.bind_some]
 rw[Ah,K0 (by omega) hs]
 simp only[Option.bind_some]
 rw[Ah,H5]
 rfl
end Go.Proofs.YthncjilcflilcaaGreat

namespace Go.Proofs.YthncjilcflilcaaGreat
set_option linter.all false
open Go
theorem A0.weak{R:Type}{f:FuncId}{ins:StSh}{outs:List StSh}{F F2:ins.den→Option R}{g:{Y:Type}→(altD outs→Y)→R→Y}(h:A0 Tryz.prog (mkS f ins outs F g))(hw:∀p r,F2 p=some r→F p=some r):A0 Tryz.prog (mkS f ins outs F2 g):=by
 refine⟨fun Y p κ=>?_,h.call,fun p r hr=>?_⟩
 ·show(F2 p).bind (g κ)=((F2 p).bind (g some)).bind κ
  cases e:F2 p with
  | none=>rfl
  | some x=>
   have:=h.nat Y p κ
   rw[show(mkS f ins outs F g).run p κ=(F p).bind (g κ)from rfl,show(mkS f ins outs F g).run p some=(F p).bind (g some)from rfl,hw p x e]at this
   exact this
 ·refine h.fn p r ?_
  have hr':(F2 p).bind (g some)=some r:=hr
  show(F p).bind (g some)=some r
  cases e:F2 p with
  | none=>rw[e]at hr';cases hr'
  | some x=>rw[hw p x e];rw[e]at hr';exact hr'
theorem Aoz{R:Type}{f:FuncId}{ins:StSh}{outs:List StSh}{F:ins.den→Option R}{g:{Y:Type}→(altD outs→Y)→R→Y}{p:ins.den}{r:R}(h:F p=some r):(mkS f ins outs F g).run p some=g some r:=by
 show(F p).bind _=_
 rw[h];rfl
def Ty.inQ:(t:Ty)→t.den→Bool
 | .int .i64,n=>decide (-9223372036854775808≤n∧n≤9223372036854775807)
 | .int _,_=>false
 | .bool,_=>true
 | .pair a b,x=>a.inQ x.1&&b.inQ x.2
 | .sl a,l=>decide (l.length≤9223372036854775807)&&l.all a.inQ
 | .ptr a,x=>a.inQ x
theorem Ty.inQ_ok:∀ {t:Ty} {x:t.den},t.inQ x=true→t.inB x
 | .int k,n,h=>by
  cases k<;>simp only[Ty.inQ,Bool.false_eq_true,decide_eq_true_eq]at h
  exact Ed.2 h
 | .bool,_,_=>trivial
 | .pair a b,x,h=>by
  simp only[Ty.inQ,Bool.and_eq_true]at h
  exact⟨Ty.inQ_ok h.1,Ty.inQ_ok h.2⟩
 | .sl a,l,h=>by
  simp only[Ty.inQ,Bool.and_eq_true,decide_eq_true_eq]at h
  exact⟨h.1,fun x hx=>Ty.inQ_ok (List.all_eq_true.1 h.2 x hx)⟩
 | .ptr a,x,h=>Ty.inQ_ok (t:=a) (by simpa only[Ty.inQ]using h)
theorem As2{a b:Bool}{o:Option Bool}{r:Bool}(h:grd (a&&b) o=some r):a=true∧grd b o=some r:=by
 obtain⟨h1,h2⟩:=As h
 simp only[Bool.and_eq_true]at h1
 exact⟨h1.1,by rw[h1.2];exact h2⟩
end Go.Proofs.YthncjilcflilcaaGreat

namespace Go.Proofs.YthncjilcflilcaaGreat
set_option linter.all false
open Go

def O8(N:Nat)(a0:Li)(a1:Int)(a2:Ll)(a3:Ll)(a4:Li)(a5:Int)(a6:Int):Option Bool:=grd ((.pair Qa Qb:Ty).inQ (a0,a1,a2,a3,a4)&&((.int .i64:Ty).inQ a5&&((.int .i64:Ty).inQ a6))) (some true)
noncomputable def A7u(N:Nat):Spec:=mkS 7 ⟨[shG,shI,shI],[]⟩ [⟨[.b],[]⟩] (fun p=>O8 N p.1.1.1 p.1.1.2.1 p.1.1.2.2.1 p.1.1.2.2.2.1 p.1.1.2.2.2.2.1 p.1.2.1 p.1.2.2.1) (fun k r=>k ((r,()),()))
theorem La(N:Nat):A0 Tryz.prog (A7u N):=A0.weak (A0s 1100) fun p r h=>by
 obtain⟨q,h2⟩:=As h
 cases h2
 simp only[Bool.and_eq_true]at q
 exact A67 (Ty.inQ_ok q.1) (Ty.inQ_ok q.2.1) (Ty.inQ_ok q.2.2)
def A2r(N:Nat)(a0:Li)(a1:Int)(a2:Ll)(a3:Ll)(a4:Li)(a5:Li)(a6:Li)(a7:Li):Option Bool:=grd ((.pair Qa Qb:Ty).inQ (a0,a1,a2,a3,a4)&&((.sl (.int .i64):Ty).inQ a5&&((.sl (.int .i64):Ty).inQ a6&&((.sl (.int .i64):Ty).inQ a7)))) (some true)
noncomputable def Af1(N:Nat):Spec:=mkS 12 ⟨[shG,shL,shL,shL],[]⟩ [⟨[.b],[]⟩] (fun p=>A2r N p.1.1.1 p.1.1.2.1 p.1.1.2.2.1 p.1.1.2.2.2.1 p.1.1.2.2.2.2.1 p.1.2.1 p.1.2.2.1 p.1.2.2.2.1) (fun k r=>k ((r,()),()))
theorem A0a(N:Nat):A0 Tryz.prog (Af1 N):=A0.weak (A3v 1100) fun p r h=>by
 obtain⟨q,h2⟩:=As h
 cases h2
 simp only[Bool.and_eq_true]at q
 exact A6o (Ty.inQ_ok q.1) (Ty.inQ_ok q.2.1) (Ty.inQ_ok q.2.2.1) (Ty.inQ_ok q.2.2.2)
def Yu(N:Nat)(a0:Li)(a1:Int)(a2:Ll)(a3:Ll)(a4:Li):Option Bool:=grd ((.pair Qa Qb:Ty).inQ (a0,a1,a2,a3,a4)) (some true)
noncomputable def Aii(N:Nat):Spec:=mkS 8 ⟨[shG],[]⟩ [⟨[.b],[]⟩] (fun p=>Yu N p.1.1.1 p.1.1.2.1 p.1.1.2.2.1 p.1.1.2.2.2.1 p.1.1.2.2.2.2.1) (fun k r=>k ((r,()),()))
theorem Rk(N:Nat):A0 Tryz.prog (Aii N):=A0.weak (A89 1100) fun p r h=>by
 obtain⟨q,h2⟩:=As h
 cases h2
 simp only[Bool.and_eq_true]at q
 exact Acj (Ty.inQ_ok q)
def Xr(N:Nat)(a0:Li)(a1:Int)(a2:Ll)(a3:Ll)(a4:Li)(a5:Li)(a6:Int)(a7:Int):Option Bool:=grd ((.pair Qa Qb:Ty).inQ (a0,a1,a2,a3,a4)&&((.sl (.int .i64):Ty).inQ a5&&((.int .i64:Ty).inQ a6&&((.int .i64:Ty).inQ a7)))) (some true)
noncomputable def A8r(N:Nat):Spec:=mkS 13 ⟨[shG,shL,shI,shI],[]⟩ [⟨[.b],[]⟩] (fun p=>Xr N p.1.1.1 p.1.1.2.1 p.1.1.2.2.1 p.1.1.2.2.2.1 p.1.1.2.2.2.2.1 p.1.2.1 p.1.2.2.1 p.1.2.2.2.1) (fun k r=>k ((r,()),()))
theorem Xt(N:Nat):A0 Tryz.prog (A8r N):=A0.weak (A0j 1100) fun p r h=>by
 obtain⟨q,h2⟩:=As h
 cases h2
 simp only[Bool.and_eq_true]at q
 exact A5z (Ty.inQ_ok q.1) (Ty.inQ_ok q.2.1) (Ty.inQ_ok q.2.2.1) (Ty.inQ_ok q.2.2.2)
def Z6(N:Nat)(a0:Li)(a1:Int)(a2:Ll)(a3:Ll)(a4:Li)(a5:Int)(a6:Int)(a7:Int):Option Bool:=grd ((.pair Qa Qb:Ty).inQ (a0,a1,a2,a3,a4)&&((.int .i64:Ty).inQ a5&&((.int .i64:Ty).inQ a6&&((.int .i64:Ty).inQ a7)))) (some true)
noncomputable def Aij(N:Nat):Spec:=mkS 9 ⟨[shG,shI,shI,shI],[]⟩ [⟨[.b],[]⟩] (fun p=>Z6 N p.1.1.1 p.1.1.2.1 p.1.1.2.2.1 p.1.1.2.2.2.1 p.1.1.2.2.2.2.1 p.1.2.1 p.1.2.2.1 p.1.2.2.2.1) (fun k r=>k ((r,()),()))
theorem Rh(N:Nat):A0 Tryz.prog (Aij N):=A0.weak (Aa2 1100) fun p r h=>by
 obtain⟨q,h2⟩:=As h
 cases h2
 simp only[Bool.and_eq_true]at q
 exact Aeh (Ty.inQ_ok q.1) (Ty.inQ_ok q.2.1) (Ty.inQ_ok q.2.2.1) (Ty.inQ_ok q.2.2.2)
def B8(N:Nat)(a0:Li)(a1:Int)(a2:Ll)(a3:Ll)(a4:Li):Option Bool:=grd ((.pair Qa Qb:Ty).inQ (a0,a1,a2,a3,a4)) (some true)
noncomputable def Ah9(N:Nat):Spec:=mkS 6 ⟨[shG],[]⟩ [⟨[.b],[]⟩] (fun p=>B8 N p.1.1.1 p.1.1.2.1 p.1.1.2.2.1 p.1.1.2.2.2.1 p.1.1.2.2.2.2.1) (fun k r=>k ((r,()),()))
theorem A3r(N:Nat):A0 Tryz.prog (Ah9 N):=A0.weak (A72 1100) fun p r h=>by
 obtain⟨q,h2⟩:=As h
 cases h2
 simp only[Bool.and_eq_true]at q
 exact Aex (Ty.inQ_ok q)
end Go.Proofs.YthncjilcflilcaaGreat

namespace Go.Proofs.YthncjilcflilcaaGreat
set_option linter.all false
open Go
noncomputable def Ai7(_:Nat):Spec:={ f:=103,ins:=⟨[.undef,.undef],[]⟩,outs:=[],run:=fun _ _=>none }
theorem A48(N:Nat):A0 Tryz.prog (Ai7 N):=⟨fun _ _ _=>rfl,(C3 N).call,fun _ _ h=>by cases h⟩
noncomputable def Aha(_:Nat):Spec:={ f:=103,ins:=⟨[.undef,.undef,.undef],[]⟩,outs:=[],run:=fun _ _=>none }
theorem A3s(N:Nat):A0 Tryz.prog (Aha N):=⟨fun _ _ _=>rfl,(C3 N).call,fun _ _ h=>by cases h⟩

def Ak4(N:Nat)(slips:Int):Option (Int×Li×Li×Li×Li×Li×Li):=
 some (slips,[5,3,2],[10,40],[1,1,1],[1,2,-1],[1,-1,-1],[1,1,-1])
noncomputable def Apr(N:Nat):Spec:=mkS 4 ⟨[shI],[]⟩ [⟨[.agg [.ols 0,shI,.osl 1 2,.osl 2 2,.ols 3]],[.lst (.int .i64),.segs [.ols 4,.ols 5],.segs [.ols 6,.ols 7],.lst (.int .i64),.lst (.int .i64),.lst (.int .i64),.lst (.int .i64),.lst (.int .i64)]⟩] (fun p=>Ak4 N p.1.1) (fun k r=>k ((((),r.1,(),(),(),()),()),(r.2.1,((),(),()),((),(),()),r.2.2.1,r.2.2.2.1,r.2.2.2.2.1,r.2.2.2.2.2.1,r.2.2.2.2.2.2,())))
theorem Adu(N:Nat):A0 Tryz.prog (Apr N):=mkF (R:=Int×Li×Li×Li×Li×Li×Li) (m0:=0) [⟨_,A48 N⟩] [] (fun r=>some (r.1.1.2.1,r.2.1,r.2.2.2.2.1,r.2.2.2.2.2.1,r.2.2.2.2.2.2.1,r.2.2.2.2.2.2.2.1,r.2.2.2.2.2.2.2.2.1)) [] Tryz.func4 (fun p=>by kernel_rfl) (by kernel_rfl) (fun _=>by kernel_rfl)

def Bs(N:Nat)(d:Li)(d2:Int)(d3 d4:Ll)(d5 joins lost found:Li)(a b trait value:Int):Option Bool:=
 (O8 N d d2 d3 d4 d5 a b).bind fun x_1=>
 br x_1
  ((A2r N d d2 d3 d4 d5 joins lost found).bind fun x_2=>
  br x_2
   ((Yu N d d2 d3 d4 d5).bind fun x_3=>
   br x_3
    ((Xr N d d2 d3 d4 d5 joins a b).bind fun x_4=>
    br x_4
     ((Z6 N d d2 d3 d4 d5 b trait value).bind fun x_5=>
     some x_5)
     (some false))
    (some false))
   (some false))
  (some false)
noncomputable def Am2(N:Nat):Spec:=mkS 5 ⟨[shG,shL,shL,shL,shI,shI,shI,shI],[]⟩ [⟨[.b],[]⟩] (fun p=>Bs N p.1.1.1 p.1.1.2.1 p.1.1.2.2.1 p.1.1.2.2.2.1 p.1.1.2.2.2.2.1 p.1.2.1 p.1.2.2.1 p.1.2.2.2.1 p.1.2.2.2.2.1 p.1.2.2.2.2.2.1 p.1.2.2.2.2.2.2.1 p.1.2.2.2.2.2.2.2.1) (fun k r=>k ((r,()),()))
theorem A9r(N:Nat):A0 Tryz.prog (Am2 N):=mkF (R:=Bool) (m0:=0) [⟨_,La N⟩,⟨_,A0a N⟩,⟨_,Rk N⟩,⟨_,Xt N⟩,⟨_,Rh N⟩] [] (fun r=>some r.1.1) [] Tryz.func5 (fun p=>by kernel_rfl) (by kernel_rfl) (fun _=>by kernel_rfl)

def Aa(N:Nat):Nat→Int→Int→Int→Int→Li→Option ((Unit)⊕(Int×Int×Li))
 | 0,_,_,_,_,_=>none
 | n_+1,v,u,u2,u3,g=>
  br (decide (u3<14))
   ((Ak4 N 0).bind fun(x_2,y_3,y_4,y_5,y_6,y_7,y_8)=>
   rng 0 y_3.length<|
   rng 0 y_5.length<|
   rng 1 y_6.length<|
   rng 0 y_7.length<|
   rng 1 y_8.length<|
   rng 1 y_4.length<|
   rng 0 [1,0].length<|
   rng 1 [3,0].length<|
   rng 0 [5,5].length<|
   br (decide (u3=(0:Int)))
    (get y_3 0 fun _=>
    (Bs N (y_3.set 0 v) x_2 [y_5,y_6] [y_7,y_8] y_4 [1,0] [3,0] [5,5] 1 0 1 2).bind fun x_10=>
    br (!x_10)
     (some (.inl ()))
     (br (decide (u3<7))
      (br (decide (v<7))
       ((B8 N (y_3.set 0 v) x_2 [y_5,y_6] [y_7,y_8] y_4).bind fun x_11=>
       br (!x_11)
        (some (.inl ()))
        (chk (u3+1)<|
        Aa N n_ v u u2 (u3+1) g))
       (chk (u3+1)<|
       Aa N n_ v u u2 (u3+1) g))
      (chk (u3+1)<|
      Aa N n_ v u u2 (u3+1) g)))
    (br (decide (u3=(1:Int)))
     ((Bs N y_3 v [y_5,y_6] [y_7,y_8] y_4 [1,0] [3,0] [5,5] 1 0 1 2).bind fun x_12=>
     br (!x_12)
      (some (.inl ()))
      (br (decide (u3<7))
       (br (decide (v<7))
        ((B8 N y_3 v [y_5,y_6] [y_7,y_8] y_4).bind fun x_13=>
        br (!x_13)
         (some (.inl ()))
         (chk (u3+1)<|
         Aa N n_ v u u2 (u3+1) g))
        (chk (u3+1)<|
        Aa N n_ v u u2 (u3+1) g))
       (chk (u3+1)<|
       Aa N n_ v u u2 (u3+1) g)))
     (br (decide (u3=(2:Int)))
      (get y_5 0 fun _=>
      (Bs N y_3 x_2 [(y_5.set 0 v),y_6] [y_7,y_8] y_4 [1,0] [3,0] [5,5] 1 0 1 2).bind fun x_15=>
      br (!x_15)
       (some (.inl ()))
       (br (decide (u3<7))
        (br (decide (v<7))
         ((B8 N y_3 x_2 [(y_5.set 0 v),y_6] [y_7,y_8] y_4).bind fun x_16=>
         br (!x_16)
          (some (.inl ()))
          (chk (u3+1)<|
          Aa N n_ v u u2 (u3+1) g))
         (chk (u3+1)<|
         Aa N n_ v u u2 (u3+1) g))
        (chk (u3+1)<|
        Aa N n_ v u u2 (u3+1) g)))
      (br (decide (u3=(3:Int)))
       (get y_6 1 fun _=>
       (Bs N y_3 x_2 [y_5,(y_6.set 1 v)] [y_7,y_8] y_4 [1,0] [3,0] [5,5] 1 0 1 2).bind fun x_18=>
       br (!x_18)
        (some (.inl ()))
        (br (decide (u3<7))
         (br (decide (v<7))
          ((B8 N y_3 x_2 [y_5,(y_6.set 1 v)] [y_7,y_8] y_4).bind fun x_19=>
          br (!x_19)
           (some (.inl ()))
           (chk (u3+1)<|
           Aa N n_ v u u2 (u3+1) g))
          (chk (u3+1)<|
          Aa N n_ v u u2 (u3+1) g))
         (chk (u3+1)<|
         Aa N n_ v u u2 (u3+1) g)))
       (br (decide (u3=(4:Int)))
        (get y_7 0 fun _=>
        (Bs N y_3 x_2 [y_5,y_6] [(y_7.set 0 v),y_8] y_4 [1,0] [3,0] [5,5] 1 0 1 2).bind fun x_21=>
        br (!x_21)
         (some (.inl ()))
         (br (decide (u3<7))
          (br (decide (v<7))
           ((B8 N y_3 x_2 [y_5,y_6] [(y_7.set 0 v),y_8] y_4).bind fun x_22=>
           br (!x_22)
            (some (.inl ()))
            (chk (u3+1)<|
            Aa N n_ v u u2 (u3+1) g))
           (chk (u3+1)<|
           Aa N n_ v u u2 (u3+1) g))
          (chk (u3+1)<|
          Aa N n_ v u u2 (u3+1) g)))
        (br (decide (u3=(5:Int)))
         (get y_8 1 fun _=>
         (Bs N y_3 x_2 [y_5,y_6] [y_7,(y_8.set 1 v)] y_4 [1,0] [3,0] [5,5] 1 0 1 2).bind fun x_24=>
         br (!x_24)
          (some (.inl ()))
          (br (decide (u3<7))
           (br (decide (v<7))
            ((B8 N y_3 x_2 [y_5,y_6] [y_7,(y_8.set 1 v)] y_4).bind fun x_25=>
            br (!x_25)
             (some (.inl ()))
             (chk (u3+1)<|
             Aa N n_ v u u2 (u3+1) g))
            (chk (u3+1)<|
            Aa N n_ v u u2 (u3+1) g))
           (chk (u3+1)<|
           Aa N n_ v u u2 (u3+1) g)))
         (br (decide (u3=(6:Int)))
          (get y_4 1 fun _=>
          (Bs N y_3 x_2 [y_5,y_6] [y_7,y_8] (y_4.set 1 v) [1,0] [3,0] [5,5] 1 0 1 2).bind fun x_27=>
          br (!x_27)
           (some (.inl ()))
           (br (decide (u3<7))
            (br (decide (v<7))
             ((B8 N y_3 x_2 [y_5,y_6] [y_7,y_8] (y_4.set 1 v)).bind fun x_28=>
             br (!x_28)
              (some (.inl ()))
              (chk (u3+1)<|
              Aa N n_ v u u2 (u3+1) g))
             (chk (u3+1)<|
             Aa N n_ v u u2 (u3+1) g))
            (chk (u3+1)<|
            Aa N n_ v u u2 (u3+1) g)))
          (br (decide (u3=(7:Int)))
           (get [1,0] 0 fun _=>
           (Bs N y_3 x_2 [y_5,y_6] [y_7,y_8] y_4 ([1,0].set 0 v) [3,0] [5,5] 1 0 1 2).bind fun x_30=>
           br (!x_30)
            (some (.inl ()))
            (br (decide (u3<7))
             (br (decide (v<7))
              ((B8 N y_3 x_2 [y_5,y_6] [y_7,y_8] y_4).bind fun x_31=>
              br (!x_31)
               (some (.inl ()))
               (chk (u3+1)<|
               Aa N n_ v u u2 (u3+1) g))
              (chk (u3+1)<|
              Aa N n_ v u u2 (u3+1) g))
             (chk (u3+1)<|
             Aa N n_ v u u2 (u3+1) g)))
           (br (decide (u3=(8:Int)))
            (get [3,0] 1 fun _=>
            (Bs N y_3 x_2 [y_5,y_6] [y_7,y_8] y_4 [1,0] ([3,0].set 1 v) [5,5] 1 0 1 2).bind fun x_33=>
            br (!x_33)
             (some (.inl ()))
             (br (decide (u3<7))
              (br (decide (v<7))
               ((B8 N y_3 x_2 [y_5,y_6] [y_7,y_8] y_4).bind fun x_34=>
               br (!x_34)
                (some (.inl ()))
                (chk (u3+1)<|
                Aa N n_ v u u2 (u3+1) g))
               (chk (u3+1)<|
               Aa N n_ v u u2 (u3+1) g))
              (chk (u3+1)<|
              Aa N n_ v u u2 (u3+1) g)))
            (br (decide (u3=(9:Int)))
             (get [5,5] 0 fun _=>
             (Bs N y_3 x_2 [y_5,y_6] [y_7,y_8] y_4 [1,0] [3,0] ([5,5].set 0 v) 1 0 1 2).bind fun x_36=>
             br (!x_36)
              (some (.inl ()))
              (br (decide (u3<7))
               (br (decide (v<7))
                ((B8 N y_3 x_2 [y_5,y_6] [y_7,y_8] y_4).bind fun x_37=>
                br (!x_37)
                 (some (.inl ()))
                 (chk (u3+1)<|
                 Aa N n_ v u u2 (u3+1) g))
                (chk (u3+1)<|
                Aa N n_ v u u2 (u3+1) g))
               (chk (u3+1)<|
               Aa N n_ v u u2 (u3+1) g)))
             (br (decide (u3=(10:Int)))
              ((Bs N y_3 x_2 [y_5,y_6] [y_7,y_8] y_4 [1,0] [3,0] [5,5] v 0 1 2).bind fun x_38=>
              br (!x_38)
               (some (.inl ()))
               (br (decide (u3<7))
                (br (decide (v<7))
                 ((B8 N y_3 x_2 [y_5,y_6] [y_7,y_8] y_4).bind fun x_39=>
                 br (!x_39)
                  (some (.inl ()))
                  (chk (u3+1)<|
                  Aa N n_ v u u2 (u3+1) g))
                 (chk (u3+1)<|
                 Aa N n_ v u u2 (u3+1) g))
                (chk (u3+1)<|
                Aa N n_ v u u2 (u3+1) g)))
              (br (decide (u3=(11:Int)))
               ((Bs N y_3 x_2 [y_5,y_6] [y_7,y_8] y_4 [1,0] [3,0] [5,5] 1 v 1 2).bind fun x_40=>
               br (!x_40)
                (some (.inl ()))
                (br (decide (u3<7))
                 (br (decide (v<7))
                  ((B8 N y_3 x_2 [y_5,y_6] [y_7,y_8] y_4).bind fun x_41=>
                  br (!x_41)
                   (some (.inl ()))
                   (chk (u3+1)<|
                   Aa N n_ v u u2 (u3+1) g))
                  (chk (u3+1)<|
                  Aa N n_ v u u2 (u3+1) g))
                 (chk (u3+1)<|
                 Aa N n_ v u u2 (u3+1) g)))
               (br (decide (u3=(12:Int)))
                ((Bs N y_3 x_2 [y_5,y_6] [y_7,y_8] y_4 [1,0] [3,0] [5,5] 1 0 v 2).bind fun x_42=>
                br (!x_42)
                 (some (.inl ()))
                 (br (decide (u3<7))
                  (br (decide (v<7))
                   ((B8 N y_3 x_2 [y_5,y_6] [y_7,y_8] y_4).bind fun x_43=>
                   br (!x_43)
                    (some (.inl ()))
                    (chk (u3+1)<|
                    Aa N n_ v u u2 (u3+1) g))
                   (chk (u3+1)<|
                   Aa N n_ v u u2 (u3+1) g))
                  (chk (u3+1)<|
                  Aa N n_ v u u2 (u3+1) g)))
                (br (decide (u3=(13:Int)))
                 ((Bs N y_3 x_2 [y_5,y_6] [y_7,y_8] y_4 [1,0] [3,0] [5,5] 1 0 1 v).bind fun x_44=>
                 br (!x_44)
                  (some (.inl ()))
                  (br (decide (u3<7))
                   (br (decide (v<7))
                    ((B8 N y_3 x_2 [y_5,y_6] [y_7,y_8] y_4).bind fun x_45=>
                    br (!x_45)
                     (some (.inl ()))
                     (chk (u3+1)<|
                     Aa N n_ v u u2 (u3+1) g))
                    (chk (u3+1)<|
                    Aa N n_ v u u2 (u3+1) g))
                   (chk (u3+1)<|
                   Aa N n_ v u u2 (u3+1) g)))
                 (none)))))))))))))))
   (some (.inr (u,u2,g)))
def Sj(N:Nat):Nat→Int→Int→Li→Option ((Unit)⊕(Unit))
 | 0,_,_,_=>none
 | n_+1,u,u2,g=>
  br (decide (u2<u))
   (rng u2 g.length<|
   get g u2.toNat fun x_1=>
   (Aa N N x_1 u u2 0 g).bind fun e=>match e with
   | .inl _=>
    some (.inl ())
   | .inr (u_46,u2_47,g_48)=>
    chk (u2_47+1)<|
    Sj N n_ u_46 (u2_47+1) g_48)
   (some (.inr ()))
def T7(N:Nat):Nat→Int→Int→Int→Int→Int→Li→Li→Li→Ll→Li→Option (Int×Int×Int×Li×Li×Li×Ll×Li)
 | 0,_,_,_,_,_,_,_,_,_,_=>none
 | n_+1,n,u,u2,u3,d,joins,lost,d2,d3,d4=>
  br (decide (u3<u2))
   (chk (u3+1)<|
   grd (!decide ((u3+1)=0))<|
   chk ((Int.tmod (IntKind.i64.wrap (Int.tdiv n (u3+1))) 3)-1)<|
   chk (u3+2)<|
   grd (!decide ((u3+2)=0))<|
   chk ((Int.tmod (IntKind.i64.wrap (Int.tdiv n (u3+2))) 4)-1)<|
   lim (d3.length+([[((Int.tmod (IntKind.i64.wrap (Int.tdiv n (u3+1))) 3)-1),((Int.tmod (IntKind.i64.wrap (Int.tdiv n (u3+2))) 4)-1)]]).length)<|
   chk (u3+1)<|
   grd (!decide ((u3+1)=0))<|
   lim (d4.length+[(Int.tmod (IntKind.i64.wrap (Int.tdiv n (u3+1))) 5)].length)<|
   chk (n+u3)<|
   chk ((Int.tmod (n+u3) 3)-1)<|
   lim (joins.length+[((Int.tmod (n+u3) 3)-1)].length)<|
   lim (lost.length+[(Int.tmod n 4)].length)<|
   chk (u3+1)<|
   T7 N n_ n u u2 (u3+1) d (joins++[((Int.tmod (n+u3) 3)-1)]) (lost++[(Int.tmod n 4)]) d2 (d3++[[((Int.tmod (IntKind.i64.wrap (Int.tdiv n (u3+1))) 3)-1),((Int.tmod (IntKind.i64.wrap (Int.tdiv n (u3+2))) 4)-1)]]) (d4++[(Int.tmod (IntKind.i64.wrap (Int.tdiv n (u3+1))) 5)]))
   (some ((n,u,d,joins,lost,d2,d3,d4)))
def T3(N:Nat):Nat→Int→Int→Int→Int→Int→Li→Li→Li→Li→Ll→Ll→Li→Option (Int×Int×Int×Li×Li×Li×Li×Ll×Ll×Li)
 | 0,_,_,_,_,_,_,_,_,_,_,_,_=>none
 | n_+1,n,u,u2,u3,d,joins,lost,found,d2,d3,d4,d5=>
  br (decide (u3<u2))
   (chk (u3+3)<|
   grd (!decide ((u3+3)=0))<|
   chk ((Int.tmod (IntKind.i64.wrap (Int.tdiv n (u3+3))) 4)-1)<|
   chk (u3+1)<|
   grd (!decide ((u3+1)=0))<|
   chk ((Int.tmod (IntKind.i64.wrap (Int.tdiv n (u3+1))) 3)-1)<|
   lim (d4.length+([[((Int.tmod (IntKind.i64.wrap (Int.tdiv n (u3+3))) 4)-1),((Int.tmod (IntKind.i64.wrap (Int.tdiv n (u3+1))) 3)-1)]]).length)<|
   lim (found.length+[(Int.tmod n 3)].length)<|
   chk (u3+1)<|
   T3 N n_ n u u2 (u3+1) d joins lost (found++[(Int.tmod n 3)]) d2 d3 (d4++[[((Int.tmod (IntKind.i64.wrap (Int.tdiv n (u3+3))) 4)-1),((Int.tmod (IntKind.i64.wrap (Int.tdiv n (u3+1))) 3)-1)]]) d5)
   (some ((n,u,d,joins,lost,found,d2,d3,d4,d5)))
def Nd(N:Nat):Nat→Int→Option ((Unit)⊕(Unit))
 | 0,_=>none
 | n_+1,u=>
  br (decide (u<70))
   (chk (1+(Int.tmod u 4))<|
   (T7 N N u u (Int.tmod u 4) 0 (Int.tmod u 3) [] [] [(1+(Int.tmod u 4)),2] [] []).bind fun(n_49,u_50,d_51,joins_52,lost_53,d2_54,d3_55,d4_56)=>
   (T3 N N n_49 u_50 (Int.tmod (IntKind.i64.wrap (Int.tdiv n_49 4)) 4) 0 d_51 joins_52 lost_53 [] d2_54 d3_55 [] d4_56).bind fun(n_57,u_58,d_59,joins_60,lost_61,found_62,d2_63,d3_64,d4_65,d5_66)=>
   (Bs N d2_63 d_59 d3_64 d4_65 d5_66 joins_60 lost_61 found_62 (Int.tmod n_57 3) (Int.tmod n_57 2) (Int.tmod (IntKind.i64.wrap (Int.tdiv n_57 2)) 2) (Int.tmod n_57 6)).bind fun x_67=>
   br (!x_67)
    (some (.inl ()))
    (br (decide ((Int.tmod n_57 7)=0))
     ((B8 N d2_63 d_59 d3_64 d4_65 d5_66).bind fun x_68=>
     br (!x_68)
      (some (.inl ()))
      (chk (u_58+1)<|
      Nd N n_ (u_58+1)))
     (chk (u_58+1)<|
     Nd N n_ (u_58+1))))
   (some (.inr ()))
def Sa(N:Nat):Nat→Int→Int→Int→Int→Int→Int→Int→Li→Li→Li→Ll→Li→Li→Ll→Li→Li→Option (Int×Int×Int×Int×Int×Li×Li×Li×Ll×Li×Li×Ll×Li×Li)
 | 0,_,_,_,_,_,_,_,_,_,_,_,_,_,_,_,_=>none
 | n_+1,n,u,u2,u3,traits,lost,found,traits2,traits3,lost2,lost3,lost4,found2,found3,traits4,traits5=>
  br (decide (u3<u2))
   (chk (1+u3)<|
   lim (traits2.length+[(1+u3)].length)<|
   lim (traits4.length+[(Int.tmod u3 6)].length)<|
   lim (traits5.length+[(Int.tmod u3 5)].length)<|
   lim (lost3.length+([[(Int.tmod u3 6)]]).length)<|
   lim (lost4.length+[u3].length)<|
   lim (found3.length+([[(Int.tmod u3 6)]]).length)<|
   chk (u3+1)<|
   Sa N n_ n u u2 (u3+1) traits lost found (traits2++[(1+u3)]) traits3 lost2 (lost3++[[(Int.tmod u3 6)]]) (lost4++[u3]) found2 (found3++[[(Int.tmod u3 6)]]) (traits4++[(Int.tmod u3 6)]) (traits5++[(Int.tmod u3 5)]))
   (some ((n,u,traits,lost,found,traits2,traits3,lost2,lost3,lost4,found2,found3,traits4,traits5)))
def Iy(N:Nat):Nat→Int→Int→Int→Int→(List (Li×(Int×(Ll×(Ll×Li)))))→Option ((Unit)⊕(Int))
 | 0,_,_,_,_,_=>none
 | n_+1,n,u,u2,u3,g=>
  br (decide (u3<u2))
   (rng u3 g.length<|
   get g u3.toNat fun x_83=>
   rng u3 [5,6,6].length<|
   get [5,6,6] u3.toNat fun x_84=>
   chk (n-1)<|
   chk (n-1)<|
   (O8 N x_83.1 x_83.2.1 x_83.2.2.1 x_83.2.2.2.1 x_83.2.2.2.2 (n-1) (n-1)).bind fun x_85=>
   br (!x_85)
    (some (.inl ()))
    ((Yu N x_83.1 x_83.2.1 x_83.2.2.1 x_83.2.2.2.1 x_83.2.2.2.2).bind fun x_86=>
    br (!x_86)
     (some (.inl ()))
     ((Z6 N x_83.1 x_83.2.1 x_83.2.2.1 x_83.2.2.2.1 x_83.2.2.2.2 0 0 1).bind fun x_87=>
     br (!x_87)
      (some (.inl ()))
      ((Jy N x_83.1 x_83.2.1 x_83.2.2.1 x_83.2.2.2.1 x_83.2.2.2.2).bind fun x_88=>
      br (decide (n≤x_84))
       (br (decide (0<n))
        (br (!((decide (x_88=0))==true))
         (some (.inl ()))
         (chk (u3+1)<|
         Iy N n_ n u u2 (u3+1) g))
        (br (!((decide (x_88=0))==(decide (0<u3))))
         (some (.inl ()))
         (chk (u3+1)<|
         Iy N n_ n u u2 (u3+1) g)))
       (br (!((decide (x_88=0))==false))
        (some (.inl ()))
        (chk (u3+1)<|
        Iy N n_ n u u2 (u3+1) g))))))
   (some (.inr u))
def A1d(N:Nat)(rec:Int→Option ((Unit)⊕(Unit)))(n u:Int)(traits:Li)(traits2:Int)(traits3 traits4:Ll)(traits5 lost:Li)(lost2:Int)(lost3 lost4:Ll)(lost5 found:Li)(found2:Int)(found3 found4:Ll)(found5:Li):Option ((Unit)⊕(Unit)):=
 (Iy N N n u ([(traits,traits2,traits3,traits4,traits5),(lost,lost2,lost3,lost4,lost5),(found,found2,found3,found4,found5)].length:Int) 0 [(traits,traits2,traits3,traits4,traits5),(lost,lost2,lost3,lost4,lost5),(found,found2,found3,found4,found5)]).bind fun e=>match e with
 | .inl _=>
  some (.inl ())
 | .inr u_89=>
  chk (u_89+1)<|
  rec (u_89+1)
def Mp(N:Nat):Nat→Int→Option ((Unit)⊕(Unit))
 | 0,_=>none
 | n_+1,u=>
  br (decide (u<9))
   ((Sa N N u u u 0 0 0 0 [] [1] [1] [] [] [1] [] [] []).bind fun(n_69,u_70,traits_71,lost_72,found_73,traits2_74,traits3_75,lost2_76,lost3_77,lost4_78,found2_79,found3_80,traits4_81,traits5_82)=>
   A1d N (Mp N n_) n_69 u_70 traits2_74 traits_71 [traits4_81] [traits5_82] traits3_75 lost2_76 lost_72 lost3_77 [] lost4_78 found2_79 found_73 [] found3_80 [])
   (some (.inr ()))
def Yh(N:Nat)  : Option Bool:=
 (Sj N N ([-9223372036854775808,-2,-1,0,1,2,3,4,5,6,9,10,99,100,999,1000,9223372036854775807].length:Int) 0 [-9223372036854775808,-2,-1,0,1,2,3,4,5,6,9,10,99,100,999,1000,9223372036854775807]).bind fun e=>match e with
 | .inl _=>
  some false
 | .inr _=>
  (Nd N N 0).bind fun e=>match e with
  | .inl _=>
   some false
  | .inr _=>
   (Mp N N 0).bind fun e=>match e with
   | .inl _=>
    some false
   | .inr _=>
    (Ao N).bind fun x_90=>
    some x_90
noncomputable def C5(N:Nat):Oks:=[⟨_,A3s N⟩,⟨_,La N⟩,⟨_,Rk N⟩,⟨_,Rh N⟩,⟨_,A3r N⟩,⟨_,Adu N⟩,⟨_,A9r N⟩,⟨_,Hk N⟩,⟨_,Cc N⟩]
abbrev A9t:List StSh:=[⟨[.b],[]⟩]
noncomputable abbrev Db:Body:=mkB Tryz.f3 A9t 0
noncomputable def Bk(N:Nat){top:Bool}:LpQ Db top:=mkL (Z:=(Unit)⊕(Int×Int×Li)) (C5 N) [] [.c [1,0,1,0,0,1,1,0,0,1,1,0,0,0],.c [1,0,1,0,0,1,1,0,0,1,1,0,0,1],.l [1,0,1,0,0,1,1,0,0,1,1,0,0],.b 2,.b 1,.c [1,0,1,0,0,1,1,1],.l [1,0,1,0,0],.b 0,.c [1,1]] ⟨[2,28,29,30,34],⟨[shI,.ols 0,shI,shI,shI],[.lst (.int .i64)]⟩⟩ (fun m p=>Aa N m p.1.1 p.1.2.2.1 p.1.2.2.2.1 p.1.2.2.2.2.1 p.2.1) [⟨[.c [1,0,1,0,0,1,1,0,0,1,1,0,0,1,1,0,0,1,1,1,1,1,1,0,0],.c [1,0,1,0,0,1,1,0,0,1,1,0,0,1,1,0,0,1,1,1,1,1,1,0,1],.b 3,.c [1,0,1,0,0,1,1,0,0,1,1,0,0,1,1,1],.l [1,0,1,0,0,1,1,0,0,1,1,0,0],.b 2,.b 1,.c [1,0,1,0,0,1,1,1],.l [1,0,1,0,0],.b 0,.c [1,1]],⟨[],⟨[],[]⟩⟩,fun p=>some (.inl ())⟩,⟨[.c [1,0,1,0,0,1,1,1],.l [1,0,1,0,0],.b 0,.c [1,1]],⟨[28,29,30],⟨[.ols 0,shI,shI],[.lst (.int .i64)]⟩⟩,fun p=>some (.inr (p.1.2.1,p.1.2.2.1,p.2.1))⟩] (fun _=>[]) (fun k e=>match e with | .inl x=>k (.inl ((),())) | .inr x=>k (.inr (.inl (((),x.1,x.2.1,()),(x.2.2,()))))) N (fun m p=>by kernel_rfl) (hg:=(by rintro _ _ (_ | _)<;>rfl))
noncomputable def Bw(N:Nat){top:Bool}:LpQ Db top:=mkL (Z:=(Unit)⊕(Unit)) (C5 N) [Bk N] [.c [1,0,1,0,0,0],.c [1,0,1,0,0,1],.l [1,0,1,0,0],.b 0,.c [1,1]] ⟨[28,29,30],⟨[.ols 0,shI,shI],[.lst (.int .i64)]⟩⟩ (fun m p=>Sj N m p.1.2.1 p.1.2.2.1 p.2.1) [⟨[.c [1,0,1,0,0,1,1,0,0,1,1,0,0,1,1,0,0,1,1,1,1,1,1,0,0],.c [1,0,1,0,0,1,1,0,0,1,1,0,0,1,1,0,0,1,1,1,1,1,1,0,1],.b 3,.c [1,0,1,0,0,1,1,0,0,1,1,0,0,1,1,1],.l [1,0,1,0,0,1,1,0,0,1,1,0,0],.b 2,.b 1,.c [1,0,1,0,0,1,1,1],.l [1,0,1,0,0],.b 0,.c [1,1]],⟨[],⟨[],[]⟩⟩,fun p=>some (.inl ())⟩,⟨[.c [1,1,0,0],.c [1,1,0,1],.c [1,1,1]],⟨[],⟨[],[]⟩⟩,fun p=>some (.inr ())⟩] (fun _=>[]) (fun k e=>match e with | .inl x=>k (.inl ((),())) | .inr x=>k (.inr (.inl ((),())))) N (fun m p=>by kernel_rfl) (hg:=(by rintro _ _ (_ | _)<;>rfl))
noncomputable def C8(N:Nat){top:Bool}:LpQ Db top:=mkL (Z:=Int×Int×Int×Li×Li×Li×Ll×Li) (C5 N) [Bk N,Bw N] [.c [1,1,0,1,0,0,1,1,0,0,1,1,1,0,1,0,0,0],.c [1,1,0,1,0,0,1,1,0,0,1,1,1,0,1,0,0,1],.l [1,1,0,1,0,0,1,1,0,0,1,1,1,0,1,0,0],.b 6,.c [1,1,0,1,0,0,1,1,0,0,1,1,1,1],.b 5,.c [1,1,0,1,0,0,1,1,1],.l [1,1,0,1,0,0],.b 4,.c [1,1,1]] ⟨[13,14,15,16,17,106,117,118],⟨[shI,.own 0 0,.ols 1,.ols 2,.nils,shI,shI,shI],[.segs [.ols 3,shI,.ols 4,.nils,.ols 5],.lst (.int .i64),.lst (.int .i64),.lst (.int .i64),.lst Qa,.lst (.int .i64)]⟩⟩ (fun m p=>T7 N m p.1.1 p.1.2.2.2.2.2.1 p.1.2.2.2.2.2.2.1 p.1.2.2.2.2.2.2.2.1 p.2.1.2.1 p.2.2.1 p.2.2.2.1 p.2.2.2.2.1 p.2.2.2.2.2.1 p.2.2.2.2.2.2.1) [⟨[.c [1,1,0,1,0,0,1,1,0,0,1,1,1,1,0,0],.c [1,1,0,1,0,0,1,1,0,0,1,1,1,1,0,1],.c [1,1,0,1,0,0,1,1,0,0,1,1,1,1,1],.b 5,.c [1,1,0,1,0,0,1,1,1],.l [1,1,0,1,0,0],.b 4,.c [1,1,1]],⟨[13,14,15,16,17,106],⟨[shI,.own 0 0,.ols 1,.ols 2,.nils,shI],[.segs [.ols 3,shI,.ols 4,.nils,.ols 5],.lst (.int .i64),.lst (.int .i64),.lst (.int .i64),.lst Qa,.lst (.int .i64)]⟩⟩,fun p=>some ((p.1.1,p.1.2.2.2.2.2.1,p.2.1.2.1,p.2.2.1,p.2.2.2.1,p.2.2.2.2.1,p.2.2.2.2.2.1,p.2.2.2.2.2.2.1))⟩] (fun _=>[]) (fun k e=>k (.inl ((e.1,(),(),(),(),e.2.1,()),(((),e.2.2.1,(),(),(),()),e.2.2.2.1,e.2.2.2.2.1,e.2.2.2.2.2.1,e.2.2.2.2.2.2.1,e.2.2.2.2.2.2.2,())))) N (fun m p=>by kernel_rfl)
noncomputable def D8(N:Nat){top:Bool}:LpQ Db top:=mkL (Z:=Int×Int×Int×Li×Li×Li×Li×Ll×Ll×Li) (C5 N) [Bk N,Bw N,C8 N] [.c [1,1,0,1,0,0,1,1,0,0,1,1,1,1,0,1,0,0,0],.c [1,1,0,1,0,0,1,1,0,0,1,1,1,1,0,1,0,0,1],.l [1,1,0,1,0,0,1,1,0,0,1,1,1,1,0,1,0,0],.b 8,.c [1,1,0,1,0,0,1,1,0,0,1,1,1,1,1],.b 5,.c [1,1,0,1,0,0,1,1,1],.l [1,1,0,1,0,0],.b 4,.c [1,1,1]] ⟨[13,14,15,16,17,106,165,166],⟨[shI,.own 0 0,.ols 1,.ols 2,.ols 3,shI,shI,shI],[.segs [.ols 4,shI,.ols 5,.ols 6,.ols 7],.lst (.int .i64),.lst (.int .i64),.lst (.int .i64),.lst (.int .i64),.lst Qa,.lst Qa,.lst (.int .i64)]⟩⟩ (fun m p=>T3 N m p.1.1 p.1.2.2.2.2.2.1 p.1.2.2.2.2.2.2.1 p.1.2.2.2.2.2.2.2.1 p.2.1.2.1 p.2.2.1 p.2.2.2.1 p.2.2.2.2.1 p.2.2.2.2.2.1 p.2.2.2.2.2.2.1 p.2.2.2.2.2.2.2.1 p.2.2.2.2.2.2.2.2.1) [⟨[.c [1,1,0,1,0,0,1,1,0,0,1,1,1,1,1,0],.c [1,1,0,1,0,0,1,1,0,0,1,1,1,1,1,1],.b 5,.c [1,1,0,1,0,0,1,1,1],.l [1,1,0,1,0,0],.b 4,.c [1,1,1]],⟨[13,14,15,16,17,106],⟨[shI,.own 0 0,.ols 1,.ols 2,.ols 3,shI],[.segs [.ols 4,shI,.ols 5,.ols 6,.ols 7],.lst (.int .i64),.lst (.int .i64),.lst (.int .i64),.lst (.int .i64),.lst Qa,.lst Qa,.lst (.int .i64)]⟩⟩,fun p=>some ((p.1.1,p.1.2.2.2.2.2.1,p.2.1.2.1,p.2.2.1,p.2.2.2.1,p.2.2.2.2.1,p.2.2.2.2.2.1,p.2.2.2.2.2.2.1,p.2.2.2.2.2.2.2.1,p.2.2.2.2.2.2.2.2.1))⟩] (fun _=>[]) (fun k e=>k (.inl ((e.1,(),(),(),(),e.2.1,()),(((),e.2.2.1,(),(),(),()),e.2.2.2.1,e.2.2.2.2.1,e.2.2.2.2.2.1,e.2.2.2.2.2.2.1,e.2.2.2.2.2.2.2.1,e.2.2.2.2.2.2.2.2.1,e.2.2.2.2.2.2.2.2.2,())))) N (fun m p=>by kernel_rfl)
noncomputable def Er(N:Nat){top:Bool}:LpQ Db top:=mkL (Z:=(Unit)⊕(Unit)) (C5 N) [Bk N,Bw N,C8 N,D8 N] [.c [1,1,0,1,0,0,0],.c [1,1,0,1,0,0,1],.l [1,1,0,1,0,0],.b 4,.c [1,1,1]] ⟨[106],⟨[shI],[]⟩⟩ (fun m p=>Nd N m p.1.1) [⟨[.c [1,1,0,1,0,0,1,1,0,0,1,1,1,1,1,1,0,0],.c [1,1,0,1,0,0,1,1,0,0,1,1,1,1,1,1,0,1],.b 5,.c [1,1,0,1,0,0,1,1,1],.l [1,1,0,1,0,0],.b 4,.c [1,1,1]],⟨[],⟨[],[]⟩⟩,fun p=>some (.inl ())⟩,⟨[.c [1,1,1,0,0],.c [1,1,1,0,1],.c [1,1,1,1]],⟨[],⟨[],[]⟩⟩,fun p=>some (.inr ())⟩] (fun _=>[]) (fun k e=>match e with | .inl x=>k (.inl ((),())) | .inr x=>k (.inr (.inl ((),())))) N (fun m p=>by kernel_rfl) (hg:=(by rintro _ _ (_ | _)<;>rfl))
noncomputable def Hd(N:Nat){top:Bool}:LpQ Db top:=mkL (Z:=Int×Int×Int×Int×Int×Li×Li×Li×Ll×Li×Li×Ll×Li×Li) (C5 N) [Bk N,Bw N,C8 N,D8 N,Er N] [.c [1,1,1,0,1,0,0,1,1,0,0,1,1,0,1,0,0,0],.c [1,1,1,0,1,0,0,1,1,0,0,1,1,0,1,0,0,1],.l [1,1,1,0,1,0,0,1,1,0,0,1,1,0,1,0,0],.b 12,.c [1,1,1,0,1,0,0,1,1,0,0,1,1,1],.b 11,.c [1,1,1,0,1,0,0,1,1,1],.l [1,1,1,0,1,0,0],.b 10,.c [1,1,1,1]] ⟨[20,21,22,23,219,230,231],⟨[shI,.own 0 0,.own 1 0,.own 2 0,shI,shI,shI],[.segs [.ols 3,shI,.osl 4 1,.osl 5 1,.ols 6],.segs [.ols 7,shI,.ols 8,.nils,.ols 9],.segs [.ols 10,shI,.nils,.ols 11,.nils],.lst (.int .i64),.segs [.ols 12],.segs [.ols 13],.lst (.int .i64),.lst (.int .i64),.lst Qa,.lst (.int .i64),.lst (.int .i64),.lst Qa,.lst (.int .i64),.lst (.int .i64)]⟩⟩ (fun m p=>Sa N m p.1.1 p.1.2.2.2.2.1 p.1.2.2.2.2.2.1 p.1.2.2.2.2.2.2.1 p.2.1.2.1 p.2.2.1.2.1 p.2.2.2.1.2.1 p.2.2.2.2.1 p.2.2.2.2.2.2.2.1 p.2.2.2.2.2.2.2.2.1 p.2.2.2.2.2.2.2.2.2.1 p.2.2.2.2.2.2.2.2.2.2.1 p.2.2.2.2.2.2.2.2.2.2.2.1 p.2.2.2.2.2.2.2.2.2.2.2.2.1 p.2.2.2.2.2.2.2.2.2.2.2.2.2.1 p.2.2.2.2.2.2.2.2.2.2.2.2.2.2.1) [⟨[.c [1,1,1,0,1,0,0,1,1,0,0,1,1,1,0],.c [1,1,1,0,1,0,0,1,1,0,0,1,1,1,1],.b 11,.c [1,1,1,0,1,0,0,1,1,1],.l [1,1,1,0,1,0,0],.b 10,.c [1,1,1,1]],⟨[20,21,22,23,219],⟨[shI,.own 0 0,.own 1 0,.own 2 0,shI],[.segs [.ols 3,shI,.osl 4 1,.osl 5 1,.ols 6],.segs [.ols 7,shI,.ols 8,.nils,.ols 9],.segs [.ols 10,shI,.nils,.ols 11,.nils],.lst (.int .i64),.segs [.ols 12],.segs [.ols 13],.lst (.int .i64),.lst (.int .i64),.lst Qa,.lst (.int .i64),.lst (.int .i64),.lst Qa,.lst (.int .i64),.lst (.int .i64)]⟩⟩,fun p=>some ((p.1.1,p.1.2.2.2.2.1,p.2.1.2.1,p.2.2.1.2.1,p.2.2.2.1.2.1,p.2.2.2.2.1,p.2.2.2.2.2.2.2.1,p.2.2.2.2.2.2.2.2.1,p.2.2.2.2.2.2.2.2.2.1,p.2.2.2.2.2.2.2.2.2.2.1,p.2.2.2.2.2.2.2.2.2.2.2.1,p.2.2.2.2.2.2.2.2.2.2.2.2.1,p.2.2.2.2.2.2.2.2.2.2.2.2.2.1,p.2.2.2.2.2.2.2.2.2.2.2.2.2.2.1))⟩] (fun _=>[]) (fun k e=>k (.inl ((e.1,(),(),(),e.2.1,()),(((),e.2.2.1,(),(),(),()),((),e.2.2.2.1,(),(),(),()),((),e.2.2.2.2.1,(),(),(),()),e.2.2.2.2.2.1,((),()),((),()),e.2.2.2.2.2.2.1,e.2.2.2.2.2.2.2.1,e.2.2.2.2.2.2.2.2.1,e.2.2.2.2.2.2.2.2.2.1,e.2.2.2.2.2.2.2.2.2.2.1,e.2.2.2.2.2.2.2.2.2.2.2.1,e.2.2.2.2.2.2.2.2.2.2.2.2.1,e.2.2.2.2.2.2.2.2.2.2.2.2.2,())))) N (fun m p=>by kernel_rfl)
noncomputable def Kv(N:Nat){top:Bool}:LpQ Db top:=mkL (Z:=(Unit)⊕(Int)) (C5 N) [Bk N,Bw N,C8 N,D8 N,Er N,Hd N] [.c [1,1,1,0,1,0,0,1,1,0,0,1,1,1,1,0,0,0],.c [1,1,1,0,1,0,0,1,1,0,0,1,1,1,1,0,0,1],.l [1,1,1,0,1,0,0,1,1,0,0,1,1,1,1,0,0],.b 14,.b 11,.c [1,1,1,0,1,0,0,1,1,1],.l [1,1,1,0,1,0,0],.b 10,.c [1,1,1,1]] ⟨[20,219,289,290,291],⟨[shI,shI,.ols 0,shI,shI],[.lst (.pair Qa Qb)]⟩⟩ (fun m p=>Iy N m p.1.1 p.1.2.1 p.1.2.2.2.1 p.1.2.2.2.2.1 p.2.1) [⟨[.c [1,1,1,0,1,0,0,1,1,0,0,1,1,1,1,0,0,1,1,0,0,1,1,1,0,0],.c [1,1,1,0,1,0,0,1,1,0,0,1,1,1,1,0,0,1,1,0,0,1,1,1,0,1],.b 15,.c [1,1,1,0,1,0,0,1,1,0,0,1,1,1,1,0,0,1,1,1],.l [1,1,1,0,1,0,0,1,1,0,0,1,1,1,1,0,0],.b 14,.b 11,.c [1,1,1,0,1,0,0,1,1,1],.l [1,1,1,0,1,0,0],.b 10,.c [1,1,1,1]],⟨[],⟨[],[]⟩⟩,fun p=>some (.inl ())⟩,⟨[.c [1,1,1,0,1,0,0,1,1,1],.l [1,1,1,0,1,0,0],.b 10,.c [1,1,1,1]],⟨[219],⟨[shI],[]⟩⟩,fun p=>some (.inr p.1.1)⟩] (fun _=>[]) (fun k e=>match e with | .inl x=>k (.inl ((),())) | .inr x=>k (.inr (.inl ((x,()),())))) N (fun m p=>by kernel_rfl) (hg:=(by rintro _ _ (_ | _)<;>rfl))
abbrev Qe:List PI:=[.c [1,1,1,0,1,0,0,0],.c [1,1,1,0,1,0,0,1],.l [1,1,1,0,1,0,0],.b 10,.c [1,1,1,1]]
abbrev Rw:Sta:=⟨[219],⟨[shI],[]⟩⟩
abbrev Abb(rec:Int→Option ((Unit)⊕(Unit))):Leaf ((Unit)⊕(Unit)):=⟨Qe,Rw,fun p=>rec p.1.1⟩
abbrev Pl:Leaf ((Unit)⊕(Unit)):=⟨[.c [1,1,1,0,1,0,0,1,1,0,0,1,1,1,1,0,0,1,1,0,0,1,1,1,0,0],.c [1,1,1,0,1,0,0,1,1,0,0,1,1,1,1,0,0,1,1,0,0,1,1,1,0,1],.b 15,.c [1,1,1,0,1,0,0,1,1,0,0,1,1,1,1,0,0,1,1,1],.l [1,1,1,0,1,0,0,1,1,0,0,1,1,1,1,0,0],.b 14,.b 11,.c [1,1,1,0,1,0,0,1,1,1],.l [1,1,1,0,1,0,0],.b 10,.c [1,1,1,1]],⟨[],⟨[],[]⟩⟩,fun p=>some (.inl ())⟩
abbrev Q0:Leaf ((Unit)⊕(Unit)):=⟨[.c [1,1,1,1,0],.c [1,1,1,1,1]],⟨[],⟨[],[]⟩⟩,fun p=>some (.inr ())⟩
noncomputable def A9y(N:Nat)(rec:Int→Option ((Unit)⊕(Unit))){top:Bool}:JnQ (Z:=(Unit)⊕(Unit)) Db top none [Abb rec,Pl,Q0]:=mkJ (C5 N) [Bk N,Bw N,C8 N,D8 N,Er N,Hd N,Kv N] [] ⟨[.c [1,1,1,0,1,0,0,1,1,0,0,1,1,1,0],.c [1,1,1,0,1,0,0,1,1,0,0,1,1,1,1],.b 11,.c [1,1,1,0,1,0,0,1,1,1],.l [1,1,1,0,1,0,0],.b 10,.c [1,1,1,1]],⟨[20,21,22,23,219],⟨[shI,.own 0 0,.own 1 0,.own 2 0,shI],[.segs [shL,shI,shQ,shQ,shL],.segs [shL,shI,shQ,shQ,shL],.segs [shL,shI,shQ,shQ,shL]]⟩⟩,fun p=>A1d N rec p.1.1 p.1.2.2.2.2.1 p.2.1.1 p.2.1.2.1 p.2.1.2.2.1 p.2.1.2.2.2.1 p.2.1.2.2.2.2.1 p.2.2.1.1 p.2.2.1.2.1 p.2.2.1.2.2.1 p.2.2.1.2.2.2.1 p.2.2.1.2.2.2.2.1 p.2.2.2.1.1 p.2.2.2.1.2.1 p.2.2.2.1.2.2.1 p.2.2.2.1.2.2.2.1 p.2.2.2.1.2.2.2.2.1⟩ (fun p=>by kernel_rfl)
noncomputable def A97(N:Nat){top:Bool}:LpQ Db top:=mkL (Z:=(Unit)⊕(Unit)) (C5 N) [Bk N,Bw N,C8 N,D8 N,Er N,Hd N,Kv N] Qe Rw (fun m p=>Mp N m p.1.1) [Pl,Q0] (fun m=>[A9y N (Mp N m)]) (fun k e=>match e with | .inl x=>k (.inl ((),())) | .inr x=>k (.inr (.inl ((),())))) N (fun m p=>by kernel_rfl) (hg:=(by rintro _ _ (_ | _)<;>rfl))
noncomputable def Ahq(N:Nat):Spec:=mkS 3 ⟨[],[]⟩ A9t (fun p=>Yh N) (fun k r=>k ((r,()),()))
theorem A57(N:Nat):A0 Tryz.prog (Ahq N):=mkF (R:=Bool) (m0:=0) (C5 N) [Bk N,Bw N,C8 N,D8 N,Er N,Hd N,Kv N,A97 N] (fun r=>some r.1.1) [] Tryz.func3 (fun p=>by kernel_rfl) (by kernel_rfl) (fun _=>by kernel_rfl)

end Go.Proofs.YthncjilcflilcaaGreat

namespace Go.Proofs.YthncjilcflilcaaGreat
set_option linter.all false
open Go
theorem A86:Yh 1100=some true:=by kernel_rfl
end Go.Proofs.YthncjilcflilcaaGreat

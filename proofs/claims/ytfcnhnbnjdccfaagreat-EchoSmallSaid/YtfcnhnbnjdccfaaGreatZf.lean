/-
  Parts of a proof, put together: Pl29, E8, Pl1, Pl2, LcP, Pl3, Pl4, Pl5, Pl6, Pl7, Pl8, Pl9, Pl10, Pl11, Pl12, Pl13, Pl14, Pl15.
  Conditions: none.
-/
import Derived.Test.YtfcnhnbnjdccfaaGreatZd
import Derived.Test.YtfcnhnbnjdccfaaGreatZe
namespace Go.Proofs.YtfcnhnbnjdccfaaGreat
set_option linter.all false
open Go

theorem Bs{M:Nat→Option Obj}:∀(l:List Int) (vs:List Value),RepL M (.int .i64) l vs↔vs=l.map (.int .i64)∧∀x∈l,inR .i64 x
 | [],vs=>by simp[RepL]
 | x::l,vs=>by
  simp only[RepL,RepC,List.map_cons,List.mem_cons,forall_eq_or_imp]
  constructor
  ·rintro ⟨v1,v2,rfl,⟨rfl,h1⟩,h2⟩
   obtain⟨rfl,h3⟩:=(Bs l v2).1 h2
   exact⟨rfl,h1,h3⟩
  ·rintro ⟨rfl,h1,h3⟩
   exact⟨_,_,rfl,⟨rfl,h1⟩,(Bs l _).2 ⟨rfl,h3⟩⟩
theorem Ai6{N:Nat}{M:Nat→Option Obj}{w:World}{T:List (List Int)}{H A B:List Int}{f i a b v:Int}{G G':List Int}{pd:Value}{bg:Nat}{ty:TypeId}(hq:Jo N (T,H,f,A,B) i a b G=some (v,G'))(hM:∀b o,M b=some o→w.heap[b]?=some o)(hMb:M bg=none)
  (hd:∀ρ,RepV ⟨ρ,M⟩ (.fe Mq (T,H,f,A,B) 0) pd) (hB:Blk w bg (G.map (.int .i64)) ty) (hG:G.length=539) (hin:∀x∈G,inR .i64 x) (hi:inR .i64 i) (ha:inR .i64 a) (hb:inR .i64 b) :
  Fn Tryz.prog 19 #[pd,.pointer (some ⟨bg,0,none⟩),.int .i64 i,.int .i64 a,.int .i64 b] w (fun v' w'=>v'=.int .i64 v∧inR .i64 v∧Upd [bg] w w'∧(∃ty',Blk w' bg (G'.map (.int .i64)) ty')∧G'.length=539∧∀x∈G',inR .i64 x):=by
 have hrun:(Yb N).run (((T,H,f,A,B),(),i,a,b,()),((G,()),())) some=some ((v,()),((G',()),())):=by
  show((Jo N (T,H,f,A,B) i a b G).bind fun r=>some ((r.1,()),((r.2,()),())))=_
  rw[hq];rfl
 have hs:Sim ⟨fun j=>if j=0 then some (some (bg,0,0))else none,M⟩ (hOf (ss:=(Yb N).ins.blks) ((G,()),())) w:=by
  refine⟨hM,fun id k hk=>?_,fun i j ki kj b ci ni cj nj h1 h2 _ _ _ _=>?_⟩
  ·match id,hk with
   | 0,hk=>
    cases hk
    exact⟨bg,0,0,_,ty,rfl,hB,⟨G.map (.int .i64),[],by simp,⟨hG,(Bs _ _).2 ⟨rfl,hin⟩⟩,rfl⟩,hMb⟩
   | n+1,hk=>cases hk
  ·match i,j,h1,h2 with
   | 0,0,_,_=>rfl
   | 0,n+1,_,h=>cases h
   | n+1,_,h,_=>cases h
 have h:=(Ui N).fn (((T,H,f,A,B),(),i,a,b,()),((G,()),())) _ hrun _ w [pd,.pointer (some ⟨bg,0,none⟩),.int .i64 i,.int .i64 a,.int .i64 b] ⟨_,_,rfl,hd _,_,_,rfl,⟨bg,0,0,rfl,rfl⟩,_,_,rfl,⟨rfl,hi⟩,_,_,rfl,⟨rfl,ha⟩,_,_,rfl,⟨rfl,hb⟩,rfl⟩ hs (fun j hj=>by
  have:¬j=0:=by have h:1≤j:=hj;omega
  show(if j=0 then _ else _)=_
  rw[if_neg this])
 refine Fn.mono h ?_
 rintro v' w' ⟨g',st,hs',hv'⟩
 simp only[altOf,encs,enc,resVal,RepV]at hv'
 refine⟨hv'.1,hv'.2,⟨st.os,st.tape,st.output,st.size,fun k hk hn=>st.same k hk ?_⟩,?_⟩
 ·rintro ⟨id,hid,k',c,n,h1,h2,h3⟩
  have h3:(if id=0 then some (some (bg,0,0))else none)=some (some (k,c,n)):=h3
  split at h3
  ·simp only[Option.some.injEq,Prod.mk.injEq]at h3
   exact hn (by simp[h3.1])
  ·cases h3
 ·have hb0:=hs'.blk 0 (.segs [.arr (.int .i64) 539 G']) rfl
  simp only[RepBlk]at hb0
  obtain⟨b',c',n',us,ty',e1,e2,⟨v1,v2,rfl,⟨h1,h2⟩,h3⟩,_⟩:=hb0
  have e3:=st.ge.1 0 (some (bg,0,0)) rfl
  rw[e3]at e1
  cases e1
  obtain⟨rfl,h4⟩:=(Bs _ _).1 h2
  have h3:v2=[]:=h3
  subst h3
  rw[List.append_nil]at e2
  exact⟨⟨ty',e2⟩,h1,h4⟩
theorem A4o{n:Nat}(h:n≤10000):inR .i64 (n:Int):=by
 constructor
 ·have:IntKind.i64.min=-9223372036854775808:=by decide
  omega
 ·have:IntKind.i64.max=9223372036854775807:=by decide
  omega

noncomputable def c67:Code:=(Tryz.f6.body).getD .skip
noncomputable def Akz:List Item:=[.code (sub c67 [1,1,1,1,0]),.code (sub c67 [1,1,1,1,1])]
noncomputable def Apx:List Item:=[.code (sub c67 [1,1,1,1,1,0,0]),.code (sub c67 [1,1,1,1,1,0,1]),.code (sub c67 [1,1,1,1,1,1])]
noncomputable def Al3:List Item:=[.code (sub c67 [1,1,1,1,1,0,1,0,0,0]),.code (sub c67 [1,1,1,1,1,0,1,0,0,1]),.inLoop (sub c67 [1,1,1,1,1,0,1,0,0]),.inBlock 0,.code (sub c67 [1,1,1,1,1,1])]
noncomputable def Ail:List Item:=[.code (sub c67 [1,1,1,1,1,0,1,0,0,1,0]),.code (sub c67 [1,1,1,1,1,0,1,0,0,1,1]),.inLoop (sub c67 [1,1,1,1,1,0,1,0,0]),.inBlock 0,.code (sub c67 [1,1,1,1,1,1])]
noncomputable def Ahs:List Item:=[.code (sub c67 [1,1,1,1,1,0,1,0,0,1,1,0,0,0]),.code (sub c67 [1,1,1,1,1,0,1,0,0,1,1,0,0,1]),.inBlock 1,.code (sub c67 [1,1,1,1,1,0,1,0,0,1,1,1]),.inLoop (sub c67 [1,1,1,1,1,0,1,0,0]),.inBlock 0,.code (sub c67 [1,1,1,1,1,1])]
noncomputable def Ze:List Item:=[.code (sub c67 [1,1,1,1,1,1,0]),.code (sub c67 [1,1,1,1,1,1,1])]
noncomputable def Aph:List Item:=[.code (sub c67 [1,1,1,1,1,0,1,0,0,1,1,0,0,1,0]),.code (sub c67 [1,1,1,1,1,0,1,0,0,1,1,0,0,1,1]),.inBlock 1,.code (sub c67 [1,1,1,1,1,0,1,0,0,1,1,1]),.inLoop (sub c67 [1,1,1,1,1,0,1,0,0]),.inBlock 0,.code (sub c67 [1,1,1,1,1,1])]
noncomputable def Apj:List Item:=[.code (sub c67 [1,1,1,1,1,1,1])]
noncomputable def Abd:List Item:=[.code (sub c67 [1,1,1,1,1,0,1,0,0,1,1,0,0,1,1,0,0,0]),.code (sub c67 [1,1,1,1,1,0,1,0,0,1,1,0,0,1,1,0,0,1]),.inLoop (sub c67 [1,1,1,1,1,0,1,0,0,1,1,0,0,1,1,0,0]),.inBlock 2,.inBlock 1,.code (sub c67 [1,1,1,1,1,0,1,0,0,1,1,1]),.inLoop (sub c67 [1,1,1,1,1,0,1,0,0]),.inBlock 0,.code (sub c67 [1,1,1,1,1,1])]
noncomputable def Aka:List Item:=[.code (sub c67 [1,1,1,1,1,0,1,0,0,1,1,0,0,1,1,0,0,1,0]),.code (sub c67 [1,1,1,1,1,0,1,0,0,1,1,0,0,1,1,0,0,1,1]),.inLoop (sub c67 [1,1,1,1,1,0,1,0,0,1,1,0,0,1,1,0,0]),.inBlock 2,.inBlock 1,.code (sub c67 [1,1,1,1,1,0,1,0,0,1,1,1]),.inLoop (sub c67 [1,1,1,1,1,0,1,0,0]),.inBlock 0,.code (sub c67 [1,1,1,1,1,1])]
noncomputable def Ajc:List Item:=[.code (sub c67 [1,1,1,1,1,0,1,0,0,1,1,0,0,1,1,0,0,1,1,0,0,0]),.code (sub c67 [1,1,1,1,1,0,1,0,0,1,1,0,0,1,1,0,0,1,1,0,0,1]),.inBlock 3,.code (sub c67 [1,1,1,1,1,0,1,0,0,1,1,0,0,1,1,0,0,1,1,1]),.inLoop (sub c67 [1,1,1,1,1,0,1,0,0,1,1,0,0,1,1,0,0]),.inBlock 2,.inBlock 1,.code (sub c67 [1,1,1,1,1,0,1,0,0,1,1,1]),.inLoop (sub c67 [1,1,1,1,1,0,1,0,0]),.inBlock 0,.code (sub c67 [1,1,1,1,1,1])]
noncomputable def Abe:List Item:=[.code (sub c67 [1,1,1,1,1,0,1,0,0,1,1,1]),.inLoop (sub c67 [1,1,1,1,1,0,1,0,0]),.inBlock 0,.code (sub c67 [1,1,1,1,1,1])]
noncomputable def Ap9:List Item:=[.code (sub c67 [1,1,1,1,1,0,1,0,0,1,1,0,0,1,1,0,0,1,1,0,0,1,0]),.code (sub c67 [1,1,1,1,1,0,1,0,0,1,1,0,0,1,1,0,0,1,1,0,0,1,1]),.inBlock 3,.code (sub c67 [1,1,1,1,1,0,1,0,0,1,1,0,0,1,1,0,0,1,1,1]),.inLoop (sub c67 [1,1,1,1,1,0,1,0,0,1,1,0,0,1,1,0,0]),.inBlock 2,.inBlock 1,.code (sub c67 [1,1,1,1,1,0,1,0,0,1,1,1]),.inLoop (sub c67 [1,1,1,1,1,0,1,0,0]),.inBlock 0,.code (sub c67 [1,1,1,1,1,1])]
noncomputable def Aa3:List Item:=[.code (sub c67 [1,1,1,1,1,0,1,0,0,1,1,0,0,1,1,0,0,1,1,0,0,1,1,0,0,0]),.code (sub c67 [1,1,1,1,1,0,1,0,0,1,1,0,0,1,1,0,0,1,1,0,0,1,1,0,0,1]),.inLoop (sub c67 [1,1,1,1,1,0,1,0,0,1,1,0,0,1,1,0,0,1,1,0,0,1,1,0,0]),.inBlock 4,.inBlock 3,.code (sub c67 [1,1,1,1,1,0,1,0,0,1,1,0,0,1,1,0,0,1,1,1]),.inLoop (sub c67 [1,1,1,1,1,0,1,0,0,1,1,0,0,1,1,0,0]),.inBlock 2,.inBlock 1,.code (sub c67 [1,1,1,1,1,0,1,0,0,1,1,1]),.inLoop (sub c67 [1,1,1,1,1,0,1,0,0]),.inBlock 0,.code (sub c67 [1,1,1,1,1,1])]
noncomputable def Aip:List Item:=[.code (sub c67 [1,1,1,1,1,0,1,0,0,1,1,0,0,1,1,0,0,1,1,0,0,1,1,0,0,1,0]),.code (sub c67 [1,1,1,1,1,0,1,0,0,1,1,0,0,1,1,0,0,1,1,0,0,1,1,0,0,1,1]),.inLoop (sub c67 [1,1,1,1,1,0,1,0,0,1,1,0,0,1,1,0,0,1,1,0,0,1,1,0,0]),.inBlock 4,.inBlock 3,.code (sub c67 [1,1,1,1,1,0,1,0,0,1,1,0,0,1,1,0,0,1,1,1]),.inLoop (sub c67 [1,1,1,1,1,0,1,0,0,1,1,0,0,1,1,0,0]),.inBlock 2,.inBlock 1,.code (sub c67 [1,1,1,1,1,0,1,0,0,1,1,1]),.inLoop (sub c67 [1,1,1,1,1,0,1,0,0]),.inBlock 0,.code (sub c67 [1,1,1,1,1,1])]
noncomputable def Aj2:List Item:=[.code (sub c67 [1,1,1,1,1,0,1,0,0,1,1,0,0,1,1,0,0,1,1,0,0,1,1,0,0,1,1,0,0,0]),.code (sub c67 [1,1,1,1,1,0,1,0,0,1,1,0,0,1,1,0,0,1,1,0,0,1,1,0,0,1,1,0,0,1]),.inBlock 5,.code (sub c67 [1,1,1,1,1,0,1,0,0,1,1,0,0,1,1,0,0,1,1,0,0,1,1,0,0,1,1,1]),.inLoop (sub c67 [1,1,1,1,1,0,1,0,0,1,1,0,0,1,1,0,0,1,1,0,0,1,1,0,0]),.inBlock 4,.inBlock 3,.code (sub c67 [1,1,1,1,1,0,1,0,0,1,1,0,0,1,1,0,0,1,1,1]),.inLoop (sub c67 [1,1,1,1,1,0,1,0,0,1,1,0,0,1,1,0,0]),.inBlock 2,.inBlock 1,.code (sub c67 [1,1,1,1,1,0,1,0,0,1,1,1]),.inLoop (sub c67 [1,1,1,1,1,0,1,0,0]),.inBlock 0,.code (sub c67 [1,1,1,1,1,1])]
noncomputable def Aco:List Item:=[.code (sub c67 [1,1,1,1,1,0,1,0,0,1,1,0,0,1,1,0,0,1,1,1]),.inLoop (sub c67 [1,1,1,1,1,0,1,0,0,1,1,0,0,1,1,0,0]),.inBlock 2,.inBlock 1,.code (sub c67 [1,1,1,1,1,0,1,0,0,1,1,1]),.inLoop (sub c67 [1,1,1,1,1,0,1,0,0]),.inBlock 0,.code (sub c67 [1,1,1,1,1,1])]
noncomputable def Ao3:List Item:=[.code (sub c67 [1,1,1,1,1,0,1,0,0,1,1,0,0,1,1,0,0,1,1,0,0,1,1,0,0,1,1,0,0,1,0]),.code (sub c67 [1,1,1,1,1,0,1,0,0,1,1,0,0,1,1,0,0,1,1,0,0,1,1,0,0,1,1,0,0,1,1]),.inBlock 5,.code (sub c67 [1,1,1,1,1,0,1,0,0,1,1,0,0,1,1,0,0,1,1,0,0,1,1,0,0,1,1,1]),.inLoop (sub c67 [1,1,1,1,1,0,1,0,0,1,1,0,0,1,1,0,0,1,1,0,0,1,1,0,0]),.inBlock 4,.inBlock 3,.code (sub c67 [1,1,1,1,1,0,1,0,0,1,1,0,0,1,1,0,0,1,1,1]),.inLoop (sub c67 [1,1,1,1,1,0,1,0,0,1,1,0,0,1,1,0,0]),.inBlock 2,.inBlock 1,.code (sub c67 [1,1,1,1,1,0,1,0,0,1,1,1]),.inLoop (sub c67 [1,1,1,1,1,0,1,0,0]),.inBlock 0,.code (sub c67 [1,1,1,1,1,1])]
noncomputable def Apo:List Item:=[.code (sub c67 [1,1,1,1,1,0,1,0,0,1,1,0,0,1,1,0,0,1,1,0,0,1,1,0,0,1,1,0,0,1,1]),.inBlock 5,.code (sub c67 [1,1,1,1,1,0,1,0,0,1,1,0,0,1,1,0,0,1,1,0,0,1,1,0,0,1,1,1]),.inLoop (sub c67 [1,1,1,1,1,0,1,0,0,1,1,0,0,1,1,0,0,1,1,0,0,1,1,0,0]),.inBlock 4,.inBlock 3,.code (sub c67 [1,1,1,1,1,0,1,0,0,1,1,0,0,1,1,0,0,1,1,1]),.inLoop (sub c67 [1,1,1,1,1,0,1,0,0,1,1,0,0,1,1,0,0]),.inBlock 2,.inBlock 1,.code (sub c67 [1,1,1,1,1,0,1,0,0,1,1,1]),.inLoop (sub c67 [1,1,1,1,1,0,1,0,0]),.inBlock 0,.code (sub c67 [1,1,1,1,1,1])]
noncomputable def Ao4:List Item:=[.code (sub c67 [1,1,1,1,1,0,1,0,0,1,1,0,0,1,1,0,0,1,1,0,0,1,1,0,0,1,1,1]),.inLoop (sub c67 [1,1,1,1,1,0,1,0,0,1,1,0,0,1,1,0,0,1,1,0,0,1,1,0,0]),.inBlock 4,.inBlock 3,.code (sub c67 [1,1,1,1,1,0,1,0,0,1,1,0,0,1,1,0,0,1,1,1]),.inLoop (sub c67 [1,1,1,1,1,0,1,0,0,1,1,0,0,1,1,0,0]),.inBlock 2,.inBlock 1,.code (sub c67 [1,1,1,1,1,0,1,0,0,1,1,1]),.inLoop (sub c67 [1,1,1,1,1,0,1,0,0]),.inBlock 0,.code (sub c67 [1,1,1,1,1,1])]

def upd3(X:List (List (List Int)))(i a b:Nat)(v:Int):List (List (List Int)):=X.set i ((X.getD i []).set a (((X.getD i []).getD a []).set b v))
def mkBm(N:Nat)(d:List (List Int)×List Int×Int×List Int×List Int)(i a:Nat):Nat→Nat→List Int→List (List (List Int))→Option (List Int×List (List (List Int)))
 | 0,_,G,X=>some (G,X)
 | k+1,b,G,X=>(Jo N d i a b G).bind fun r=>mkBm N d i a k (b+1) (r.2.set (i*49+a*7+b) r.1) (upd3 X i a b r.1)
def mkA(N:Nat)(d:List (List Int)×List Int×Int×List Int×List Int)(B i:Nat):Nat→Nat→List Int→List (List (List Int))→Option (List Int×List (List (List Int)))
 | 0,_,G,X=>some (G,X)
 | k+1,a,G,X=>(mkBm N d i a B 0 G X).bind fun r=>mkA N d B i k (a+1) r.1 r.2
def mkI(N:Nat)(d:List (List Int)×List Int×Int×List Int×List Int)(A B:Nat):Nat→Nat→List Int→List (List (List Int))→Option (List Int×List (List (List Int)))
 | 0,_,G,X=>some (G,X)
 | k+1,i,G,X=>(mkA N d B i A 0 G X).bind fun r=>mkI N d A B k (i+1) r.1 r.2
theorem Fz{α:Type}(l:List α)(i j:Nat)(x d:α)(h:i<l.length):(l.set i x).getD j d=if j=i then x else l.getD j d:=by
 simp only[List.getD_eq_getElem?_getD]
 by_cases e:j=i
 ·subst e;rw[if_pos rfl,List.getElem?_set_self h];rfl
 ·rw[if_neg e,List.getElem?_set_ne (Ne.symm e)]
def Shp(X:List (List (List Int)))(I A B:Nat):Prop:=X.length=I∧∀i,i<I→(X.getD i []).length=A∧∀a,a<A→((X.getD i []).getD a []).length=B
theorem Shp.upd3{X:List (List (List Int))}{I A B i a b:Nat}{v:Int}(h:Shp X I A B)(hi:i<I)(ha:a<A):Shp (Proofs.YtfcnhnbnjdccfaaGreat.upd3 X i a b v) I A B:=by
 obtain⟨h1,h2⟩:=h
 unfold Proofs.YtfcnhnbnjdccfaaGreat.upd3
 refine⟨by simp[h1],fun j hj=>?_⟩
 rw[Fz _ _ _ _ _ (by omega)]
 by_cases e:j=i
 ·subst e
  rw[if_pos rfl]
  refine⟨by rw[List.length_set];exact(h2 j hj).1,fun c hc=>?_⟩
  rw[Fz _ _ _ _ _ (by rw[(h2 j hj).1];exact ha)]
  by_cases e2:c=a
  ·subst e2;rw[if_pos rfl,List.length_set];exact(h2 j hj).2 c hc
  ·rw[if_neg e2];exact(h2 j hj).2 c hc
 ·rw[if_neg e];exact h2 j hj
theorem Shp.zeros(I A B:Nat):Shp (Ck I A B) I A B:=by
 refine⟨by simp[Ck],fun i hi=>?_⟩
 have e:(Ck I A B).getD i []=Cv A B:=by simp[Ck,List.getD,hi]
 rw[e]
 refine⟨by simp[Cv],fun a ha=>?_⟩
 have e:(Cv A B).getD a []=List.replicate B 0:=by simp[Cv,List.getD,ha]
 rw[e];simp
structure MS (w0 w:World) (bg bo hi:Nat) (us:List Value) (tyO:TypeId) (I A B:Nat) (G:List Int) (X:List (List (List Int))):Prop where
 upd:Upd [bg] w0 w
 blk:Blk w bo us tyO
 mids:Ar w (bo+1) hi us X
 shp:Shp X I A B
 grid:∃ty,Blk w bg (G.map (.int .i64)) ty
 glen:G.length=539
 gin:∀x∈G,inR .i64 x
 low:bg<bo∧w0.heap.size≤bo
set_option maxHeartbeats 2000000 in
theorem Am0{X:Ctx}{df:List Deferred}{N:Nat}{M:Nat→Option Obj}{T:List (List Int)}{H A B:List Int}{f:Int}(bd od bg bo hi nH nA nB i a:Nat)(us:List Value)(tyO:TypeId)(w0:World)(hnH:nH≤10)(hnA:nA≤6)(hnB:nB≤6)(hi1:i<nH+1)(ha1:a<nA+1)(hM:∀b o,M b=some o→b≠bg∧w0.heap[b]?=some o)(hMb:M bg=none)(hd:∀ρ,RepV ⟨ρ,M⟩ (.fe Mq (T,H,f,A,B) 0) (.pointer (some ⟨bd,od,none⟩)))(G2:List Int)(X2:List (List (List Int)))(hk:∀w,MS w0 w bg bo hi us tyO (nH+1) (nA+1) (nB+1) G2 X2→St Tryz.prog X 79 Aco [(34,(.int .i64 (a:Int))),(33,(.int .i64 ((nA+1:Nat):Int))),(10,(.int .i64 (i:Int))),(26,(.int .i64 (i:Int))),(25,(.int .i64 ((nH+1:Nat):Int))),(6,(.pointer (some ⟨bd,od,none⟩))),(8,(.pointer (some ⟨bg,0,none⟩))),(9,(.slice (some ⟨bo,0,none⟩) (nH+1) (nH+1)))] df w) :
  ∀(k b:Nat) (G:List Int) (XX:List (List (List Int))) (w:World),k+b=nB+1→mkBm N (T,H,f,A,B) i a k b G XX=some (G2,X2)→MS w0 w bg bo hi us tyO (nH+1) (nA+1) (nB+1) G XX→St Tryz.prog X 79 Aa3 [(45,(.int .i64 (b:Int))),(44,(.int .i64 ((nB+1:Nat):Int))),(11,(.int .i64 (a:Int))),(34,(.int .i64 (a:Int))),(33,(.int .i64 ((nA+1:Nat):Int))),(10,(.int .i64 (i:Int))),(26,(.int .i64 (i:Int))),(25,(.int .i64 ((nH+1:Nat):Int))),(6,(.pointer (some ⟨bd,od,none⟩))),(8,(.pointer (some ⟨bg,0,none⟩))),(9,(.slice (some ⟨bo,0,none⟩) (nH+1) (nH+1)))] df w:=by
 intro k
 induction k with
 | zero=>
  intro b G XX w hkb hq hS
  simp only[mkBm,Option.some.injEq,Prod.mk.injEq]at hq
  obtain⟨rfl,rfl⟩:=hq
  refine St.reg Aip [(0,true)] (by kernel_rfl) (by kernel_rfl) ?_
  refine RX.q 1 [] [(46,.bool (decide ((b:Int)<((nB+1:Nat):Int)))),(45,(.int .i64 (b:Int))),(44,(.int .i64 ((nB+1:Nat):Int))),(11,(.int .i64 (a:Int))),(34,(.int .i64 (a:Int))),(33,(.int .i64 ((nA+1:Nat):Int))),(10,(.int .i64 (i:Int))),(26,(.int .i64 (i:Int))),(25,(.int .i64 ((nH+1:Nat):Int))),(6,(.pointer (some ⟨bd,od,none⟩))),(8,(.pointer (some ⟨bg,0,none⟩))),(9,(.slice (some ⟨bo,0,none⟩) (nH+1) (nH+1)))] [] (by kernel_rfl) trivial ?_
  refine RX.done [(46,.bool (decide ((b:Int)<((nB+1:Nat):Int)))),(45,(.int .i64 (b:Int))),(44,(.int .i64 ((nB+1:Nat):Int))),(11,(.int .i64 (a:Int))),(34,(.int .i64 (a:Int))),(33,(.int .i64 ((nA+1:Nat):Int))),(10,(.int .i64 (i:Int))),(26,(.int .i64 (i:Int))),(25,(.int .i64 ((nH+1:Nat):Int))),(6,(.pointer (some ⟨bd,od,none⟩))),(8,(.pointer (some ⟨bg,0,none⟩))),(9,(.slice (some ⟨bo,0,none⟩) (nH+1) (nH+1)))] (by kernel_rfl) (by kernel_rfl) ?_
  refine St.cond (k1:=Aj2) (k2:=Aco) (decide ((b:Int)<((nB+1:Nat):Int))) (by kernel_rfl) (fun hc=>?_) (fun hc=>?_)
  ·have hh:(b:Int)<((nB+1:Nat):Int):=by simpa using hc
   omega
  ·exact St.weak (L':=[(34,(.int .i64 (a:Int))),(33,(.int .i64 ((nA+1:Nat):Int))),(10,(.int .i64 (i:Int))),(26,(.int .i64 (i:Int))),(25,(.int .i64 ((nH+1:Nat):Int))),(6,(.pointer (some ⟨bd,od,none⟩))),(8,(.pointer (some ⟨bg,0,none⟩))),(9,(.slice (some ⟨bo,0,none⟩) (nH+1) (nH+1)))]) (by kernel_rfl) (hk w hS)
 | succ k ih=>
  intro b G XX w hkb hq hS
  unfold mkBm at hq
  obtain⟨⟨v,G'⟩,hq1,hq2⟩:=bind_some hq
  dsimp only at hq2
  have hbl:b<nB+1:=by omega
  refine St.reg Aip [(0,true)] (by kernel_rfl) (by kernel_rfl) ?_
  refine RX.q 1 [] [(46,.bool (decide ((b:Int)<((nB+1:Nat):Int)))),(45,(.int .i64 (b:Int))),(44,(.int .i64 ((nB+1:Nat):Int))),(11,(.int .i64 (a:Int))),(34,(.int .i64 (a:Int))),(33,(.int .i64 ((nA+1:Nat):Int))),(10,(.int .i64 (i:Int))),(26,(.int .i64 (i:Int))),(25,(.int .i64 ((nH+1:Nat):Int))),(6,(.pointer (some ⟨bd,od,none⟩))),(8,(.pointer (some ⟨bg,0,none⟩))),(9,(.slice (some ⟨bo,0,none⟩) (nH+1) (nH+1)))] [] (by kernel_rfl) trivial ?_
  refine RX.done [(46,.bool (decide ((b:Int)<((nB+1:Nat):Int)))),(45,(.int .i64 (b:Int))),(44,(.int .i64 ((nB+1:Nat):Int))),(11,(.int .i64 (a:Int))),(34,(.int .i64 (a:Int))),(33,(.int .i64 ((nA+1:Nat):Int))),(10,(.int .i64 (i:Int))),(26,(.int .i64 (i:Int))),(25,(.int .i64 ((nH+1:Nat):Int))),(6,(.pointer (some ⟨bd,od,none⟩))),(8,(.pointer (some ⟨bg,0,none⟩))),(9,(.slice (some ⟨bo,0,none⟩) (nH+1) (nH+1)))] (by kernel_rfl) (by kernel_rfl) ?_
  refine St.cond (k1:=Aj2) (k2:=Aco) (decide ((b:Int)<((nB+1:Nat):Int))) (by kernel_rfl) (fun hc=>?_) (fun hc=>?_)
  rotate_left
  ·have hh:((nB+1:Nat):Int)≤(b:Int):=by simpa using hc
   omega
  clear hc
  refine St.weak (L':=[(45,(.int .i64 (b:Int))),(44,(.int .i64 ((nB+1:Nat):Int))),(11,(.int .i64 (a:Int))),(34,(.int .i64 (a:Int))),(33,(.int .i64 ((nA+1:Nat):Int))),(10,(.int .i64 (i:Int))),(26,(.int .i64 (i:Int))),(25,(.int .i64 ((nH+1:Nat):Int))),(6,(.pointer (some ⟨bd,od,none⟩))),(8,(.pointer (some ⟨bg,0,none⟩))),(9,(.slice (some ⟨bo,0,none⟩) (nH+1) (nH+1)))]) (by kernel_rfl) ?_
  refine St.reg Ao3 [(0,true),(1,true)] (by kernel_rfl) (by kernel_rfl) ?_
  refine RX.q 2 [] [(12,(.int .i64 (b:Int))),(45,(.int .i64 (b:Int))),(44,(.int .i64 ((nB+1:Nat):Int))),(11,(.int .i64 (a:Int))),(34,(.int .i64 (a:Int))),(33,(.int .i64 ((nA+1:Nat):Int))),(10,(.int .i64 (i:Int))),(26,(.int .i64 (i:Int))),(25,(.int .i64 ((nH+1:Nat):Int))),(6,(.pointer (some ⟨bd,od,none⟩))),(8,(.pointer (some ⟨bg,0,none⟩))),(9,(.slice (some ⟨bo,0,none⟩) (nH+1) (nH+1)))] [] (by kernel_rfl) trivial ?_
  refine RX.done [(12,(.int .i64 (b:Int))),(45,(.int .i64 (b:Int))),(44,(.int .i64 ((nB+1:Nat):Int))),(11,(.int .i64 (a:Int))),(34,(.int .i64 (a:Int))),(33,(.int .i64 ((nA+1:Nat):Int))),(10,(.int .i64 (i:Int))),(26,(.int .i64 (i:Int))),(25,(.int .i64 ((nH+1:Nat):Int))),(6,(.pointer (some ⟨bd,od,none⟩))),(8,(.pointer (some ⟨bg,0,none⟩))),(9,(.slice (some ⟨bo,0,none⟩) (nH+1) (nH+1)))] (by kernel_rfl) (by kernel_rfl) ?_
  obtain⟨tyg,hg⟩:=hS.grid
  have hlow:=hS.low
  have hbgl:=A8 hg
  have hsz:=hS.upd.size
  refine St.drw Apo [bg] [(0,true),(1,true),(2,true),(3,true),(4,true),(5,true),(6,true),(8,true),(9,true),(7,false),(10,true),(11,false)] mixed (by kernel_rfl) (by kernel_rfl) ?_
  intro w1 hd1 hds
  have hx1:∀w',(Instr.indexAt 70 (.pointer (some ⟨bg,0,none⟩)) (.int .i64 (i:Int))).run Tryz.prog w'=.ok (.pointer (some ⟨bg,0+i*49,none⟩)) w':=fun w'=>A3j (e:=68) (sz:=49) (n:=11) (by kernel_rfl) (by kernel_rfl) bg 0 i (by omega) _
  have hx2:∀w',(Instr.indexAt 68 (.pointer (some ⟨bg,0+i*49,none⟩)) (.int .i64 (a:Int))).run Tryz.prog w'=.ok (.pointer (some ⟨bg,0+i*49+a*7,none⟩)) w':=fun w'=>A3j (e:=67) (sz:=7) (n:=7) (by kernel_rfl) (by kernel_rfl) bg _ a (by omega) _
  have hx3:∀w',(Instr.indexAt 67 (.pointer (some ⟨bg,0+i*49+a*7,none⟩)) (.int .i64 (b:Int))).run Tryz.prog w'=.ok (.pointer (some ⟨bg,0+i*49+a*7+b*1,none⟩)) w':=fun w'=>A3j (e:=3) (sz:=1) (n:=7) (by kernel_rfl) (by kernel_rfl) bg _ b (by omega) _
  refine RX.qd 9 [(8,true,(.pointer (some ⟨bg,0+i*49,none⟩))),(9,true,(.pointer (some ⟨bg,0+i*49+a*7,none⟩)))] [(57,(.pointer (some ⟨bg,0+i*49+a*7,none⟩))),(48,(.int .i64 (i:Int))),(49,(.int .i64 (a:Int))),(50,(.int .i64 (b:Int))),(51,(.pointer (some ⟨bd,od,none⟩))),(52,(.int .i64 (i:Int))),(53,(.int .i64 (a:Int))),(54,(.int .i64 (b:Int))),(12,(.int .i64 (b:Int))),(45,(.int .i64 (b:Int))),(44,(.int .i64 ((nB+1:Nat):Int))),(11,(.int .i64 (a:Int))),(34,(.int .i64 (a:Int))),(33,(.int .i64 ((nA+1:Nat):Int))),(10,(.int .i64 (i:Int))),(26,(.int .i64 (i:Int))),(25,(.int .i64 ((nH+1:Nat):Int))),(6,(.pointer (some ⟨bd,od,none⟩))),(8,(.pointer (some ⟨bg,0,none⟩))),(9,(.slice (some ⟨bo,0,none⟩) (nH+1) (nH+1)))] [.raw (Instr.indexAt 70 (.pointer (some ⟨bg,0,none⟩)) (.int .i64 (i:Int))) (.pointer (some ⟨bg,0+i*49,none⟩)),.raw (Instr.indexAt 68 (.pointer (some ⟨bg,0+i*49,none⟩)) (.int .i64 (a:Int))) (.pointer (some ⟨bg,0+i*49+a*7,none⟩))] (by kernel_rfl) ⟨hx1 _,hx2 _⟩ ⟨fun w' _=>hx1 w',fun w' _=>hx2 w'⟩ ?_
  refine RX.callD 55 19 #[(.pointer (some ⟨bd,od,none⟩)),(.pointer (some ⟨bg,0,none⟩)),(.int .i64 (i:Int)),(.int .i64 (a:Int)),(.int .i64 (b:Int))] [(57,(.pointer (some ⟨bg,0+i*49+a*7,none⟩))),(48,(.int .i64 (i:Int))),(49,(.int .i64 (a:Int))),(50,(.int .i64 (b:Int))),(51,(.pointer (some ⟨bd,od,none⟩))),(52,(.int .i64 (i:Int))),(53,(.int .i64 (a:Int))),(54,(.int .i64 (b:Int))),(12,(.int .i64 (b:Int))),(45,(.int .i64 (b:Int))),(44,(.int .i64 ((nB+1:Nat):Int))),(11,(.int .i64 (a:Int))),(34,(.int .i64 (a:Int))),(33,(.int .i64 ((nA+1:Nat):Int))),(10,(.int .i64 (i:Int))),(26,(.int .i64 (i:Int))),(25,(.int .i64 ((nH+1:Nat):Int))),(6,(.pointer (some ⟨bd,od,none⟩))),(8,(.pointer (some ⟨bg,0,none⟩))),(9,(.slice (some ⟨bo,0,none⟩) (nH+1) (nH+1)))] (fun _=>by kernel_rfl) (by kernel_rfl) ?_
  refine Fn.mono (Ai6 hq1 (fun b o h=>Ext.blk hd1 (hS.upd.blk (hM b o h).2 (by simp[(hM b o h).1]))) hMb hd (Ext.blk hd1 hg) hS.glen hS.gin (A4o (by omega)) (A4o (by omega)) (A4o (by omega))) ?_
  rintro v' w2 ⟨rfl,hvi,hU2,⟨ty',hg2⟩,hl2,hin2⟩
  refine⟨hU2,?_⟩
  refine RX.qd 1 [(10,true,(.pointer (some ⟨bg,0+i*49+a*7+b*1,none⟩)))] [(58,(.pointer (some ⟨bg,0+i*49+a*7+b*1,none⟩))),(55,(.int .i64 v)),(12,(.int .i64 (b:Int))),(45,(.int .i64 (b:Int))),(44,(.int .i64 ((nB+1:Nat):Int))),(11,(.int .i64 (a:Int))),(34,(.int .i64 (a:Int))),(33,(.int .i64 ((nA+1:Nat):Int))),(10,(.int .i64 (i:Int))),(26,(.int .i64 (i:Int))),(25,(.int .i64 ((nH+1:Nat):Int))),(6,(.pointer (some ⟨bd,od,none⟩))),(8,(.pointer (some ⟨bg,0,none⟩))),(9,(.slice (some ⟨bo,0,none⟩) (nH+1) (nH+1)))] [.raw (Instr.indexAt 67 (.pointer (some ⟨bg,0+i*49+a*7,none⟩)) (.int .i64 (b:Int))) (.pointer (some ⟨bg,0+i*49+a*7+b*1,none⟩))] (by kernel_rfl) (hx3 _) (fun w' _=>hx3 w') ?_
  rw[show 0+i*49+a*7+b*1=i*49+a*7+b by omega]
  refine RX.store1L bg (i*49+a*7+b) (.int .i64 v) (G'.map (.int .i64)) ty' (by kernel_rfl) rfl hg2 (by rw[List.length_map];omega) (by kernel_rfl) ?_
  intro w3 hp
  have hs3:=hp.size
  have hg3:Blk w3 bg ((G'.set (i*49+a*7+b) v).map (.int .i64)) ty':=by
   rw[List.map_set];exact hp.blk
  have hU3:Upd [bg] w w3:=((hd1.mono (fun k h=>by cases h)).trans hU2).trans hp.upd
  refine RX.done [(12,(.int .i64 (b:Int))),(45,(.int .i64 (b:Int))),(44,(.int .i64 ((nB+1:Nat):Int))),(11,(.int .i64 (a:Int))),(34,(.int .i64 (a:Int))),(33,(.int .i64 ((nA+1:Nat):Int))),(10,(.int .i64 (i:Int))),(26,(.int .i64 (i:Int))),(25,(.int .i64 ((nH+1:Nat):Int))),(6,(.pointer (some ⟨bd,od,none⟩))),(8,(.pointer (some ⟨bg,0,none⟩))),(9,(.slice (some ⟨bo,0,none⟩) (nH+1) (nH+1)))] (by kernel_rfl) (by kernel_rfl) ?_
  have hm3:Ar w3 (bo+1) hi us XX:=Ar.upd hU3 hS.mids (fun k hk=>by simp at hk;omega)
  obtain⟨hXl,hXs⟩:=hS.shp
  obtain⟨hF,hFr⟩:=hXs i hi1
  have hrow:=hFr a ha1
  obtain⟨m,vs,mid,tyM,m1,m2,m3,m4,m5,m6⟩:=hm3.at (i:=i) (by omega)
  obtain⟨r,tyR,r1,r2,r3,r4,r5,r6⟩:=m5.at (a:=a) (by omega)
  rw[hF]at m1
  rw[hrow]at r1
  have hb3:Blk w3 bo us tyO:=hU3.blk hS.blk (by simp;omega)
  refine St.drw Ao4 [] [(0,true),(1,true),(2,true),(3,true),(4,true),(5,true),(6,true),(7,true),(8,true),(9,true),(10,true),(11,true),(12,true),(13,true),(14,true),(15,true),(16,false)] mixed (by kernel_rfl) (by kernel_rfl) ?_
  intro w4 hd4 hds4
  have hy1:∀w',(Instr.indexAt 33 (.slice (some ⟨bo,0,none⟩) (nH+1) (nH+1)) (.int .i64 (i:Int))).run Tryz.prog w'=.ok (.pointer (some ⟨bo,0+i*1,none⟩)) w':=fun w'=>Jm (e:=23) (sz:=1) (by kernel_rfl) (by kernel_rfl) bo 0 (nH+1) (nH+1) i hi1 _
  have hy2:∀w',(Instr.indexAt 23 (.slice (some ⟨m,0,none⟩) (nA+1) (nA+1)) (.int .i64 (a:Int))).run Tryz.prog w'=.ok (.pointer (some ⟨m,0+a*1,none⟩)) w':=fun w'=>Jm (e:=22) (sz:=1) (by kernel_rfl) (by kernel_rfl) m 0 (nA+1) (nA+1) a ha1 _
  have hy3:∀w',(Instr.indexAt 22 (.slice (some ⟨r,0,none⟩) (nB+1) (nB+1)) (.int .i64 (b:Int))).run Tryz.prog w'=.ok (.pointer (some ⟨r,0+b*1,none⟩)) w':=fun w'=>Jm (e:=3) (sz:=1) (by kernel_rfl) (by kernel_rfl) r 0 (nB+1) (nB+1) b hbl _
  have hc1:w4.cell? ⟨bo,0+i*1,none⟩=some (.slice (some ⟨m,0,none⟩) (nA+1) (nA+1)):=by rw[show 0+i*1=i by omega];exact Blk.cell (Ext.blk hd4 hb3) m1
  have hc2:w4.cell? ⟨m,0+a*1,none⟩=some (.slice (some ⟨r,0,none⟩) (nB+1) (nB+1)):=by rw[show 0+a*1=a by omega];exact Blk.cell (Ext.blk hd4 m4) r1
  have hc3:w4.cell? ⟨bg,0+i*49+a*7+b*1,none⟩=some (.int .i64 v):=by
   rw[show 0+i*49+a*7+b*1=i*49+a*7+b by omega]
   exact Blk.cell (Ext.blk hd4 hg3) (by rw[List.map_set,List.getElem?_set_self (by rw[List.length_map];omega)])
  refine RX.qd 16 [(2,true,(.pointer (some ⟨bo,0+i*1,none⟩))),(3,true,(.slice (some ⟨m,0,none⟩) (nA+1) (nA+1))),(5,true,(.pointer (some ⟨m,0+a*1,none⟩))),(6,true,(.slice (some ⟨r,0,none⟩) (nB+1) (nB+1))),(11,true,(.pointer (some ⟨bg,0+i*49,none⟩))),(12,true,(.pointer (some ⟨bg,0+i*49+a*7,none⟩))),(13,true,(.pointer (some ⟨bg,0+i*49+a*7+b*1,none⟩))),(14,true,(.int .i64 v)),(15,true,(.pointer (some ⟨r,0+b*1,none⟩)))] [(74,(.pointer (some ⟨r,0+b*1,none⟩))),(73,(.int .i64 v)),(45,(.int .i64 (b:Int))),(44,(.int .i64 ((nB+1:Nat):Int))),(11,(.int .i64 (a:Int))),(34,(.int .i64 (a:Int))),(33,(.int .i64 ((nA+1:Nat):Int))),(10,(.int .i64 (i:Int))),(26,(.int .i64 (i:Int))),(25,(.int .i64 ((nH+1:Nat):Int))),(6,(.pointer (some ⟨bd,od,none⟩))),(8,(.pointer (some ⟨bg,0,none⟩))),(9,(.slice (some ⟨bo,0,none⟩) (nH+1) (nH+1)))] [.raw (Instr.indexAt 33 (.slice (some ⟨bo,0,none⟩) (nH+1) (nH+1)) (.int .i64 (i:Int))) (.pointer (some ⟨bo,0+i*1,none⟩)),.cell ⟨bo,0+i*1,none⟩ (.slice (some ⟨m,0,none⟩) (nA+1) (nA+1)),.raw (Instr.indexAt 23 (.slice (some ⟨m,0,none⟩) (nA+1) (nA+1)) (.int .i64 (a:Int))) (.pointer (some ⟨m,0+a*1,none⟩)),.cell ⟨m,0+a*1,none⟩ (.slice (some ⟨r,0,none⟩) (nB+1) (nB+1)),.raw (Instr.indexAt 70 (.pointer (some ⟨bg,0,none⟩)) (.int .i64 (i:Int))) (.pointer (some ⟨bg,0+i*49,none⟩)),.raw (Instr.indexAt 68 (.pointer (some ⟨bg,0+i*49,none⟩)) (.int .i64 (a:Int))) (.pointer (some ⟨bg,0+i*49+a*7,none⟩)),.raw (Instr.indexAt 67 (.pointer (some ⟨bg,0+i*49+a*7,none⟩)) (.int .i64 (b:Int))) (.pointer (some ⟨bg,0+i*49+a*7+b*1,none⟩)),.cell ⟨bg,0+i*49+a*7+b*1,none⟩ (.int .i64 v),.raw (Instr.indexAt 22 (.slice (some ⟨r,0,none⟩) (nB+1) (nB+1)) (.int .i64 (b:Int))) (.pointer (some ⟨r,0+b*1,none⟩))] (by kernel_rfl) ⟨hy1 _,hc1,hy2 _,hc2,hx1 _,hx2 _,hx3 _,hc3,hy3 _⟩ ⟨fun w' _=>hy1 w',List.not_mem_nil,fun w' _=>hy2 w',List.not_mem_nil,fun w' _=>hx1 w',fun w' _=>hx2 w',fun w' _=>hx3 w',List.not_mem_nil,fun w' _=>hy3 w'⟩ ?_
  rw[show 0+b*1=b by omega]
  refine RX.store1L r b (.int .i64 v) (((XX.getD i []).getD a []).map (.int .i64)) tyR (by kernel_rfl) rfl (Ext.blk hd4 r5) (by rw[List.length_map];omega) (by kernel_rfl) ?_
  intro w5 hp5
  have hs5:=hp5.size
  refine RX.done [(45,(.int .i64 (b:Int))),(44,(.int .i64 ((nB+1:Nat):Int))),(11,(.int .i64 (a:Int))),(34,(.int .i64 (a:Int))),(33,(.int .i64 ((nA+1:Nat):Int))),(10,(.int .i64 (i:Int))),(26,(.int .i64 (i:Int))),(25,(.int .i64 ((nH+1:Nat):Int))),(6,(.pointer (some ⟨bd,od,none⟩))),(8,(.pointer (some ⟨bg,0,none⟩))),(9,(.slice (some ⟨bo,0,none⟩) (nH+1) (nH+1)))] (by kernel_rfl) (by kernel_rfl) ?_
  refine St.reg Aa3 [(0,true),(1,true)] (by kernel_rfl) (by kernel_rfl) ?_
  refine RX.q 2 [(0,false,.int .i64 ((b:Int)+1))] [(45,.int .i64 ((b:Int)+1)),(44,(.int .i64 ((nB+1:Nat):Int))),(11,(.int .i64 (a:Int))),(34,(.int .i64 (a:Int))),(33,(.int .i64 ((nA+1:Nat):Int))),(10,(.int .i64 (i:Int))),(26,(.int .i64 (i:Int))),(25,(.int .i64 ((nH+1:Nat):Int))),(6,(.pointer (some ⟨bd,od,none⟩))),(8,(.pointer (some ⟨bg,0,none⟩))),(9,(.slice (some ⟨bo,0,none⟩) (nH+1) (nH+1)))] [.eq (.int .i64 (IntKind.i64.wrap ((b:Int)+1))) (.int .i64 ((b:Int)+1))] (by kernel_rfl) (int64 (by omega)) ?_
  refine RX.done [(45,.int .i64 ((b:Int)+1)),(44,(.int .i64 ((nB+1:Nat):Int))),(11,(.int .i64 (a:Int))),(34,(.int .i64 (a:Int))),(33,(.int .i64 ((nA+1:Nat):Int))),(10,(.int .i64 (i:Int))),(26,(.int .i64 (i:Int))),(25,(.int .i64 ((nH+1:Nat):Int))),(6,(.pointer (some ⟨bd,od,none⟩))),(8,(.pointer (some ⟨bg,0,none⟩))),(9,(.slice (some ⟨bo,0,none⟩) (nH+1) (nH+1)))] (by kernel_rfl) (by kernel_rfl) ?_
  have hU5:Upd [r] w3 w5:=(hd4.mono (fun k h=>by cases h)).trans hp5.upd
  have hr5:Blk w5 r ((((XX.getD i []).getD a []).set b v).map (.int .i64)) tyR:=by
   rw[List.map_set];exact hp5.blk
  have hin5:∀x∈((XX.getD i []).getD a []).set b v,inR .i64 x:=fun x hx=>by
   rcases List.mem_or_eq_of_mem_set hx with h | h
   ·exact r3 x h
   ·subst h;exact hvi
  have hR5:=r6 w5 (((XX.getD i []).getD a []).set b v) (by simp) hin5 hU5 hr5
  have hM5:=m6 w5 ((XX.getD i []).set a (((XX.getD i []).getD a []).set b v)) [r] (by simp) hU5 (fun k hk=>by simp at hk;omega) hR5
  have hs4:=hd4.size
  refine St.weak (by kernel_rfl) (ih (b+1) _ _ w5 (by omega) hq2 ⟨?_,hU5.blk hb3 (by simp;omega),hM5,hS.shp.upd3 hi1 ha1,⟨ty',hU5.blk hg3 (by simp;omega)⟩,by simp[hl2],fun x hx=>?_,hlow⟩)
  ·exact(hS.upd.trans hU3).trans_old hU5 (fun k hk=>by simp at hk;omega)
  ·rcases List.mem_or_eq_of_mem_set hx with h | h
   ·exact hin2 x h
   ·subst h;exact hvi
set_option maxHeartbeats 2000000 in
theorem Am6{X:Ctx}{df:List Deferred}{N:Nat}{M:Nat→Option Obj}{T:List (List Int)}{H A B:List Int}{f:Int}(bd od bg bo hi nH nA nB i:Nat)(us:List Value)(tyO:TypeId)(w0:World)(hnH:nH≤10)(hnA:nA≤6)(hnB:nB≤6)(hi1:i<nH+1)(hM:∀b o,M b=some o→b≠bg∧w0.heap[b]?=some o)(hMb:M bg=none)(hd:∀ρ,RepV ⟨ρ,M⟩ (.fe Mq (T,H,f,A,B) 0) (.pointer (some ⟨bd,od,none⟩)))(G2:List Int)(X2:List (List (List Int)))(hk:∀w,MS w0 w bg bo hi us tyO (nH+1) (nA+1) (nB+1) G2 X2→St Tryz.prog X 79 Abe [(26,(.int .i64 (i:Int))),(25,(.int .i64 ((nH+1:Nat):Int))),(6,(.pointer (some ⟨bd,od,none⟩))),(8,(.pointer (some ⟨bg,0,none⟩))),(9,(.slice (some ⟨bo,0,none⟩) (nH+1) (nH+1)))] df w) :
  ∀(k a:Nat) (G:List Int) (XX:List (List (List Int))) (w:World),k+a=nA+1→mkA N (T,H,f,A,B) (nB+1) i k a G XX=some (G2,X2)→MS w0 w bg bo hi us tyO (nH+1) (nA+1) (nB+1) G XX→St Tryz.prog X 79 Abd [(34,(.int .i64 (a:Int))),(33,(.int .i64 ((nA+1:Nat):Int))),(10,(.int .i64 (i:Int))),(26,(.int .i64 (i:Int))),(25,(.int .i64 ((nH+1:Nat):Int))),(6,(.pointer (some ⟨bd,od,none⟩))),(8,(.pointer (some ⟨bg,0,none⟩))),(9,(.slice (some ⟨bo,0,none⟩) (nH+1) (nH+1)))] df w:=by
 intro k
 induction k with
 | zero=>
  intro a G XX w hkb hq hS
  simp only[mkA,Option.some.injEq,Prod.mk.injEq]at hq
  obtain⟨rfl,rfl⟩:=hq
  refine St.reg Aka [(0,true)] (by kernel_rfl) (by kernel_rfl) ?_
  refine RX.q 1 [] [(35,.bool (decide ((a:Int)<((nA+1:Nat):Int)))),(34,(.int .i64 (a:Int))),(33,(.int .i64 ((nA+1:Nat):Int))),(10,(.int .i64 (i:Int))),(26,(.int .i64 (i:Int))),(25,(.int .i64 ((nH+1:Nat):Int))),(6,(.pointer (some ⟨bd,od,none⟩))),(8,(.pointer (some ⟨bg,0,none⟩))),(9,(.slice (some ⟨bo,0,none⟩) (nH+1) (nH+1)))] [] (by kernel_rfl) trivial ?_
  refine RX.done [(35,.bool (decide ((a:Int)<((nA+1:Nat):Int)))),(34,(.int .i64 (a:Int))),(33,(.int .i64 ((nA+1:Nat):Int))),(10,(.int .i64 (i:Int))),(26,(.int .i64 (i:Int))),(25,(.int .i64 ((nH+1:Nat):Int))),(6,(.pointer (some ⟨bd,od,none⟩))),(8,(.pointer (some ⟨bg,0,none⟩))),(9,(.slice (some ⟨bo,0,none⟩) (nH+1) (nH+1)))] (by kernel_rfl) (by kernel_rfl) ?_
  refine St.cond (k1:=Ajc) (k2:=Abe) (decide ((a:Int)<((nA+1:Nat):Int))) (by kernel_rfl) (fun hc=>?_) (fun hc=>?_)
  ·have hh:(a:Int)<((nA+1:Nat):Int):=by simpa using hc
   omega
  ·exact St.weak (L':=[(26,(.int .i64 (i:Int))),(25,(.int .i64 ((nH+1:Nat):Int))),(6,(.pointer (some ⟨bd,od,none⟩))),(8,(.pointer (some ⟨bg,0,none⟩))),(9,(.slice (some ⟨bo,0,none⟩) (nH+1) (nH+1)))]) (by kernel_rfl) (hk w hS)
 | succ k ih=>
  intro a G XX w hkb hq hS
  unfold mkA at hq
  obtain⟨⟨G',X'⟩,hq1,hq2⟩:=bind_some hq
  dsimp only at hq2
  have ha1:a<nA+1:=by omega
  refine St.reg Aka [(0,true)] (by kernel_rfl) (by kernel_rfl) ?_
  refine RX.q 1 [] [(35,.bool (decide ((a:Int)<((nA+1:Nat):Int)))),(34,(.int .i64 (a:Int))),(33,(.int .i64 ((nA+1:Nat):Int))),(10,(.int .i64 (i:Int))),(26,(.int .i64 (i:Int))),(25,(.int .i64 ((nH+1:Nat):Int))),(6,(.pointer (some ⟨bd,od,none⟩))),(8,(.pointer (some ⟨bg,0,none⟩))),(9,(.slice (some ⟨bo,0,none⟩) (nH+1) (nH+1)))] [] (by kernel_rfl) trivial ?_
  refine RX.done [(35,.bool (decide ((a:Int)<((nA+1:Nat):Int)))),(34,(.int .i64 (a:Int))),(33,(.int .i64 ((nA+1:Nat):Int))),(10,(.int .i64 (i:Int))),(26,(.int .i64 (i:Int))),(25,(.int .i64 ((nH+1:Nat):Int))),(6,(.pointer (some ⟨bd,od,none⟩))),(8,(.pointer (some ⟨bg,0,none⟩))),(9,(.slice (some ⟨bo,0,none⟩) (nH+1) (nH+1)))] (by kernel_rfl) (by kernel_rfl) ?_
  refine St.cond (k1:=Ajc) (k2:=Abe) (decide ((a:Int)<((nA+1:Nat):Int))) (by kernel_rfl) (fun hc=>?_) (fun hc=>?_)
  rotate_left
  ·have hh:((nA+1:Nat):Int)≤(a:Int):=by simpa using hc
   omega
  clear hc
  refine St.weak (L':=[(34,(.int .i64 (a:Int))),(33,(.int .i64 ((nA+1:Nat):Int))),(10,(.int .i64 (i:Int))),(26,(.int .i64 (i:Int))),(25,(.int .i64 ((nH+1:Nat):Int))),(6,(.pointer (some ⟨bd,od,none⟩))),(8,(.pointer (some ⟨bg,0,none⟩))),(9,(.slice (some ⟨bo,0,none⟩) (nH+1) (nH+1)))]) (by kernel_rfl) ?_
  refine St.reg Ap9 [(0,true),(1,true)] (by kernel_rfl) (by kernel_rfl) ?_
  refine RX.q 2 [] [(11,(.int .i64 (a:Int))),(34,(.int .i64 (a:Int))),(33,(.int .i64 ((nA+1:Nat):Int))),(10,(.int .i64 (i:Int))),(26,(.int .i64 (i:Int))),(25,(.int .i64 ((nH+1:Nat):Int))),(6,(.pointer (some ⟨bd,od,none⟩))),(8,(.pointer (some ⟨bg,0,none⟩))),(9,(.slice (some ⟨bo,0,none⟩) (nH+1) (nH+1)))] [] (by kernel_rfl) trivial ?_
  refine RX.done [(11,(.int .i64 (a:Int))),(34,(.int .i64 (a:Int))),(33,(.int .i64 ((nA+1:Nat):Int))),(10,(.int .i64 (i:Int))),(26,(.int .i64 (i:Int))),(25,(.int .i64 ((nH+1:Nat):Int))),(6,(.pointer (some ⟨bd,od,none⟩))),(8,(.pointer (some ⟨bg,0,none⟩))),(9,(.slice (some ⟨bo,0,none⟩) (nH+1) (nH+1)))] (by kernel_rfl) (by kernel_rfl) ?_
  obtain⟨hXl,hXs⟩:=hS.shp
  obtain⟨hF,hFr⟩:=hXs i hi1
  have hrow:=hFr a ha1
  obtain⟨m,vs,mid,tyM,m1,m2,m3,m4,m5,m6⟩:=hS.mids.at (i:=i) (by omega)
  obtain⟨r,tyR,r1,r2,r3,r4,r5,r6⟩:=m5.at (a:=a) (by omega)
  rw[hF]at m1
  rw[hrow]at r1
  have hy1:∀w',(Instr.indexAt 33 (.slice (some ⟨bo,0,none⟩) (nH+1) (nH+1)) (.int .i64 (i:Int))).run Tryz.prog w'=.ok (.pointer (some ⟨bo,0+i*1,none⟩)) w':=fun w'=>Jm (e:=23) (sz:=1) (by kernel_rfl) (by kernel_rfl) bo 0 (nH+1) (nH+1) i hi1 _
  have hy2:∀w',(Instr.indexAt 23 (.slice (some ⟨m,0,none⟩) (nA+1) (nA+1)) (.int .i64 (a:Int))).run Tryz.prog w'=.ok (.pointer (some ⟨m,0+a*1,none⟩)) w':=fun w'=>Jm (e:=22) (sz:=1) (by kernel_rfl) (by kernel_rfl) m 0 (nA+1) (nA+1) a ha1 _
  have hc1:w.cell? ⟨bo,0+i*1,none⟩=some (.slice (some ⟨m,0,none⟩) (nA+1) (nA+1)):=by rw[show 0+i*1=i by omega];exact Blk.cell hS.blk m1
  have hc2:w.cell? ⟨m,0+a*1,none⟩=some (.slice (some ⟨r,0,none⟩) (nB+1) (nB+1)):=by rw[show 0+a*1=a by omega];exact Blk.cell m4 r1
  refine St.reg Aa3 [(0,true),(1,true),(2,true),(3,true),(4,true),(5,true),(6,true),(7,true),(8,true)] (by kernel_rfl) (by kernel_rfl) ?_
  refine RX.q 9 [(2,true,(.pointer (some ⟨bo,0+i*1,none⟩))),(3,true,(.slice (some ⟨m,0,none⟩) (nA+1) (nA+1))),(5,true,(.pointer (some ⟨m,0+a*1,none⟩))),(6,true,(.slice (some ⟨r,0,none⟩) (nB+1) (nB+1)))] [(45,.int .i64 0),(44,(.int .i64 ((nB+1:Nat):Int))),(11,(.int .i64 (a:Int))),(34,(.int .i64 (a:Int))),(33,(.int .i64 ((nA+1:Nat):Int))),(10,(.int .i64 (i:Int))),(26,(.int .i64 (i:Int))),(25,(.int .i64 ((nH+1:Nat):Int))),(6,(.pointer (some ⟨bd,od,none⟩))),(8,(.pointer (some ⟨bg,0,none⟩))),(9,(.slice (some ⟨bo,0,none⟩) (nH+1) (nH+1)))] [.raw (Instr.indexAt 33 (.slice (some ⟨bo,0,none⟩) (nH+1) (nH+1)) (.int .i64 (i:Int))) (.pointer (some ⟨bo,0+i*1,none⟩)),.cell ⟨bo,0+i*1,none⟩ (.slice (some ⟨m,0,none⟩) (nA+1) (nA+1)),.raw (Instr.indexAt 23 (.slice (some ⟨m,0,none⟩) (nA+1) (nA+1)) (.int .i64 (a:Int))) (.pointer (some ⟨m,0+a*1,none⟩)),.cell ⟨m,0+a*1,none⟩ (.slice (some ⟨r,0,none⟩) (nB+1) (nB+1))] (by kernel_rfl) ⟨hy1 _,hc1,hy2 _,hc2⟩ ?_
  refine RX.done [(45,.int .i64 0),(44,(.int .i64 ((nB+1:Nat):Int))),(11,(.int .i64 (a:Int))),(34,(.int .i64 (a:Int))),(33,(.int .i64 ((nA+1:Nat):Int))),(10,(.int .i64 (i:Int))),(26,(.int .i64 (i:Int))),(25,(.int .i64 ((nH+1:Nat):Int))),(6,(.pointer (some ⟨bd,od,none⟩))),(8,(.pointer (some ⟨bg,0,none⟩))),(9,(.slice (some ⟨bo,0,none⟩) (nH+1) (nH+1)))] (by kernel_rfl) (by kernel_rfl) ?_
  refine Am0 bd od bg bo hi nH nA nB i a us tyO w0 hnH hnA hnB hi1 ha1 hM hMb hd G' X' ?_ (nB+1) 0 G XX w (by omega) hq1 hS
  intro w2 hS2
  refine St.reg Abd [(0,true),(1,true)] (by kernel_rfl) (by kernel_rfl) ?_
  refine RX.q 2 [(0,false,.int .i64 ((a:Int)+1))] [(34,.int .i64 ((a:Int)+1)),(33,(.int .i64 ((nA+1:Nat):Int))),(10,(.int .i64 (i:Int))),(26,(.int .i64 (i:Int))),(25,(.int .i64 ((nH+1:Nat):Int))),(6,(.pointer (some ⟨bd,od,none⟩))),(8,(.pointer (some ⟨bg,0,none⟩))),(9,(.slice (some ⟨bo,0,none⟩) (nH+1) (nH+1)))] [.eq (.int .i64 (IntKind.i64.wrap ((a:Int)+1))) (.int .i64 ((a:Int)+1))] (by kernel_rfl) (int64 (by omega)) ?_
  refine RX.done [(34,.int .i64 ((a:Int)+1)),(33,(.int .i64 ((nA+1:Nat):Int))),(10,(.int .i64 (i:Int))),(26,(.int .i64 (i:Int))),(25,(.int .i64 ((nH+1:Nat):Int))),(6,(.pointer (some ⟨bd,od,none⟩))),(8,(.pointer (some ⟨bg,0,none⟩))),(9,(.slice (some ⟨bo,0,none⟩) (nH+1) (nH+1)))] (by kernel_rfl) (by kernel_rfl) ?_
  exact St.weak (by kernel_rfl) (ih (a+1) G' X' w2 (by omega) hq2 hS2)
set_option maxHeartbeats 2000000 in
theorem An4{X:Ctx}{df:List Deferred}{N:Nat}{M:Nat→Option Obj}{T:List (List Int)}{H A B:List Int}{f:Int}(bd od bg bo hi nH nA nB:Nat)(us:List Value)(tyO:TypeId)(w0:World)(hnH:nH≤10)(hnA:nA≤6)(hnB:nB≤6)(hM:∀b o,M b=some o→b≠bg∧w0.heap[b]?=some o)(hMb:M bg=none)(hd:∀ρ,RepV ⟨ρ,M⟩ (.fe Mq (T,H,f,A,B) 0) (.pointer (some ⟨bd,od,none⟩)))(G2:List Int)(X2:List (List (List Int)))(hk:∀w,MS w0 w bg bo hi us tyO (nH+1) (nA+1) (nB+1) G2 X2→St Tryz.prog X 79 Ze [(9,(.slice (some ⟨bo,0,none⟩) (nH+1) (nH+1)))] df w) :
  ∀(k i:Nat) (G:List Int) (XX:List (List (List Int))) (w:World),k+i=nH+1→mkI N (T,H,f,A,B) (nA+1) (nB+1) k i G XX=some (G2,X2)→MS w0 w bg bo hi us tyO (nH+1) (nA+1) (nB+1) G XX→St Tryz.prog X 79 Al3 [(26,(.int .i64 (i:Int))),(25,(.int .i64 ((nH+1:Nat):Int))),(6,(.pointer (some ⟨bd,od,none⟩))),(8,(.pointer (some ⟨bg,0,none⟩))),(9,(.slice (some ⟨bo,0,none⟩) (nH+1) (nH+1)))] df w:=by
 intro k
 induction k with
 | zero=>
  intro i G XX w hkb hq hS
  simp only[mkI,Option.some.injEq,Prod.mk.injEq]at hq
  obtain⟨rfl,rfl⟩:=hq
  refine St.reg Ail [(0,true)] (by kernel_rfl) (by kernel_rfl) ?_
  refine RX.q 1 [] [(27,.bool (decide ((i:Int)<((nH+1:Nat):Int)))),(26,(.int .i64 (i:Int))),(25,(.int .i64 ((nH+1:Nat):Int))),(6,(.pointer (some ⟨bd,od,none⟩))),(8,(.pointer (some ⟨bg,0,none⟩))),(9,(.slice (some ⟨bo,0,none⟩) (nH+1) (nH+1)))] [] (by kernel_rfl) trivial ?_
  refine RX.done [(27,.bool (decide ((i:Int)<((nH+1:Nat):Int)))),(26,(.int .i64 (i:Int))),(25,(.int .i64 ((nH+1:Nat):Int))),(6,(.pointer (some ⟨bd,od,none⟩))),(8,(.pointer (some ⟨bg,0,none⟩))),(9,(.slice (some ⟨bo,0,none⟩) (nH+1) (nH+1)))] (by kernel_rfl) (by kernel_rfl) ?_
  refine St.cond (k1:=Ahs) (k2:=Ze) (decide ((i:Int)<((nH+1:Nat):Int))) (by kernel_rfl) (fun hc=>?_) (fun hc=>?_)
  ·have hh:(i:Int)<((nH+1:Nat):Int):=by simpa using hc
   omega
  ·exact St.weak (L':=[(9,(.slice (some ⟨bo,0,none⟩) (nH+1) (nH+1)))]) (by kernel_rfl) (hk w hS)
 | succ k ih=>
  intro i G XX w hkb hq hS
  unfold mkI at hq
  obtain⟨⟨G',X'⟩,hq1,hq2⟩:=bind_some hq
  dsimp only at hq2
  have hi1:i<nH+1:=by omega
  refine St.reg Ail [(0,true)] (by kernel_rfl) (by kernel_rfl) ?_
  refine RX.q 1 [] [(27,.bool (decide ((i:Int)<((nH+1:Nat):Int)))),(26,(.int .i64 (i:Int))),(25,(.int .i64 ((nH+1:Nat):Int))),(6,(.pointer (some ⟨bd,od,none⟩))),(8,(.pointer (some ⟨bg,0,none⟩))),(9,(.slice (some ⟨bo,0,none⟩) (nH+1) (nH+1)))] [] (by kernel_rfl) trivial ?_
  refine RX.done [(27,.bool (decide ((i:Int)<((nH+1:Nat):Int)))),(26,(.int .i64 (i:Int))),(25,(.int .i64 ((nH+1:Nat):Int))),(6,(.pointer (some ⟨bd,od,none⟩))),(8,(.pointer (some ⟨bg,0,none⟩))),(9,(.slice (some ⟨bo,0,none⟩) (nH+1) (nH+1)))] (by kernel_rfl) (by kernel_rfl) ?_
  refine St.cond (k1:=Ahs) (k2:=Ze) (decide ((i:Int)<((nH+1:Nat):Int))) (by kernel_rfl) (fun hc=>?_) (fun hc=>?_)
  rotate_left
  ·have hh:((nH+1:Nat):Int)≤(i:Int):=by simpa using hc
   omega
  clear hc
  refine St.weak (L':=[(26,(.int .i64 (i:Int))),(25,(.int .i64 ((nH+1:Nat):Int))),(6,(.pointer (some ⟨bd,od,none⟩))),(8,(.pointer (some ⟨bg,0,none⟩))),(9,(.slice (some ⟨bo,0,none⟩) (nH+1) (nH+1)))]) (by kernel_rfl) ?_
  refine St.reg Aph [(0,true),(1,true)] (by kernel_rfl) (by kernel_rfl) ?_
  refine RX.q 2 [] [(10,(.int .i64 (i:Int))),(26,(.int .i64 (i:Int))),(25,(.int .i64 ((nH+1:Nat):Int))),(6,(.pointer (some ⟨bd,od,none⟩))),(8,(.pointer (some ⟨bg,0,none⟩))),(9,(.slice (some ⟨bo,0,none⟩) (nH+1) (nH+1)))] [] (by kernel_rfl) trivial ?_
  refine RX.done [(10,(.int .i64 (i:Int))),(26,(.int .i64 (i:Int))),(25,(.int .i64 ((nH+1:Nat):Int))),(6,(.pointer (some ⟨bd,od,none⟩))),(8,(.pointer (some ⟨bg,0,none⟩))),(9,(.slice (some ⟨bo,0,none⟩) (nH+1) (nH+1)))] (by kernel_rfl) (by kernel_rfl) ?_
  obtain⟨hXl,hXs⟩:=hS.shp
  obtain⟨hF,hFr⟩:=hXs i hi1
  obtain⟨m,vs,mid,tyM,m1,m2,m3,m4,m5,m6⟩:=hS.mids.at (i:=i) (by omega)
  rw[hF]at m1
  have hy1:∀w',(Instr.indexAt 33 (.slice (some ⟨bo,0,none⟩) (nH+1) (nH+1)) (.int .i64 (i:Int))).run Tryz.prog w'=.ok (.pointer (some ⟨bo,0+i*1,none⟩)) w':=fun w'=>Jm (e:=23) (sz:=1) (by kernel_rfl) (by kernel_rfl) bo 0 (nH+1) (nH+1) i hi1 _
  have hc1:w.cell? ⟨bo,0+i*1,none⟩=some (.slice (some ⟨m,0,none⟩) (nA+1) (nA+1)):=by rw[show 0+i*1=i by omega];exact Blk.cell hS.blk m1
  refine St.reg Abd [(0,true),(1,true),(2,true),(3,true),(4,true),(5,true)] (by kernel_rfl) (by kernel_rfl) ?_
  refine RX.q 6 [(2,true,(.pointer (some ⟨bo,0+i*1,none⟩))),(3,true,(.slice (some ⟨m,0,none⟩) (nA+1) (nA+1)))] [(34,.int .i64 0),(33,(.int .i64 ((nA+1:Nat):Int))),(10,(.int .i64 (i:Int))),(26,(.int .i64 (i:Int))),(25,(.int .i64 ((nH+1:Nat):Int))),(6,(.pointer (some ⟨bd,od,none⟩))),(8,(.pointer (some ⟨bg,0,none⟩))),(9,(.slice (some ⟨bo,0,none⟩) (nH+1) (nH+1)))] [.raw (Instr.indexAt 33 (.slice (some ⟨bo,0,none⟩) (nH+1) (nH+1)) (.int .i64 (i:Int))) (.pointer (some ⟨bo,0+i*1,none⟩)),.cell ⟨bo,0+i*1,none⟩ (.slice (some ⟨m,0,none⟩) (nA+1) (nA+1))] (by kernel_rfl) ⟨hy1 _,hc1⟩ ?_
  refine RX.done [(34,.int .i64 0),(33,(.int .i64 ((nA+1:Nat):Int))),(10,(.int .i64 (i:Int))),(26,(.int .i64 (i:Int))),(25,(.int .i64 ((nH+1:Nat):Int))),(6,(.pointer (some ⟨bd,od,none⟩))),(8,(.pointer (some ⟨bg,0,none⟩))),(9,(.slice (some ⟨bo,0,none⟩) (nH+1) (nH+1)))] (by kernel_rfl) (by kernel_rfl) ?_
  refine Am6 bd od bg bo hi nH nA nB i us tyO w0 hnH hnA hnB hi1 hM hMb hd G' X' ?_ (nA+1) 0 G XX w (by omega) hq1 hS
  intro w2 hS2
  refine St.reg Al3 [(0,true),(1,true)] (by kernel_rfl) (by kernel_rfl) ?_
  refine RX.q 2 [(0,false,.int .i64 ((i:Int)+1))] [(26,.int .i64 ((i:Int)+1)),(25,(.int .i64 ((nH+1:Nat):Int))),(6,(.pointer (some ⟨bd,od,none⟩))),(8,(.pointer (some ⟨bg,0,none⟩))),(9,(.slice (some ⟨bo,0,none⟩) (nH+1) (nH+1)))] [.eq (.int .i64 (IntKind.i64.wrap ((i:Int)+1))) (.int .i64 ((i:Int)+1))] (by kernel_rfl) (int64 (by omega)) ?_
  refine RX.done [(26,.int .i64 ((i:Int)+1)),(25,(.int .i64 ((nH+1:Nat):Int))),(6,(.pointer (some ⟨bd,od,none⟩))),(8,(.pointer (some ⟨bg,0,none⟩))),(9,(.slice (some ⟨bo,0,none⟩) (nH+1) (nH+1)))] (by kernel_rfl) (by kernel_rfl) ?_
  exact St.weak (by kernel_rfl) (ih (i+1) G' X' w2 (by omega) hq2 hS2)
set_option maxHeartbeats 1000000 in
theorem W5{X:Ctx}{df:List Deferred}{N:Nat}{M:Nat→Option Obj}{T:List (List Int)}{H A B:List Int}{f:Int}(bd od bg nH nA nB cH cA cB:Nat)(aH aA aB:Option Addr)(tyG:TypeId)(w0:World)(hnH:nH≤10)(hnA:nA≤6)(hnB:nB≤6)(hM:∀b o,M b=some o→b≠bg∧w0.heap[b]?=some o)(hMb:M bg=none)(hd:∀ρ,RepV ⟨ρ,M⟩ (.fe Mq (T,H,f,A,B) 0) (.pointer (some ⟨bd,od,none⟩)))
  (hbd:bd<w0.heap.size) (hcH:w0.cell? ⟨bd,od+1,none⟩=some (.slice aH nH cH)) (hcA:w0.cell? ⟨bd,od+3,none⟩=some (.slice aA nA cA)) (hcB:w0.cell? ⟨bd,od+4,none⟩=some (.slice aB nB cB)) (G:List Int) (hG:Blk w0 bg (G.map (.int .i64)) tyG) (hGl:G.length=539) (hGi:∀x∈G,inR .i64 x)
  (G2:List Int) (X2:List (List (List Int))) (hq:mkI N (T,H,f,A,B) (nA+1) (nB+1) (nH+1) 0 G (Ck (nH+1) (nA+1) (nB+1))=some (G2,X2)) (hk:∀bo hi us tyO w,MS w0 w bg bo hi us tyO (nH+1) (nA+1) (nB+1) G2 X2→St Tryz.prog X 79 Ze [(9,(.slice (some ⟨bo,0,none⟩) (nH+1) (nH+1)))] df w) :
  St Tryz.prog X 79 Akz [(6,(.pointer (some ⟨bd,od,none⟩))),(8,(.pointer (some ⟨bg,0,none⟩)))] df w0:=by
 have hbgl:=A8 hG
 refine St.reg Apx [(0,true),(1,false),(2,true)] (by kernel_rfl) (by kernel_rfl) ?_
 refine RX.q 1 [] [(22,(.pointer (some ⟨bd,od,none⟩))),(6,(.pointer (some ⟨bd,od,none⟩))),(8,(.pointer (some ⟨bg,0,none⟩)))] [] (by kernel_rfl) trivial ?_
 refine RX.call 23 18 #[(.pointer (some ⟨bd,od,none⟩))] [(22,(.pointer (some ⟨bd,od,none⟩))),(6,(.pointer (some ⟨bd,od,none⟩))),(8,(.pointer (some ⟨bg,0,none⟩)))] (fun _=>by kernel_rfl) (by kernel_rfl) ?_
 refine Fn.mono (Aji bd od nH nA nB cH cA cB aH aA aB w0 (by omega) (by omega) (by omega) hbd hcH hcA hcB) ?_
 rintro v' w1 ⟨hx,bo,us,tyO,rfl,hbo,hbO,hR⟩
 refine RX.q 1 [] [(6,(.pointer (some ⟨bd,od,none⟩))),(8,(.pointer (some ⟨bg,0,none⟩))),(9,(.slice (some ⟨bo,0,none⟩) (nH+1) (nH+1)))] [] (by kernel_rfl) trivial ?_
 refine RX.done [(6,(.pointer (some ⟨bd,od,none⟩))),(8,(.pointer (some ⟨bg,0,none⟩))),(9,(.slice (some ⟨bo,0,none⟩) (nH+1) (nH+1)))] (by kernel_rfl) (by kernel_rfl) ?_
 refine St.reg Al3 [(0,true),(1,true),(2,true)] (by kernel_rfl) (by kernel_rfl) ?_
 refine RX.q 3 [] [(26,.int .i64 0),(25,(.int .i64 ((nH+1:Nat):Int))),(6,(.pointer (some ⟨bd,od,none⟩))),(8,(.pointer (some ⟨bg,0,none⟩))),(9,(.slice (some ⟨bo,0,none⟩) (nH+1) (nH+1)))] [] (by kernel_rfl) trivial ?_
 refine RX.done [(26,.int .i64 0),(25,(.int .i64 ((nH+1:Nat):Int))),(6,(.pointer (some ⟨bd,od,none⟩))),(8,(.pointer (some ⟨bg,0,none⟩))),(9,(.slice (some ⟨bo,0,none⟩) (nH+1) (nH+1)))] (by kernel_rfl) (by kernel_rfl) ?_
 exact An4 bd od bg bo _ nH nA nB us tyO w0 hnH hnA hnB hM hMb hd G2 X2 (fun w h=>hk bo _ us tyO w h) (nH+1) 0 G _ w1 (by omega) hq ⟨hx.mono (fun k h=>by cases h),hbO,hR,Shp.zeros _ _ _,⟨tyG,Ext.blk hx hG⟩,hGl,hGi,by omega,hbo⟩
end Go.Proofs.YtfcnhnbnjdccfaaGreat

namespace Go.Proofs.YtfcnhnbnjdccfaaGreat
set_option linter.all false
open Go

def Xt(N:Nat)(out:List Qj):Option (List Qj×Int):=
 some (out,0)
def L6(N:Nat)(d:Qa)(g:List Int):Option (List Qj×Int):=
 if d.2.1.length≤10∧d.2.2.2.1.length≤6∧d.2.2.2.2.length≤6 then
  (mkI N d (d.2.2.2.1.length+1) (d.2.2.2.2.length+1) (d.2.1.length+1) 0 g (Ck (d.2.1.length+1) (d.2.2.2.1.length+1) (d.2.2.2.2.length+1))).bind fun r=>Xt N r.2
 else none
def marks_S(N:Nat)(e:List Qe)(e2:List Int)(e3 p p2:Int):Option (List Qj×Int):=
 ((B5 N e e2 e3 p p2).bind fun e=>match e with
 | .inl (x_1,y_2)=>
  (br (!decide (y_2=0))
   (some ([],y_2))
   (L6 N x_1 (List.replicate 539 (0:Int))))
 | .inr x_3=>
  (br (!decide (x_3=0))
   (some ([],x_3))
   (none)))
noncomputable def Wc(N:Nat):List Spec:=[Rw N]
theorem A22(N:Nat):AllP (A2 Tryz.prog) (Wc N):=⟨Ax N,trivial⟩
noncomputable def Amr:Code:=(Tryz.f6.body).getD .skip
noncomputable abbrev Bp:Body:={ c:=Amr,n:=79,res:=[.tmp 4,.tmp 5],outs:=[⟨[.sl Qw,.i .i64],[]⟩],m0:=0 }
abbrev Lt:altD Bp.outs→Option (List Qj×Int):=fun r=>some (r.1.1,r.1.2.1)
abbrev Uw:List PI:=[.c [1,1,1,1,1,1,0],.c [1,1,1,1,1,1,1]]
abbrev Kh:Sta:=⟨[9],⟨[.sl Qw],[.dead]⟩⟩
abbrev Wd(N:Nat):Leaf (List Qj×Int):=⟨Uw,Kh,fun p=>Xt N p.1.1⟩
theorem A6j(N:Nat)(out:List Qj):ev (Z:=List Qj×Int) Tryz.prog (Wc N) Bp [] [] (some Lt) 400 true Uw (stL Kh ((out,()),((),()))) (stH Kh ((out,()),((),())))=Xt N out:=by kernel_rfl
theorem A6l(N:Nat){z:List Qj×Int}{E:EE}{Xc:Ctx}(hE:EOK Bp.m0 E)(hX:CxOK true Xc)(hret:Bf Tryz.prog Bp E Xc z (some Lt)):Be Tryz.prog Bp.c Bp.n Bp.m0 E Xc z (Wd N):=Ny (B:=Bp) (loops:=[]) (leaves:=[]) (A22 N) mixed trivial hE hX trivial hret (fun p=>A6j N p.1.1)
abbrev A9c:List PI:=[.c [1,1,1,1,0],.c [1,1,1,1,1]]
abbrev Tw:Sta:=⟨[6,8],⟨[.fe Qb,.own 0 0],[.segs [.arr (.int .i64) 539]]⟩⟩
abbrev Jd(N:Nat):Leaf (List Qj×Int):=⟨A9c,Tw,fun p=>L6 N p.1.1 p.2.1.1⟩
theorem A7f(N:Nat){z:List Qj×Int}{E:EE}{Xc:Ctx}(hE:EOK Bp.m0 E)(hX:CxOK true Xc)(hret:Bf Tryz.prog Bp E Xc z (some Lt)):Be Tryz.prog Bp.c Bp.n Bp.m0 E Xc z (Jd N):=by
 rintro ⟨⟨⟨T,H,f,A,B⟩,u1,u2⟩,⟨G,u3⟩,u4⟩ hfn a w hS
 have hfn:L6 N (T,H,f,A,B) G=some z:=hfn
 unfold L6 at hfn
 split at hfn
 rotate_left
 ·cases hfn
 rename_i hc
 dsimp only at hc hfn
 obtain⟨hnH,hnA,hnB⟩:=hc
 obtain⟨⟨G2,X2⟩,hq,hfn⟩:=bind_some hfn
 dsimp only at hfn
 obtain⟨⟨g,hs,htm,hi,he⟩,hsz,hm⟩:=hS
 have h6:RepV g (.fe Mq (T,H,f,A,B) 0) (a.tmps.getD 6 undef):=htm 6 _ rfl
 have h8:RepV g (.own 0 0) (a.tmps.getD 8 undef):=htm 8 _ rfl
 have hB0:RepBlk g w 0 (.segs [.arr (.int .i64) 539 G]):=hs.blk 0 _ rfl
 simp only[RepV]at h6 h8
 obtain⟨b0,c0,n0,us0,ty0,e0,hb0,⟨v1,v2,rfl,⟨hGl,hGr⟩,h3⟩,hm0⟩:=hB0
 obtain⟨_,_,_,e8,h8⟩:=h8
 rw[e0]at e8;cases e8
 have h3:v2=[]:=h3
 subst h3
 obtain⟨rfl,hGi⟩:=(Bs _ _).1 hGr
 have hb0:Blk w b0 (G.map (.int .i64)) ty0:=by rw[List.append_nil]at hb0;exact hb0
 obtain⟨bd,od,ws,tyD,us,ep,hMD,hseg,hrep⟩:=h6
 have hrep0:=hrep
 simp only[RepC]at hrep
 obtain⟨_,_,rfl,⟨vT,rfl,hvT⟩,_,_,rfl,⟨vH,rfl,hvH⟩,_,_,rfl,⟨rfl,hvf⟩,_,_,rfl,⟨vA,rfl,hvA⟩,⟨vB,rfl,hvB⟩⟩:=hrep
 obtain⟨aH,cH,rfl⟩:∃aH cH,vH=.slice aH H.length cH:=by
  obtain⟨-,x,y,e,-⟩:=hvH
  exact⟨x,y,e⟩
 obtain⟨aA,cA,rfl⟩:∃aA cA,vA=.slice aA A.length cA:=by
  obtain⟨-,x,y,e,-⟩:=hvA
  exact⟨x,y,e⟩
 obtain⟨aB,cB,rfl⟩:∃aB cB,vB=.slice aB B.length cB:=by
  obtain⟨-,x,y,e,-⟩:=hvB
  exact⟨x,y,e⟩
 have hwD:=hs.mem _ _ hMD
 have hcl:=Cl.of_seg hwD hseg
 have hMw:∀b o,g.M b=some o→b≠b0∧w.heap[b]?=some o:=fun b o h=>⟨fun e=>(by rw[e,hm0]at h;cases h),hs.mem b o h⟩
 have hd:∀ρ,RepV ⟨ρ,g.M⟩ (.fe Mq (T,H,f,A,B) 0) (.pointer (some ⟨bd,od,none⟩)):=fun ρ=>⟨bd,od,ws,tyD,_,rfl,hMD,hseg,hrep0⟩
 have hwalk:=W5 (X:=Xc) (df:=a.defers) (N:=N) (M:=g.M) (T:=T) (H:=H) (A:=A) (B:=B) (f:=f) bd od b0 H.length A.length B.length cH cA cB aH aA aB ty0 w hnH hnA hnB hMw hm0 hd (A8 hwD) (Cl.cell hcl (i:=1) rfl) (Cl.cell hcl (i:=3) rfl) (Cl.cell hcl (i:=4) rfl) G hb0 hGl hGi G2 X2 hq (fun bo hi' us' tyO w' hMS=>?_)
 ·have e:(Jd N).at_.map (itm Bp.c)=Akz:=by kernel_rfl
  rw[e]
  refine St.toAt (tm:=a.tmps) hwalk ⟨hsz,A53 _ (fun x hx=>?_)⟩
  simp only[List.mem_cons,List.not_mem_nil,or_false]at hx
  rcases hx with rfl | rfl
  ·exact ep
  ·exact h8
 ·intro tm htm'
  have e:(Wd N).at_.map (itm Bp.c)=Ze:=by kernel_rfl
  rw[←e]
  have hu:=hMS.upd
  have hge:GE g ⟨g.ρ,frzM g.M [] w.heap.size w'⟩:=⟨fun _ _ h=>h,A2k⟩
  have hMlt:∀b o,g.M b=some o→b<w.heap.size:=fun b o h=>A8 (hs.mem b o h)
  have hXl:=hMS.shp.1
  have hrep:=Ar.rep (M:=g.M) (n:=w.heap.size) hMS.mids hMS.blk hMlt (by have:=hMS.low;omega) hMS.low.2 (by omega)
  rw[hXl]at hrep
  refine A6l N hE hX hret ((X2,()),((),())) hfn _ _ ⟨⟨⟨g.ρ,frzM g.M [] w.heap.size w'⟩,⟨fun b o h=>?_,fun id k hk=>?_,fun i j ki kj b ci ni cj nj x1 y1 x2 y2 z1 z2=>?_⟩,?_,fun i hi'=>hi i hi',?_⟩,htm'.1,hm⟩
  ·rcases L5 h with h | ⟨_,_,h,_⟩
   ·exact hu.blk (hs.mem b o h) (by simp[(hMw b o h).1])
   ·exact h
  ·match id,hk with
   | 0,hk=>cases hk;trivial
   | n+1,hk=>cases hk
  ·match i,x1 with
   | 0,x1=>cases x1;cases x2
   | n+1,x1=>cases x1
  ·exact A4a [9] _ ⟨_,_,rfl,(by show RepV _ (.sl Qw X2) (tm.getD 9 undef);rw[htm'.2 9 _ rfl];exact hrep),rfl⟩
  ·have hSw:∀b∈[b0],Sw g (fun i=>(stH Tw (((T,H,f,A,B),u1,u2),(G,u3),u4))[i]?) [0] b:=fun b hb=>by
    simp only[List.mem_singleton]at hb
    subst hb
    exact⟨0,by simp,_,c0,n0,rfl,rfl,e0⟩
   refine hE.step (nw:=fun _=>False) (wr:=[0]) (fun _ h=>h.elim) hs ⟨hu.os,hu.tape,hu.output,hu.size,fun b hb hn=>hu.same b hb (fun h=>hn (hSw b h)),hge,fun id h0 h1=>absurd h0 h1,fun id b c n h0 h1=>(by rw[h0]at h1;cases h1),fun b o h=>?_⟩ he
   rcases L5 h with h | ⟨x1,x2,x3,x4⟩
   ·exact .inl h
   ·exact .inr ⟨x1,.inl (by rcases x2 with h | h;cases h;exact h),x4⟩

abbrev A7u:Sta:=⟨[0,1],⟨[.agg [.sl Qf,.sl (.int .i64),.i .i64],.agg [.i .i64,.i .i64]],[]⟩⟩
theorem Ak3(N:Nat)(e:List Qe)(e2:List Int)(e3:Int)(p:Int)(p2:Int):ev (Z:=List Qj×Int) Tryz.prog (Wc N) Bp [] [Jd N] (some Lt) 400 false [.c [0],.c [1]] (stL A7u (((e,e2,e3,()),(p,p2,()),()),())) (stH A7u (((e,e2,e3,()),(p,p2,()),()),()))=marks_S N e e2 e3 p p2:=by kernel_rfl
noncomputable def Akx(N:Nat):Spec:={ f:=6,ins:=⟨[.agg [.sl Qf,.sl (.int .i64),.i .i64],.agg [.i .i64,.i .i64]],[]⟩,outs:=[⟨[.sl Qw,.i .i64],[]⟩],run:=fun p k=>(marks_S N p.1.1.1 p.1.1.2.1 p.1.1.2.2.1 p.1.2.1.1 p.1.2.1.2.1).bind fun r=>k ((r.1,r.2,()),()) }
theorem A7p(N:Nat):A2 Tryz.prog (Akx N):=A8r (B:=Bp) (loops:=[]) (leaves:=[Jd N]) (fun p=>marks_S N p.1.1.1 p.1.1.2.1 p.1.1.2.2.1 p.1.2.1.1 p.1.2.1.2.1) (fun r=>((r.1,r.2,()),())) Lt (fun _ _ _=>rfl) (fun r z h=>by cases h;rfl) Tryz.func6 (by kernel_rfl) (by kernel_rfl) (by kernel_rfl) rfl rfl (by kernel_rfl) (fun args w=>Sem.pv_run _ _ _ (by kernel_rfl) w) (A22 N) mixed trivial (fun z E Xc hE hX hret=>⟨A7f N hE hX hret,trivial⟩) (fun p=>Ak3 N p.1.1.1 p.1.1.2.1 p.1.1.2.2.1 p.1.2.1.1 p.1.2.1.2.1)

def emarks_l2(N:Nat):Nat→(List Qj)→Qj→(List Qj)→Int→Int→Qj→Int→Int→Qj→Qe→Int→Int→Int→(List Qj)→Option ((Unit)⊕(List Qj×List Qe×List Qj×Int×Int×List Qe×List Int×Int×Int×Int×List Qj))
 | 0,_,_,_,_,_,_,_,_,_,_,_,_,_,_=>none
 | n_+1,marks,l,u,u2,u3,u4,u5,u6,x,x2,x3,p,p2,given=>
  br (decide (u6<u5))
   (idx u4 u6 fun x_5=>
   br (decide (10<(x_5.length:Int)))
    (some (.inl ()))
    (chk (u6+1)<|
    emarks_l2 N n_ marks l u u2 u3 u4 u5 (u6+1) x x2 x3 p p2 given))
   (some (.inr (marks,l,u,u2,u3,x,x2,x3,p,p2,given)))
def emarks_l1(N:Nat):Nat→(List Qj)→(List Qj)→Int→Int→Qj→Qe→Int→Int→Int→(List Qj)→Option ((Unit)⊕((Unit)⊕(List Qj×List Qe×List Int×Int×Int×Int×List Qj)))
 | 0,_,_,_,_,_,_,_,_,_,_=>none
 | n_+1,marks,u,u2,u3,x,x2,x3,p,p2,given=>
  br (decide (u3<u2))
   (idx u u3 fun x_4=>
   br (decide (10<(x_4.length:Int)))
    (some (.inl ()))
    ((emarks_l2 N N marks x_4 u u2 u3 x_4 (x_4.length:Int) 0 x x2 x3 p p2 given).bind fun e=>match e with
    | .inl _=>
     some (.inr (.inl ()))
    | .inr (marks_6,l_7,u_8,u2_9,u3_10,x_11,x2_12,x3_13,p_14,p2_15,given_16)=>
     (Mh N l_7).bind fun x_17=>
     lim (given_16.length+[x_17].length)<|
     chk (u3_10+1)<|
     emarks_l1 N n_ marks_6 u_8 u2_9 (u3_10+1) x_11 x2_12 x3_13 p_14 p2_15 (given_16++[x_17])))
   (some (.inr (.inr (marks,x,x2,x3,p,p2,given))))
def emarks_l3(N:Nat):Nat→(List Qj)→Int→Int→Qj→Qe→Int→(List Qj)→Qj→Qe→Int→Option ((Unit)⊕(List Qe×List Int×Int×List Qe×List Int×Int))
 | 0,_,_,_,_,_,_,_,_,_,_=>none
 | n_+1,u,u2,u3,x,x2,x3,given,own,own2,own3=>
  br (decide (u3<u2))
   (idx u u3 fun x_44=>
   rng u3 given.length<|
   get given u3.toNat fun x_45=>
   (Mm N x_45 x_44).bind fun x_46=>
   br (!x_46)
    (some (.inl ()))
    (chk (u3+1)<|
    emarks_l3 N n_ u u2 (u3+1) x x2 x3 given own own2 own3))
   (some (.inr (x,x2,x3,own,own2,own3)))
def emarks_j1(N:Nat)(marks:List Qj)(x:List Qe)(x2:List Int)(x3:Int)(given:List Qj)(own:List Qe)(own2:List Int)(own3:Int):Option Bool:=
 (emarks_l3 N N marks (marks.length:Int) 0 x x2 x3 given own own2 own3).bind fun e=>match e with
 | .inl _=>
  some false
 | .inr (x_47,x2_48,x3_49,own_50,own2_51,own3_52)=>
  (Hy N own_50 own2_51 own3_52 x_47 x2_48 x3_49).bind fun x_53=>
  br x_53
   ((B0 N).bind fun x_54=>
   some x_54)
   (some false)
def emarks_S(N:Nat)(x:List Qe)(x2:List Int)(x3 p p2:Int)(marks:List Qj):Option Bool:=
 (great_S N x x2 x3).bind fun x_1=>
 br x_1
  ((B0 N).bind fun x_2=>
  some x_2)
  (br (decide (14<(marks.length:Int)))
   ((B0 N).bind fun x_3=>
   some x_3)
   ((emarks_l1 N N marks marks (marks.length:Int) 0 x x2 x3 p p2 []).bind fun e=>match e with
   | .inl _=>
    (B0 N).bind fun x_18=>
    some x_18
   | .inr (.inl _)=>
    (B0 N).bind fun x_19=>
    some x_19
   | .inr (.inr (marks_20,x_21,x2_22,x3_23,p_24,p2_25,given_26))=>
    (C9 N x_21 x2_22 x3_23).bind fun(x_27,y_28,y_29)=>
    (C9 N x_21 x2_22 x3_23).bind fun(x_30,y_31,y_32)=>
    (shows_S N x_27 y_28 y_29 p_24 p2_25 given_26).bind fun(x_33,y_34)=>
    (rshows_S N x_30 y_31 y_32 p_24 p2_25 marks_20).bind fun(x_35,y_36)=>
    br (!decide (x_33=x_35))
     (some false)
     (br (!decide (y_34=y_36))
      (some false)
      ((marks_S N x_27 y_28 y_29 p_24 p2_25).bind fun(x_37,y_38)=>
      (least_S N x_27 y_28 y_29 p_24 p2_25).bind fun(x_39,y_40)=>
      (Jj N x_30 y_31 y_32 p_24 p2_25).bind fun x_41=>
      br (!decide (y_38=x_41))
       (some false)
       (br (!decide (y_40=x_41))
        (some false)
        (br (!decide (x_41=0))
         (br (decide (0<(x_37.length:Int)))
          (some false)
          (br (decide (x_41=0))
           ((rshows_S N x_30 y_31 y_32 p_24 p2_25 x_37).bind fun(x_42,y_43)=>
           br (!decide (y_43=0))
            (some false)
            (br (!decide (x_42=x_39))
             (some false)
             (emarks_j1 N marks_20 x_21 x2_22 x3_23 given_26 x_27 y_28 y_29)))
           (emarks_j1 N marks_20 x_21 x2_22 x3_23 given_26 x_27 y_28 y_29)))
         (br (decide (x_41=0))
          ((rshows_S N x_30 y_31 y_32 p_24 p2_25 x_37).bind fun(x_55,y_56)=>
          br (!decide (y_56=0))
           (some false)
           (br (!decide (x_55=x_39))
            (some false)
            (emarks_j1 N marks_20 x_21 x2_22 x3_23 given_26 x_27 y_28 y_29)))
          (emarks_j1 N marks_20 x_21 x2_22 x3_23 given_26 x_27 y_28 y_29))))))))
noncomputable def Ik(N:Nat):Oks:=[⟨_,La N⟩,⟨_,D2 N⟩,⟨_,V1 N⟩,⟨_,F5 N⟩,⟨_,Dy N⟩,⟨_,Ex N⟩,⟨_,Tq N⟩,⟨_,Gj N⟩,⟨_,A76 N⟩,⟨_,A35 N⟩,⟨_,A7p N⟩]
abbrev Zh:List StSh:=[⟨[.b],[]⟩]
noncomputable abbrev Px:Body:=mkB Tryz.f10 Zh 0
abbrev A1s:altD Zh→Option Bool:=fun r=>some r.1.1
noncomputable def Hn(N:Nat){top:Bool}:LpQ Px top:=mkL (Z:=(Unit)⊕(List Qj×List Qe×List Qj×Int×Int×List Qe×List Int×Int×Int×Int×List Qj)) (Ik N) [] [.c [1,1,1,0,1,0,0,1,1,0,0,1,1,0,1,0,0,0],.c [1,1,1,0,1,0,0,1,1,0,0,1,1,0,1,0,0,1],.l [1,1,1,0,1,0,0,1,1,0,0,1,1,0,1,0,0],.b 2,.c [1,1,1,0,1,0,0,1,1,0,0,1,1,1],.b 1,.c [1,1,1,0,1,0,0,1,1,1],.l [1,1,1,0,1,0,0],.b 0,.c [1,1,1,1]] ⟨[2,3,4,7,9,33,34,35,43,44,45],⟨[.sl Qw,.own 0 0,.own 1 0,.ols 2,.sl Qf,.sl Qw,.i .i64,.i .i64,.sl Qf,.i .i64,.i .i64],[.segs [.sl Qf,.sl (.int .i64),.i .i64],.segs [.i .i64,.i .i64],.lst Qw]⟩⟩ (fun m p=>emarks_l2 N m p.1.1 p.1.2.2.2.2.1 p.1.2.2.2.2.2.1 p.1.2.2.2.2.2.2.1 p.1.2.2.2.2.2.2.2.1 p.1.2.2.2.2.2.2.2.2.1 p.1.2.2.2.2.2.2.2.2.2.1 p.1.2.2.2.2.2.2.2.2.2.2.1 p.2.1.1 p.2.1.2.1 p.2.1.2.2.1 p.2.2.1.1 p.2.2.1.2.1 p.2.2.2.1) [⟨[.c [1,1,1,0,1,0,0,1,1,0,0,1,1,0,1,0,0,1,1,0,0,1,1,0,0],.c [1,1,1,0,1,0,0,1,1,0,0,1,1,0,1,0,0,1,1,0,0,1,1,0,1],.b 3,.c [1,1,1,0,1,0,0,1,1,0,0,1,1,0,1,0,0,1,1,1],.l [1,1,1,0,1,0,0,1,1,0,0,1,1,0,1,0,0],.b 2,.c [1,1,1,0,1,0,0,1,1,0,0,1,1,1],.b 1,.c [1,1,1,0,1,0,0,1,1,1],.l [1,1,1,0,1,0,0],.b 0,.c [1,1,1,1]],⟨[],⟨[],[]⟩⟩,fun p=>some (.inl ())⟩,⟨[.c [1,1,1,0,1,0,0,1,1,0,0,1,1,1],.b 1,.c [1,1,1,0,1,0,0,1,1,1],.l [1,1,1,0,1,0,0],.b 0,.c [1,1,1,1]],⟨[2,3,4,7,9,33,34,35],⟨[.sl Qw,.own 0 0,.own 1 0,.ols 2,.sl Qf,.sl Qw,.i .i64,.i .i64],[.segs [.sl Qf,.sl (.int .i64),.i .i64],.segs [.i .i64,.i .i64],.lst Qw]⟩⟩,fun p=>some (.inr (p.1.1,p.1.2.2.2.2.1,p.1.2.2.2.2.2.1,p.1.2.2.2.2.2.2.1,p.1.2.2.2.2.2.2.2.1,p.2.1.1,p.2.1.2.1,p.2.1.2.2.1,p.2.2.1.1,p.2.2.1.2.1,p.2.2.2.1))⟩] (fun _=>[]) (fun k e=>match e with | .inl x=>k (.inl ((),())) | .inr x=>k (.inr (.inl ((x.1,(),(),(),x.2.1,x.2.2.1,x.2.2.2.1,x.2.2.2.2.1,()),((x.2.2.2.2.2.1,x.2.2.2.2.2.2.1,x.2.2.2.2.2.2.2.1,()),(x.2.2.2.2.2.2.2.2.1,x.2.2.2.2.2.2.2.2.2.1,()),x.2.2.2.2.2.2.2.2.2.2,()))))) N (fun m p=>by kernel_rfl) (hg:=(by rintro _ _ (_ | _)<;>rfl))
noncomputable def Lh(N:Nat){top:Bool}:LpQ Px top:=mkL (Z:=(Unit)⊕((Unit)⊕(List Qj×List Qe×List Int×Int×Int×Int×List Qj))) (Ik N) [Hn N] [.c [1,1,1,0,1,0,0,0],.c [1,1,1,0,1,0,0,1],.l [1,1,1,0,1,0,0],.b 0,.c [1,1,1,1]] ⟨[2,3,4,7,33,34,35],⟨[.sl Qw,.own 0 0,.own 1 0,.ols 2,.sl Qw,.i .i64,.i .i64],[.segs [.sl Qf,.sl (.int .i64),.i .i64],.segs [.i .i64,.i .i64],.lst Qw]⟩⟩ (fun m p=>emarks_l1 N m p.1.1 p.1.2.2.2.2.1 p.1.2.2.2.2.2.1 p.1.2.2.2.2.2.2.1 p.2.1.1 p.2.1.2.1 p.2.1.2.2.1 p.2.2.1.1 p.2.2.1.2.1 p.2.2.2.1) [⟨[.c [1,1,1,0,1,0,0,1,1,0,0,1,0,1,0,0],.c [1,1,1,0,1,0,0,1,1,0,0,1,0,1,0,1],.c [1,1,1,0,1,0,0,1,1,0,0,1,1],.b 1,.c [1,1,1,0,1,0,0,1,1,1],.l [1,1,1,0,1,0,0],.b 0,.c [1,1,1,1]],⟨[],⟨[],[]⟩⟩,fun p=>some (.inl ())⟩,⟨[.c [1,1,1,0,1,0,0,1,1,0,0,1,1,0,1,0,0,1,1,0,0,1,1,0,0],.c [1,1,1,0,1,0,0,1,1,0,0,1,1,0,1,0,0,1,1,0,0,1,1,0,1],.b 3,.c [1,1,1,0,1,0,0,1,1,0,0,1,1,0,1,0,0,1,1,1],.l [1,1,1,0,1,0,0,1,1,0,0,1,1,0,1,0,0],.b 2,.c [1,1,1,0,1,0,0,1,1,0,0,1,1,1],.b 1,.c [1,1,1,0,1,0,0,1,1,1],.l [1,1,1,0,1,0,0],.b 0,.c [1,1,1,1]],⟨[],⟨[],[]⟩⟩,fun p=>some (.inr (.inl ()))⟩,⟨[.c [1,1,1,1,0],.c [1,1,1,1,1]],⟨[2,3,4,7],⟨[.sl Qw,.own 0 0,.own 1 0,.ols 2],[.segs [.sl Qf,.sl (.int .i64),.i .i64],.segs [.i .i64,.i .i64],.lst Qw]⟩⟩,fun p=>some (.inr (.inr (p.1.1,p.2.1.1,p.2.1.2.1,p.2.1.2.2.1,p.2.2.1.1,p.2.2.1.2.1,p.2.2.2.1)))⟩] (fun _=>[]) (fun k e=>match e with | .inl x=>k (.inl ((),())) | .inr (.inl x)=>k (.inr (.inl ((),()))) | .inr (.inr x)=>k (.inr (.inr (.inl ((x.1,(),(),(),()),((x.2.1,x.2.2.1,x.2.2.2.1,()),(x.2.2.2.2.1,x.2.2.2.2.2.1,()),x.2.2.2.2.2.2,())))))) N (fun m p=>by kernel_rfl) (hg:=(by rintro _ _ (_ | _ | _)<;>rfl))
noncomputable def To(N:Nat){top:Bool}:LpQ Px top:=mkL (Z:=(Unit)⊕(List Qe×List Int×Int×List Qe×List Int×Int)) (Ik N) [Hn N,Lh N] [.c [1,1,1,1,1,1,1,1,1,1,1,1,0,1,0,0,0],.c [1,1,1,1,1,1,1,1,1,1,1,1,0,1,0,0,1],.l [1,1,1,1,1,1,1,1,1,1,1,1,0,1,0,0],.b 4,.c [1,1,1,1,1,1,1,1,1,1,1,1,1]] ⟨[3,7,12,134,135,136],⟨[.own 0 0,.ols 1,.own 2 0,.sl Qw,.i .i64,.i .i64],[.segs [.sl Qf,.sl (.int .i64),.i .i64],.lst Qw,.segs [.sl Qf,.sl (.int .i64),.i .i64]]⟩⟩ (fun m p=>emarks_l3 N m p.1.2.2.2.1 p.1.2.2.2.2.1 p.1.2.2.2.2.2.1 p.2.1.1 p.2.1.2.1 p.2.1.2.2.1 p.2.2.1 p.2.2.2.1.1 p.2.2.2.1.2.1 p.2.2.2.1.2.2.1) [⟨[.c [1,1,1,1,1,1,1,1,1,1,1,1,0,1,0,0,1,1,0,0,1,1,0,0],.c [1,1,1,1,1,1,1,1,1,1,1,1,0,1,0,0,1,1,0,0,1,1,0,1],.b 5,.c [1,1,1,1,1,1,1,1,1,1,1,1,0,1,0,0,1,1,1],.l [1,1,1,1,1,1,1,1,1,1,1,1,0,1,0,0],.b 4,.c [1,1,1,1,1,1,1,1,1,1,1,1,1]],⟨[],⟨[],[]⟩⟩,fun p=>some (.inl ())⟩,⟨[.c [1,1,1,1,1,1,1,1,1,1,1,1,1,0],.c [1,1,1,1,1,1,1,1,1,1,1,1,1,1]],⟨[3,12],⟨[.own 0 0,.own 1 0],[.segs [.sl Qf,.sl (.int .i64),.i .i64],.segs [.sl Qf,.sl (.int .i64),.i .i64]]⟩⟩,fun p=>some (.inr (p.2.1.1,p.2.1.2.1,p.2.1.2.2.1,p.2.2.1.1,p.2.2.1.2.1,p.2.2.1.2.2.1))⟩] (fun _=>[]) (fun k e=>match e with | .inl x=>k (.inl ((),())) | .inr x=>k (.inr (.inl (((),(),()),((x.1,x.2.1,x.2.2.1,()),(x.2.2.2.1,x.2.2.2.2.1,x.2.2.2.2.2,()),()))))) N (fun m p=>by kernel_rfl) (hg:=(by rintro _ _ (_ | _)<;>rfl))
noncomputable def A6f(N:Nat):JnQ (Z:=Bool) Px true (some A1s) []:=mkJ (Ik N) [Hn N,Lh N,To N] [] ⟨[.c [1,1,1,1,1,1,1,1,1,1,1,1,0,0],.c [1,1,1,1,1,1,1,1,1,1,1,1,0,1],.c [1,1,1,1,1,1,1,1,1,1,1,1,1]],⟨[2,3,7,12],⟨[.sl Qw,.own 0 0,.ols 1,.own 2 0],[.segs [.sl Qf,.sl (.int .i64),.i .i64],.lst Qw,.segs [.sl Qf,.sl (.int .i64),.i .i64]]⟩⟩,fun p=>emarks_j1 N p.1.1 p.2.1.1 p.2.1.2.1 p.2.1.2.2.1 p.2.2.1 p.2.2.2.1.1 p.2.2.2.1.2.1 p.2.2.2.1.2.2.1⟩ (fun p=>by kernel_rfl)
noncomputable def Agg(N:Nat):Spec:=mkS 10 ⟨[.agg [.sl Qf,.sl (.int .i64),.i .i64],.agg [.i .i64,.i .i64],.sl Qw],[]⟩ Zh (fun p=>emarks_S N p.1.1.1 p.1.1.2.1 p.1.1.2.2.1 p.1.2.1.1 p.1.2.1.2.1 p.1.2.2.1) (fun k r=>k ((r,()),()))
theorem A4d(N:Nat):A2 Tryz.prog (Agg N):=mkF (R:=Bool) (m0:=0) (Ik N) [Hn N,Lh N,To N] (A1s) [A6f N] Tryz.func10 (fun p=>by kernel_rfl) (by kernel_rfl) (fun _=>by kernel_rfl)

end Go.Proofs.YtfcnhnbnjdccfaaGreat

namespace Go.Proofs.YtfcnhnbnjdccfaaGreat
set_option linter.all false
open Go
def Ok{α:Type}(o:Option α)(Q:α→Prop):Prop:=∃x,o=some x∧Q x
section
variable {α β Z:Type} {Q:Z→Prop} {x y:Option Z}
theorem Ok.some{z:Z}(h:Q z):Ok (some z) Q:=⟨z,rfl,h⟩
theorem Ok.bind{o:Option α}{P:α→Prop}{f:α→Option Z}(h:Ok o P)(k:∀a,P a→Ok (f a) Q):Ok (o.bind f) Q:=by
 obtain⟨a,rfl,ha⟩:=h
 exact k a ha
theorem Ok.eqb{o:Option α}{a:α}{f:α→Option Z}(h:o=Option.some a)(k:Ok (f a) Q):Ok (o.bind f) Q:=by subst h;exact k
theorem Ok.mono{P:Z→Prop}(h:Ok x P)(k:∀a,P a→Q a):Ok x Q:=let ⟨a,e,p⟩:=h;⟨a,e,k a p⟩
theorem Ok.br{c:Bool}(h1:c=true→Ok x Q)(h2:c=false→Ok y Q):Ok (br c x y) Q:=by
 cases c
 ·exact h2 rfl
 ·exact h1 rfl
theorem Ok.brd{p:Prop}[Decidable p](h1:p→Ok x Q)(h2:¬p→Ok y Q):Ok (Proofs.YtfcnhnbnjdccfaaGreat.br (decide p) x y) Q:=by
 by_cases h:p
 ·simpa [h,Proofs.YtfcnhnbnjdccfaaGreat.br]using h1 h
 ·simpa [h,Proofs.YtfcnhnbnjdccfaaGreat.br]using h2 h
theorem A5{n:Int}(hn:-9223372036854775808≤n∧n≤9223372036854775807):chk n x=x:=by unfold chk;rw[Adz.2 hn]
theorem Ok.chk{n:Int}(hn:-9223372036854775808≤n∧n≤9223372036854775807)(h:Ok x Q):Ok (chk n x) Q:=by rw[A5 hn];exact h
theorem I0{c:Bool}(hc:c=true):grd c x=x:=by subst hc;rfl
theorem Ok.grd{c:Bool}(hc:c=true)(h:Ok x Q):Ok (grd c x) Q:=by subst hc;exact h
theorem Au{i:Int}{n:Nat}(hi:0≤i∧i<n):rng i n x=x:=by unfold rng;rw[if_pos hi]
theorem Ok.rng{i:Int}{n:Nat}(hi:0≤i∧i<n)(h:Ok x Q):Ok (rng i n x) Q:=by rw[Au hi];exact h
theorem Bd{n:Nat}(hn:n≤1000000):lim n x=x:=by unfold lim;rw[if_pos hn]
theorem Ok.lim{n:Nat}(hn:n≤1000000)(h:Ok x Q):Ok (lim n x) Q:=by rw[Bd hn];exact h
theorem idx_eq{l:List α}{i:Int}{f:α→Option Z}{a:α}(h0:0≤i)(h:l[i.toNat]?=Option.some a):idx l i f=f a:=by unfold idx;rw[if_pos h0,h]
theorem Ab{l:List α}{i:Int}{f:α→Option Z}(d:α)(h0:0≤i)(h:i<l.length):idx l i f=f (l.getD i.toNat d):=by
 refine idx_eq h0 ?_
 have:i.toNat<l.length:=by omega
 simp[List.getD,this]
theorem Ok.idx{l:List α}{i:Int}{f:α→Option Z}(h0:0≤i)(h:i<l.length)(k:∀a,l[i.toNat]?=Option.some a→a∈l→Ok (f a) Q):Ok (idx l i f) Q:=by
 have hlt:i.toNat<l.length:=by omega
 have e:l[i.toNat]?=Option.some l[i.toNat]:=List.getElem?_eq_getElem hlt
 rw[idx_eq h0 e]
 exact k _ e (List.getElem_mem hlt)
theorem get_eq{l:List α}{k:Nat}{f:α→Option Z}{a:α}(h:l[k]?=Option.some a):get l k f=f a:=by unfold get;rw[h]
theorem Ady{l:List α}{k:Nat}{f:α→Option Z}(d:α)(h:k<l.length):get l k f=f (l.getD k d):=get_eq (by simp[List.getD,h])
theorem Ok.get{l:List α}{k:Nat}{f:α→Option Z}(h:k<l.length)(c:∀a,l[k]?=Option.some a→a∈l→Ok (f a) Q):Ok (get l k f) Q:=by
 have e:l[k]?=Option.some l[k]:=List.getElem?_eq_getElem h
 rw[get_eq e]
 exact c _ e (List.getElem_mem h)
theorem B1:br true x y=x:=rfl
theorem A6:br false x y=y:=rfl
theorem A4{p:Prop}[Decidable p](h:p):br (decide p) x y=x:=by simp[h,br]
theorem A3{p:Prop}[Decidable p](h:¬p):br (decide p) x y=y:=by simp[h,br]
theorem Bk{p:Prop}[Decidable p](h:p):br (!decide p) x y=y:=by simp[h,br]
theorem Al{p:Prop}[Decidable p](h:¬p):br (!decide p) x y=x:=by simp[h,br]
end
def InR(lo hi:Int)(l:List Int):Prop:=∀x∈l,lo≤x∧x≤hi
theorem InR.append{lo hi:Int}{l:List Int}(h:InR lo hi l){x:Int}(hx:lo≤x∧x≤hi):InR lo hi (l++[x]):=by
 intro y hy
 rcases List.mem_append.1 hy with hy | hy
 ·exact h y hy
 ·simp at hy;subst hy;exact hx
theorem InR.drop{lo hi:Int}{l:List Int}(h:InR lo hi l)(n:Nat):InR lo hi (l.drop n):=fun x hx=>h x (List.mem_of_mem_drop hx)
theorem InR.nil{lo hi:Int}:InR lo hi []:=fun _ h=>by cases h
theorem InR.mono{lo hi lo' hi':Int}{l:List Int}(h:InR lo hi l)(h1:lo'≤lo)(h2:hi≤hi'):InR lo' hi' l:=fun x hx=>by have:=h x hx;omega

end Go.Proofs.YtfcnhnbnjdccfaaGreat

namespace Go.Proofs.YtfcnhnbnjdccfaaGreat
set_option linter.all false
open Go

def ixL{α:Type}(f:α→Option Bool):Nat→List α→Int→Int→Option (Int⊕Unit)
 | 0,_,_,_=>none
 | n+1,s,u,u2=>br (decide (u2<u)) (idx s u2 fun x=>(f x).bind fun c=>br c (some (.inl u2)) (chk (u2+1)<|ixL f n s u (u2+1))) (some (.inr ()))
def ixS{α:Type}(f:α→Option Bool)(N:Nat)(s:List α):Option Int:=(ixL f N s (s.length:Int) 0).bind fun e=>match e with
 | .inl i=>some i
 | .inr _=>some (-1)
theorem Xy{α:Type}{f:α→Option Bool}{p:α→Bool}{s:List α}(hf:∀x∈s,f x=some (p x))(hs:s.length≤1000000):∀(n k:Nat),s.length<n+k→k≤s.length →
  Ok (ixL f n s (s.length:Int) (k:Int)) fun r=>match r with | .inl i=>(0≤i∧i<s.length)∧(s.drop k).any p=true | .inr _=>(s.drop k).any p=false
 | 0,k,h,hk=>by omega
 | n+1,k,h,hk=>by
  unfold ixL
  refine Ok.brd (fun h1=>?_) (fun h1=>Ok.some ?_)
  ·have hlt:k<s.length:=by omega
   refine Ok.idx (by omega) h1 (fun a ha hm=>?_)
   have hd:s.drop k=a::s.drop (k+1):=by
    rw[List.drop_eq_getElem_cons hlt]
    have:s[k]?=some a:=by simpa using ha
    rw[List.getElem?_eq_getElem hlt]at this
    simp only[Option.some.injEq]at this
    rw[this]
   refine Ok.eqb (hf a hm) (Ok.br (fun hp=>Ok.some ?_) (fun hp=>Ok.chk (by omega) ?_))
   ·exact⟨⟨by omega,by omega⟩,by rw[hd];simp[hp]⟩
   ·have:=Xy hf hs n (k+1) (by omega) (by omega)
    rw[show((k+1:Nat):Int)=(k:Int)+1 by omega]at this
    refine this.mono (fun r hr=>?_)
    rw[hd]
    cases r<;>simpa [hp]using hr
  ·have:s.drop k=[]:=List.drop_of_length_le (by omega)
   simp[this]
theorem M6{α:Type}{f:α→Option Bool}{p:α→Bool}{s:List α}{N:Nat}(hf:∀x∈s,f x=some (p x))(hs:s.length≤1000000)(hN:s.length<N):((ixS f N s).bind fun x=>some (decide (0≤x)))=some (s.any p):=by
 obtain⟨r,h1,h2⟩:=Xy hf hs N 0 (by omega) (by omega)
 unfold ixS
 rw[show((0:Nat):Int)=0 from rfl]at h1
 rw[h1]
 cases r with
 | inl i=>simp only[List.drop_zero]at h2;simp[h2.1.1,h2.2]
 | inr u=>simp only[List.drop_zero]at h2;simp[h2]

theorem in_v(N:Nat)(n lo hi:Int):Pv N n lo hi=some (decide (lo≤n∧n≤hi)):=by
 unfold Pv
 by_cases h:lo≤n<;>simp[h,br]
theorem Ft{α:Type}(p:α→Bool)(s:List α):(!(s.any fun x=>!p x))=s.all p:=by
 induction s with
 | nil=>rfl
 | cons a s ih=>simp only[List.any_cons,List.all_cons,Bool.not_or,Bool.not_not,ih]
def okW(w:Int):Bool:=decide (0≤w∧w≤9)
theorem A5u(N:Nat):∀(n:Nat) (s:List Int) (u u2:Int),ixfi_l1 N n s u u2=ixL (G3 N) n s u u2
 | 0,_,_,_=>rfl
 | n+1,s,u,u2=>by simp only[ixfi_l1,ixL,A5u N n]
theorem A8n(N:Nat):∀(n:Nat) (s:List (List Int)) (u u2:Int),ixfa_l1 N n s u u2=ixL (Gb N) n s u u2
 | 0,_,_,_=>rfl
 | n+1,s,u,u2=>by simp only[ixfa_l1,ixL,A8n N n]
theorem A62(N:Nat):∀(n:Nat) (s:List (List Int)) (u u2:Int),P6 N n s u u2=ixL (G9 N) n s u u2
 | 0,_,_,_=>rfl
 | n+1,s,u,u2=>by simp only[P6,ixL,A62 N n]
theorem A7y(N:Nat){l:List Int}(h:l.length≤1000000)(hN:l.length<N):Ow N l=some (l.all okW):=by
 have:=M6 (f:=G3 N) (p:=fun x=>!okW x) (s:=l) (N:=N) (fun x _=>by simp[G3,Se,in_v,okW]) h hN
 unfold Ow Abi
 have e:A4l N l=ixS (G3 N) N l:=by
  unfold A4l ixS
  rw[A5u]<;>rfl
 rw[e,this]
 simp[Ft]
theorem Akl(N:Nat){l:List (List Int)}(h:l.length≤1000000)(hN:l.length<N)(hl:∀x∈l,x.length≤1000000∧x.length<N):Oc N l=some (l.all fun x=>x.all okW):=by
 have:=M6 (f:=Gb N) (p:=fun x=>!(x.all okW)) (s:=l) (N:=N) (fun x hx=>by simp[Gb,Iy,A7y N (hl x hx).1 (hl x hx).2]) h hN
 unfold Oc Abp
 have e:A4c N l=ixS (Gb N) N l:=by
  unfold A4c ixS
  rw[A8n]<;>rfl
 rw[e,this]
 simp[Ft]
def okL(x:List Int):Bool:=decide (1≤(x.length:Int)∧(x.length:Int)≤6)
theorem Ake(N:Nat){l:List (List Int)}(h:l.length≤1000000)(hN:l.length<N):O7 N l=some (l.all okL):=by
 have:=M6 (f:=G9 N) (p:=fun x=>!okL x) (s:=l) (N:=N) (fun x _=>by simp[G9,Yc,in_v,okL]) h hN
 unfold O7 Aby
 have e:A55 N l=ixS (G9 N) N l:=by
  unfold A55 ixS
  rw[A62]<;>rfl
 rw[e,this]
 simp[Ft]

def B9(T:List (List Int))(H:List Int)(f:Int):Int:=
 if ¬(1≤T.length∧T.length≤5)then 2 else if 10<H.length then 2 else if ¬T.all okL then 2 else if ¬T.all (fun x=>x.all okW)then 3 else if ¬H.all okW then 3 else if ¬(0≤f∧f≤8)then 3 else 0
theorem C8{N:Nat}(hN:20≤N)(T:List (List Int))(H:List Int)(f:Int):D7 N T H f=some (B9 T H f):=by
 unfold D7 B9
 rw[in_v]
 simp only[Option.bind_some]
 by_cases h1:1≤T.length∧T.length≤5
 ·rw[show decide (1≤(T.length:Int)∧(T.length:Int)≤5)=true by simpa using (by omega),if_neg (by simpa using h1)]
  simp only[Bool.not_true,A6]
  by_cases h2:10<H.length
  ·rw[A4 (by omega),if_pos h2]
  ·rw[A3 (by omega),if_neg h2,Ake N (by omega) (by omega)]
   simp only[Option.bind_some]
   cases hb:T.all okL with
   | false=>simp[br]
   | true=>
    simp only[Bool.not_true,A6]
    rw[if_neg (by simp)]
    have hl:∀x∈T,x.length≤6:=fun x hx=>by
     have:=List.all_eq_true.1 hb x hx
     simp only[okL,decide_eq_true_eq]at this;omega
    rw[Akl N (by omega) (by omega) (fun x hx=>by have:=hl x hx;omega)]
    simp only[Option.bind_some]
    cases ha:T.all fun x=>x.all okW with
    | false=>simp[br]
    | true=>
     simp only[Bool.not_true,A6]
     rw[if_neg (by simp),show Iy N H=some (H.all okW)by simp[Iy,A7y N (l:=H) (by omega) (by omega)]]
     simp only[Option.bind_some]
     cases hh:H.all okW with
     | false=>simp[br]
     | true=>
      simp only[Bool.not_true,A6]
      rw[if_neg (by simp),in_v]
      simp only[Option.bind_some]
      by_cases h3:0≤f∧f≤8<;>simp[h3,br]
 ·rw[show decide (1≤(T.length:Int)∧(T.length:Int)≤5)=false by simpa using (by omega),if_pos (by simpa using h1)]
  rfl
structure Fine (T:List (List Int)) (H:List Int) (f:Int):Prop where
 n:1≤T.length∧T.length≤5
 h:H.length≤10
 l:∀x∈T,1≤x.length∧x.length≤6
 w:∀x∈T,InR 0 9 x
 hw:InR 0 9 H
 f:0≤f∧f≤8
theorem Vo{x:List Int}:x.all okW=true↔InR 0 9 x:=by simp[okW,InR]
theorem Fine.check{T:List (List Int)}{H:List Int}{f:Int}(h:Fine T H f):B9 T H f=0:=by
 unfold B9
 have h1:T.all okL=true:=List.all_eq_true.2 fun x hx=>by
  have:=h.l x hx
  simp only[okL,decide_eq_true_eq];omega
 have h2:(T.all fun x=>x.all okW)=true:=List.all_eq_true.2 fun x hx=>Vo.2 (h.w x hx)
 rw[if_neg (by simpa using h.n),if_neg (by have:=h.h;omega),if_neg (by rw[h1];simp),if_neg (by rw[h2];simp),if_neg (by rw[Vo.2 h.hw];simp),if_neg (by simpa using h.f)]
theorem W3{T:List (List Int)}{H:List Int}{f:Int}(h:B9 T H f=0):Fine T H f:=by
 unfold B9 at h
 split at h;· simp at h
 split at h;· simp at h
 split at h;· simp at h
 split at h;· simp at h
 split at h;· simp at h
 split at h;· simp at h
 rename_i h1 h2 h3 h4 h5 h6
 simp only[Decidable.not_not,Bool.not_eq_true,Bool.not_eq_false,List.all_eq_true (l:=T)]at *
 refine⟨h1,by omega,fun x hx=>?_,fun x hx=>Vo.1 (h4 x hx),Vo.1 h5,h6⟩
 have:=h3 x hx
 simp only[okL,decide_eq_true_eq]at this;omega
theorem Ss(N:Nat){T:List (List Int)}(H:List Int)(f n:Int)(hT:T.length≤1000000):Sf N T H f n=some (decide (0≤n∧n<T.length)):=by
 unfold Sf
 rw[A5 (by omega),in_v]
 simp only[Option.bind_some,Option.some.injEq]
 congr 1
 apply propext;omega
def Ao(T:List (List Int))(H:List Int)(f a b:Int):Int:=if B9 T H f≠0 then B9 T H f else if ¬(0≤a∧a<T.length)∨¬(0≤b∧b<T.length)then 1 else 0
theorem Bu{N:Nat}(hN:20≤N){T:List (List Int)}{H:List Int}{f a b:Int}(h:Ao T H f a b≠0):B5 N T H f a b=some (.inr (Ao T H f a b)):=by
 unfold Ao at h ⊢
 unfold B5
 rw[C8 hN]
 simp only[Option.bind_some]
 by_cases hc:B9 T H f=0
 ·have hF:=W3 hc
  rw[if_neg (by simpa using hc)]at h ⊢
  have hT:=hF.n
  simp only[hc,decide_true,Bool.not_true,A6]
  rw[Ss N H f a (by omega),Ss N H f b (by omega)]
  simp only[Option.bind_some]
  by_cases ha:0≤a∧a<T.length
  ·by_cases hb:0≤b∧b<T.length
   ·exact absurd rfl (by rw[if_neg (by simp;omega)]at h;exact h)
   ·rw[if_pos (.inr hb)];simp[ha,hb,br]
  ·rw[if_pos (.inl ha)];simp[ha,br]
 ·rw[if_pos hc];simp[hc,br]
theorem Ap{N:Nat}(hN:20≤N){T:List (List Int)}{H:List Int}{f a b:Int}(h:Ao T H f a b=0):Fine T H f∧(0≤a∧a<T.length)∧(0≤b∧b<T.length)∧B5 N T H f a b=some (.inl ((T,H,f,T.getD a.toNat [],T.getD b.toNat []),0)):=by
 unfold Ao at h
 unfold B5
 rw[C8 hN]
 simp only[Option.bind_some]
 by_cases hc:B9 T H f=0
 ·have hF:=W3 hc
  rw[if_neg (by simpa using hc)]at h
  have hT:=hF.n
  by_cases ha:0≤a∧a<T.length
  ·by_cases hb:0≤b∧b<T.length
   ·refine⟨hF,ha,hb,?_⟩
    simp only[hc,decide_true,Bool.not_true,A6]
    rw[Ss N H f a (by omega),Ss N H f b (by omega)]
    simp only[Option.bind_some,ha,hb,and_self,decide_true,Bool.not_true,A6]
    rw[Ab [] ha.1 ha.2,Ab [] hb.1 hb.2]
   ·rw[if_pos (.inr hb)]at h;simp at h
  ·rw[if_pos (.inl ha)]at h;simp at h
 ·rw[if_pos hc]at h;exact absurd h hc
theorem Fine.open{T:List (List Int)}{H:List Int}{f a b:Int}(h:Fine T H f)(ha:0≤a∧a<T.length)(hb:0≤b∧b<T.length):Ao T H f a b=0:=by
 unfold Ao
 rw[if_neg (by simpa using h.check),if_neg (by simp only[not_or,Decidable.not_not];exact⟨ha,hb⟩)]
end Go.Proofs.YtfcnhnbnjdccfaaGreat

namespace Go.Proofs.YtfcnhnbnjdccfaaGreat
set_option linter.all false
open Go
def lc:List Int→List Int→Nat
 | [],_=>0
 | _::_,[]=>0
 | x::xs,y::ys=>if x=y then max (max (lc xs (y::ys)) (lc (x::xs) ys)) (lc xs ys+1)else max (lc xs (y::ys)) (lc (x::xs) ys)
termination_by a b=>a.length+b.length
def cw:List Int→List Int→List Int
 | x::xs,y::ys=>if x=y then x::cw xs ys else if lc xs (y::ys)≥lc (x::xs) ys then cw xs (y::ys)else cw (x::xs) ys
 | _,_=>[]
termination_by a b=>a.length+b.length

theorem O1(a:List Int):lc a []=0:=by cases a<;>simp[lc]
theorem C2(a b:List Int):lc a b≤a.length:=by
 induction a,b using lc.induct with
 | case1=>simp[lc]
 | case2=>simp[lc]
 | case3 xs y ys i1 i2 i3=>rw[lc,if_pos rfl];simp only[List.length_cons]at *;omega
 | case4 x xs y ys h i1 i2=>rw[lc,if_neg h];simp only[List.length_cons]at *;omega
theorem drop_cons{a:List Int}{i:Nat}(h:i<a.length):a.drop i=a.getD i 0::a.drop (i+1):=by
 rw[List.drop_eq_getElem_cons h];simp[List.getD,h]
theorem Apz{a b:List Int}{i k:Nat}(hi:i<a.length)(hk:k<b.length)(h:a.getD i 0=b.getD k 0) :
  lc (a.drop i) (b.drop k)=max (max (lc (a.drop (i+1)) (b.drop k)) (lc (a.drop i) (b.drop (k+1)))) (lc (a.drop (i+1)) (b.drop (k+1))+1):=by
 conv=>lhs;rw[drop_cons hi,drop_cons hk,lc]
 rw[if_pos h,←drop_cons hi,←drop_cons hk]
theorem Apw{a b:List Int}{i k:Nat}(hi:i<a.length)(hk:k<b.length)(h:¬a.getD i 0=b.getD k 0) :
  lc (a.drop i) (b.drop k)=max (lc (a.drop (i+1)) (b.drop k)) (lc (a.drop i) (b.drop (k+1))):=by
 conv=>lhs;rw[drop_cons hi,drop_cons hk,lc]
 rw[if_neg h,←drop_cons hi,←drop_cons hk]
theorem Aq0{a b:List Int}{i k:Nat}(hi:i<a.length)(hk:k<b.length)(h:a.getD i 0=b.getD k 0):cw (a.drop i) (b.drop k)=a.getD i 0::cw (a.drop (i+1)) (b.drop (k+1)):=by
 conv=>lhs;rw[drop_cons hi,drop_cons hk,cw]
 rw[if_pos h]
theorem Amk{a b:List Int}{i k:Nat}(hi:i<a.length)(hk:k<b.length)(h:¬a.getD i 0=b.getD k 0)(hg:lc (a.drop (i+1)) (b.drop k)≥lc (a.drop i) (b.drop (k+1))):cw (a.drop i) (b.drop k)=cw (a.drop (i+1)) (b.drop k):=by
 conv=>lhs;rw[drop_cons hi,drop_cons hk,cw]
 rw[if_neg h,←drop_cons hi,←drop_cons hk,if_pos hg]
theorem Aix{a b:List Int}{i k:Nat}(hi:i<a.length)(hk:k<b.length)(h:¬a.getD i 0=b.getD k 0)(hg:¬lc (a.drop (i+1)) (b.drop k)≥lc (a.drop i) (b.drop (k+1))):cw (a.drop i) (b.drop k)=cw (a.drop i) (b.drop (k+1)):=by
 conv=>lhs;rw[drop_cons hi,drop_cons hk,cw]
 rw[if_neg h,←drop_cons hi,←drop_cons hk,if_neg hg]
theorem Ajs{a b:List Int}{i k:Nat}(h:¬(i<a.length∧k<b.length)):cw (a.drop i) (b.drop k)=[]:=by
 by_cases hi:i<a.length
 ·have:b.drop k=[]:=List.drop_of_length_le (by omega)
  rw[this];cases a.drop i<;>simp[cw]
 ·have:a.drop i=[]:=List.drop_of_length_le (by omega)
  rw[this];simp[cw]
def B3(a b:List Int)(l:List Int)(i k:Int):Prop:=
 l.length=49∧a.length≤6∧b.length≤6∧∀i' k':Nat,i'≤a.length→k'≤b.length→(i'=a.length∨k'=b.length∨i<i'∨(i=i'∧k<k'))→l[i'*7+k']?=some ((lc (a.drop i') (b.drop k'):Nat):Int)
theorem B3.start(a b:List Int)(ha:a.length≤6)(hb:b.length≤6):B3 a b (List.replicate 49 (0:Int)) ((a.length:Int)-1) b.length:=by
 refine⟨by simp,ha,hb,fun i' k' hi hk h=>?_⟩
 have:lc (a.drop i') (b.drop k')=0:=by
  rcases h with h | h | h | h
  ·rw[h,List.drop_length];simp[lc]
  ·rw[h,List.drop_length,O1]
  ·have:i'=a.length:=by omega
   rw[this,List.drop_length];simp[lc]
  ·omega
 rw[this,List.getElem?_replicate,if_pos (by omega)];rfl
theorem B3.row{a b:List Int}{l:List Int}{i:Int}(h:B3 a b l i b.length):B3 a b l i ((b.length:Int)-1):=
 ⟨h.1,h.2.1,h.2.2.1,fun i' k' hi hk hh=>h.2.2.2 i' k' hi hk (by omega)⟩
theorem B3.next{a b:List Int}{l:List Int}{i:Int}(h:B3 a b l i (-1)):B3 a b l (i-1) b.length:=
 ⟨h.1,h.2.1,h.2.2.1,fun i' k' hi hk hh=>h.2.2.2 i' k' hi hk (by omega)⟩
theorem B3.get{a b:List Int}{l:List Int}{i k:Int}(h:B3 a b l i k)(i' k':Nat)(hi:i'≤a.length)(hk:k'≤b.length)(hh:i'=a.length∨k'=b.length∨i<i'∨(i=i'∧k<k')) :
  l[i'*7+k']?=some ((lc (a.drop i') (b.drop k'):Nat):Int):=h.2.2.2 i' k' hi hk hh
theorem B3.lt{a b:List Int}{l:List Int}{i k:Int}(h:B3 a b l i k)(i' k':Nat)(hi:i'≤a.length)(hk:k'≤b.length):i'*7+k'<l.length:=by
 have:=h.1;have:=h.2.1;have:=h.2.2.1;omega
theorem B3.set{a b:List Int}{l:List Int}{i k:Int}(h:B3 a b l i k)(h0:0≤i)(h1:i<a.length)(h2:0≤k)(h3:k<b.length)(v:Int):B3 a b (l.set (i.toNat*7+k.toNat) v) i k:=by
 refine⟨by simp[h.1],h.2.1,h.2.2.1,fun i' k' hi hk hh=>?_⟩
 have hla:=h.2.1;have hlb:=h.2.2.1
 rw[List.getElem?_set_ne (by omega)]
 exact h.get i' k' hi hk hh
theorem B3.step{a b:List Int}{l:List Int}{i k:Int}(h:B3 a b l i k)(h0:0≤i)(h1:i<a.length)(h2:0≤k)(h3:k<b.length)(hv:l[i.toNat*7+k.toNat]?=some ((lc (a.drop i.toNat) (b.drop k.toNat):Nat):Int)):B3 a b l i (k-1):=by
 refine⟨h.1,h.2.1,h.2.2.1,fun i' k' hi hk hh=>?_⟩
 by_cases e:i'=i.toNat∧k'=k.toNat
 ·obtain⟨rfl,rfl⟩:=e;exact hv
 ·exact h.get i' k' hi hk (by omega)
theorem B3.self{a b:List Int}{l:List Int}{i k:Int}(h:B3 a b l i k)(h0:0≤i)(h1:i<a.length)(h2:0≤k)(h3:k<b.length)(v:Int):(l.set (i.toNat*7+k.toNat) v)[i.toNat*7+k.toNat]?=some v:=by
 rw[List.getElem?_set_self (h.lt _ _ (by omega) (by omega))]
def Aq(a b:List Int):Int:=(a.length:Int)+b.length-2*(cw a b).length
def Ay(p:Nat→Nat→Bool)(a s b:Nat):List (Int×Int):=((List.range' s (b-s)).filter (p a)).map (fun(x:Nat)=>((a:Int),(x:Int)))
def Ai(p:Nat→Nat→Bool)(n d a:Nat):List (Int×Int):=(List.range a).flatMap fun x=>Ay p x (x+d) n
theorem Ef(p:Nat→Nat→Bool)(a s:Nat):Ay p a s s=[]:=by simp[Ay]
theorem Gf{p:Nat→Nat→Bool}{a s b:Nat}(h:s≤b)(hp:p a b=true):Ay p a s (b+1)=Ay p a s b++[((a:Int),(b:Int))]:=by
 unfold Ay
 rw[show b+1-s=(b-s)+1 by omega,List.range'_concat]
 simp[List.filter_append,show s+(b-s)=b by omega,hp]
theorem Ps{p:Nat→Nat→Bool}{a s b:Nat}(h:s≤b)(hp:p a b=false):Ay p a s (b+1)=Ay p a s b:=by
 unfold Ay
 rw[show b+1-s=(b-s)+1 by omega,List.range'_concat]
 simp[List.filter_append,show s+(b-s)=b by omega,hp]
theorem Cx(p:Nat→Nat→Bool)(n d a:Nat):Ai p n d (a+1)=Ai p n d a++Ay p a (a+d) n:=by
 simp[Ai,List.range_succ]
theorem D4(p:Nat→Nat→Bool)(n d a:Nat):(Ai p n d a).length≤a*n:=by
 induction a with
 | zero=>simp[Ai]
 | succ a ih=>
  rw[Cx,List.length_append,Nat.succ_mul]
  have:(Ay p a (a+d) n).length≤n:=by
   unfold Ay
   rw[List.length_map]
   have:=List.length_filter_le (p a) (List.range' (a+d) (n-(a+d)))
   simp at this;omega
  omega
theorem Md(p:Nat→Nat→Bool)(a s b:Nat):(Ay p a s b).length≤b:=by
 unfold Ay
 rw[List.length_map]
 have:=List.length_filter_le (p a) (List.range' s (b-s))
 simp at this;omega

theorem Abf(a b:List Int):∃c:List Int,c.Sublist a∧c.Sublist b∧c.length=lc a b:=by
 induction a,b using lc.induct with
 | case1 b=>exact⟨[],List.nil_sublist _,List.nil_sublist _,by simp[lc]⟩
 | case2 x xs=>exact⟨[],List.nil_sublist _,List.nil_sublist _,by simp[lc]⟩
 | case3 xs x ys i1 i2 i3=>
  obtain⟨c1,a1,b1,l1⟩:=i1
  obtain⟨c2,a2,b2,l2⟩:=i2
  obtain⟨c3,a3,b3,l3⟩:=i3
  rw[lc,if_pos rfl]
  rcases Nat.le_total (lc xs (x::ys)) (lc (x::xs) ys)with h | h
  ·rcases Nat.le_total (lc (x::xs) ys) (lc xs ys+1)with h2 | h2
   ·exact⟨x::c3,a3.cons_cons x,b3.cons_cons x,by simp;omega⟩
   ·exact⟨c2,a2,b2.cons x,by omega⟩
  ·rcases Nat.le_total (lc xs (x::ys)) (lc xs ys+1)with h2 | h2
   ·exact⟨x::c3,a3.cons_cons x,b3.cons_cons x,by simp;omega⟩
   ·exact⟨c1,a1.cons x,b1,by omega⟩
 | case4 x xs y ys hne i1 i2=>
  obtain⟨c1,a1,b1,l1⟩:=i1
  obtain⟨c2,a2,b2,l2⟩:=i2
  rw[lc,if_neg hne]
  rcases Nat.le_total (lc xs (y::ys)) (lc (x::xs) ys)with h | h
  ·exact⟨c2,a2,b2.cons y,by omega⟩
  ·exact⟨c1,a1.cons x,b1,by omega⟩
theorem Np(a b:List Int):∀c:List Int,c.Sublist a→c.Sublist b→c.length≤lc a b:=by
 induction a,b using lc.induct with
 | case1 b=>intro c h _;have:=h.length_le;simp at this;simp[this]
 | case2 x xs=>intro c _ h;have:=h.length_le;simp at this;simp[this]
 | case3 xs x ys i1 i2 i3=>
  intro c h1 h2
  rw[lc,if_pos rfl]
  cases h1 with
  | cons _ h1=>have:=i1 c h1 h2;omega
  | cons_cons _ h1=>
   rename_i c'
   cases h2 with
   | cons _ h2=>have:=i2 _ (h1.cons_cons x) h2;omega
   | cons_cons _ h2=>have:=i3 c' h1 h2;simp;omega
 | case4 x xs y ys hne i1 i2=>
  intro c h1 h2
  rw[lc,if_neg hne]
  cases h1 with
  | cons _ h1=>have:=i1 c h1 h2;omega
  | cons_cons _ h1=>
   cases h2 with
   | cons _ h2=>have:=i2 _ (h1.cons_cons x) h2;omega
   | cons_cons _ h2=>exact absurd rfl hne
theorem Od(a b:List Int):lc a b=lc b a:=by
 obtain⟨c,h1,h2,h3⟩:=Abf a b
 obtain⟨d,g1,g2,g3⟩:=Abf b a
 have:=Np b a c h2 h1
 have:=Np a b d g2 g1
 omega
theorem Vp(xs ys:List Int)(y:Int):lc xs (y::ys)≤lc xs ys+1:=by
 obtain⟨c,h1,h2,h3⟩:=Abf xs (y::ys)
 cases h2 with
 | cons _ h2=>have:=Np xs ys c h1 h2;omega
 | cons_cons _ h2=>
  rename_i c'
  have:=Np xs ys c' ((List.sublist_cons_self y c').trans h1) h2
  simp at h3;omega
theorem Mj(a b:List Int):(cw a b).Sublist a∧(cw a b).Sublist b∧(cw a b).length=lc a b:=by
 induction a,b using cw.induct with
 | case1 xs y ys ih=>
  obtain⟨h1,h2,h3⟩:=ih
  rw[cw,if_pos rfl,lc,if_pos rfl]
  refine⟨h1.cons_cons y,h2.cons_cons y,?_⟩
  have e1:=Vp xs ys y
  have e2:=Vp ys xs y
  rw[Od ys (y::xs),Od ys xs]at e2
  simp;omega
 | case2 x xs y ys h hg ih=>
  obtain⟨h1,h2,h3⟩:=ih
  rw[cw,if_neg h,if_pos hg,lc,if_neg h]
  exact⟨h1.cons x,h2,by omega⟩
 | case3 x xs y ys h hg ih=>
  obtain⟨h1,h2,h3⟩:=ih
  rw[cw,if_neg h,if_neg hg,lc,if_neg h]
  exact⟨h1,h2.cons y,by omega⟩
 | case4 a b h=>
  have e:cw a b=[]:=by rw[cw];exact h
  rw[e]
  refine⟨List.nil_sublist _,List.nil_sublist _,?_⟩
  match a,b,h with
  | [],b,_=>simp[lc]
  | x::xs,[],_=>simp[lc]
  | x::xs,y::ys,h=>exact absurd rfl (h x xs y ys rfl)
theorem Di(a b:List Int):Aq a b=(a.length:Int)+b.length-2*lc a b:=by unfold Aq;rw[(Mj a b).2.2]
theorem A6z(a b:List Int):lc a b≤b.length:=by rw[Od];exact C2 b a
theorem Jw(a b:List Int):0≤Aq a b:=by
 rw[Di]
 have:=C2 a b
 have:=A6z a b
 omega
end Go.Proofs.YtfcnhnbnjdccfaaGreat

namespace Go.Proofs.YtfcnhnbnjdccfaaGreat
set_option linter.all false
open Go

theorem Aa{α:Type}{l:List α}{i:Nat}{d:α}(h:i<l.length):l.getD i d∈l:=by
 simp[List.getD,h]
theorem Akn{N:Nat}(hN:2≤N)(x y:Int):Ym N x [y]=some (max x y):=by
 obtain⟨n,rfl⟩:∃n,N=n+2:=⟨N-2,by omega⟩
 simp[Ym,most_l1,br,idx,chk,okI]
theorem V2{N:Nat}(hN:20≤N){a b:List Int}(ha:a.length≤6)(hb:b.length≤6){i:Int}(h0:0≤i)(h1:i<a.length):∀(n:Nat) (k:Int) (g:List Int),(k+1).toNat<n→-1≤k→k<b.length→B3 a b g i k →
  Ok (common_l2 N n a b i k g) fun r=>r.1=a∧r.2.1=b∧r.2.2.1=i∧B3 a b r.2.2.2 i (-1)
 | 0,k,g,h,_,_,_=>by omega
 | n+1,k,g,h,hk0,hk1,hG=>by
  unfold common_l2
  refine Ok.brd (fun hk=>?_) (fun hk=>Ok.some ⟨rfl,rfl,rfl,?_⟩)
  rotate_left
  ·have:k=-1:=by omega
   subst this;exact hG
  refine Ok.chk (by omega) (Ok.rng (by omega) (Ok.rng (by omega) ?_))
  rw[get_eq (hG.get (i+1).toNat k.toNat (by omega) (by omega) (by omega))]
  refine Ok.chk (by omega) (Ok.rng (by omega) (Ok.rng (by omega) ?_))
  rw[get_eq (hG.get i.toNat (k+1).toNat (by omega) (by omega) (by omega)),Akn (by omega)]
  refine Ok.rng (by omega) (Ok.rng (by omega) (Ok.get (hG.lt _ _ (by omega) (by omega)) (fun _ _ _=>?_)))
  rw[Ab 0 h0 h1,Ab 0 hk hk1]
  have e1:(i+1).toNat=i.toNat+1:=by omega
  have e2:(k+1).toNat=k.toNat+1:=by omega
  have hi':i.toNat<a.length:=by omega
  have hk':k.toNat<b.length:=by omega
  rw[e1,e2]
  have rc:∀(g':List Int),B3 a b g' i (k-1)→Ok (Ix N (common_l2 N n) a b i k g') fun r=>r.1=a∧r.2.1=b∧r.2.2.1=i∧B3 a b r.2.2.2 i (-1):=fun g' hg'=>by
   unfold Ix
   exact Ok.chk (by omega) (V2 hN ha hb h0 h1 n (k-1) g' (by omega) (by omega) (by omega) hg')
  refine Ok.brd (fun he=>?_) (fun he=>?_)
  ·refine Ok.rng (by omega) (Ok.rng (by omega) ?_)
   rw[get_eq (hG.self h0 h1 hk hk1 _)]
   refine Ok.chk (by omega) (Ok.chk (by omega) (Ok.rng (by omega) (Ok.rng (by omega) ?_)))
   have hG2:=hG.set h0 h1 hk hk1 (max ((lc (a.drop (i.toNat+1)) (b.drop k.toNat):Nat):Int) ((lc (a.drop i.toNat) (b.drop (k.toNat+1)):Nat):Int))
   have:=C2 (a.drop (i.toNat+1)) (b.drop (k.toNat+1))
   rw[List.length_drop]at this
   rw[get_eq (hG2.get (i.toNat+1) (k.toNat+1) (by omega) (by omega) (by omega))]
   refine Ok.chk (by omega) ?_
   rw[Akn (by omega)]
   refine Ok.rng (by omega) (Ok.rng (by omega) (Ok.get (hG2.lt _ _ (by omega) (by omega)) (fun _ _ _=>rc _ ?_)))
   refine(hG2.set h0 h1 hk hk1 _).step h0 h1 hk hk1 ?_
   rw[hG2.self h0 h1 hk hk1,Apz hi' hk' he]
   simp only[Option.some.injEq];omega
  ·refine rc _ ((hG.set h0 h1 hk hk1 _).step h0 h1 hk hk1 ?_)
   rw[hG.self h0 h1 hk hk1,Apw hi' hk' he]
   simp only[Option.some.injEq];omega
theorem U1{N:Nat}(hN:20≤N){a b:List Int}(ha:a.length≤6)(hb:b.length≤6):∀(n:Nat) (i:Int) (g:List Int),(i+1).toNat<n→-1≤i→i<a.length→B3 a b g i b.length →
  Ok (common_l1 N n a b i g) fun r=>r.1=a∧r.2.1=b∧B3 a b r.2.2 (-1) b.length
 | 0,i,g,h,_,_,_=>by omega
 | n+1,i,g,h,h0,h1,hG=>by
  unfold common_l1
  refine Ok.brd (fun hi=>?_) (fun hi=>Ok.some ⟨rfl,rfl,?_⟩)
  rotate_left
  ·have:i=-1:=by omega
   subst this;exact hG
  refine Ok.chk (by omega) (Ok.bind (V2 hN ha hb hi h1 N _ g (by omega) (by omega) (by omega) hG.row) (fun r hr=>?_))
  obtain⟨a',b',i',g'⟩:=r
  dsimp only at hr
  obtain⟨rfl,rfl,rfl,hg⟩:=hr
  exact Ok.chk (by omega) (U1 hN ha hb n (i'-1) g' (by omega) (by omega) (by omega) hg.next)
theorem Hf{N:Nat}{a b:List Int}{g:List Int}(hG:B3 a b g (-1) b.length):∀(n:Nat) (i k:Int) (out:List Int),(a.length+b.length-i-k).toNat<n→0≤i→i≤a.length→0≤k→k≤b.length→out.length≤i →
  common_l3 N n a b i k g out=some (out++cw (a.drop i.toNat) (b.drop k.toNat))
 | 0,i,k,out,h,h0,h1,h2,h3,_=>by omega
 | n+1,i,k,out,h,h0,h1,h2,h3,ho=>by
  have ha:=hG.2.1
  have hb:=hG.2.2.1
  unfold common_l3
  by_cases hi:i<a.length
  ·rw[A4 hi]
   by_cases hk:k<b.length
   ·have hi':i.toNat<a.length:=by omega
    have hk':k.toNat<b.length:=by omega
    have e1:(i+1).toNat=i.toNat+1:=by omega
    have e2:(k+1).toNat=k.toNat+1:=by omega
    rw[A4 hk,Ab 0 h0 hi,Ab 0 h2 hk]
    by_cases he:a.getD i.toNat 0=b.getD k.toNat 0
    ·rw[A4 he,Ab 0 h0 hi,Bd (by simp;omega),A5 (by omega),A5 (by omega),Hf hG n _ _ _ (by omega) (by omega) (by omega) (by omega) (by omega) (by simp;omega),Aq0 hi' hk' he,e1,e2]
     simp
    ·rw[A3 he,A5 (by omega),Au (by omega),Au (by omega),get_eq (hG.get (i+1).toNat k.toNat (by omega) (by omega) (by omega)),A5 (by omega),Au (by omega),Au (by omega),get_eq (hG.get i.toNat (k+1).toNat (by omega) (by omega) (by omega)),e1,e2]
     by_cases hg:lc (a.drop (i.toNat+1)) (b.drop k.toNat)≥lc (a.drop i.toNat) (b.drop (k.toNat+1))
     ·rw[A4 (by omega),A5 (by omega),Hf hG n _ _ _ (by omega) (by omega) (by omega) (by omega) (by omega) (by omega),Amk hi' hk' he hg,e1]
     ·rw[A3 (by omega),A5 (by omega),Hf hG n _ _ _ (by omega) (by omega) (by omega) (by omega) (by omega) (by omega),Aix hi' hk' he hg,e2]
   ·rw[A3 hk,Ajs (by omega)];simp
  ·rw[A3 hi,Ajs (by omega)];simp
theorem R4{N:Nat}(hN:20≤N){a b:List Int}(ha:a.length≤6)(hb:b.length≤6):Gr N a b=some (cw a b):=by
 unfold Gr
 rw[A5 (by omega)]
 obtain⟨r,h1,h2⟩:=U1 hN ha hb N ((a.length:Int)-1) _ (by omega) (by omega) (by omega) (B3.start a b ha hb)
 rw[h1]
 obtain⟨a',b',g⟩:=r
 obtain⟨rfl,rfl,hg⟩:=h2
 simp only[Option.bind_some]
 rw[Hf hg N 0 0 [] (by omega) (by omega) (by omega) (by omega) (by omega) (by simp)]
 simp
theorem Aow{N:Nat}(hN:20≤N){T:List (List Int)}{H:List Int}{f a b:Int}(h:Fine T H f)(ha:0≤a∧a<T.length)(hb:0≤b∧b<T.length):dist_S N T H f a b=some (Aq (T.getD a.toNat []) (T.getD b.toNat []),0):=by
 unfold dist_S
 obtain⟨_,_,_,e⟩:=Ap hN (h.open ha hb)
 rw[e]
 have la:=h.l (T.getD a.toNat []) (Aa (by omega))
 have lb:=h.l (T.getD b.toNat []) (Aa (by omega))
 simp only[Option.bind_some]
 have:=C2 (T.getD a.toNat []) (T.getD b.toNat [])
 have hc:=(Mj (T.getD a.toNat []) (T.getD b.toNat [])).2.2
 simp only[decide_true,Bool.not_true,A6]
 rw[A5 (by omega),R4 hN la.2 lb.2]
 simp only[Option.bind_some]
 rw[A5 (by omega),A5 (by omega)]
 rfl
theorem Ajy{N:Nat}(hN:20≤N){T:List (List Int)}{H:List Int}{f a b:Int}(h:Ao T H f a b≠0):dist_S N T H f a b=some (0,Ao T H f a b):=by
 unfold dist_S
 rw[Bu hN h]
 simp[h,br]
end Go.Proofs.YtfcnhnbnjdccfaaGreat

namespace Go.Proofs.YtfcnhnbnjdccfaaGreat
set_option linter.all false
open Go

def wT(side w:Int):Int:=if 0≤w∧side≠3 then w+1 else w
theorem Apc{side w n:Int}(h:-1≤w∧w≤n):-1≤wT side w∧wT side w≤n+1:=by unfold wT;split<;>omega
def stepT(may:Nat→Int×Int→Bool)(h:Nat)(t:At3→Int×Int)(best:Int×Int)(m:Mv):Int×Int:=
 if may h m.1=true then(if best.1<wT m.1.1 (t m.2).1 then(wT m.1.1 (t m.2).1,(t m.2).2)else if wT m.1.1 (t m.2).1=best.1 then(best.1,best.2+(t m.2).2)else best)else best
def tvx(may:Nat→Int×Int→Bool)(H A B:List Int):Nat→At3→Int×Int
 | 0,_=>(0,1)
 | n+1,x=>(Ac A B (H.getD x.1 0) x).foldl (stepT may x.1 (tvx may H A B n)) (-1,0)
def tv(may:Nat→Int×Int→Bool)(H A B:List Int)(x:At3):Int×Int:=tvx may H A B (H.length-x.1) x
theorem Ud(l:List Int)(w:Int)(k:Nat):(Ak l w k).length≤l.length:=by
 unfold Ak
 have:=List.length_filter_le (fun j=>l.getD j 0==w) (List.range' k (l.length-k))
 rw[List.length_range']at this
 omega
theorem Gt(A B:List Int)(w:Int)(x:At3):(Ac A B w x).length≤1+A.length+B.length:=by
 simp only[Ac,List.length_cons,List.length_append,List.length_map]
 have:=Ud A w x.2.1
 have:=Ud B w x.2.2
 omega
theorem Dv{A B:List Int}{w:Int}{x:At3}(ha:x.2.1≤A.length)(hb:x.2.2≤B.length){m:Mv}(h:m∈Ac A B w x):m.2.1=x.1+1∧m.2.2.1≤A.length∧m.2.2.2≤B.length:=by
 simp only[Ac,List.mem_cons,List.mem_append,List.mem_map]at h
 rcases h with rfl | ⟨j,hj,rfl⟩ | ⟨j,hj,rfl⟩
 ·exact⟨rfl,ha,hb⟩
 ·have:=Am.1 hj;exact⟨rfl,by dsimp only;omega,hb⟩
 ·have:=Am.1 hj;exact⟨rfl,ha,by dsimp only;omega⟩
def Adk(n:Nat)(v:Int×Int):Prop:=-1≤v.1∧v.1≤n∧0≤v.2∧v.2≤((13 ^ n:Nat):Int)
def Bst(n c:Nat)(v:Int×Int):Prop:=-1≤v.1∧v.1≤((n+1:Nat):Int)∧0≤v.2∧v.2≤((c*13 ^ n:Nat):Int)
theorem Ih{may:Nat→Int×Int→Bool}{h n c:Nat}{t:At3→Int×Int}{m:Mv}{best:Int×Int}(ht:Adk n (t m.2))(hb:Bst n c best):Bst n (c+1) (stepT may h t best m):=by
 obtain⟨h1,h2,h3,h4⟩:=ht
 obtain⟨b1,b2,b3,b4⟩:=hb
 have e:(((c+1)*13 ^ n:Nat):Int)=((c*13 ^ n:Nat):Int)+((13 ^ n:Nat):Int):=by rw[Nat.succ_mul];simp
 have p1:(0:Int)≤((c*13 ^ n:Nat):Int):=Int.natCast_nonneg _
 unfold Bst
 rw[e]
 have hw:=Apc (side:=m.1.1) ⟨h1,h2⟩
 unfold stepT
 generalize ((c*13 ^ n:Nat):Int)=P at *
 generalize ((13 ^ n:Nat):Int)=R at *
 generalize wT m.1.1 (t m.2).1=W at *
 by_cases c1:may h m.1=true
 ·rw[if_pos c1]
  by_cases c2:best.1<W
  ·rw[if_pos c2];exact⟨hw.1,by dsimp only;omega,h3,by dsimp only;omega⟩
  ·rw[if_neg c2]
   by_cases c3:W=best.1
   ·rw[if_pos c3];exact⟨b1,b2,by dsimp only;omega,by dsimp only;omega⟩
   ·rw[if_neg c3];exact⟨b1,b2,b3,by omega⟩
 ·rw[if_neg c1];exact⟨b1,b2,b3,by omega⟩
theorem A61{may:Nat→Int×Int→Bool}{h n:Nat}{t:At3→Int×Int}(ht:∀y,Adk n (t y)):∀(ms:List Mv) (c:Nat) (best:Int×Int),Bst n c best→Bst n (c+ms.length) (ms.foldl (stepT may h t) best)
 | [],c,best,hb=>hb
 | m::ms,c,best,hb=>by
  have:=A61 (may:=may) (h:=h) ht ms (c+1) _ (Ih (may:=may) (h:=h) (m:=m) (ht m.2) hb)
  rw[List.length_cons,show c+(ms.length+1)=c+1+ms.length by omega]
  exact this
theorem Jv(may:Nat→Int×Int→Bool){H A B:List Int}(hA:A.length≤6)(hB:B.length≤6):∀(n:Nat) (x:At3),Adk n (tvx may H A B n x)
 | 0,x=>by simp[tvx,Adk]
 | n+1,x=>by
  have:=A61 (may:=may) (h:=x.1) (t:=tvx may H A B n) (Jv may hA hB n) (Ac A B (H.getD x.1 0) x) 0 (-1,0) (by refine⟨?_,?_,?_,?_⟩<;>simp;omega)
  simp only[Nat.zero_add]at this
  obtain⟨h1,h2,h3,h4⟩:=this
  refine⟨h1,h2,h3,Int.le_trans h4 ?_⟩
  have:=Gt A B (H.getD x.1 0) x
  have h5:(Ac A B (H.getD x.1 0) x).length*13 ^ n≤13*13 ^ n:=Nat.mul_le_mul_right _ (by omega)
  rw[Nat.pow_succ,Nat.mul_comm (13 ^ n) 13]
  exact Int.ofNat_le.2 h5
theorem Akq{n:Nat}(h:n≤10):13 ^ n≤137858491849:=Nat.le_trans (Nat.pow_le_pow_right (by decide) h) (by decide)

abbrev Memo:=List ((Int×(Int×Int))×(Int×Int))
abbrev Desk:=(List (List Int))×((List Int)×(Int×((List Int)×(List Int))))
def Cd(may:Nat→Int×Int→Bool)(H A B:List Int)(m:Memo):Prop:=∀e∈m,∃x:At3,e=((((x.1:Nat):Int),((x.2.1:Nat):Int),((x.2.2:Nat):Int)),tv may H A B x)
theorem Cd.nil(may:Nat→Int×Int→Bool)(H A B:List Int):Cd may H A B []:=fun _ h=>by cases h
theorem Cd.cons{may:Nat→Int×Int→Bool}{H A B:List Int}{m:Memo}(h:Cd may H A B m)(x:At3):Cd may H A B (((((x.1:Nat):Int),((x.2.1:Nat):Int),((x.2.2:Nat):Int)),tv may H A B x)::m):=fun e he=>by
 rcases List.mem_cons.1 he with rfl | he
 ·exact⟨x,rfl⟩
 ·exact h e he
theorem Cd.find{may:Nat→Int×Int→Bool}{H A B:List Int}{m:Memo}(h:Cd may H A B m)(x:At3){e:(Int×(Int×Int))×(Int×Int)}(he:m.find? (fun y=>Ty.beq (.pair (.int .i64) (.pair (.int .i64) (.int .i64))) y.1 (((x.1:Nat):Int),((x.2.1:Nat):Int),((x.2.2:Nat):Int)))=some e):e.2=tv may H A B x:=by
 obtain⟨y,rfl⟩:=h e (List.mem_of_find?_eq_some he)
 have:=List.find?_some he
 have:=(Cn (y:=.pair (.int .i64) (.pair (.int .i64) (.int .i64))) rfl).1 this
 simp only[Prod.mk.injEq]at this
 have e:y=x:=by
  obtain⟨a,b,c⟩:=x
  obtain⟨a',b',c'⟩:=y
  dsimp only at this
  simp only[Prod.mk.injEq];omega
 rw[e]
end Go.Proofs.YtfcnhnbnjdccfaaGreat

namespace Go.Proofs.YtfcnhnbnjdccfaaGreat
set_option linter.all false
open Go

def mayA:Nat→Int×Int→Bool:=fun _ _=>true
section
variable {N:Nat} {T:List (List Int)} {H A B:List Int} {f:Int}
theorem Zq{self:Int→Int→Int→Desk→Desk→Memo→Option (Int×Int×Desk×Memo)}{h n:Nat}(hH:n≤9)(hA:A.length≤6)(hB:B.length≤6){u:Int×Int×Int}{u2:Desk}{x x2 x3 g3 g4:Int}
  (hself:∀(y:At3) (m:Memo),y.1=h+1→y.2.1≤A.length→y.2.2≤B.length→Cd mayA H A B m→∃m',self y.1 y.2.1 y.2.2 (T,H,f,A,B) (T,H,f,A,B) m=some ((tvx mayA H A B n y).1,(tvx mayA H A B n y).2,(T,H,f,A,B),m')∧Cd mayA H A B m') :
  ∀(ms:List Mv) (m:Memo) (c:Nat) (best:Int×Int),(∀mv∈ms,mv.2.1=h+1∧mv.2.2.1≤A.length∧mv.2.2.2≤B.length)→Cd mayA H A B m→Bst n c best→c+ms.length≤13 →
   ∃m',resta_l1 N self (ms.map movP) u u2 (T,H,f,A,B) m x x2 x3 g3 g4 best.1 best.2=some ((T,H,f,A,B),m',x,x2,x3,g3,g4,(ms.foldl (stepT mayA h (tvx mayA H A B n)) best).1,(ms.foldl (stepT mayA h (tvx mayA H A B n)) best).2)∧Cd mayA H A B m'
 | [],m,c,best,_,hm,_,_=>⟨m,rfl,hm⟩
 | mv::ms,m,c,best,hv,hm,hb,hc=>by
  obtain⟨hv1,hv2,hv3⟩:=hv mv (by simp)
  obtain⟨m1,he,hm1⟩:=hself mv.2 m hv1 hv2 hv3 hm
  have ht:=Jv mayA (H:=H) hA hB n mv.2
  have hb':=Ih (may:=mayA) (h:=h) (t:=tvx mayA H A B n) (m:=mv) ht hb
  obtain⟨m2,h2,hm2⟩:=Zq (u:=u) (u2:=u2) (x:=x) (x2:=x2) (x3:=x3) (g3:=g3) (g4:=g4) hH hA hB hself ms m1 (c+1) _ (fun v hv'=>hv v (by simp[hv'])) hm1 hb' (by simp only[List.length_cons]at hc;omega)
  refine⟨m2,?_,hm2⟩
  rw[List.map_cons,List.foldl_cons,←h2]
  have hp:=Akq (n:=n) (by omega)
  have hbb:(((c+1)*13 ^ n:Nat):Int)≤13*137858491849:=by
   have:(c+1)*13 ^ n≤13*137858491849:=Nat.mul_le_mul (by simp only[List.length_cons]at hc;omega) hp
   omega
  have hb2:best.2+(tvx mayA H A B n mv.2).2≤13*137858491849:=by
   have e:(((c+1)*13 ^ n:Nat):Int)=((c*13 ^ n:Nat):Int)+((13 ^ n:Nat):Int):=by rw[Nat.succ_mul];simp
   have:=hb.2.2.2
   have:=ht.2.2.2
   omega
  have h0:=hb.2.2.1
  have h1:=ht.2.2.1
  have hn1:=ht.1
  have hn2:=ht.2.1
  simp only[resta_l1,E0,movP,A3w,Option.bind_some,Bool.not_true,A6]
  rw[he]
  have hst:stepT mayA h (tvx mayA H A B n) best mv=(if best.1<wT mv.1.1 (tvx mayA H A B n mv.2).1 then(wT mv.1.1 (tvx mayA H A B n mv.2).1,(tvx mayA H A B n mv.2).2)else if wT mv.1.1 (tvx mayA H A B n mv.2).1=best.1 then(best.1,best.2+(tvx mayA H A B n mv.2).2)else best):=by
   unfold stepT;exact if_pos rfl
  rw[hst]
  simp only[Option.bind_some,wT]
  clear hst h2 he hb' hself
  generalize tvx mayA H A B n mv.2=t at *
  obtain⟨tw,ty⟩:=t
  obtain⟨bw,by_⟩:=best
  simp only at *
  by_cases c1:0≤tw
  ·rw[A4 c1]
   by_cases c2:mv.1.1=3
   ·refine(Bk c2).trans ?_
    have c2':¬(0≤tw∧mv.1.1≠3):=fun h=>h.2 c2
    rw[if_neg c2']
    by_cases c3:bw<tw
    ·rw[A4 c3,if_pos c3]
    ·rw[A3 c3,if_neg c3]
     by_cases c4:tw=bw
     ·rw[A4 c4,if_pos c4,A5 (by omega)]
     ·rw[A3 c4,if_neg c4]
   ·refine(Al c2).trans ?_
    have c2':0≤tw∧mv.1.1≠3:=⟨c1,c2⟩
    rw[A5 (by omega),if_pos c2']
    by_cases c3:bw<tw+1
    ·rw[A4 c3,if_pos c3]
    ·rw[A3 c3,if_neg c3]
     by_cases c4:tw+1=bw
     ·rw[A4 c4,if_pos c4,A5 (by omega)]
     ·rw[A3 c4,if_neg c4]
  ·have c2':¬(0≤tw∧mv.1.1≠3):=fun h=>c1 h.1
   rw[A3 c1,if_neg c2']
   by_cases c3:bw<tw
   ·rw[A4 c3,if_pos c3]
   ·rw[A3 c3,if_neg c3]
    by_cases c4:tw=bw
    ·rw[A4 c4,if_pos c4,A5 (by omega)]
    ·rw[A3 c4,if_neg c4]
theorem A18(hH:H.length≤10)(hA:A.length≤6)(hB:B.length≤6):∀(fu:Nat) (x:At3) (m:Memo),H.length<fu+x.1→x.1≤H.length→x.2.1≤A.length→x.2.2≤B.length→Cd mayA H A B m →
  ∃m',Dc N fu x.1 x.2.1 x.2.2 (T,H,f,A,B) (T,H,f,A,B) m=some ((tv mayA H A B x).1,(tv mayA H A B x).2,(T,H,f,A,B),m')∧Cd mayA H A B m'
 | 0,x,m,h,h1,_,_,_=>by omega
 | fu+1,x,m,h,hx,ha,hb,hm=>by
  show ∃m',resta_S N (Dc N fu) x.1 x.2.1 x.2.2 (T,H,f,A,B) (T,H,f,A,B) m=_∧_
  unfold resta_S
  by_cases c1:x.1=H.length
  ·rw[A4 (by dsimp only;omega)]
   refine⟨m,?_,hm⟩
   simp[tv,tvx,c1]
  ·rw[A3 (by dsimp only;omega)]
   cases hf:m.find? (fun y=>Ty.beq (.pair (.int .i64) (.pair (.int .i64) (.int .i64))) y.1 (((x.1:Nat):Int),((x.2.1:Nat):Int),((x.2.2:Nat):Int)))with
   | some e=>
    have:=hm.find x hf
    refine⟨m,?_,hm⟩
    simp[br,this]
   | none=>
    simp only[Option.isSome_none,A6,Gk,Option.bind_some]
    have hnx:D3 (((x.1:Nat):Int),((x.2.1:Nat):Int),((x.2.2:Nat):Int)) (T,H,f,A,B)=some ((Ac A B (H.getD x.1 0) x).map movP):=by
     unfold D3
     rw[if_pos (by dsimp only;omega)]
     simp only[Int.toNat_natCast]
    rw[hnx]
    simp only[Option.bind_some]
    obtain⟨n,hn⟩:∃n,H.length-x.1=n+1:=⟨H.length-x.1-1,by omega⟩
    obtain⟨m1,h2,hm1⟩:=Zq (N:=N) (T:=T) (f:=f) (self:=Dc N fu) (h:=x.1) (n:=n) (u:=(((x.1:Nat):Int),((x.2.1:Nat):Int),((x.2.2:Nat):Int))) (u2:=(T,H,f,A,B)) (x:=x.1) (x2:=x.2.1) (x3:=x.2.2) (g3:=0) (g4:=0) (by omega) hA hB (fun y m' hy hya hyb hm'=>by
     have:=A18 hH hA hB fu y m' (by omega) (by omega) hya hyb hm'
     rw[show tv mayA H A B y=tvx mayA H A B n y by unfold tv;rw[show H.length-y.1=n by omega]]at this
     exact this) (Ac A B (H.getD x.1 0) x) m 0 (-1,0) (fun mv hv=>Dv ha hb hv) hm (by refine⟨?_,?_,?_,?_⟩<;>simp;omega) (by have:=Gt A B (H.getD x.1 0) x;omega)
    have e:(Ac A B (H.getD x.1 0) x).foldl (stepT mayA x.1 (tvx mayA H A B n)) (-1,0)=tv mayA H A B x:=by
     unfold tv;rw[hn,tvx]
    rw[e]at h2
    rw[h2]
    exact⟨_,rfl,hm1.cons x⟩
theorem P0(hN:12≤N)(hH:H.length≤10)(hA:A.length≤6)(hB:B.length≤6):Gl N (T,H,f,A,B)=some (tv mayA H A B (0,0,0)):=by
 unfold Gl Gm M4
 obtain⟨m,h,hm⟩:=A18 (N:=N) (T:=T) (f:=f) hH hA hB N (0,0,0) [] (by dsimp only;omega) (by dsimp only;omega) (by dsimp only;omega) (by dsimp only;omega) (Cd.nil _ _ _ _)
 simp only[Int.natCast_zero]at h
 rw[h]
 simp[Ty.beq]
end
end Go.Proofs.YtfcnhnbnjdccfaaGreat

namespace Go.Proofs.YtfcnhnbnjdccfaaGreat
set_option linter.all false
open Go

section
variable {N:Nat}
end
end Go.Proofs.YtfcnhnbnjdccfaaGreat

namespace Go.Proofs.YtfcnhnbnjdccfaaGreat
set_option linter.all false
open Go

section
variable {N:Nat} {T:List (List Int)} {H:List Int} {f:Int}
def B8(H A B:List Int):Int:=(A.length:Int)+B.length+H.length-2*(tv mayA H A B (0,0,0)).1
theorem X9(may:Nat→Int×Int→Bool){H A B:List Int}(hA:A.length≤6)(hB:B.length≤6):-1≤(tv may H A B (0,0,0)).1∧(tv may H A B (0,0,0)).1≤H.length:=by
 have:=Jv may (H:=H) hA hB (H.length-0) (0,0,0)
 exact⟨this.1,this.2.1⟩
theorem Sx{A B:List Int}{t:Int}(hH:H.length≤10)(hA:A.length≤6)(hB:B.length≤6)(ht:-1≤t∧t≤10):Fy N (T,H,f,A,B) t=some ((A.length:Int)+B.length+H.length-2*t):=by
 unfold Fy
 rw[A5 (by dsimp only;omega),A5 (by dsimp only;omega),A5 (by omega),A5 (by dsimp only;omega)]
theorem Q1(hN:20≤N)(h:Fine T H f){a b:Int}(ha:0≤a∧a<T.length)(hb:0≤b∧b<T.length):Gz N T H f a b=some (B8 H (T.getD a.toNat []) (T.getD b.toNat [])):=by
 unfold Gz
 have la:=h.l (T.getD a.toNat []) (Aa (by omega))
 have lb:=h.l (T.getD b.toNat []) (Aa (by omega))
 have hH:=h.h
 rw[Ab [] ha.1 ha.2,Ab [] hb.1 hb.2]
 simp only[Eu,Option.bind_some]
 rw[P0 (by omega) h.h la.2 lb.2]
 simp only[Option.bind_some]
 have:=X9 mayA (H:=H) la.2 lb.2
 rw[Sx h.h la.2 lb.2 (by omega)]
 rfl
theorem Adv(hN:20≤N)(h:Fine T H f){a b:Int}(ha:0≤a∧a<T.length)(hb:0≤b∧b<T.length):least_S N T H f a b=some (B8 H (T.getD a.toNat []) (T.getD b.toNat []),0):=by
 unfold least_S
 obtain⟨_,_,_,e⟩:=Ap hN (h.open ha hb)
 rw[e]
 have la:=h.l (T.getD a.toNat []) (Aa (by omega))
 have lb:=h.l (T.getD b.toNat []) (Aa (by omega))
 have hH:=h.h
 simp only[Option.bind_some,decide_true,Bool.not_true,A6,Eu]
 rw[P0 (by omega) h.h la.2 lb.2]
 simp only[Option.bind_some]
 have:=X9 mayA (H:=H) la.2 lb.2
 rw[Sx h.h la.2 lb.2 (by omega)]
 rfl
def pE(T:List (List Int))(H:List Int)(f:Int)(i j:Nat):Bool:=decide (B8 H (T.getD i []) (T.getD j [])≤f)
theorem Uz(hN:20≤N)(h:Fine T H f){a s:Nat}{u u2:Int}{O:List (Int×Int)}(ha:a<T.length)(hO:O.length≤1000):∀(n k:Nat),T.length<n+k→s≤k→k≤T.length →
  epairs_l2 N n a k u u2 T H f (O++Ay (pE T H f) a s k)=some (u,u2,T,H,f,O++Ay (pE T H f) a s T.length)
 | 0,k,h1,h2,h3=>by omega
 | n+1,k,h1,h2,h3=>by
  unfold epairs_l2
  have hT:=h.n
  by_cases c:k<T.length
  ·rw[A4 (by omega),Q1 hN h (by omega) (by omega)]
   simp only[Option.bind_some,Int.toNat_natCast]
   have rl:=Md (pE T H f) a s k
   have next:=Uz hN h (s:=s) (u:=u) (u2:=u2) ha hO n (k+1) (by omega) (by omega) (by omega)
   rw[show((k+1:Nat):Int)=(k:Int)+1 by omega]at next
   by_cases d:B8 H (T.getD a []) (T.getD k [])≤f
   ·rw[A4 d,Bd (by simp;omega)]
    unfold I9
    rw[A5 (by omega),List.append_assoc,←Gf h2 (by simpa [pE]using d)]
    exact next
   ·rw[A3 d]
    unfold I9
    rw[A5 (by omega),←Ps (p:=pE T H f) (a:=a) h2 (by simpa [pE]using d)]
    exact next
  ·have e:k=T.length:=by omega
   rw[A3 (by omega),e]
theorem Uj(hN:20≤N)(h:Fine T H f):∀(n k:Nat),T.length<n+k→k≤T.length→epairs_l1 N n (T.length:Int) k T H f (Ai (pE T H f) T.length 0 k)=some (Ai (pE T H f) T.length 0 T.length)
 | 0,k,h1,h2=>by omega
 | n+1,k,h1,h2=>by
  unfold epairs_l1
  have hT:=h.n
  by_cases c:k<T.length
  ·have al:=D4 (pE T H f) T.length 0 k
   have:k*T.length≤5*5:=Nat.mul_le_mul (by omega) (by omega)
   rw[A4 (by omega)]
   have e:=Uz (N:=N) hN h (s:=k) (u:=(T.length:Int)) (u2:=(k:Int)) (O:=Ai (pE T H f) T.length 0 k) c (by omega) N k (by omega) (by omega) (by omega)
   rw[Ef,List.append_nil]at e
   rw[e]
   simp only[Option.bind_some]
   rw[A5 (by omega)]
   have next:=Uj hN h n (k+1) (by omega) (by omega)
   rw[Cx,Nat.add_zero,show((k+1:Nat):Int)=(k:Int)+1 by omega]at next
   exact next
  ·have e:k=T.length:=by omega
   rw[A3 (by omega),e]
theorem A98(hN:20≤N)(h:Fine T H f):Le N T H f=some (Ai (pE T H f) T.length 0 T.length):=by
 unfold Le
 have hT:=h.n
 have:=Uj (N:=N) hN h N 0 (by omega) (by omega)
 rw[show Ai (pE T H f) T.length 0 0=[]from rfl]at this
 rw[show((0:Nat):Int)=0 from rfl]at this
 rw[this];rfl
theorem Alo(hN:20≤N)(h:Fine T H f):Jb N T H f=some (Ai (pE T H f) T.length 0 T.length,0):=by
 unfold Jb
 rw[C8 hN,h.check]
 simp only[Option.bind_some,decide_true,Bool.not_true,A6]
 rw[A98 hN h];rfl
def cE(T:List (List Int))(f:Int)(i j:Nat):Bool:=decide (Aq (T.getD i []) (T.getD j [])≤2*f)
theorem A2f(hN:20≤N)(h:Fine T H f){a s:Nat}{u:List (List Int)}{u2 u3:Int}{O:List (Int×Int)}(ha:a<T.length)(hO:O.length≤1000):∀(n k:Nat),T.length<n+k→s≤k→k≤T.length →
  conf_l2 N n a (T.getD a []) k u u2 u3 T H f (O++Ay (cE T f) a s k)=some (u,u2,u3,T,H,f,O++Ay (cE T f) a s T.length)
 | 0,k,h1,h2,h3=>by omega
 | n+1,k,h1,h2,h3=>by
  unfold conf_l2
  have hT:=h.n
  have hf:=h.f
  by_cases c:k<T.length
  ·have la:=h.l (T.getD a []) (Aa ha)
   have lb:=h.l (T.getD k []) (Aa c)
   have:=C2 (T.getD a []) (T.getD k [])
   have hc:=(Mj (T.getD a []) (T.getD k [])).2.2
   rw[A4 (by omega),Ab [] (by omega) (by omega)]
   simp only[Int.toNat_natCast]
   rw[A5 (by omega),R4 hN la.2 lb.2]
   simp only[Option.bind_some]
   rw[A5 (by omega),A5 (by omega),A5 (by omega)]
   have rl:=Md (cE T f) a s k
   have next:=A2f hN h (s:=s) (u:=u) (u2:=u2) (u3:=u3) ha hO n (k+1) (by omega) (by omega) (by omega)
   rw[show((k+1:Nat):Int)=(k:Int)+1 by omega]at next
   by_cases d:Aq (T.getD a []) (T.getD k [])≤2*f
   ·refine(A4 (p:=Aq (T.getD a []) (T.getD k [])≤2*f) d).trans ?_
    rw[Bd (by simp;omega)]
    unfold Oh
    rw[A5 (by omega),List.append_assoc,←Gf h2 (by simpa [cE]using d)]
    exact next
   ·refine(A3 (p:=Aq (T.getD a []) (T.getD k [])≤2*f) d).trans ?_
    unfold Oh
    rw[A5 (by omega),←Ps (p:=cE T f) (a:=a) h2 (by simpa [cE]using d)]
    exact next
  ·have e:k=T.length:=by omega
   rw[A3 (by omega),e]
theorem A2l(hN:20≤N)(h:Fine T H f):∀(n k:Nat),T.length<n+k→k≤T.length→conf_l1 N n T (T.length:Int) k T H f (Ai (cE T f) T.length 1 k)=some (Ai (cE T f) T.length 1 T.length)
 | 0,k,h1,h2=>by omega
 | n+1,k,h1,h2=>by
  unfold conf_l1
  have hT:=h.n
  by_cases c:k<T.length
  ·have al:=D4 (cE T f) T.length 1 k
   have:k*T.length≤5*5:=Nat.mul_le_mul (by omega) (by omega)
   rw[A4 (by omega),Ab [] (by omega) (by omega),A5 (by omega)]
   simp only[Int.toNat_natCast]
   have e:=A2f (N:=N) hN h (s:=k+1) (u:=T) (u2:=(T.length:Int)) (u3:=(k:Int)) (O:=Ai (cE T f) T.length 1 k) c (by omega) N (k+1) (by omega) (by omega) (by omega)
   rw[Ef,List.append_nil,show((k+1:Nat):Int)=(k:Int)+1 by omega]at e
   rw[e]
   simp only[Option.bind_some]
   rw[A5 (by omega)]
   have next:=A2l hN h n (k+1) (by omega) (by omega)
   rw[Cx,show((k+1:Nat):Int)=(k:Int)+1 by omega]at next
   exact next
  ·have e:k=T.length:=by omega
   rw[A3 (by omega),e]
theorem Aop(hN:20≤N)(h:Fine T H f):Nh N T H f=some (Ai (cE T f) T.length 1 T.length,0):=by
 unfold Nh
 have hT:=h.n
 rw[C8 hN,h.check]
 simp only[Option.bind_some,decide_true,Bool.not_true,A6]
 have:=A2l (N:=N) hN h N 0 (by omega) (by omega)
 rw[show Ai (cE T f) T.length 1 0=[]from rfl,show((0:Nat):Int)=0 from rfl]at this
 rw[this];rfl
theorem Adl{l:List Int}(h:l.length≤1000000):Ou N l=some l:=by
 unfold Ou
 rw[I0 (Jr.2 (by omega))]
 simp
theorem Nv{u:List (List Int)}(hu:u.length≤1000000)(hl:∀x∈u,x.length≤1000000):∀(n k:Nat) (out:List (List Int)),u.length<n+k→k≤u.length→out.length=u.length→out.take k=u.take k→copyr_l1 N n u (u.length:Int) k out=some u
 | 0,k,out,h,h1,_,_=>by omega
 | n+1,k,out,h,h1,h2,h3=>by
  unfold copyr_l1
  by_cases c:k<u.length
  ·rw[A4 (by omega),Ab [] (by omega) (by omega),Adl (hl _ (Aa (by omega)))]
   simp only[Option.bind_some,Int.toNat_natCast]
   rw[Au (by omega),Ady [] (by omega),A5 (by omega)]
   have:=Nv hu hl n (k+1) (out.set k (u.getD k [])) (by omega) (by omega) (by simpa using h2) (by
    rw[List.take_add_one,List.take_add_one,List.take_set_of_le (by omega),h3,List.getElem?_set_self (by omega)]
    simp[List.getD,c])
   rw[show((k+1:Nat):Int)=(k:Int)+1 by omega]at this
   exact this
  ·rw[A3 (by omega)]
   rw[List.take_of_length_le (by omega),List.take_of_length_le (by omega)]at h3
   rw[h3]
theorem Amq(h:T.length≤1000∧H.length≤1000)(hl:∀x∈T,x.length≤1000000)(hN:1010≤N):C9 N T H f=some (T,H,f):=by
 unfold C9 Mh
 rw[I0 (Jr.2 (by omega))]
 have:=Nv (N:=N) (u:=T) (by omega) hl N 0 (List.replicate (T.length:Int).toNat []) (by omega) (by omega) (by simp) (by simp)
 rw[show((0:Nat):Int)=0 from rfl]at this
 rw[this]
 simp only[Option.bind_some]
 rw[Adl (by omega)];rfl
end
end Go.Proofs.YtfcnhnbnjdccfaaGreat

namespace Go.Proofs.YtfcnhnbnjdccfaaGreat
set_option linter.all false
open Go

section
variable {N:Nat}
theorem Dh:B0 1100=some true:=by kernel_rfl
end
end Go.Proofs.YtfcnhnbnjdccfaaGreat

namespace Go.Proofs.YtfcnhnbnjdccfaaGreat
set_option linter.all false
open Go

theorem A16(h:Nat)(t:At3→Int×Int)(best:Int×Int)(m:Mv):(stepT mayA h t best m).1=max best.1 (wT m.1.1 (t m.2).1):=by
 have:stepT mayA h t best m=(if best.1<wT m.1.1 (t m.2).1 then(wT m.1.1 (t m.2).1,(t m.2).2)else if wT m.1.1 (t m.2).1=best.1 then(best.1,best.2+(t m.2).2)else best):=by unfold stepT;exact if_pos rfl
 rw[this]
 split
 ·first | omega | (dsimp only;omega)
 ·split<;>first | omega | (dsimp only;omega)
theorem Vn{h:Nat}{t:At3→Int×Int}:∀(ms:List Mv) (best:Int×Int),best.1≤(ms.foldl (stepT mayA h t) best).1∧∀m∈ms,wT m.1.1 (t m.2).1≤(ms.foldl (stepT mayA h t) best).1
 | [],best=>⟨Int.le_refl _,fun _ h=>by cases h⟩
 | m::ms,best=>by
  obtain⟨h1,h2⟩:=Vn (h:=h) (t:=t) ms (stepT mayA h t best m)
  rw[A16]at h1
  rw[List.foldl_cons]
  refine⟨by omega,fun m' hm=>?_⟩
  rcases List.mem_cons.1 hm with rfl | hm
  ·omega
  ·exact h2 m' hm
inductive Told (H A B:List Int):Nat→Nat→Nat→Prop
 | done (i k:Nat):Told H A B H.length i k
 | ta {h i k j:Nat} (hh:h<H.length) (hij:i≤j) (hj:j<A.length) (e:A.getD j 0=H.getD h 0) (t:Told H A B (h+1) (j+1) k):Told H A B h i k
 | tb {h i k j:Nat} (hh:h<H.length) (hij:k≤j) (hj:j<B.length) (e:B.getD j 0=H.getD h 0) (t:Told H A B (h+1) i (j+1)):Told H A B h i k
theorem Told.mono{H A B:List Int}{h i k:Nat}(t:Told H A B h i k):∀(i' k':Nat),i'≤i→k'≤k→Told H A B h i' k':=by
 induction t with
 | done i k=>intro i' k' _ _;exact .done i' k'
 | ta hh hij hj e _ ih=>intro i' k' h1 h2;exact .ta hh (Nat.le_trans h1 hij) hj e (ih _ _ (Nat.le_refl _) h2)
 | tb hh hij hj e _ ih=>intro i' k' h1 h2;exact .tb hh (Nat.le_trans h2 hij) hj e (ih _ _ h1 (Nat.le_refl _))
theorem Told.tv{H A B:List Int}{h i k:Nat}(t:Told H A B h i k):∀n,H.length=h+n→(n:Int)≤(tvx mayA H A B n (h,i,k)).1:=by
 induction t with
 | done i k=>intro n hn;have:n=0:=by omega
             subst this;simp[tvx]
 | @ta h i k j hh hij hj e t ih=>
  intro n hn
  obtain⟨n,rfl⟩:∃m,n=m+1:=⟨n-1,by omega⟩
  have:=ih n (by omega)
  have g:=(Vn (h:=h) (t:=tvx mayA H A B n) (Ac A B (H.getD h 0) (h,i,k)) (-1,0)).2 ((1,(j:Int)),(h+1,j+1,k)) (by
   simp only[Ac,List.mem_cons,List.mem_append,List.mem_map]
   exact .inr (.inl ⟨j,Am.2 ⟨hij,hj,e⟩,rfl⟩))
  rw[tvx]
  dsimp only
  dsimp only[wT]at g
  rw[if_pos ⟨by omega,by decide⟩]at g
  omega
 | @tb h i k j hh hij hj e t ih=>
  intro n hn
  obtain⟨n,rfl⟩:∃m,n=m+1:=⟨n-1,by omega⟩
  have:=ih n (by omega)
  have g:=(Vn (h:=h) (t:=tvx mayA H A B n) (Ac A B (H.getD h 0) (h,i,k)) (-1,0)).2 ((2,(j:Int)),(h+1,i,j+1)) (by
   simp only[Ac,List.mem_cons,List.mem_append,List.mem_map]
   exact .inr (.inr ⟨j,Am.2 ⟨hij,hj,e⟩,rfl⟩))
  rw[tvx]
  dsimp only
  dsimp only[wT]at g
  rw[if_pos ⟨by omega,by decide⟩]at g
  omega
inductive Shuf:List Int→List Int→List Int→Prop
 | nil:Shuf [] [] []
 | skipA {S a b:List Int} (w:Int) (s:Shuf S a b):Shuf S (w::a) b
 | skipB {S a b:List Int} (w:Int) (s:Shuf S a b):Shuf S a (w::b)
 | takeA {S a b:List Int} (w:Int) (s:Shuf S a b):Shuf (w::S) (w::a) b
 | takeB {S a b:List Int} (w:Int) (s:Shuf S a b):Shuf (w::S) a (w::b)
theorem G5{l:List Int}{i:Nat}{w:Int}{r:List Int}(h:l.drop i=w::r):i<l.length∧l.getD i 0=w∧l.drop (i+1)=r:=by
 have hi:i<l.length:=by
  rcases Nat.lt_or_ge i l.length with h1 | h1
  ·exact h1
  ·rw[List.drop_of_length_le h1]at h;cases h
 rw[drop_cons hi]at h
 simp only[List.cons.injEq]at h
 exact⟨hi,h.1,h.2⟩
theorem Shuf.told{H A B S a b:List Int}(s:Shuf S a b):∀(h i k:Nat),h≤H.length→H.drop h=S→A.drop i=a→B.drop k=b→Told H A B h i k:=by
 induction s with
 | nil=>
  intro h i k hh hS _ _
  have:h=H.length:=by
   have:=congrArg List.length hS
   rw[List.length_drop]at this
   simp at this;omega
  subst this;exact .done i k
 | skipA w s ih=>intro h i k hh hS ha hb;obtain⟨_,_,h3⟩:=G5 ha;exact(ih h (i+1) k hh hS h3 hb).mono _ _ (by omega) (Nat.le_refl _)
 | skipB w s ih=>intro h i k hh hS ha hb;obtain⟨_,_,h3⟩:=G5 hb;exact(ih h i (k+1) hh hS ha h3).mono _ _ (Nat.le_refl _) (by omega)
 | takeA w s ih=>
  intro h i k hh hS ha hb
  obtain⟨h1,h2,h3⟩:=G5 ha
  obtain⟨g1,g2,g3⟩:=G5 hS
  exact .ta g1 (Nat.le_refl _) h1 (by rw[h2,g2]) (ih (h+1) (i+1) k (by omega) g3 h3 hb)
 | takeB w s ih=>
  intro h i k hh hS ha hb
  obtain⟨h1,h2,h3⟩:=G5 hb
  obtain⟨g1,g2,g3⟩:=G5 hS
  exact .tb g1 (Nat.le_refl _) h1 (by rw[h2,g2]) (ih (h+1) i (k+1) (by omega) g3 ha h3)
theorem Shuf.len{S a b:List Int}(s:Shuf S a b):S.length≤a.length+b.length:=by
 induction s<;>simp only[List.length_cons,List.length_nil]at*<;>omega
theorem Shuf.least{S a b:List Int}(s:Shuf S a b)(ha:a.length≤6)(hb:b.length≤6):B8 S a b=(a.length:Int)+b.length-S.length:=by
 have t:=(s.told (H:=S) (A:=a) (B:=b) 0 0 0 (Nat.zero_le _) rfl rfl rfl).tv S.length (by omega)
 have:=X9 mayA (H:=S) ha hb
 unfold B8
 have e:(tvx mayA S a b S.length (0,0,0)).1=(Proofs.YtfcnhnbnjdccfaaGreat.tv mayA S a b (0,0,0)).1:=rfl
 omega
end Go.Proofs.YtfcnhnbnjdccfaaGreat

namespace Go.Proofs.YtfcnhnbnjdccfaaGreat
set_option linter.all false
open Go

section
variable {N:Nat} {T:List (List Int)} {H:List Int} {f:Int}
def H4(T:List (List Int))(H:List Int)(f:Int)(a k:Nat):List Int:=((List.range k).filter (pE T H f a)).map fun(x:Nat)=>(x:Int)
theorem Rm(T:List (List Int))(H:List Int)(f:Int)(a k:Nat):(H4 T H f a k).length≤k:=by
 unfold H4
 have:=List.length_filter_le (pE T H f a) (List.range k)
 simp at this ⊢;omega
theorem Ya(a k:Nat):H4 T H f a (k+1)=H4 T H f a k++(if pE T H f a k=true then [(k:Int)]else []):=by
 unfold H4
 rw[List.range_succ,List.filter_append,List.map_append]
 by_cases hp:pE T H f a k=true<;>simp[hp]
theorem A0q(hN:20≤N)(h:Fine T H f){a:Nat}(ha:a<T.length):∀(n k:Nat),T.length<n+k→k≤T.length→with__l1 N n a (T.length:Int) k T H f (H4 T H f a k)=some (H4 T H f a T.length)
 | 0,k,h1,h2=>by omega
 | n+1,k,h1,h2=>by
  unfold with__l1
  have hT:=h.n
  by_cases c:k<T.length
  ·rw[A4 (by omega),Q1 hN h (by omega) (by omega)]
   simp only[Option.bind_some,Int.toNat_natCast]
   have next:=A0q hN h ha n (k+1) (by omega) (by omega)
   rw[show((k+1:Nat):Int)=(k:Int)+1 by omega,Ya]at next
   have wl:=Rm T H f a k
   by_cases d:B8 H (T.getD a []) (T.getD k [])≤f
   ·rw[A4 d,Bd (by simp;omega)]
    unfold L4
    rw[if_pos (by simpa [pE]using d)]at next
    rw[A5 (by omega)]
    exact next
   ·rw[A3 d]
    unfold L4
    rw[if_neg (by simpa [pE]using d),List.append_nil]at next
    rw[A5 (by omega)]
    exact next
  ·have e:k=T.length:=by omega
   rw[A3 (by omega),e]
theorem Ao6(hN:20≤N)(h:Fine T H f){a:Int}(ha:0≤a∧a<T.length):Hx N T H f a=some (H4 T H f a.toNat T.length,0):=by
 unfold Hx
 have hT:=h.n
 obtain⟨k,rfl⟩:∃k:Nat,a=k:=⟨a.toNat,by omega⟩
 rw[C8 hN,h.check]
 simp only[Option.bind_some,decide_true,Bool.not_true,A6]
 rw[Ss N H f _ (by omega)]
 simp only[Option.bind_some,ha,and_self,decide_true,Bool.not_true,A6,Int.toNat_natCast]
 have:=A0q (N:=N) hN h (a:=k) (by omega) N 0 (by omega) (by omega)
 rw[show H4 T H f k 0=[]from rfl,show((0:Nat):Int)=0 from rfl]at this
 rw[this];rfl

end
end Go.Proofs.YtfcnhnbnjdccfaaGreat

namespace Go.Proofs.YtfcnhnbnjdccfaaGreat
set_option linter.all false
open Go
inductive Rd:List Int→List Int→List Int→Prop
 | nil:Rd [] [] []
 | noise (w:Int) {H a b:List Int} (s:Rd H a b):Rd (w::H) a b
 | ta (w:Int) {H a b:List Int} (s:Rd H a b):Rd (w::H) (w::a) b
 | tb (w:Int) {H a b:List Int} (s:Rd H a b):Rd (w::H) a (w::b)
theorem Rd.none:∀H:List Int,Rd H [] []
 | []=>.nil
 | w::H=>.noise w (Rd.none H)
theorem Rd.sub{H a b:List Int}(s:Rd H a b):∀a' b':List Int,a'.Sublist a→b'.Sublist b→Rd H a' b':=by
 induction s with
 | nil=>intro a' b' ha hb;rw[List.sublist_nil.1 ha,List.sublist_nil.1 hb];exact .nil
 | noise w s ih=>intro a' b' ha hb;exact .noise w (ih a' b' ha hb)
 | ta w s ih=>
  intro a' b' ha hb
  cases ha with
  | cons _ h=>exact .noise w (ih a' b' h hb)
  | cons_cons _ h=>exact .ta w (ih _ b' h hb)
 | tb w s ih=>
  intro a' b' ha hb
  cases hb with
  | cons _ h=>exact .noise w (ih a' b' ha h)
  | cons_cons _ h=>exact .tb w (ih a' _ ha h)
theorem Abj{A a:List Int}{w:Int}:∀(n i:Nat),A.length=i+n→(w::a).Sublist (A.drop i)→∃j,i≤j∧j<A.length∧A.getD j 0=w∧a.Sublist (A.drop (j+1))
 | 0,i,h,hs=>by rw[List.drop_of_length_le (by omega)]at hs;cases hs
 | n+1,i,h,hs=>by
  rw[drop_cons (by omega)]at hs
  cases hs with
  | cons _ h'=>
   obtain⟨j,h1,h2,h3,h4⟩:=Abj n (i+1) (by omega) h'
   exact⟨j,by omega,h2,h3,h4⟩
  | cons_cons _ h'=>exact⟨i,Nat.le_refl _,by omega,rfl,h'⟩
theorem Yh(H A B:List Int):∀(n h i k:Nat) (a b:List Int),H.length=h+n→Rd (H.drop h) a b→a.Sublist (A.drop i)→b.Sublist (B.drop k)→((a.length:Int)+b.length)≤(tvx mayA H A B n (h,i,k)).1
 | 0,h,i,k,a,b,hn,s,_,_=>by
  rw[List.drop_of_length_le (by omega)]at s
  cases s;simp[tvx]
 | n+1,h,i,k,a,b,hn,s,ha,hb=>by
  rw[drop_cons (by omega)]at s
  have g:=(Vn (h:=h) (t:=tvx mayA H A B n) (Ac A B (H.getD h 0) (h,i,k)) (-1,0)).2
  rw[tvx]
  dsimp only
  cases s with
  | noise _ s=>
   have:=Yh H A B n (h+1) i k a b (by omega) s ha hb
   have g1:=g ((3,0),(h+1,i,k)) (by simp[Ac])
   have e:∀w:Int,wT 3 w=w:=fun w=>by simp[wT]
   dsimp only at g1
   rw[e]at g1
   omega
  | ta _ s=>
   obtain⟨j,h1,h2,h3,h4⟩:=Abj (A.length-i) i (by have:=ha.length_le;simp at this;omega) ha
   have:=Yh H A B n (h+1) (j+1) k _ b (by omega) s h4 hb
   have g1:=g ((1,(j:Int)),(h+1,j+1,k)) (by
    simp only[Ac,List.mem_cons,List.mem_append,List.mem_map]
    exact .inr (.inl ⟨j,Am.2 ⟨h1,h2,h3⟩,rfl⟩))
   dsimp only[wT]at g1
   rw[if_pos ⟨by omega,by decide⟩]at g1
   simp only[List.length_cons]
   omega
  | tb _ s=>
   obtain⟨j,h1,h2,h3,h4⟩:=Abj (B.length-k) k (by have:=hb.length_le;simp at this;omega) hb
   have:=Yh H A B n (h+1) i (j+1) a _ (by omega) s ha h4
   have g1:=g ((2,(j:Int)),(h+1,i,j+1)) (by
    simp only[Ac,List.mem_cons,List.mem_append,List.mem_map]
    exact .inr (.inr ⟨j,Am.2 ⟨h1,h2,h3⟩,rfl⟩))
   dsimp only[wT]at g1
   rw[if_pos ⟨by omega,by decide⟩]at g1
   simp only[List.length_cons]
   omega
theorem Pq{h:Nat}{t:At3→Int×Int}:∀(ms:List Mv) (best:Int×Int),(ms.foldl (stepT mayA h t) best).1=best.1∨∃m∈ms,(ms.foldl (stepT mayA h t) best).1=wT m.1.1 (t m.2).1
 | [],best=>.inl rfl
 | m::ms,best=>by
  rw[List.foldl_cons]
  rcases Pq (h:=h) (t:=t) ms (stepT mayA h t best m)with h1 | ⟨m',hm,h1⟩
  ·rw[A16]at h1
   rcases Int.le_total best.1 (wT m.1.1 (t m.2).1)with h2 | h2
   ·exact .inr ⟨m,by simp,by omega⟩
   ·exact .inl (by omega)
  ·exact .inr ⟨m',by simp[hm],h1⟩
theorem C6(H A B:List Int){n h i k:Nat}(hn:H.length=h+n):0≤(tvx mayA H A B n (h,i,k)).1:=by
 have:=Yh H A B n h i k [] [] hn (Rd.none _) (List.nil_sublist _) (List.nil_sublist _)
 simpa using this
theorem Vk(H A B:List Int):∀(n h i k:Nat),H.length=h+n→∃a b,Rd (H.drop h) a b∧a.Sublist (A.drop i)∧b.Sublist (B.drop k)∧((a.length:Int)+b.length)=(tvx mayA H A B n (h,i,k)).1
 | 0,h,i,k,hn=>⟨[],[],by rw[List.drop_of_length_le (by omega)];exact .nil,List.nil_sublist _,List.nil_sublist _,by simp[tvx]⟩
 | n+1,h,i,k,hn=>by
  have nn:=C6 H A B (i:=i) (k:=k) hn
  rw[tvx]at nn ⊢
  dsimp only at nn ⊢
  rw[drop_cons (a:=H) (by omega)]
  rcases Pq (h:=h) (t:=tvx mayA H A B n) (Ac A B (H.getD h 0) (h,i,k)) (-1,0)with h1 | ⟨m,hm,h1⟩
  ·rw[h1]at nn;exact absurd nn (by decide)
  ·rw[h1]
   simp only[Ac,List.mem_cons,List.mem_append,List.mem_map]at hm
   rcases hm with rfl | ⟨j,hj,rfl⟩ | ⟨j,hj,rfl⟩
   ·obtain⟨a,b,s,ha,hb,e⟩:=Vk H A B n (h+1) i k (by omega)
    have e3:∀w:Int,wT 3 w=w:=fun w=>by simp[wT]
    exact⟨a,b,.noise _ s,ha,hb,by rw[e3];exact e⟩
   ·obtain⟨a,b,s,ha,hb,e⟩:=Vk H A B n (h+1) (j+1) k (by omega)
    obtain⟨j1,j2,j3⟩:=Am.1 hj
    have h0:=C6 H A B (n:=n) (h:=h+1) (i:=j+1) (k:=k) (by omega)
    refine⟨H.getD h 0::a,b,.ta _ s,?_,hb,?_⟩
    ·have s1:(H.getD h 0::a).Sublist (A.drop j):=by rw[drop_cons j2,j3];exact ha.cons_cons _
     have:A.drop j=(A.drop i).drop (j-i):=by rw[List.drop_drop];congr 1;omega
     rw[this]at s1
     exact s1.trans (List.drop_sublist _ _)
    ·dsimp only[wT]
     rw[if_pos ⟨by omega,by decide⟩]
     simp only[List.length_cons];omega
   ·obtain⟨a,b,s,ha,hb,e⟩:=Vk H A B n (h+1) i (j+1) (by omega)
    obtain⟨j1,j2,j3⟩:=Am.1 hj
    have h0:=C6 H A B (n:=n) (h:=h+1) (i:=i) (k:=j+1) (by omega)
    refine⟨a,H.getD h 0::b,.tb _ s,ha,?_,?_⟩
    ·have s1:(H.getD h 0::b).Sublist (B.drop j):=by rw[drop_cons j2,j3];exact hb.cons_cons _
     have:B.drop j=(B.drop k).drop (j-k):=by rw[List.drop_drop];congr 1;omega
     rw[this]at s1
     exact s1.trans (List.drop_sublist _ _)
    ·dsimp only[wT]
     rw[if_pos ⟨by omega,by decide⟩]
     simp only[List.length_cons];omega
theorem Afb{H A B a b:List Int}(s:Rd H a b)(ha:a.Sublist A)(hb:b.Sublist B):B8 H A B≤(A.length:Int)+B.length+H.length-2*(a.length+b.length):=by
 have:=Yh H A B H.length 0 0 0 a b (by omega) s ha hb
 have e:(tvx mayA H A B H.length (0,0,0)).1=(tv mayA H A B (0,0,0)).1:=rfl
 unfold B8
 omega
theorem Ad5(H A B:List Int):∃a b,Rd H a b∧a.Sublist A∧b.Sublist B∧B8 H A B=(A.length:Int)+B.length+H.length-2*(a.length+b.length):=by
 obtain⟨a,b,s,ha,hb,h⟩:=Vk H A B H.length 0 0 0 (by omega)
 have e:(tvx mayA H A B H.length (0,0,0)).1=(tv mayA H A B (0,0,0)).1:=rfl
 refine⟨a,b,s,ha,hb,?_⟩
 unfold B8
 omega
theorem Rd.more(w:Int){H a b:List Int}(s:Rd H a b):∀p:Nat,Rd (H.take p++w::H.drop p) a b:=by
 induction s with
 | nil=>intro p;cases p<;>simpa using Rd.noise w .nil
 | noise v s ih=>
  intro p;cases p with
  | zero=>exact .noise w (.noise v s)
  | succ p=>exact .noise v (ih p)
 | ta v s ih=>
  intro p;cases p with
  | zero=>exact .noise w (.ta v s)
  | succ p=>exact .ta v (ih p)
 | tb v s ih=>
  intro p;cases p with
  | zero=>exact .noise w (.tb v s)
  | succ p=>exact .tb v (ih p)
theorem Rd.less(w:Int):∀(p:Nat) (H a b:List Int),Rd (H.take p++w::H.drop p) a b→∃a' b',Rd H a' b'∧a'.Sublist a∧b'.Sublist b∧a.length+b.length≤a'.length+b'.length+1
 | 0,H,a,b,s=>by
  rw[List.take_zero,List.drop_zero,List.nil_append]at s
  cases s with
  | noise _ s=>exact⟨a,b,s,List.Sublist.refl _,List.Sublist.refl _,by omega⟩
  | ta _ s=>exact⟨_,b,s,List.sublist_cons_self _ _,List.Sublist.refl _,by simp only[List.length_cons];omega⟩
  | tb _ s=>exact⟨a,_,s,List.Sublist.refl _,List.sublist_cons_self _ _,by simp only[List.length_cons];omega⟩
 | p+1,[],a,b,s=>by
  rw[List.take_nil,List.drop_nil,List.nil_append]at s
  exact Rd.less w 0 [] a b (by simpa using s)
 | p+1,v::H,a,b,s=>by
  rw[List.take_succ_cons,List.drop_succ_cons,List.cons_append]at s
  cases s with
  | noise _ s=>
   obtain⟨a',b',s',h1,h2,h3⟩:=Rd.less w p H a b s
   exact⟨a',b',.noise v s',h1,h2,h3⟩
  | ta _ s=>
   obtain⟨a',b',s',h1,h2,h3⟩:=Rd.less w p H _ b s
   exact⟨v::a',b',.ta v s',h1.cons_cons _,h2,by simp only[List.length_cons];omega⟩
  | tb _ s=>
   obtain⟨a',b',s',h1,h2,h3⟩:=Rd.less w p H a _ s
   exact⟨a',v::b',.tb v s',h1,h2.cons_cons _,by simp only[List.length_cons];omega⟩
end Go.Proofs.YtfcnhnbnjdccfaaGreat

namespace Go.Proofs.YtfcnhnbnjdccfaaGreat
set_option linter.all false
open Go

section
variable {N:Nat} {T:List (List Int)} {H:List Int} {f:Int}
def clS(v:Int×Int→Int)(s:(Int×Int)×Int)(p:Int×Int):(Int×Int)×Int:=if v p<s.2 then(p,v p)else s
def tt2(_ _:Nat):Bool:=true
def prs(n:Nat):List (Int×Int):=Ai tt2 n 0 n
theorem Al5{n:Nat}(h:1≤n):∃l,prs n=(0,0)::l:=by
 obtain⟨n,rfl⟩:∃m,n=m+1:=⟨n-1,by omega⟩
 have e1:Ay tt2 0 0 (n+1)=(0,0)::((List.range' 1 n).filter (tt2 0)).map (fun(x:Nat)=>(((0:Nat):Int),(x:Int))):=by
  unfold Ay
  rw[Nat.sub_zero,List.range'_succ,List.filter_cons_of_pos rfl,List.map_cons];rfl
 have e2:Ai tt2 (n+1) 0 (n+1)=Ay tt2 0 (0+0) (n+1)++(((List.range n).map Nat.succ).flatMap fun x=>Ay tt2 x (x+0) (n+1)):=by
  unfold Ai
  conv=>lhs;rw[List.range_succ_eq_map]
  rw[List.flatMap_cons]
 unfold prs
 rw[e2,Nat.zero_add,e1]
 exact⟨_,rfl⟩
def vP(T:List (List Int))(H:List Int)(p:Int×Int):Int:=B8 H (T.getD p.1.toNat []) (T.getD p.2.toNat [])
def clV(T:List (List Int))(H:List Int):(Int×Int)×Int:=(prs T.length).foldl (clS (vP T H)) ((0,0),vP T H (0,0))
theorem Rh(hN:20≤N)(h:Fine T H f){a s:Nat}{u u2 g g2:Int}{O:List (Int×Int)}{z:(Int×Int)×Int}(ha:a<T.length):∀(n k:Nat),T.length<n+k→s≤k→k≤T.length →
  closest_l2 N n ((O++Ay tt2 a s k).foldl (clS (vP T H)) z).2 a k u u2 T H f g g2 ((O++Ay tt2 a s k).foldl (clS (vP T H)) z).1.1 ((O++Ay tt2 a s k).foldl (clS (vP T H)) z).1.2
  = some (((O++Ay tt2 a s T.length).foldl (clS (vP T H)) z).2,u,u2,T,H,f,g,g2,((O++Ay tt2 a s T.length).foldl (clS (vP T H)) z).1.1,((O++Ay tt2 a s T.length).foldl (clS (vP T H)) z).1.2)
 | 0,k,h1,h2,h3=>by omega
 | n+1,k,h1,h2,h3=>by
  unfold closest_l2
  have hT:=h.n
  by_cases c:k<T.length
  ·rw[A4 (by omega),Q1 hN h (by omega) (by omega)]
   simp only[Option.bind_some,Int.toNat_natCast]
   have next:=Rh hN h (s:=s) (u:=u) (u2:=u2) (g:=g) (g2:=g2) (O:=O) (z:=z) ha n (k+1) (by omega) (by omega) (by omega)
   rw[show((k+1:Nat):Int)=(k:Int)+1 by omega,Gf h2 (show tt2 a k=true from rfl),←List.append_assoc,List.foldl_append (l:=O++Ay tt2 a s k)]at next
   generalize (O++Ay tt2 a s k).foldl (clS (vP T H)) z=S at next ⊢
   rw[List.foldl_cons,List.foldl_nil]at next
   have ev:B8 H (T.getD a []) (T.getD k [])=vP T H ((a:Int),(k:Int)):=by simp[vP]
   rw[ev]
   unfold clS at next
   by_cases d:vP T H ((a:Int),(k:Int))<S.2
   ·rw[A4 d]
    rw[if_pos d]at next
    unfold H6
    rw[A5 (by omega)]
    exact next
   ·rw[A3 d]
    rw[if_neg d]at next
    unfold H6
    rw[A5 (by omega)]
    exact next
  ·have e:k=T.length:=by omega
   rw[A3 (by omega),e]
theorem Q9(hN:20≤N)(h:Fine T H f){g g2:Int}{z:(Int×Int)×Int}:∀(n k:Nat),T.length<n+k→k≤T.length →
  closest_l1 N n ((Ai tt2 T.length 0 k).foldl (clS (vP T H)) z).2 (T.length:Int) k T H f g g2 ((Ai tt2 T.length 0 k).foldl (clS (vP T H)) z).1.1 ((Ai tt2 T.length 0 k).foldl (clS (vP T H)) z).1.2
  = some (((prs T.length).foldl (clS (vP T H)) z).2,g,g2,((prs T.length).foldl (clS (vP T H)) z).1.1,((prs T.length).foldl (clS (vP T H)) z).1.2)
 | 0,k,h1,h2=>by omega
 | n+1,k,h1,h2=>by
  unfold closest_l1
  have hT:=h.n
  by_cases c:k<T.length
  ·rw[A4 (by omega)]
   have e:=Rh (N:=N) hN h (s:=k) (u:=(T.length:Int)) (u2:=(k:Int)) (g:=g) (g2:=g2) (O:=Ai tt2 T.length 0 k) (z:=z) c N k (by omega) (by omega) (by omega)
   rw[Ef,List.append_nil]at e
   rw[e]
   simp only[Option.bind_some]
   rw[A5 (by omega)]
   have next:=Q9 hN h (g:=g) (g2:=g2) (z:=z) n (k+1) (by omega) (by omega)
   rw[Cx,Nat.add_zero,show((k+1:Nat):Int)=(k:Int)+1 by omega]at next
   exact next
  ·have e:k=T.length:=by omega
   rw[A3 (by omega),e];rfl
theorem Age(hN:20≤N)(h:Fine T H f):G8 N T H f=some ((clV T H).1.1,(clV T H).1.2,(clV T H).2,0):=by
 unfold G8
 have hT:=h.n
 rw[C8 hN,h.check]
 simp only[Option.bind_some,decide_true,Bool.not_true,A6]
 rw[Q1 hN h (by omega) (by omega)]
 simp only[Option.bind_some]
 have:=Q9 (N:=N) hN h (g:=0) (g2:=0) (z:=((0,0),vP T H (0,0))) N 0 (by omega) (by omega)
 rw[show Ai tt2 T.length 0 0=[]from rfl]at this
 simp only[List.foldl_nil]at this
 rw[show((0:Nat):Int)=0 from rfl]at this
 rw[show vP T H (0,0)=B8 H (T.getD (0:Int).toNat []) (T.getD (0:Int).toNat [])from rfl]at this
 rw[this];rfl
def Fh(t:Int)(p:Int×Int):Bool:=decide (p.1=t) || decide (p.2=t)
theorem ixfm_gen(t:Int):∀(n:Nat) (s:List (Int×Int)) (u u2:Int),ixfm_l1 N n s u u2 t=(ixL (fun p=>some (!(Fh t p))) n s u u2).bind fun e=>match e with | .inl i=>some (.inl (i,t)) | .inr _=>some (.inr t)
 | 0,_,_,_=>rfl
 | n+1,s,u,u2=>by
  unfold ixfm_l1 ixL
  by_cases c:u2<u
  ·rw[A4 c,A4 c]
   unfold idx
   by_cases c0:0≤u2
   ·rw[if_pos c0,if_pos c0]
    cases hx:s[u2.toNat]? with
    | none=>rfl
    | some p=>
     have e1:M0 N p.1 p.2 t=some (!(Fh t p),t):=by
      unfold M0 Yk Fh
      by_cases c1:p.1=t
      ·rw[A4 c1];simp[c1]
      ·rw[A3 c1];simp[c1]
     dsimp only
     rw[e1]
     simp only[Option.bind_some]
     cases Fh t p with
     | false=>rfl
     | true=>
      simp only[Bool.not_true,A6]
      unfold chk
      cases okI (u2+1)with
      | false=>rfl
      | true=>exact ixfm_gen t n s u (u2+1)
   ·rw[if_neg c0,if_neg c0];rfl
  ·rw[A3 c,A3 c];rfl
theorem Ajt{s:List (Int×Int)}{t:Int}(hs:s.length≤1000)(hN:s.length<N):Ox N s t=some (s.all (Fh t)):=by
 obtain⟨r,h1,h2⟩:=Xy (f:=fun p=>some (!(Fh t p))) (p:=fun p=>!(Fh t p)) (s:=s) (fun _ _=>rfl) (by omega) N 0 (by omega) (by omega)
 unfold Ox Aa1 ixfm_S
 rw[ixfm_gen]
 rw[show((0:Nat):Int)=0 from rfl]at h1
 rw[h1]
 rw[←Ft]
 cases r with
 | inl i=>simp only[List.drop_zero]at h2;simp[h2.1.1,h2.2]
 | inr u=>simp only[List.drop_zero]at h2;simp[h2]
def Gw(P:List (Int×Int))(k:Nat):List Int:=((List.range k).filter fun(t:Nat)=>P.all (Fh t)).map fun(x:Nat)=>(x:Int)
theorem S3(P:List (Int×Int))(k:Nat):(Gw P k).length≤k:=by
 unfold Gw
 have:=List.length_filter_le (fun(t:Nat)=>P.all (Fh t)) (List.range k)
 simp at this ⊢;omega
theorem W8(P:List (Int×Int))(k:Nat):Gw P (k+1)=Gw P k++(if P.all (Fh k)=true then [(k:Int)]else []):=by
 unfold Gw
 rw[List.range_succ,List.filter_append,List.map_append]
 by_cases hp:P.all (Fh k)=true<;>simp only[hp,List.filter_cons,List.filter_nil,if_true,if_false,List.map_cons,List.map_nil,Bool.false_eq_true]
theorem Yp{P:List (Int×Int)}{m:Nat}(hP:P.length≤1000)(hN:P.length<N)(hm:m≤1000):∀(n k:Nat),m<n+k→k≤m→musts_l1 N n P (m:Int) k (Gw P k)=some (Gw P m)
 | 0,k,h1,h2=>by omega
 | n+1,k,h1,h2=>by
  unfold musts_l1
  by_cases c:k<m
  ·rw[A4 (by omega),Ajt hP hN]
   simp only[Option.bind_some]
   have next:=Yp hP hN hm n (k+1) (by omega) (by omega)
   rw[show((k+1:Nat):Int)=(k:Int)+1 by omega,W8]at next
   have wl:=S3 P k
   by_cases d:P.all (Fh k)=true
   ·rw[if_pos d]at next
    rw[d,B1,Bd (by simp;omega)]
    unfold Ko
    rw[A5 (by omega)]
    exact next
   ·rw[if_neg d,List.append_nil]at next
    rw[Bool.not_eq_true]at d
    rw[d,A6]
    unfold Ko
    rw[A5 (by omega)]
    exact next
  ·have e:k=m:=by omega
   rw[A3 (by omega),e]
theorem Aly(hN:30≤N)(h:Fine T H f):M5 N T H f=some (if Ai (pE T H f) T.length 0 T.length=[]then([],6)else(Gw (Ai (pE T H f) T.length 0 T.length) T.length,0)):=by
 unfold M5
 have hT:=h.n
 have al:=D4 (pE T H f) T.length 0 T.length
 have:T.length*T.length≤5*5:=Nat.mul_le_mul (by omega) (by omega)
 rw[C8 (by omega),h.check]
 simp only[Option.bind_some,decide_true,Bool.not_true,A6]
 rw[A98 (by omega) h]
 simp only[Option.bind_some]
 by_cases c:Ai (pE T H f) T.length 0 T.length=[]
 ·rw[if_pos c,c];rfl
 ·have:(Ai (pE T H f) T.length 0 T.length).length≠0:=fun h=>c (List.eq_nil_of_length_eq_zero h)
  rw[if_neg c,A3 (by omega)]
  have:=Yp (N:=N) (P:=Ai (pE T H f) T.length 0 T.length) (m:=T.length) (by omega) (by omega) (by omega) N 0 (by omega) (by omega)
  rw[show Gw (Ai (pE T H f) T.length 0 T.length) 0=[]from rfl,show((0:Nat):Int)=0 from rfl]at this
  rw[this];rfl

end
end Go.Proofs.YtfcnhnbnjdccfaaGreat

namespace Go.Proofs.YtfcnhnbnjdccfaaGreat
set_option linter.all false
open Go

section
variable {N:Nat} {T:List (List Int)} {H:List Int} {f:Int}
theorem Wl(hT:T.length≤1000):∀(n k:Nat),T.length<n+k→k≤T.length→∃r,great_l1 N n T (T.length:Int) k=some r∧((∃u,r=.inr u)→∀x∈T.drop k,x.length≤9)
 | 0,k,h,_=>by omega
 | n+1,k,h,hk=>by
  unfold great_l1
  by_cases c:k<T.length
  ·have hd:T.drop k=T.getD k []::T.drop (k+1):=by
    rw[List.drop_eq_getElem_cons c];simp[List.getD,c]
   rw[A4 (by omega),Ab [] (by omega) (by omega)]
   simp only[Int.toNat_natCast]
   by_cases d:9<((T.getD k []).length:Int)
   ·rw[A4 d];exact⟨_,rfl,fun⟨u,hu⟩=>by cases hu⟩
   ·rw[A3 d,A5 (by omega)]
    obtain⟨r,e,hr⟩:=Wl hT n (k+1) (by omega) (by omega)
    rw[show((k+1:Nat):Int)=(k:Int)+1 by omega]at e
    refine⟨r,e,fun hu x hx=>?_⟩
    rw[hd]at hx
    rcases List.mem_cons.1 hx with rfl | hx
    ·omega
    ·exact hr hu x hx
  ·rw[A3 (by omega)]
   refine⟨_,rfl,fun _ x hx=>?_⟩
   rw[List.drop_of_length_le (by omega)]at hx;cases hx
structure Small (T:List (List Int)) (H:List Int):Prop where
 n:T.length≤8
 h:H.length≤14
 l:∀x∈T,x.length≤9
theorem Q3(hN:20≤N)(T:List (List Int))(H:List Int)(f:Int):great_S N T H f=some true∨great_S N T H f=some false∧Small T H:=by
 unfold great_S
 by_cases c:8<(T.length:Int)
 ·rw[A4 c];exact .inl rfl
 ·rw[A3 c]
  by_cases d:14<(H.length:Int)
  ·rw[A4 d];exact .inl rfl
  ·rw[A3 d]
   obtain⟨r,e,hr⟩:=Wl (N:=N) (T:=T) (by omega) N 0 (by omega) (by omega)
   rw[show((0:Nat):Int)=0 from rfl]at e
   rw[e]
   simp only[Option.bind_some]
   cases r with
   | inl _=>exact .inl rfl
   | inr u=>exact .inr ⟨rfl,by omega,by omega,by simpa using hr ⟨u,rfl⟩⟩
theorem Ane{l:List (Int×Int)}(h:l.length≤1000000):Vr N l=some l:=by
 unfold Vr
 rw[I0 (Jr.2 (by omega))]
 simp
theorem V9{l:List (Int×Int)}(hl:l.length≤1000):∀(n k:Nat),l.length<n+k→k≤l.length→places_l1 N n l (l.length:Int) k (l.take k)=some l
 | 0,k,h,_=>by omega
 | n+1,k,h,hk=>by
  unfold places_l1
  by_cases c:k<l.length
  ·have e:l.take (k+1)=l.take k++[l.getD k (0,0)]:=by rw[List.take_add_one];simp[List.getD,c]
   rw[A4 (by omega),Ab (0,0) (by omega) (by omega)]
   simp only[Int.toNat_natCast]
   rw[Bd (by simp;omega),A5 (by omega)]
   have:=V9 hl n (k+1) (by omega) (by omega)
   rw[show((k+1:Nat):Int)=(k:Int)+1 by omega,e]at this
   exact this
  ·rw[A3 (by omega),List.take_of_length_le (by omega)]
theorem A7x{l:List (Int×Int)}(hl:l.length≤1000)(hN:l.length<N):Lg N l=some l:=by
 unfold Lg
 have:=V9 (N:=N) hl N 0 (by omega) (by omega)
 rw[List.take_zero,show((0:Nat):Int)=0 from rfl]at this
 rw[this];rfl
theorem Tz{s:List Int}(hs:s.length≤1000):∀(n k:Nat),s.length<n+k→k≤s.length→equali_l1 N n s s (s.length:Int) k=some (.inr ())
 | 0,k,h,_=>by omega
 | n+1,k,h,hk=>by
  unfold equali_l1
  by_cases c:k<s.length
  ·rw[A4 (by omega),Ab 0 (by omega) (by omega),Ab 0 (by omega) (by omega),Bk rfl,A5 (by omega)]
   have:=Tz hs n (k+1) (by omega) (by omega)
   rw[show((k+1:Nat):Int)=(k:Int)+1 by omega]at this
   exact this
  ·rw[A3 (by omega)]
theorem A8s{s:List Int}(hs:s.length≤1000)(hN:s.length<N):Kc N s s=some true:=by
 unfold Kc
 have:=Tz (N:=N) hs N 0 (by omega) (by omega)
 rw[show((0:Nat):Int)=0 from rfl]at this
 rw[Bk rfl,this];rfl
theorem O2{s:List Int}(hs:s.length≤1000)(hN:s.length<N):Ji N s s=some true:=by
 unfold Ji
 rw[A8s hs hN];rfl
theorem Va{s:List (Int×Int)}(hs:s.length≤1000):∀(n k:Nat),s.length<n+k→k≤s.length→equalq_l1 N n s s (s.length:Int) k=some (.inr ())
 | 0,k,h,_=>by omega
 | n+1,k,h,hk=>by
  unfold equalq_l1
  by_cases c:k<s.length
  ·rw[A4 (by omega),Ab (0,0) (by omega) (by omega),Ab (0,0) (by omega) (by omega)]
   simp only[decide_true,Bool.and_self,Bool.not_true,A6]
   rw[A5 (by omega)]
   have:=Va hs n (k+1) (by omega) (by omega)
   rw[show((k+1:Nat):Int)=(k:Int)+1 by omega]at this
   exact this
  ·rw[A3 (by omega)]
theorem Am1{s:List (Int×Int)}(hs:s.length≤1000)(hN:s.length<N):W1 N s s=some true:=by
 unfold W1 Z3
 have:=Va (N:=N) hs N 0 (by omega) (by omega)
 rw[show((0:Nat):Int)=0 from rfl]at this
 rw[Bk rfl,this];rfl
theorem Lu(hT:T.length≤1000)(hl:∀x∈T,x.length≤1000∧x.length<N):∀(n k:Nat),T.length<n+k→k≤T.length→equalf_l1 N n T T (T.length:Int) k=some (.inr ())
 | 0,k,h,_=>by omega
 | n+1,k,h,hk=>by
  unfold equalf_l1
  by_cases c:k<T.length
  ·have l1:=hl (T.getD k []) (Aa c)
   rw[A4 (by omega),Ab [] (by omega) (by omega),Ab [] (by omega) (by omega)]
   simp only[Int.toNat_natCast]
   rw[A8s l1.1 l1.2]
   simp only[Option.bind_some,Bool.not_true,A6]
   rw[A5 (by omega)]
   have:=Lu hT hl n (k+1) (by omega) (by omega)
   rw[show((k+1:Nat):Int)=(k:Int)+1 by omega]at this
   exact this
  ·rw[A3 (by omega)]
theorem Ky(hN:20≤N)(h:Small T H)(f:Int):Hy N T H f T H f=some true:=by
 have hT:=h.n
 have hH:=h.h
 unfold Hy Mm Q0
 have:=Lu (N:=N) (T:=T) (by omega) (fun x hx=>by have:=h.l x hx;omega) N 0 (by omega) (by omega)
 rw[show((0:Nat):Int)=0 from rfl]at this
 rw[Bk rfl,this]
 simp only[Option.bind_some,B1]
 rw[O2 (by omega) (by omega)]
 simp only[Option.bind_some,B1,decide_true]
theorem F8(hN:1010≤N)(h:Small T H)(f:Int):C9 N T H f=some (T,H,f):=
 Amq (by have:=h.n;have:=h.h;omega) (fun x hx=>by have:=h.l x hx;omega) hN

theorem Tc(n lo hi:Int):Lo N n lo hi=some (!decide (lo≤n∧n≤hi)):=by
 unfold Lo
 by_cases c:n<lo
 ·rw[A4 c,decide_eq_false (by omega)];rfl
 ·rw[A3 c]
  congr 1
  rw[Bool.eq_iff_iff]
  simp only[decide_eq_true_eq,Bool.not_eq_true',decide_eq_false_iff_not]
  omega
theorem Ua(hT:T.length≤1000):∀(n k:Nat),T.length<n+k→k≤T.length→rcheck_l1 N n k T H f=some (if(T.drop k).all okL then .inr (T,H,f)else .inl ())
 | 0,k,h,_=>by omega
 | n+1,k,h,hk=>by
  unfold rcheck_l1
  by_cases c:k<T.length
  ·have hd:T.drop k=T.getD k []::T.drop (k+1):=by
    rw[List.drop_eq_getElem_cons c];simp[List.getD,c]
   have hk':T[((k:Nat):Int).toNat]?=some (T.getD k []):=by simp[List.getD,c]
   generalize T.getD k []=x at *
   rw[A4 (by omega),idx_eq (by omega) hk',Tc,hd,List.all_cons]
   simp only[Option.bind_some]
   have ex:okL x=decide (1≤(x.length:Int)∧(x.length:Int)≤6):=rfl
   rw[←ex]
   cases okL x with
   | false=>rfl
   | true=>
    simp only[Bool.not_true,A6,Bool.true_and]
    rw[A5 (by omega)]
    have:=Ua hT n (k+1) (by omega) (by omega)
    rw[show((k+1:Nat):Int)=(k:Int)+1 by omega]at this
    exact this
  ·rw[A3 (by omega),List.drop_of_length_le (by omega)];rfl
theorem Tx{t:Nat}{x:List Int}(ht:T[t]?=some x)(hx:x.length≤1000):∀(n k:Nat),x.length<n+k→k≤x.length→rcheck_l3 N n t k T H f=some (if(x.drop k).all okW then .inr ((t:Int),T,H,f)else .inl ())
 | 0,k,h,_=>by omega
 | n+1,k,h,hk=>by
  unfold rcheck_l3
  have ht':T[((t:Nat):Int).toNat]?=some x:=by simpa using ht
  rw[idx_eq (by omega) ht']
  by_cases c:k<x.length
  ·have hd:x.drop k=x.getD k 0::x.drop (k+1):=drop_cons c
   have hk':x[((k:Nat):Int).toNat]?=some (x.getD k 0):=by simp[List.getD,c]
   generalize x.getD k 0=y at *
   rw[A4 (by omega),idx_eq (by omega) ht',idx_eq (by omega) hk',Tc,hd,List.all_cons]
   simp only[Option.bind_some]
   have ex:okW y=decide (0≤y∧y≤9):=rfl
   rw[←ex]
   cases okW y with
   | false=>rfl
   | true=>
    simp only[Bool.not_true,A6,Bool.true_and]
    rw[A5 (by omega)]
    have:=Tx ht hx n (k+1) (by omega) (by omega)
    rw[show((k+1:Nat):Int)=(k:Int)+1 by omega]at this
    exact this
  ·rw[A3 (by omega),List.drop_of_length_le (by omega)];rfl
theorem Uh(hT:T.length≤1000)(hl:∀x∈T,x.length≤1000∧x.length<N):∀(n k:Nat),T.length<n+k→k≤T.length→rcheck_l2 N n k T H f=some (if(T.drop k).all (fun x=>x.all okW)then .inr (T,H,f)else .inl ())
 | 0,k,h,_=>by omega
 | n+1,k,h,hk=>by
  unfold rcheck_l2
  by_cases c:k<T.length
  ·have l1:=hl (T.getD k []) (Aa c)
   have hd:T.drop k=T.getD k []::T.drop (k+1):=by
    rw[List.drop_eq_getElem_cons c];simp[List.getD,c]
   have hk':T[k]?=some (T.getD k []):=by simp[List.getD,c]
   generalize T.getD k []=x at *
   have e3:=Tx (N:=N) (H:=H) (f:=f) hk' l1.1 N 0 (by omega) (by omega)
   rw[show((0:Nat):Int)=0 from rfl,List.drop_zero]at e3
   rw[A4 (by omega),e3,hd,List.all_cons]
   simp only[Option.bind_some]
   cases x.all okW with
   | false=>rfl
   | true=>
    simp only[Bool.true_and,if_true]
    rw[A5 (by omega)]
    have:=Uh hT hl n (k+1) (by omega) (by omega)
    rw[show((k+1:Nat):Int)=(k:Int)+1 by omega]at this
    exact this
  ·rw[A3 (by omega),List.drop_of_length_le (by omega)];rfl
theorem U2(hH:H.length≤1000):∀(n k:Nat),H.length<n+k→k≤H.length→J0 N n k T H f=some (if(H.drop k).all okW then .inr (T,H,f)else .inl ())
 | 0,k,h,_=>by omega
 | n+1,k,h,hk=>by
  unfold J0
  by_cases c:k<H.length
  ·have hd:H.drop k=H.getD k 0::H.drop (k+1):=drop_cons c
   have hk':H[((k:Nat):Int).toNat]?=some (H.getD k 0):=by simp[List.getD,c]
   generalize H.getD k 0=y at *
   rw[A4 (by omega),idx_eq (by omega) hk',Tc,hd,List.all_cons]
   simp only[Option.bind_some]
   have ex:okW y=decide (0≤y∧y≤9):=rfl
   rw[←ex]
   cases okW y with
   | false=>rfl
   | true=>
    simp only[Bool.not_true,A6,Bool.true_and]
    rw[A5 (by omega)]
    have:=U2 hH n (k+1) (by omega) (by omega)
    rw[show((k+1:Nat):Int)=(k:Int)+1 by omega]at this
    exact this
  ·rw[A3 (by omega),List.drop_of_length_le (by omega)];rfl
theorem Ev(hN:20≤N)(h:Small T H):rcheck_S N T H f=some (B9 T H f):=by
 have hT:=h.n
 have hH:=h.h
 unfold rcheck_S B9
 rw[Tc]
 simp only[Option.bind_some]
 by_cases c1:1≤T.length∧T.length≤5
 ·rw[if_neg (by simpa using c1),show decide ((1:Int)≤(T.length:Int)∧(T.length:Int)≤5)=true by simp;omega]
  simp only[Bool.not_true,A6]
  by_cases c2:10<H.length
  ·rw[if_pos c2,A4 (by omega)]
  ·rw[if_neg c2,A3 (by omega)]
   have e1:=Ua (N:=N) (T:=T) (H:=H) (f:=f) (by omega) N 0 (by omega) (by omega)
   have e2:=Uh (N:=N) (T:=T) (H:=H) (f:=f) (by omega) (fun x hx=>by have:=h.l x hx;omega) N 0 (by omega) (by omega)
   have e4:=U2 (N:=N) (T:=T) (H:=H) (f:=f) (by omega) N 0 (by omega) (by omega)
   rw[show((0:Nat):Int)=0 from rfl,List.drop_zero]at e1 e2 e4
   rw[e1]
   cases T.all okL with
   | false=>rfl
   | true=>
    simp only[Option.bind_some,if_true,not_true_eq_false,if_false]
    rw[e2]
    cases T.all fun x=>x.all okW with
    | false=>rfl
    | true=>
     simp only[Option.bind_some,if_true,not_true_eq_false,if_false]
     rw[e4]
     cases H.all okW with
     | false=>rfl
     | true=>
      simp only[Option.bind_some,if_true,not_true_eq_false,if_false]
      rw[Tc]
      simp only[Option.bind_some]
      by_cases c5:0≤f∧f≤8
      ·rw[decide_eq_true c5];simp[c5,br]
      ·rw[decide_eq_false c5];simp only[Bool.not_false,B1];rw[if_pos c5]
 ·rw[if_pos (by simpa using c1),show decide ((1:Int)≤(T.length:Int)∧(T.length:Int)≤5)=false by simp;omega]
  rfl
theorem Jg(hN:20≤N)(h:Small T H)(a b:Int):Jj N T H f a b=some (Ao T H f a b):=by
 unfold Jj Ao
 have hT:=h.n
 rw[Ev hN h]
 simp only[Option.bind_some]
 by_cases c:B9 T H f=0
 ·rw[Bk c,if_neg (by simpa using c),A5 (by omega),Tc]
  simp only[Option.bind_some]
  by_cases ha:0≤a∧a<T.length
  ·rw[show decide (0≤a∧a≤(T.length:Int)-1)=true by simp;omega]
   simp only[Bool.not_true,A6]
   rw[A5 (by omega),Tc]
   simp only[Option.bind_some]
   by_cases hb:0≤b∧b<T.length
   ·rw[show decide (0≤b∧b≤(T.length:Int)-1)=true by simp;omega,if_neg (by simp;omega)];rfl
   ·rw[show decide (0≤b∧b≤(T.length:Int)-1)=false by simp;omega,if_pos (.inr hb)];rfl
  ·rw[show decide (0≤a∧a≤(T.length:Int)-1)=false by simp;omega,if_pos (.inl ha)];rfl
 ·rw[Al c,if_pos c]

def Ca(A B:List Int)(w:Int)(x:At3)(q:Int×Int):Option At3:=
 if q.1=1 then(if(x.2.1:Int)≤q.2∧q.2<A.length∧A.getD q.2.toNat 0=w then some (x.1+1,q.2.toNat+1,x.2.2)else none)
 else if q.1=2 then(if(x.2.2:Int)≤q.2∧q.2<B.length∧B.getD q.2.toNat 0=w then some (x.1+1,x.2.1,q.2.toNat+1)else none)
 else if q.1=3∧q.2=0 then some (x.1+1,x.2.1,x.2.2)else none
theorem Dw{A B:List Int}{w:Int}{x:At3}{m:Mv}:m∈Ac A B w x↔Ca A B w x m.1=some m.2:=by
 obtain⟨⟨s,p⟩,y⟩:=m
 simp only[Ac,List.mem_cons,List.mem_append,List.mem_map,Ca]
 constructor
 ·rintro (h | ⟨j,hj,h⟩ | ⟨j,hj,h⟩)
  ·simp only[Prod.mk.injEq]at h
   obtain⟨⟨rfl,rfl⟩,rfl⟩:=h
   simp
  ·simp only[Prod.mk.injEq]at h
   obtain⟨⟨rfl,rfl⟩,rfl⟩:=h
   obtain⟨h1,h2,h3⟩:=Am.1 hj
   rw[if_pos rfl,if_pos ⟨by omega,by omega,by simpa using h3⟩];simp
  ·simp only[Prod.mk.injEq]at h
   obtain⟨⟨rfl,rfl⟩,rfl⟩:=h
   obtain⟨h1,h2,h3⟩:=Am.1 hj
   rw[if_neg (by decide),if_pos rfl,if_pos ⟨by omega,by omega,by simpa using h3⟩];simp
 ·intro h
  by_cases c1:s=1
  ·rw[if_pos c1]at h
   split at h
   ·rename_i hc
    simp only[Option.some.injEq]at h
    refine .inr (.inl ⟨p.toNat,Am.2 ⟨by omega,by omega,hc.2.2⟩,?_⟩)
    rw[←h,c1,show((p.toNat:Nat):Int)=p by omega]
   ·cases h
  ·rw[if_neg c1]at h
   by_cases c2:s=2
   ·rw[if_pos c2]at h
    split at h
    ·rename_i hc
     simp only[Option.some.injEq]at h
     refine .inr (.inr ⟨p.toNat,Am.2 ⟨by omega,by omega,hc.2.2⟩,?_⟩)
     rw[←h,c2,show((p.toNat:Nat):Int)=p by omega]
    ·cases h
   ·rw[if_neg c2]at h
    split at h
    ·rename_i hc
     simp only[Option.some.injEq]at h
     exact .inl (by rw[←h,hc.1,hc.2])
    ·cases h
def fitL(H A B:List Int):List (Int×Int)→At3→Bool
 | [],_=>true
 | q::r,x=>match Ca A B (H.getD x.1 0) x q with
  | none=>false
  | some y=>fitL H A B r y
def toldN:List (Int×Int)→Int
 | []=>0
 | q::r=>(if q.1=3 then 0 else 1)+toldN r
theorem Fx:∀l:List (Int×Int),0≤toldN l∧toldN l≤l.length
 | []=>by simp[toldN]
 | q::r=>by
  have:=Fx r
  unfold toldN
  simp only[List.length_cons]
  split<;>omega
theorem A77{A B:List Int}{w:Int}{x y:At3}{q:Int×Int}(h:Ca A B w x q=some y)(ha:x.2.1≤A.length)(hb:x.2.2≤B.length):y.1=x.1+1∧y.2.1≤A.length∧y.2.2≤B.length:=
 Dv ha hb (Dw.2 (show Ca A B w x ((q,y):Mv).1=some y from h))
theorem Aeb{h i k:Nat}{T:List (List Int)}{H A B:List Int}{f:Int}(hh:h<H.length)(hH:H.length≤10)(hA:A.length≤6)(hB:B.length≤6)(hi:i≤A.length)(hk:k≤B.length):D3 ((h:Int),(i:Int),(k:Int)) (T,H,f,A,B)=some ((Ac A B (H.getD h 0) (h,i,k)).map movP):=by
 unfold D3
 rw[if_pos ⟨⟨by simp,by simp;omega⟩,⟨by simp,by simp;omega⟩,⟨by simp,by simp;omega⟩,by dsimp only;omega,by dsimp only;omega,by dsimp only;omega⟩]
 simp
theorem Tj{u u2 words u4 u5:Int}{d:Desk}{u3:List (Int×Int)}{u6:Int×Int×Int}{u7:Desk}{x x2 x3:Int}{q:Int×Int}:∀(ms:List Mv),
  Bx N (ms.map movP) u u2 d words u3 u4 u5 u6 u7 x x2 x3 q.1 q.2 false=some (match ms.find? (fun m=>m.1==q)with
   | some m=>(u,u2,d,words,u3,u4,u5,(m.2.1:Int),(m.2.2.1:Int),(m.2.2.2:Int),q.1,q.2,true)
   | none=>(u,u2,d,words,u3,u4,u5,x,x2,x3,q.1,q.2,false))
 | []=>rfl
 | m::ms=>by
  obtain⟨⟨m1,m2⟩,y1,y2,y3⟩:=m
  obtain⟨q1,q2⟩:=q
  rw[List.map_cons,List.find?_cons]
  have next:=Tj (u:=u) (u2:=u2) (words:=words) (u4:=u4) (u5:=u5) (d:=d) (u3:=u3) (u6:=u6) (u7:=u7) (x:=x) (x2:=x2) (x3:=x3) (q:=(q1,q2)) ms
  show br (decide (m1=q1)&&decide (m2=q2)) (some (u,u2,d,words,u3,u4,u5,(y1:Int),(y2:Int),(y3:Int),q1,q2,true)) (Bx N (ms.map movP) u u2 d words u3 u4 u5 u6 u7 x x2 x3 q1 q2 false)=_
  have e:(((m1,m2):Int×Int)==(q1,q2))=(decide (m1=q1)&&decide (m2=q2)):=by
   rw[Bool.eq_iff_iff];simp
  rw[e]
  cases decide (m1=q1)&&decide (m2=q2)with
  | true=>rfl
  | false=>
   rw[A6]
   exact next
theorem A6r{A B:List Int}{w:Int}{x:At3}(q:Int×Int):(Ac A B w x).find? (fun m=>m.1==q)=(Ca A B w x q).map fun y=>(q,y):=by
 cases h:Ca A B w x q with
 | none=>
  rw[Option.map_none,List.find?_eq_none]
  intro m hm he
  have:=Dw.1 hm
  rw[beq_iff_eq.1 he,h]at this
  cases this
 | some y=>
  rw[Option.map_some]
  cases h2:(Ac A B w x).find? (fun m=>m.1==q)with
  | none=>
   have:=List.find?_eq_none.1 h2 (q,y) (Dw.2 h)
   simp at this
  | some m=>
   have h3:=List.find?_some h2
   have h4:=Dw.1 (List.mem_of_find?_eq_some h2)
   rw[beq_iff_eq.1 h3,h]at h4
   simp only[Option.some.injEq]at h4
   rw[h4,←beq_iff_eq.1 h3]
theorem U0{A B:List Int}{l:List (Int×Int)}(hH:H.length≤10)(hA:A.length≤6)(hB:B.length≤6)(hl:l.length=H.length):∀(n:Nat) (x:At3) (u u2 words:Int),l.length<n+x.1→x.1≤l.length→x.2.1≤A.length→x.2.2≤B.length→0≤words∧words≤x.1 →
  faults_l1 N n u u2 (T,H,f,A,B) words l (l.length:Int) x.1 x.1 x.2.1 x.2.2=some (if fitL H A B (l.drop x.1) x=true then .inr ((T,H,f,A,B),words+toldN (l.drop x.1))else .inl ())
 | 0,x,u,u2,words,h,_,_,_,_=>by omega
 | n+1,x,u,u2,words,h,hx,hi,hk,hw=>by
  unfold faults_l1
  obtain⟨h0,i,k⟩:=x
  dsimp only at *
  by_cases c:h0<l.length
  ·have hd:l.drop h0=l.getD h0 (0,0)::l.drop (h0+1):=by
    rw[List.drop_eq_getElem_cons c];simp[List.getD,c]
   have hk':l[((h0:Nat):Int).toNat]?=some (l.getD h0 (0,0)):=by simp[List.getD,c]
   generalize l.getD h0 (0,0)=q at *
   rw[A4 (by omega),idx_eq (by omega) hk']
   simp only[Gk,Option.bind_some]
   rw[Aeb (by omega) hH hA hB hi hk]
   simp only[Option.bind_some]
   rw[Tj,A6r,hd]
   unfold fitL toldN
   dsimp only
   cases hs:Ca A B (H.getD h0 0) (h0,i,k) q with
   | none=>
    simp only[Option.map_none,Option.bind_some,Bool.not_false,B1,Bool.false_eq_true,if_false]
   | some y=>
    obtain⟨y1,y2,y3⟩:=A77 hs hi hk
    simp only[Option.map_some,Option.bind_some,Bool.not_true,A6]
    dsimp only at y1
    have next:=fun w hw=>U0 (A:=A) (B:=B) hH hA hB hl n y u u2 w (by omega) (by omega) y2 y3 hw
    by_cases c3:q.1=3
    ·rw[Bk c3,if_pos c3]
     unfold Io
     rw[A5 (by omega)]
     have:=next words (by omega)
     rw[y1,show((h0+1:Nat):Int)=(h0:Int)+1 by omega]at this
     rw[y1,show((h0+1:Nat):Int)=(h0:Int)+1 by omega,this]
     simp
    ·have tb:=Fx (l.drop (h0+1))
     rw[Al c3,if_neg c3,A5 (by omega)]
     unfold Io
     rw[A5 (by omega)]
     have:=next (words+1) (by omega)
     rw[y1,show((h0+1:Nat):Int)=(h0:Int)+1 by omega]at this
     rw[y1,show((h0+1:Nat):Int)=(h0:Int)+1 by omega,this]
     rw[Int.add_assoc]
  ·rw[A3 (by omega),List.drop_of_length_le (by omega)]
   simp[fitL,toldN]
theorem Akr(hN:20≤N)(T:List (List Int))(H:List Int)(f a b:Int)(l:List (Int×Int))(hl:l.length≤1000):faults_S N T H f a b l=some (if Ao T H f a b≠0 then(0,Ao T H f a b)else if l.length≠H.length then(0,2)
  else if fitL H (T.getD a.toNat []) (T.getD b.toNat []) l (0,0,0)=true then(((T.getD a.toNat []).length:Int)+(T.getD b.toNat []).length+H.length-2*toldN l,0)else(0,8)):=by
 unfold faults_S
 by_cases c:Ao T H f a b=0
 ·rw[if_neg (by simpa using c)]
  obtain⟨hF,ha,hb,e⟩:=Ap hN c
  have hH:=hF.h
  have lA:=hF.l (T.getD a.toNat []) (Aa (by omega))
  have lB:=hF.l (T.getD b.toNat []) (Aa (by omega))
  rw[e]
  simp only[Option.bind_some,decide_true,Bool.not_true,A6]
  by_cases d:l.length=H.length
  ·rw[if_neg (by simpa using d),Bk (by omega)]
   have:=U0 (N:=N) (T:=T) (H:=H) (f:=f) (A:=T.getD a.toNat []) (B:=T.getD b.toNat []) (l:=l) hH lA.2 lB.2 d N (0,0,0) 0 0 0 (by dsimp only;omega) (by dsimp only;omega) (by dsimp only;omega) (by dsimp only;omega) (by dsimp only;omega)
   dsimp only at this
   rw[show((0:Nat):Int)=0 from rfl,List.drop_zero]at this
   rw[this]
   have tb:=Fx l
   by_cases g:fitL H (T.getD a.toNat []) (T.getD b.toNat []) l (0,0,0)=true
   ·rw[if_pos g,if_pos g]
    simp only[Option.bind_some]
    rw[Sx hH lA.2 lB.2 (by omega)]
    simp
   ·rw[if_neg g,if_neg g];rfl
  ·rw[if_pos d,Al (by omega)]
 ·rw[if_pos c,Bu hN c]
  simp only[Option.bind_some]
  rw[Al c]
theorem A0p{A B:List Int}{l:List (Int×Int)}{a b:Int}(ha:0≤a)(hb:0≤b)(hTa:T[a.toNat]?=some A)(hTb:T[b.toNat]?=some B)(hA:A.length≤1000)(hB:B.length≤1000)(hl:l.length≤H.length)(hH:H.length≤1000):∀(n:Nat) (x:At3),l.length<n+x.1→x.1≤l.length→x.2.1≤A.length→x.2.2≤B.length →
  ∃r,fits_l1 N n l ((x.2.1:Int)-1) ((x.2.2:Int)-1) x.1 T H f a b=some r∧(fitL H A B (l.drop x.1) x=true∧r=.inr (.inr (.inr ()))∨fitL H A B (l.drop x.1) x=false∧r≠.inr (.inr (.inr ())))
 | 0,x,h,_,_,_=>by omega
 | n+1,x,h,hx,hi,hk=>by
  unfold fits_l1
  obtain⟨h0,i,k⟩:=x
  dsimp only at *
  by_cases c:h0<l.length
  ·have hd:l.drop h0=l.getD h0 (0,0)::l.drop (h0+1):=by
    rw[List.drop_eq_getElem_cons c];simp[List.getD,c]
   have hk':l[((h0:Nat):Int).toNat]?=some (l.getD h0 (0,0)):=by simp[List.getD,c]
   have hw:H[((h0:Nat):Int).toNat]?=some (H.getD h0 0):=by
    have:h0<H.length:=by omega
    simp[List.getD,this]
   generalize l.getD h0 (0,0)=q at *
   obtain⟨s,p⟩:=q
   have next:=fun(y:At3) (hy:y.1=h0+1) (h1:y.2.1≤A.length) (h2:y.2.2≤B.length)=>A0p ha hb hTa hTb hA hB hl hH n y (by omega) (by omega) h1 h2
   rw[hd]
   unfold fitL
   dsimp only
   rw[A4 (by omega),idx_eq (by omega) hk']
   by_cases c1:s=1
   ·rw[A4 c1,idx_eq (by omega) hk']
    have st:Ca A B (H.getD h0 0) (h0,i,k) (s,p)=if(i:Int)≤p∧p<A.length∧A.getD p.toNat 0=H.getD h0 0 then some (h0+1,p.toNat+1,k)else none:=by unfold Ca;exact if_pos c1
    rw[st]
    by_cases c2:p≤(i:Int)-1
    ·rw[A4 c2,if_neg (by omega)];exact⟨_,rfl,.inr ⟨rfl,by simp⟩⟩
    ·rw[A3 c2,idx_eq (by omega) hk',idx_eq ha hTa]
     by_cases c3:(A.length:Int)≤p
     ·rw[A4 c3,if_neg (by omega)];exact⟨_,rfl,.inr ⟨rfl,by simp⟩⟩
     ·have hAp:A[p.toNat]?=some (A.getD p.toNat 0):=by
       have:p.toNat<A.length:=by omega
       simp[List.getD,this]
      rw[A3 c3,idx_eq ha hTa,idx_eq (by omega) hk',idx_eq (show 0≤((s,p):Int×Int).2 by dsimp only;omega) hAp,idx_eq (by omega) hw]
      by_cases c4:A.getD p.toNat 0=H.getD h0 0
      ·rw[Bk c4,if_pos ⟨by omega,by omega,c4⟩,idx_eq (by omega) hk']
       unfold Je
       rw[A5 (by omega)]
       obtain⟨r,e,hr⟩:=next (h0+1,p.toNat+1,k) rfl (by dsimp only;omega) hk
       dsimp only at e hr ⊢
       rw[show((p.toNat+1:Nat):Int)-1=p by omega,show((h0+1:Nat):Int)=(h0:Int)+1 by omega]at e
       exact⟨r,e,hr⟩
      ·rw[Al c4,if_neg (fun h=>c4 h.2.2)];exact⟨_,rfl,.inr ⟨rfl,by simp⟩⟩
   ·rw[A3 c1,idx_eq (by omega) hk']
    by_cases c5:s=2
    ·rw[A4 c5,idx_eq (by omega) hk']
     have st:Ca A B (H.getD h0 0) (h0,i,k) (s,p)=if(k:Int)≤p∧p<B.length∧B.getD p.toNat 0=H.getD h0 0 then some (h0+1,i,p.toNat+1)else none:=by unfold Ca;rw[if_neg c1];exact if_pos c5
     rw[st]
     by_cases c2:p≤(k:Int)-1
     ·rw[A4 c2,if_neg (by omega)];exact⟨_,rfl,.inr ⟨rfl,by simp⟩⟩
     ·rw[A3 c2,idx_eq (by omega) hk',idx_eq hb hTb]
      by_cases c3:(B.length:Int)≤p
      ·rw[A4 c3,if_neg (by omega)];exact⟨_,rfl,.inr ⟨rfl,by simp⟩⟩
      ·have hBp:B[p.toNat]?=some (B.getD p.toNat 0):=by
        have:p.toNat<B.length:=by omega
        simp[List.getD,this]
       rw[A3 c3,idx_eq hb hTb,idx_eq (by omega) hk',idx_eq (show 0≤((s,p):Int×Int).2 by dsimp only;omega) hBp,idx_eq (by omega) hw]
       by_cases c4:B.getD p.toNat 0=H.getD h0 0
       ·rw[Bk c4,if_pos ⟨by omega,by omega,c4⟩,idx_eq (by omega) hk']
        unfold Je
        rw[A5 (by omega)]
        obtain⟨r,e,hr⟩:=next (h0+1,i,p.toNat+1) rfl hi (by dsimp only;omega)
        dsimp only at e hr ⊢
        rw[show((p.toNat+1:Nat):Int)-1=p by omega,show((h0+1:Nat):Int)=(h0:Int)+1 by omega]at e
        exact⟨r,e,hr⟩
       ·rw[Al c4,if_neg (fun h=>c4 h.2.2)];exact⟨_,rfl,.inr ⟨rfl,by simp⟩⟩
    ·rw[A3 c5,idx_eq (by omega) hk']
     have st:Ca A B (H.getD h0 0) (h0,i,k) (s,p)=if s=3∧p=0 then some (h0+1,i,k)else none:=by unfold Ca;rw[if_neg c1,if_neg c5]
     rw[st]
     by_cases c6:s=3
     ·rw[Bk c6,idx_eq (by omega) hk']
      by_cases c7:p=0
      ·rw[Bk c7,if_pos ⟨c6,c7⟩]
       unfold Je
       rw[A5 (by omega)]
       obtain⟨r,e,hr⟩:=next (h0+1,i,k) rfl hi hk
       dsimp only at e hr ⊢
       rw[show((h0+1:Nat):Int)=(h0:Int)+1 by omega]at e
       exact⟨r,e,hr⟩
      ·rw[Al c7,if_neg (fun h=>c7 h.2)];exact⟨_,rfl,.inr ⟨rfl,by simp⟩⟩
     ·rw[Al c6,if_neg (fun h=>c6 h.1)];exact⟨_,rfl,.inr ⟨rfl,by simp⟩⟩
  ·rw[A3 (by omega),List.drop_of_length_le (by omega)]
   exact⟨_,rfl,.inl ⟨rfl,rfl⟩⟩
theorem Ahy{A B:List Int}{l:List (Int×Int)}{a b:Int}(ha:0≤a)(hb:0≤b)(hTa:T[a.toNat]?=some A)(hTb:T[b.toNat]?=some B)(hA:A.length≤1000)(hB:B.length≤1000)(hl:l.length≤H.length)(hH:H.length≤1000)(hN:l.length<N):We N T H f a b l=some (fitL H A B l (0,0,0)):=by
 obtain⟨r,e,hr⟩:=A0p (N:=N) (f:=f) ha hb hTa hTb hA hB hl hH N (0,0,0) (by dsimp only;omega) (by dsimp only;omega) (by dsimp only;omega) (by dsimp only;omega)
 unfold We
 dsimp only at e hr
 rw[show((0:Nat):Int)=0 from rfl,show(0:Int)-1=-1 from rfl]at e
 rw[List.drop_zero]at hr
 rw[e]
 rcases hr with⟨h1,rfl⟩ | ⟨h1,h2⟩
 ·rw[h1];rfl
 ·rw[h1]
  rcases r with r | r | r | r
  ·rfl
  ·rfl
  ·rfl
  ·exact absurd rfl h2
theorem K2{l:List (Int×Int)}(hl:l.length≤1000):∀(n k:Nat) (m:Int),l.length<n+k→k≤l.length→-10000≤m-l.length+k∧m+l.length-k≤10000→faulty_l1 N n l m k=some (m+(l.length-k)-2*toldN (l.drop k))
 | 0,k,m,h,_,_=>by omega
 | n+1,k,m,h,hk,hm=>by
  unfold faulty_l1
  by_cases c:k<l.length
  ·have hd:l.drop k=l.getD k (0,0)::l.drop (k+1):=by
    rw[List.drop_eq_getElem_cons c];simp[List.getD,c]
   have hk':l[((k:Nat):Int).toNat]?=some (l.getD k (0,0)):=by simp[List.getD,c]
   generalize l.getD k (0,0)=q at *
   rw[A4 (by omega),idx_eq (by omega) hk',hd]
   unfold toldN
   by_cases c3:q.1=3
   ·rw[A4 c3,if_pos c3,A5 (by omega)]
    unfold Iz
    rw[A5 (by omega)]
    have:=K2 hl n (k+1) (m+1) (by omega) (by omega) (by omega)
    rw[show((k+1:Nat):Int)=(k:Int)+1 by omega]at this
    rw[this];congr 1;omega
   ·rw[A3 c3,if_neg c3,A5 (by omega)]
    unfold Iz
    rw[A5 (by omega)]
    have:=K2 hl n (k+1) (m-1) (by omega) (by omega) (by omega)
    rw[show((k+1:Nat):Int)=(k:Int)+1 by omega]at this
    rw[this];congr 1;omega
  ·rw[A3 (by omega),List.drop_of_length_le (by omega)]
   simp[toldN];omega
theorem Xn{A B:List Int}{l:List (Int×Int)}{a b:Int}(ha:0≤a)(hb:0≤b)(hTa:T[a.toNat]?=some A)(hTb:T[b.toNat]?=some B)(hA:A.length≤1000)(hB:B.length≤1000)(hl:l.length≤1000)(hN:l.length<N):Iq N T H f a b l=some ((A.length:Int)+B.length+l.length-2*toldN l):=by
 unfold Iq
 rw[idx_eq ha hTa,idx_eq hb hTb,A5 (by omega)]
 have:=K2 (N:=N) hl N 0 ((A.length:Int)+B.length) (by omega) (by omega) (by omega)
 rw[show((0:Nat):Int)=0 from rfl,List.drop_zero]at this
 rw[this]
 simp
theorem A0r(hN:20≤N)(h:Small T H)(a b:Int)(l:List (Int×Int))(hl:l.length≤14):It N T H f a b l=some (if Ao T H f a b≠0 then(0,Ao T H f a b)else if l.length≠H.length then(0,2)
  else if fitL H (T.getD a.toNat []) (T.getD b.toNat []) l (0,0,0)=true then(((T.getD a.toNat []).length:Int)+(T.getD b.toNat []).length+H.length-2*toldN l,0)else(0,8)):=by
 unfold It
 rw[Jg hN h]
 simp only[Option.bind_some]
 by_cases c:Ao T H f a b=0
 ·rw[if_neg (by simpa using c),Bk c]
  obtain⟨hF,ha,hb,e⟩:=Ap hN c
  have hH:=hF.h
  have lA:=hF.l (T.getD a.toNat []) (Aa (by omega))
  have lB:=hF.l (T.getD b.toNat []) (Aa (by omega))
  have hTa:T[a.toNat]?=some (T.getD a.toNat []):=by
   have:a.toNat<T.length:=by omega
   simp[List.getD,this]
  have hTb:T[b.toNat]?=some (T.getD b.toNat []):=by
   have:b.toNat<T.length:=by omega
   simp[List.getD,this]
  by_cases d:l.length=H.length
  ·rw[if_neg (by simpa using d),Bk (by omega),Ahy ha.1 hb.1 hTa hTb (by omega) (by omega) (by omega) (by omega) (by omega)]
   simp only[Option.bind_some]
   cases g:fitL H (T.getD a.toNat []) (T.getD b.toNat []) l (0,0,0)with
   | true=>
    simp only[Bool.not_true,A6,if_true]
    rw[Xn ha.1 hb.1 hTa hTb (by omega) (by omega) (by omega) (by omega)]
    simp only[Option.bind_some]
    rw[d]
   | false=>rfl
  ·rw[if_pos d,Al (by omega)]
 ·rw[if_pos c,Al c]
theorem A4w{a b:Int}{l:List (Int×Int)}(h0:(Ty.pair (.sl (.sl (.int .i64))) (.pair (.sl (.int .i64)) (.int .i64))).inB (T,H,f))(h1:(Ty.pair (.int .i64) (.int .i64)).inB (a,b))(h2:(Ty.sl (.pair (.int .i64) (.int .i64))).inB l):Rx 1100 T H f a b l=some true:=by
 unfold Rx
 rcases Q3 (N:=1100) (by omega) T H f with e | ⟨e,hs⟩
 ·rw[e];simp only[Option.bind_some,B1,Dh]
 ·rw[e]
  simp only[Option.bind_some,A6]
  by_cases c:14<(l.length:Int)
  ·rw[A4 c];simp only[Dh,Option.bind_some]
  ·rw[A3 c,F8 (by omega) hs,Ane (by omega)]
   simp only[Option.bind_some]
   rw[Akr (by omega) T H f a b l (by omega),A7x (by omega) (by omega)]
   simp only[Option.bind_some]
   rw[A0r (by omega) hs a b l (by omega)]
   simp only[Option.bind_some,decide_true,B1]
   rw[Ky (by omega) hs,Am1 (by omega) (by omega),Dh]
   rfl
end
end Go.Proofs.YtfcnhnbnjdccfaaGreat

namespace Go.Proofs.YtfcnhnbnjdccfaaGreat
set_option linter.all false
open Go

section
variable {N:Nat} {T:List (List Int)} {H A B:List Int} {f:Int}
def runF(H A B:List Int):List (Int×Int)→At3→Option At3
 | [],x=>some x
 | q::r,x=>(Ca A B (H.getD x.1 0) x q).bind (runF H A B r)
theorem A5w:∀(l:List (Int×Int)) (x:At3),fitL H A B l x=(runF H A B l x).isSome
 | [],_=>rfl
 | q::r,x=>by
  unfold fitL runF
  cases Ca A B (H.getD x.1 0) x q with
  | none=>rfl
  | some y=>exact A5w r y
theorem A8t:∀(l r:List (Int×Int)) (x:At3),runF H A B (l++r) x=(runF H A B l x).bind (runF H A B r)
 | [],_,_=>rfl
 | q::l,r,x=>by
  rw[List.cons_append]
  unfold runF
  cases Ca A B (H.getD x.1 0) x q with
  | none=>rfl
  | some y=>exact A8t l r y
def rdx(H A B:List Int):Nat→At3→List (List (Int×Int))
 | 0,_=>[[]]
 | n+1,x=>(Ac A B (H.getD x.1 0) x).flatMap fun m=>(rdx H A B n m.2).map fun r=>m.1::r
theorem K9{α β:Type}{g:α→List β}{P:Nat}:∀(l:List α),(∀x∈l,(g x).length≤P)→(l.flatMap g).length≤l.length*P
 | [],_=>by simp
 | x::l,h=>by
  rw[List.flatMap_cons,List.length_append,List.length_cons,Nat.succ_mul]
  have h1:=h x (by simp)
  have h2:=K9 l (fun y hy=>h y (by simp[hy]))
  omega
theorem Vi{M:Nat}(hM:1+A.length+B.length≤M):∀(n:Nat) (x:At3),(rdx H A B n x).length≤M ^ n
 | 0,_=>by simp[rdx]
 | n+1,x=>by
  unfold rdx
  have h1:=K9 (g:=fun m=>(rdx H A B n m.2).map fun r=>m.1::r) (P:=M ^ n) (Ac A B (H.getD x.1 0) x) (fun m _=>by rw[List.length_map];exact Vi hM n m.2)
  have h2:=Gt A B (H.getD x.1 0) x
  have h3:(Ac A B (H.getD x.1 0) x).length*M ^ n≤M*M ^ n:=Nat.mul_le_mul_right _ (by omega)
  rw[Nat.pow_succ,Nat.mul_comm (M ^ n) M]
  omega
theorem Tf{α β:Type}(p:α→Bool)(g:α→List β):∀l:List α,(l.flatMap fun x=>if p x=true then g x else [])=(l.filter p).flatMap g
 | []=>rfl
 | x::l=>by
  rw[List.flatMap_cons,Tf p g l,List.filter_cons]
  split<;>simp
theorem Yx{β:Type}(l:List Int)(w:Int)(i:Nat)(hi:i≤l.length)(g:Nat→List β):((List.range l.length).flatMap fun k=>if(decide (i≤k)&&l.getD k 0==w)=true then g k else [])=(Ak l w i).flatMap g:=by
 rw[Tf (fun k=>decide (i≤k)&&l.getD k 0==w) g]
 have e:List.range l.length=List.range' 0 i++List.range' i (l.length-i):=by
  rw[List.range_eq_range',show l.length=i+(l.length-i)by omega,←List.range'_append]
  simp
 rw[e,List.filter_append]
 have e1:(List.range' 0 i).filter (fun k=>decide (i≤k)&&l.getD k 0==w)=[]:=by
  rw[List.filter_eq_nil_iff]
  intro k hk
  have:=List.mem_range'.1 hk
  simp only[Bool.and_eq_true,decide_eq_true_eq,not_and]
  intro h;omega
 have e2:(List.range' i (l.length-i)).filter (fun k=>decide (i≤k)&&l.getD k 0==w)=Ak l w i:=by
  unfold Ak
  apply List.filter_congr
  intro k hk
  have:=List.mem_range'.1 hk
  have h2:i≤k:=by omega
  simp[h2]
 rw[e1,e2,List.nil_append]
def gR(H A B:List Int)(n:Nat)(x:At3)(l:List (Int×Int))(q:Int×Int):List (List (Int×Int)):=
 match Ca A B (H.getD x.1 0) x q with
 | none=>[]
 | some y=>(rdx H A B n y).map fun r=>(l++[q])++r
theorem Apr{M n:Nat}(hM:1+A.length+B.length≤M)(x:At3)(l:List (Int×Int))(q:Int×Int):(gR H A B n x l q).length≤M ^ n:=by
 unfold gR
 split
 ·simp
 ·rw[List.length_map];exact Vi hM n _
theorem Apl{n:Nat}{x:At3}{l:List (Int×Int)}(hi:x.2.1≤A.length)(hk:x.2.2≤B.length) :
  (gR H A B n x l (3,0)++((List.range A.length).flatMap fun(k:Nat)=>gR H A B n x l (1,(k:Int))))++((List.range B.length).flatMap fun(k:Nat)=>gR H A B n x l (2,(k:Int)))=(rdx H A B (n+1) x).map fun r=>l++r:=by
 have eA:∀k∈List.range A.length,gR H A B n x l (1,(k:Int))=if(decide (x.2.1≤k)&&A.getD k 0==H.getD x.1 0)=true then(rdx H A B n (x.1+1,k+1,x.2.2)).map (fun r=>l++(1,(k:Int))::r)else []:=by
  intro k hk
  have hk:=List.mem_range.1 hk
  have st:Ca A B (H.getD x.1 0) x (1,(k:Int))=if(x.2.1:Int)≤(k:Int)∧(k:Int)<A.length∧A.getD (k:Int).toNat 0=H.getD x.1 0 then some (x.1+1,(k:Int).toNat+1,x.2.2)else none:=rfl
  unfold gR
  rw[st]
  by_cases c:x.2.1≤k∧A.getD k 0=H.getD x.1 0
  ·rw[if_pos ⟨by omega,by omega,by simpa using c.2⟩,if_pos (by simp only[Bool.and_eq_true,decide_eq_true_eq,beq_iff_eq];exact c)]
   simp
  ·rw[if_neg (fun h=>c ⟨by omega,by simpa using h.2.2⟩),if_neg (by simp only[Bool.and_eq_true,decide_eq_true_eq,beq_iff_eq];exact c)]
 have eB:∀k∈List.range B.length,gR H A B n x l (2,(k:Int))=if(decide (x.2.2≤k)&&B.getD k 0==H.getD x.1 0)=true then(rdx H A B n (x.1+1,x.2.1,k+1)).map (fun r=>l++(2,(k:Int))::r)else []:=by
  intro k hk
  have hk:=List.mem_range.1 hk
  have st:Ca A B (H.getD x.1 0) x (2,(k:Int))=if(x.2.2:Int)≤(k:Int)∧(k:Int)<B.length∧B.getD (k:Int).toNat 0=H.getD x.1 0 then some (x.1+1,x.2.1,(k:Int).toNat+1)else none:=rfl
  unfold gR
  rw[st]
  by_cases c:x.2.2≤k∧B.getD k 0=H.getD x.1 0
  ·rw[if_pos ⟨by omega,by omega,by simpa using c.2⟩,if_pos (by simp only[Bool.and_eq_true,decide_eq_true_eq,beq_iff_eq];exact c)]
   simp
  ·rw[if_neg (fun h=>c ⟨by omega,by simpa using h.2.2⟩),if_neg (by simp only[Bool.and_eq_true,decide_eq_true_eq,beq_iff_eq];exact c)]
 have fc:∀ {α β:Type} {u v:α→List β} (l:List α),(∀k∈l,u k=v k)→l.flatMap u=l.flatMap v:=by
  intro α β u v l
  induction l with
  | nil=>intro _;rfl
  | cons a l ih=>intro h;rw[List.flatMap_cons,List.flatMap_cons,h a (by simp),ih (fun k hk=>h k (by simp[hk]))]
 rw[fc _ eA,fc _ eB,Yx A _ _ hi,Yx B _ _ hk]
 have er:rdx H A B (n+1) x=(Ac A B (H.getD x.1 0) x).flatMap fun m=>(rdx H A B n m.2).map fun r=>m.1::r:=rfl
 rw[er]
 unfold Ac
 have e3:gR H A B n x l (3,0)=(rdx H A B n (x.1+1,x.2.1,x.2.2)).map fun r=>l++(3,0)::r:=by
  unfold gR
  have st:Ca A B (H.getD x.1 0) x (3,0)=some (x.1+1,x.2.1,x.2.2):=rfl
  rw[st];simp
 rw[e3,List.flatMap_cons,List.flatMap_append,List.map_append,List.map_append,List.append_assoc]
 simp only[List.map_map,List.flatMap_map,List.map_flatMap]
 rfl
theorem My{self:(List (List Int))→(List Int)→Int→Int→Int→(List (Int×Int))→Option (List (List (Int×Int)))}{a b:Int}{l:List (Int×Int)}{x:At3}{m P:Nat}(ha:0≤a)(hTa:T[a.toNat]?=some A)(hl:l.length≤100)(hA:A.length≤100)
  (hs:∀q,self T H f a b (l++[q])=some (gR H A B m x l q)) (hg:∀q,(gR H A B m x l q).length≤P) {o:List (List (Int×Int))} (ho:o.length≤P) (hP:(1+A.length)*P≤1000000):∀(n k:Nat),A.length<n+k→k≤A.length →
  readings_l1 N self n l k T H f a b (o++(List.range k).flatMap fun(j:Nat)=>gR H A B m x l (1,(j:Int)))=some (l,T,H,f,a,b,o++(List.range A.length).flatMap fun(j:Nat)=>gR H A B m x l (1,(j:Int)))
 | 0,k,h,_=>by omega
 | n+1,k,h,hk=>by
  unfold readings_l1
  rw[idx_eq ha hTa]
  by_cases c:k<A.length
  ·have fl:=K9 (g:=fun j:Nat=>gR H A B m x l (1,(j:Int))) (P:=P) (List.range k) (fun j _=>hg _)
   rw[List.length_range]at fl
   have gl:=hg (1,(k:Int))
   have hp:(1+k+1)*P≤(1+A.length)*P:=Nat.mul_le_mul_right _ (by omega)
   have hp2:(1+k+1)*P=P+k*P+P:=by rw[Nat.add_mul,Nat.add_mul,Nat.one_mul]
   rw[A4 (by omega),Bd (by simp;omega),Bd (by simp;omega)]
   simp only[List.nil_append]
   rw[hs]
   simp only[Option.bind_some]
   rw[Bd (by rw[List.length_append];omega),A5 (by omega)]
   have:=My ha hTa hl hA hs hg ho hP n (k+1) (by omega) (by omega)
   rw[show((k+1:Nat):Int)=(k:Int)+1 by omega,List.range_succ,List.flatMap_append,←List.append_assoc]at this
   simpa using this
  ·have e:k=A.length:=by omega
   rw[A3 (by omega),e]
theorem Mt{self:(List (List Int))→(List Int)→Int→Int→Int→(List (Int×Int))→Option (List (List (Int×Int)))}{a b:Int}{l:List (Int×Int)}{x:At3}{m P Q:Nat}(ha:0≤b)(hTa:T[b.toNat]?=some B)(hl:l.length≤100)(hA:B.length≤100)
  (hs:∀q,self T H f a b (l++[q])=some (gR H A B m x l q)) (hg:∀q,(gR H A B m x l q).length≤P) {o:List (List (Int×Int))} (ho:o.length≤Q) (hP:Q+B.length*P≤1000000):∀(n k:Nat),B.length<n+k→k≤B.length →
  Ez N self n l k T H f a b (o++(List.range k).flatMap fun(j:Nat)=>gR H A B m x l (2,(j:Int)))=some (o++(List.range B.length).flatMap fun(j:Nat)=>gR H A B m x l (2,(j:Int)))
 | 0,k,h,_=>by omega
 | n+1,k,h,hk=>by
  unfold Ez
  rw[idx_eq ha hTa]
  by_cases c:k<B.length
  ·have fl:=K9 (g:=fun j:Nat=>gR H A B m x l (2,(j:Int))) (P:=P) (List.range k) (fun j _=>hg _)
   rw[List.length_range]at fl
   have gl:=hg (2,(k:Int))
   have hp:(k+1)*P≤B.length*P:=Nat.mul_le_mul_right _ (by omega)
   have hp2:(k+1)*P=k*P+P:=by rw[Nat.add_mul,Nat.one_mul]
   rw[A4 (by omega),Bd (by simp;omega),Bd (by simp;omega)]
   simp only[List.nil_append]
   rw[hs]
   simp only[Option.bind_some]
   rw[Bd (by rw[List.length_append];omega),A5 (by omega)]
   have:=Mt ha hTa hl hA hs hg ho hP n (k+1) (by omega) (by omega)
   rw[show((k+1:Nat):Int)=(k:Int)+1 by omega,List.range_succ,List.flatMap_append,←List.append_assoc]at this
   simpa using this
  ·have e:k=B.length:=by omega
   rw[A3 (by omega),e]
theorem Adb:∀(l:List (Int×Int)) (x y:At3),runF H A B l x=some y→x.2.1≤A.length→x.2.2≤B.length→y.1=x.1+l.length∧y.2.1≤A.length∧y.2.2≤B.length
 | [],x,y,h,h1,h2=>by simp only[runF,Option.some.injEq]at h;subst h;exact⟨rfl,h1,h2⟩
 | q::l,x,y,h,h1,h2=>by
  unfold runF at h
  cases hs:Ca A B (H.getD x.1 0) x q with
  | none=>rw[hs]at h;cases h
  | some z=>
   rw[hs]at h
   obtain⟨z1,z2,z3⟩:=A77 hs h1 h2
   obtain⟨y1,y2,y3⟩:=Adb l z y h z2 z3
   exact⟨by rw[List.length_cons];omega,y2,y3⟩
theorem Oq{a b:Int}{M:Nat}(hN:20≤N)(ha:0≤a)(hb:0≤b)(hTa:T[a.toNat]?=some A)(hTb:T[b.toNat]?=some B)(hA:A.length≤6)(hB:B.length≤6)(hH:H.length≤10)(hM:1+A.length+B.length≤M)(hP:M ^ H.length≤1000000):∀(n m:Nat) (l:List (Int×Int)),H.length=l.length+m→m<n →
  C5 N n T H f a b l=some (match runF H A B l (0,0,0)with | none=>[] | some x=>(rdx H A B m x).map fun r=>l++r)
 | 0,m,l,_,h=>by omega
 | n+1,m,l,hl,h=>by
  show Jx N (C5 N n) T H f a b l=_
  unfold Jx
  rw[Ahy ha hb hTa hTb (by omega) (by omega) (by omega) (by omega) (by omega),A5w]
  simp only[Option.bind_some]
  cases hr:runF H A B l (0,0,0)with
  | none=>rfl
  | some x=>
   obtain⟨x1,x2,x3⟩:=Adb l _ x hr (Nat.zero_le _) (Nat.zero_le _)
   dsimp only at x1
   simp only[Option.isSome_some,Bool.not_true,A6]
   cases m with
   | zero=>
    rw[A4 (by omega)]
    simp[rdx]
   | succ m=>
    have hs:∀q,C5 N n T H f a b (l++[q])=some (gR H A B m x l q):=by
     intro q
     rw[Oq hN ha hb hTa hTb hA hB hH hM hP n m (l++[q]) (by simp;omega) (by omega),A8t,hr]
     simp only[Option.bind_some]
     unfold runF gR
     cases Ca A B (H.getD x.1 0) x q with
     | none=>rfl
     | some y=>rfl
    have hg:=fun q=>Apr (H:=H) (n:=m) hM x l q
    have p1:M ^ (m+1)≤M ^ H.length:=Nat.pow_le_pow_right (by omega) (by omega)
    have p2:(1+A.length+B.length)*M ^ m≤M*M ^ m:=Nat.mul_le_mul_right _ hM
    rw[Nat.pow_succ,Nat.mul_comm (M ^ m) M]at p1
    have p3:(1+A.length+B.length)*M ^ m=(1+A.length)*M ^ m+B.length*M ^ m:=Nat.add_mul _ _ _
    rw[A3 (by omega),Bd (by simp;omega),Bd (by simp;omega)]
    simp only[List.nil_append]
    rw[hs]
    simp only[Option.bind_some]
    have e1:=My (N:=N) (f:=f) (x:=x) ha hTa (by omega) (by omega) hs hg (o:=gR H A B m x l (3,0)) (hg _) (by omega) N 0 (by omega) (by omega)
    simp only[List.range_zero,List.flatMap_nil,List.append_nil,show((0:Nat):Int)=0 from rfl]at e1
    rw[e1]
    simp only[Option.bind_some]
    have fl:=K9 (g:=fun j:Nat=>gR H A B m x l (1,(j:Int))) (P:=M ^ m) (List.range A.length) (fun j _=>hg _)
    rw[List.length_range]at fl
    have e2:=Mt (N:=N) (f:=f) (x:=x) (Q:=(1+A.length)*M ^ m) hb hTb (by omega) (by omega) hs hg (o:=gR H A B m x l (3,0)++(List.range A.length).flatMap fun(j:Nat)=>gR H A B m x l (1,(j:Int))) (by rw[List.length_append,Nat.add_mul,Nat.one_mul];have:=hg (3,0);omega) (by omega) N 0 (by omega) (by omega)
    simp only[List.range_zero,List.flatMap_nil,List.append_nil,show((0:Nat):Int)=0 from rfl]at e2
    rw[e2]
    simp only[Option.bind_some]
    rw[Apl x2 x3]
theorem Kv{α:Type}{p:α→Bool}:∀ {l:List α},(∀x∈l,p x=false)→l.countP p=0
 | [],_=>rfl
 | a::l,h=>by
  rw[List.countP_cons,Kv (fun x hx=>h x (by simp[hx])),h a (by simp)];rfl
def D9(C:List (List (Int×Int)))(v:Int×Int):Prop:=(∀r∈C,toldN r≤v.1)∧v.2=(C.countP fun r=>decide (toldN r=v.1):Nat)
theorem D9.add{h n:Nat}{t:At3→Int×Int}{m:Mv}{C D:List (List (Int×Int))}{best:Int×Int}(hb:D9 C best)(hd:D9 D (t m.2))(h0:0≤(t m.2).1):D9 (C++D.map fun r=>m.1::r) (stepT mayA h t best m):=by
 have st:stepT mayA h t best m=(if best.1<wT m.1.1 (t m.2).1 then(wT m.1.1 (t m.2).1,(t m.2).2)else if wT m.1.1 (t m.2).1=best.1 then(best.1,best.2+(t m.2).2)else best):=by
  unfold stepT;exact if_pos rfl
 have hw:wT m.1.1 (t m.2).1=(if m.1.1=3 then 0 else 1)+(t m.2).1:=by
  unfold wT
  by_cases c:m.1.1=3
  ·rw[if_neg (fun h=>h.2 c),if_pos c];omega
  ·rw[if_pos ⟨h0,c⟩,if_neg c];omega
 obtain⟨b1,b2⟩:=hb
 obtain⟨d1,d2⟩:=hd
 have tn:∀r,toldN (m.1::r)=(if m.1.1=3 then 0 else 1)+toldN r:=fun r=>rfl
 rw[st]
 generalize wT m.1.1 (t m.2).1=W at *
 generalize (if m.1.1=3 then(0:Int)else 1)=e at *
 have c1:∀v:Int,((D.map fun r=>m.1::r).countP fun r=>decide (toldN r=v))=D.countP fun r=>decide (toldN r=v-e):=by
  intro v
  rw[List.countP_map]
  congr 1
  funext r
  simp only[Function.comp]
  rw[tn]
  apply decide_eq_decide.2
  omega
 have le:∀r∈D.map (fun r=>m.1::r),toldN r≤W:=by
  intro r hr
  obtain⟨r',hr',rfl⟩:=List.mem_map.1 hr
  rw[tn];have:=d1 r' hr';omega
 by_cases k1:best.1<W
 ·rw[if_pos k1]
  refine⟨fun r hr=>?_,?_⟩
  ·rcases List.mem_append.1 hr with hr | hr
   ·have:=b1 r hr;dsimp only;omega
   ·exact le r hr
  ·dsimp only
   rw[List.countP_append,c1,show W-e=(t m.2).1 by omega,Kv (l:=C) (fun r hr=>by have:=b1 r hr;simp;omega),d2]
   simp
 ·rw[if_neg k1]
  by_cases k2:W=best.1
  ·rw[if_pos k2]
   refine⟨fun r hr=>?_,?_⟩
   ·rcases List.mem_append.1 hr with hr | hr
    ·exact b1 r hr
    ·have:=le r hr;dsimp only;omega
   ·dsimp only
    rw[List.countP_append,c1,show best.1-e=(t m.2).1 by omega,b2,d2]
    omega
  ·rw[if_neg k2]
   refine⟨fun r hr=>?_,?_⟩
   ·rcases List.mem_append.1 hr with hr | hr
    ·exact b1 r hr
    ·have:=le r hr;omega
   ·rw[List.countP_append,c1,Kv (l:=D) (fun r hr=>by have:=d1 r hr;simp;omega),b2]
    simp
theorem D9.fold{h n:Nat}{t:At3→Int×Int}(hd:∀y,y.1=h+1→D9 (rdx H A B n y) (t y)∧0≤(t y).1):∀(ms:List Mv) (C:List (List (Int×Int))) (best:Int×Int),(∀m∈ms,m.2.1=h+1)→D9 C best→D9 (C++ms.flatMap fun m=>(rdx H A B n m.2).map fun r=>m.1::r) (ms.foldl (stepT mayA h t) best)
 | [],C,best,_,hb=>by simpa using hb
 | m::ms,C,best,hm,hb=>by
  rw[List.flatMap_cons,←List.append_assoc,List.foldl_cons]
  obtain⟨d1,d2⟩:=hd m.2 (hm m (by simp))
  exact D9.fold hd ms _ _ (fun m' h'=>hm m' (by simp[h'])) (D9.add (n:=n) hb d1 d2)
theorem Yt:∀(n:Nat) (x:At3),H.length=x.1+n→D9 (rdx H A B n x) (tvx mayA H A B n x)
 | 0,x,_=>⟨fun r hr=>by simp[rdx]at hr;subst hr;simp[tvx,toldN],by simp[rdx,tvx,toldN]⟩
 | n+1,x,hx=>by
  have:=D9.fold (H:=H) (A:=A) (B:=B) (h:=x.1) (n:=n) (t:=tvx mayA H A B n) (fun y hy=>⟨Yt n y (by omega),C6 H A B (h:=y.1) (i:=y.2.1) (k:=y.2.2) (by omega)⟩) (Ac A B (H.getD x.1 0) x) [] (-1,0) (fun m hm=>by
   have h3:=Dw.1 hm
   unfold Ca at h3
   split at h3
   ·split at h3
    ·simp only[Option.some.injEq]at h3;rw[←h3]
    ·cases h3
   ·split at h3
    ·split at h3
     ·simp only[Option.some.injEq]at h3;rw[←h3]
     ·cases h3
    ·split at h3
     ·simp only[Option.some.injEq]at h3;rw[←h3]
     ·cases h3) ⟨(fun r hr=>by cases hr),rfl⟩
  exact this
theorem Ae7:∀(n:Nat) (x:At3),H.length=x.1+n→∃r∈rdx H A B n x,toldN r=(tvx mayA H A B n x).1
 | 0,x,_=>⟨[],by simp[rdx],by simp[toldN,tvx]⟩
 | n+1,x,hx=>by
  have nn:=C6 H A B (h:=x.1) (i:=x.2.1) (k:=x.2.2) hx
  rw[show((x.1,x.2.1,x.2.2):At3)=x from rfl,tvx]at nn
  rw[tvx]
  rcases Pq (h:=x.1) (t:=tvx mayA H A B n) (Ac A B (H.getD x.1 0) x) (-1,0)with h1 | ⟨m,hm,h1⟩
  ·rw[h1]at nn;exact absurd nn (by decide)
  ·have hy:m.2.1=x.1+1:=by
    simp only[Ac,List.mem_cons,List.mem_append,List.mem_map]at hm
    rcases hm with rfl | ⟨j,_,rfl⟩ | ⟨j,_,rfl⟩<;>rfl
   obtain⟨r,hr,e⟩:=Ae7 n m.2 (by omega)
   have h0:=C6 H A B (h:=m.2.1) (i:=m.2.2.1) (k:=m.2.2.2) (n:=n) (by omega)
   refine⟨m.1::r,List.mem_flatMap.2 ⟨m,hm,List.mem_map.2 ⟨r,hr,rfl⟩⟩,?_⟩
   rw[h1]
   unfold toldN wT
   by_cases c:m.1.1=3
   ·rw[if_pos c,if_neg (fun h=>h.2 c)];rw[e];omega
   ·rw[if_neg c,if_pos ⟨h0,c⟩];rw[e];omega
theorem Gp:∀(n:Nat) (x:At3),∀r∈rdx H A B n x,r.length=n
 | 0,x,r,hr=>by simp[rdx]at hr;subst hr;rfl
 | n+1,x,r,hr=>by
  obtain⟨m,_,h⟩:=List.mem_flatMap.1 hr
  obtain⟨r',hr',rfl⟩:=List.mem_map.1 h
  rw[List.length_cons,Gp n m.2 r' hr']
def Dp(H A B:List Int):List (List (Int×Int)):=rdx H A B H.length (0,0,0)
theorem A5y:∀r∈Dp H A B,toldN r≤(tv mayA H A B (0,0,0)).1:=(Yt (H:=H) (A:=A) (B:=B) H.length (0,0,0) (by simp)).1
theorem Tt:(tv mayA H A B (0,0,0)).2=((Dp H A B).countP fun r=>decide (toldN r=(tv mayA H A B (0,0,0)).1):Nat):=(Yt (H:=H) (A:=A) (B:=B) H.length (0,0,0) (by simp)).2
theorem Ro:∃r∈Dp H A B,toldN r=(tv mayA H A B (0,0,0)).1:=Ae7 (H:=H) (A:=A) (B:=B) H.length (0,0,0) (by simp)
def fltV(H A B:List Int)(r:List (Int×Int)):Int:=(A.length:Int)+B.length+H.length-2*toldN r
theorem A1q{a b:Int}(ha:0≤a)(hb:0≤b)(hTa:T[a.toNat]?=some A)(hTb:T[b.toNat]?=some B)(hA:A.length≤6)(hB:B.length≤6)(hH:H.length≤10)(hN:20≤N){R:List (List (Int×Int))}(hR:∀r∈R,r.length=H.length)(hRl:R.length≤1000000):∀(n k:Nat) (least:Int),R.length<n+k→k≤R.length →
  ∃v,best_l1 N n least k T H f a b R=some (v,T,H,f,a,b,R)∧v≤least∧(∀r∈R.drop k,v≤fltV H A B r)∧(v=least∨∃r∈R.drop k,v=fltV H A B r)
 | 0,k,least,h,_=>by omega
 | n+1,k,least,h,hk=>by
  unfold best_l1
  by_cases c:k<R.length
  ·have hd:R.drop k=R.getD k []::R.drop (k+1):=by
    rw[List.drop_eq_getElem_cons c];simp[List.getD,c]
   have hk':R[((k:Nat):Int).toNat]?=some (R.getD k []):=by simp[List.getD,c]
   have hl:=hR (R.getD k []) (Aa c)
   generalize R.getD k []=r at *
   rw[A4 (by omega),Au (by omega),get_eq hk',Xn ha hb hTa hTb (by omega) (by omega) (by omega) (by omega)]
   simp only[Option.bind_some]
   rw[A5 (by omega),hl]
   have ev:(A.length:Int)+B.length+H.length-2*toldN r=fltV H A B r:=rfl
   rw[ev]
   obtain⟨v,e,h1,h2,h3⟩:=A1q ha hb hTa hTb hA hB hH hN hR hRl n (k+1) (min least (fltV H A B r)) (by omega) (by omega)
   rw[show((k+1:Nat):Int)=(k:Int)+1 by omega]at e
   refine⟨v,e,by omega,?_,?_⟩
   ·intro r' hr'
    rw[hd]at hr'
    rcases List.mem_cons.1 hr' with rfl | hr'
    ·omega
    ·exact h2 r' hr'
   ·rw[hd]
    rcases h3 with h3 | ⟨r',hr',h3⟩
    ·rcases Int.le_total least (fltV H A B r)with h4 | h4
     ·exact .inl (by omega)
     ·exact .inr ⟨r,by simp,by omega⟩
    ·exact .inr ⟨r',by simp[hr'],h3⟩
  ·rw[A3 (by omega)]
   refine⟨least,rfl,Int.le_refl _,?_,.inl rfl⟩
   intro r hr
   rw[List.drop_of_length_le (by omega)]at hr;cases hr
theorem A1b{a b least:Int}(ha:0≤a)(hb:0≤b)(hTa:T[a.toNat]?=some A)(hTb:T[b.toNat]?=some B)(hA:A.length≤6)(hB:B.length≤6)(hH:H.length≤10)(hN:20≤N){R:List (List (Int×Int))}(hR:∀r∈R,r.length=H.length)(hRl:R.length≤1000000):∀(n k:Nat),R.length<n+k→k≤R.length →
  best_l2 N n least k T H f a b R ((R.take k).filter fun r=>decide (fltV H A B r=least))=some (least,R.filter fun r=>decide (fltV H A B r=least))
 | 0,k,h,_=>by omega
 | n+1,k,h,hk=>by
  unfold best_l2
  by_cases c:k<R.length
  ·have hd:R.take (k+1)=R.take k++[R.getD k []]:=by rw[List.take_add_one];simp[List.getD,c]
   have hk':R[((k:Nat):Int).toNat]?=some (R.getD k []):=by simp[List.getD,c]
   have hl:=hR (R.getD k []) (Aa c)
   have next:=A1b (least:=least) ha hb hTa hTb hA hB hH hN hR hRl n (k+1) (by omega) (by omega)
   have fl:=List.length_filter_le (fun r=>decide (fltV H A B r=least)) (R.take k)
   rw[List.length_take]at fl
   rw[hd,List.filter_append,show((k+1:Nat):Int)=(k:Int)+1 by omega]at next
   generalize R.getD k []=r at *
   rw[A4 (by omega),Au (by omega),get_eq hk',Xn ha hb hTa hTb (by omega) (by omega) (by omega) (by omega)]
   simp only[Option.bind_some]
   rw[hl]
   have ev:(A.length:Int)+B.length+H.length-2*toldN r=fltV H A B r:=rfl
   rw[ev]
   by_cases d:fltV H A B r=least
   ·rw[A4 d,Au (by omega),get_eq hk',Bd (by rw[List.length_singleton];exact Nat.le_trans (Nat.succ_le_succ fl) (by omega))]
    unfold R1
    rw[A5 (by omega)]
    simpa [d]using next
   ·rw[A3 d]
    unfold R1
    rw[A5 (by omega)]
    simpa [d]using next
  ·rw[A3 (by omega),List.take_of_length_le (by omega)]
theorem Apm{a b:Int}{M:Nat}(hN:20≤N)(ha:0≤a)(hb:0≤b)(hTa:T[a.toNat]?=some A)(hTb:T[b.toNat]?=some B)(hA:A.length≤6)(hB:B.length≤6)(hH:H.length≤10)(hM:1+A.length+B.length≤M)(hP:M ^ H.length≤1000000)(hPN:M ^ H.length<N) :
  Lp N T H f a b=some ((Dp H A B).filter fun r=>decide (toldN r=(tv mayA H A B (0,0,0)).1),B8 H A B):=by
 unfold Lp
 have e:=Oq (N:=N) (f:=f) hN ha hb hTa hTb hA hB hH hM hP N H.length [] (by simp) (by omega)
 have e2:C5 N N T H f a b []=some (Dp H A B):=by
  rw[e];simp[runF,Dp]
 rw[e2]
 simp only[Option.bind_some]
 have rl:=Vi (H:=H) hM H.length (0,0,0)
 have hR:∀r∈Dp H A B,r.length=H.length:=Gp H.length (0,0,0)
 obtain⟨v,e3,h1,h2,h3⟩:=A1q (N:=N) (f:=f) ha hb hTa hTb hA hB hH hN hR (Nat.le_trans rl hP) N 0 99 (Nat.lt_of_le_of_lt rl (by omega)) (Nat.zero_le _)
 rw[show((0:Nat):Int)=0 from rfl]at e3
 rw[List.drop_zero]at h2 h3
 rw[e3]
 simp only[Option.bind_some]
 have e4:=A1b (N:=N) (f:=f) (least:=v) ha hb hTa hTb hA hB hH hN hR (Nat.le_trans rl hP) N 0 (Nat.lt_of_le_of_lt rl (by omega)) (Nat.zero_le _)
 rw[show((0:Nat):Int)=0 from rfl,List.take_zero,List.filter_nil]at e4
 rw[e4]
 simp only[Option.bind_some]
 obtain⟨r0,hr0,er0⟩:=Ro (H:=H) (A:=A) (B:=B)
 have lv:B8 H A B=(A.length:Int)+B.length+H.length-2*(tv mayA H A B (0,0,0)).1:=rfl
 have tb:=X9 mayA (H:=H) hA hB
 have hv:v=B8 H A B:=by
  have a1:=h2 r0 hr0
  unfold fltV at a1
  rcases h3 with h3 | ⟨r,hr,h3⟩
  ·have t0:=C6 H A B (n:=H.length) (h:=0) (i:=0) (k:=0) (by omega)
   have:(tvx mayA H A B H.length (0,0,0)).1=(tv mayA H A B (0,0,0)).1:=rfl
   omega
  ·have:=A5y (H:=H) (A:=A) (B:=B) r hr
   unfold fltV at h3
   omega
 congr 1
 rw[hv]
 congr 1
 apply List.filter_congr
 intro r _
 apply decide_eq_decide.2
 unfold fltV
 omega
end
end Go.Proofs.YtfcnhnbnjdccfaaGreat

namespace Go.Proofs.YtfcnhnbnjdccfaaGreat
set_option linter.all false
open Go

section
variable {N:Nat} {T:List (List Int)} {H:List Int} {f:Int}
theorem A0z{words:Int}(hT:T.length≤1000):∀(n k:Nat),T.length<n+k→k≤T.length→∃r,wide_l1 N n words T (T.length:Int) k=some r∧((∃u,r=.inr u)→∀x∈T.drop k,(x.length:Int)≤words∨6<x.length)
 | 0,k,h,_=>by omega
 | n+1,k,h,hk=>by
  unfold wide_l1
  by_cases c:k<T.length
  ·have hd:T.drop k=T.getD k []::T.drop (k+1):=by
    rw[List.drop_eq_getElem_cons c];simp[List.getD,c]
   have hk':T[((k:Nat):Int).toNat]?=some (T.getD k []):=by simp[List.getD,c]
   generalize T.getD k []=y at *
   rw[A4 (by omega),idx_eq (by omega) hk']
   obtain⟨r,e,hr⟩:=A0z (words:=words) hT n (k+1) (by omega) (by omega)
   rw[show((k+1:Nat):Int)=(k:Int)+1 by omega]at e
   by_cases d:words<(y.length:Int)
   ·rw[A4 d]
    by_cases d2:(y.length:Int)≤6
    ·rw[A4 d2];exact⟨_,rfl,fun⟨u,hu⟩=>by cases hu⟩
    ·rw[A3 d2,A5 (by omega)]
     refine⟨r,e,fun hu x hx=>?_⟩
     rw[hd]at hx
     rcases List.mem_cons.1 hx with rfl | hx
     ·omega
     ·exact hr hu x hx
   ·rw[A3 d,A5 (by omega)]
    refine⟨r,e,fun hu x hx=>?_⟩
    rw[hd]at hx
    rcases List.mem_cons.1 hx with rfl | hx
    ·omega
    ·exact hr hu x hx
  ·rw[A3 (by omega)]
   refine⟨_,rfl,fun _ x hx=>?_⟩
   rw[List.drop_of_length_le (by omega)]at hx;cases hx
theorem Al9{heard words:Int}(hT:T.length≤8)(hN:20≤N):S8 N T H f heard words=some true∨S8 N T H f heard words=some false∧((H.length:Int)≤heard∨10<H.length)∧∀x∈T,(x.length:Int)≤words∨6<x.length:=by
 unfold S8
 obtain⟨r,e,hr⟩:=A0z (N:=N) (T:=T) (words:=words) (by omega) N 0 (by omega) (by omega)
 rw[show((0:Nat):Int)=0 from rfl]at e
 rw[e]
 by_cases c:heard<(H.length:Int)
 ·rw[A4 c]
  by_cases d:(H.length:Int)≤10
  ·rw[A4 d];exact .inl rfl
  ·rw[A3 d]
   cases r with
   | inl _=>exact .inl rfl
   | inr u=>exact .inr ⟨rfl,.inr (by omega),by simpa using hr ⟨u,rfl⟩⟩
 ·rw[A3 c]
  cases r with
  | inl _=>exact .inl rfl
  | inr u=>exact .inr ⟨rfl,.inl (by omega),by simpa using hr ⟨u,rfl⟩⟩
structure Slim (T:List (List Int)) (H:List Int) (M N:Nat):Prop where
 w:∀x∈T,∀y∈T,1+x.length+y.length≤M
 p:M ^ H.length≤1000000
 n:M ^ H.length<N
theorem W2{M:Nat}(hN:20≤N)(h:Fine T H f)(hs:Slim T H M N){a b:Int}(ha:0≤a∧a<T.length)(hb:0≤b∧b<T.length) :
  Lp N T H f a b=some ((Dp H (T.getD a.toNat []) (T.getD b.toNat [])).filter fun r=>decide (toldN r=(tv mayA H (T.getD a.toNat []) (T.getD b.toNat []) (0,0,0)).1),B8 H (T.getD a.toNat []) (T.getD b.toNat [])):=by
 have m1:T.getD a.toNat []∈T:=Aa (by omega)
 have m2:T.getD b.toNat []∈T:=Aa (by omega)
 have hTa:T[a.toNat]?=some (T.getD a.toNat []):=by
  have:a.toNat<T.length:=by omega
  simp[List.getD,this]
 have hTb:T[b.toNat]?=some (T.getD b.toNat []):=by
  have:b.toNat<T.length:=by omega
  simp[List.getD,this]
 exact Apm hN ha.1 hb.1 hTa hTb (h.l _ m1).2 (h.l _ m2).2 h.h (hs.w _ m1 _ m2) hs.p hs.n
theorem Ux{M:Nat}(hN:20≤N)(h:Fine T H f)(hs:Slim T H M N){a s:Nat}{O:List (Int×Int)}(ha:a<T.length)(hO:O.length≤1000):∀(n k:Nat),T.length<n+k→s≤k→k≤T.length →
  rpairs_l2 N n a k T H f (O++Ay (pE T H f) a s k)=some ((a:Int),T,H,f,O++Ay (pE T H f) a s T.length)
 | 0,k,h1,h2,h3=>by omega
 | n+1,k,h1,h2,h3=>by
  unfold rpairs_l2
  have hT:=h.n
  by_cases c:k<T.length
  ·rw[A4 (by omega),W2 hN h hs (by omega) (by omega)]
   simp only[Option.bind_some,Int.toNat_natCast]
   have rl:=Md (pE T H f) a s k
   have next:=Ux hN h hs (s:=s) ha hO n (k+1) (by omega) (by omega) (by omega)
   rw[show((k+1:Nat):Int)=(k:Int)+1 by omega]at next
   by_cases d:B8 H (T.getD a []) (T.getD k [])≤f
   ·rw[A4 d,Bd (by simp;omega)]
    unfold Ip
    rw[A5 (by omega),List.append_assoc,←Gf h2 (by simpa [pE]using d)]
    exact next
   ·rw[A3 d]
    unfold Ip
    rw[A5 (by omega),←Ps (p:=pE T H f) (a:=a) h2 (by simpa [pE]using d)]
    exact next
  ·have e:k=T.length:=by omega
   rw[A3 (by omega),e]
theorem U3{M:Nat}(hN:20≤N)(h:Fine T H f)(hs:Slim T H M N):∀(n k:Nat),T.length<n+k→k≤T.length→rpairs_l1 N n k T H f (Ai (pE T H f) T.length 0 k)=some (Ai (pE T H f) T.length 0 T.length)
 | 0,k,h1,h2=>by omega
 | n+1,k,h1,h2=>by
  unfold rpairs_l1
  have hT:=h.n
  by_cases c:k<T.length
  ·have al:=D4 (pE T H f) T.length 0 k
   have:k*T.length≤5*5:=Nat.mul_le_mul (by omega) (by omega)
   rw[A4 (by omega)]
   have e:=Ux (N:=N) hN h hs (s:=k) (O:=Ai (pE T H f) T.length 0 k) c (by omega) N k (by omega) (by omega) (by omega)
   rw[Ef,List.append_nil]at e
   rw[e]
   simp only[Option.bind_some]
   rw[A5 (by omega)]
   have next:=U3 hN h hs n (k+1) (by omega) (by omega)
   rw[Cx,Nat.add_zero,show((k+1:Nat):Int)=(k:Int)+1 by omega]at next
   exact next
  ·have e:k=T.length:=by omega
   rw[A3 (by omega),e]
theorem A6s{M:Nat}(hN:20≤N)(hm:Small T H)(h:Fine T H f)(hs:Slim T H M N):Gv N T H f=some (Ai (pE T H f) T.length 0 T.length,0):=by
 unfold Gv
 have hT:=h.n
 rw[Ev hN hm,h.check]
 simp only[Option.bind_some,decide_true,Bool.not_true,A6]
 have:=U3 (N:=N) hN h hs N 0 (by omega) (by omega)
 rw[show Ai (pE T H f) T.length 0 0=[]from rfl,show((0:Nat):Int)=0 from rfl]at this
 rw[this];rfl
theorem W7{M:Nat}(hN:20≤N)(h:Fine T H f)(hs:Slim T H M N){a:Nat}(ha:a<T.length):∀(n k:Nat),T.length<n+k→k≤T.length→rwith_l1 N n a k T H f (H4 T H f a k)=some (H4 T H f a T.length)
 | 0,k,h1,h2=>by omega
 | n+1,k,h1,h2=>by
  unfold rwith_l1
  have hT:=h.n
  by_cases c:k<T.length
  ·rw[A4 (by omega),W2 hN h hs (by omega) (by omega)]
   simp only[Option.bind_some,Int.toNat_natCast]
   have next:=W7 hN h hs ha n (k+1) (by omega) (by omega)
   rw[show((k+1:Nat):Int)=(k:Int)+1 by omega,Ya]at next
   have wl:=Rm T H f a k
   by_cases d:B8 H (T.getD a []) (T.getD k [])≤f
   ·rw[A4 d,Bd (by simp;omega)]
    unfold Kf
    rw[if_pos (by simpa [pE]using d)]at next
    rw[A5 (by omega)]
    exact next
   ·rw[A3 d]
    unfold Kf
    rw[if_neg (by simpa [pE]using d),List.append_nil]at next
    rw[A5 (by omega)]
    exact next
  ·have e:k=T.length:=by omega
   rw[A3 (by omega),e]
theorem Amw{M:Nat}(hN:20≤N)(hm:Small T H)(h:Fine T H f)(hs:Slim T H M N)(a:Int):Lw N T H f a=some (if 0≤a∧a<T.length then(H4 T H f a.toNat T.length,0)else([],1)):=by
 unfold Lw
 have hT:=h.n
 rw[Jg hN hm]
 unfold Ao
 rw[if_neg (by simpa using h.check)]
 simp only[Option.bind_some]
 by_cases c:0≤a∧a<T.length
 ·obtain⟨k,rfl⟩:∃k:Nat,a=k:=⟨a.toNat,by omega⟩
  rw[if_neg (by simp only[not_or,Decidable.not_not];exact⟨c,by omega⟩),if_pos c,Bk rfl]
  have:=W7 (N:=N) hN h hs (a:=k) (by omega) N 0 (by omega) (by omega)
  rw[show H4 T H f k 0=[]from rfl,show((0:Nat):Int)=0 from rfl]at this
  rw[this];rfl
 ·rw[if_pos (.inl c),if_neg c];rfl
theorem Aoe(hN:20≤N)(h:Fine T H f)(a:Int):Hx N T H f a=some (if 0≤a∧a<T.length then(H4 T H f a.toNat T.length,0)else([],1)):=by
 by_cases c:0≤a∧a<T.length
 ·rw[if_pos c];exact Ao6 hN h c
 ·rw[if_neg c]
  unfold Hx
  have hT:=h.n
  rw[C8 hN,h.check]
  simp only[Option.bind_some,decide_true,Bool.not_true,A6]
  rw[Ss N H f _ (by omega),decide_eq_false c]
  rfl
theorem T7{t:Int}{l:List (Int×Int)}{out:List Int}(hl:l.length≤1000):∀(n k:Nat) (i:Bool),l.length<n+k→k≤l.length→rmusts_l2 N n l t i k T H f out=some (l,t,(i&&(l.drop k).all (Fh t)),T,H,f,out)
 | 0,k,i,h,_=>by omega
 | n+1,k,i,h,hk=>by
  unfold rmusts_l2
  by_cases c:k<l.length
  ·have hd:l.drop k=l.getD k (0,0)::l.drop (k+1):=by
    rw[List.drop_eq_getElem_cons c];simp[List.getD,c]
   have hk':l[((k:Nat):Int).toNat]?=some (l.getD k (0,0)):=by simp[List.getD,c]
   generalize l.getD k (0,0)=p at *
   have next:=fun i=>T7 (t:=t) (out:=out) hl n (k+1) i (by omega) (by omega)
   rw[show((k+1:Nat):Int)=(k:Int)+1 by omega]at next
   rw[A4 (by omega),hd,List.all_cons]
   cases i with
   | false=>
    rw[A6,A5 (by omega),next];simp
   | true=>
    rw[B1,idx_eq (by omega) hk']
    by_cases d:p.1=t
    ·rw[A4 d,A5 (by omega),next];simp[Fh,d]
    ·rw[A3 d,idx_eq (by omega) hk',A5 (by omega),next];simp[Fh,d]
  ·rw[A3 (by omega),List.drop_of_length_le (by omega)];simp
theorem Tk{P:List (Int×Int)}(hP:P.length≤1000)(hN:P.length<N)(hT:T.length≤1000):∀(n k:Nat),T.length<n+k→k≤T.length→rmusts_l1 N n P k T H f (Gw P k)=some (Gw P T.length)
 | 0,k,h1,h2=>by omega
 | n+1,k,h1,h2=>by
  unfold rmusts_l1
  by_cases c:k<T.length
  ·have e:=T7 (N:=N) (T:=T) (H:=H) (f:=f) (t:=(k:Int)) (out:=Gw P k) hP N 0 true (by omega) (by omega)
   rw[show((0:Nat):Int)=0 from rfl,List.drop_zero,Bool.true_and]at e
   rw[A4 (by omega),e]
   simp only[Option.bind_some]
   have next:=Tk hP hN hT n (k+1) (by omega) (by omega)
   rw[show((k+1:Nat):Int)=(k:Int)+1 by omega,W8]at next
   have wl:=S3 P k
   by_cases d:P.all (Fh k)=true
   ·rw[if_pos d]at next
    rw[d,B1,Bd (by simp;omega)]
    unfold J3
    rw[A5 (by omega)]
    exact next
   ·rw[if_neg d,List.append_nil]at next
    rw[Bool.not_eq_true]at d
    rw[d,A6]
    unfold J3
    rw[A5 (by omega)]
    exact next
  ·have e:k=T.length:=by omega
   rw[A3 (by omega),e]
theorem Ahx{M:Nat}(hN:30≤N)(hm:Small T H)(h:Fine T H f)(hs:Slim T H M N):Ij N T H f=some (if Ai (pE T H f) T.length 0 T.length=[]then([],6)else(Gw (Ai (pE T H f) T.length 0 T.length) T.length,0)):=by
 unfold Ij
 have hT:=h.n
 have al:=D4 (pE T H f) T.length 0 T.length
 have:T.length*T.length≤5*5:=Nat.mul_le_mul (by omega) (by omega)
 rw[A6s (by omega) hm h hs]
 simp only[Option.bind_some,decide_true,Bool.not_true,A6]
 by_cases c:Ai (pE T H f) T.length 0 T.length=[]
 ·rw[if_pos c,c];rfl
 ·have:(Ai (pE T H f) T.length 0 T.length).length≠0:=fun h=>c (List.eq_nil_of_length_eq_zero h)
  rw[if_neg c,A3 (by omega)]
  have:=Tk (N:=N) (T:=T) (H:=H) (f:=f) (P:=Ai (pE T H f) T.length 0 T.length) (by omega) (by omega) (by omega) N 0 (by omega) (by omega)
  rw[show Gw (Ai (pE T H f) T.length 0 T.length) 0=[]from rfl,show((0:Nat):Int)=0 from rfl]at this
  rw[this];rfl
theorem Mr{M:Nat}(hN:20≤N)(h:Fine T H f)(hs:Slim T H M N){a s:Nat}{g g2:Int}{O:List (Int×Int)}{z:(Int×Int)×Int}(ha:a<T.length):∀(n k:Nat),T.length<n+k→s≤k→k≤T.length →
  rclosest_l2 N n ((O++Ay tt2 a s k).foldl (clS (vP T H)) z).2 a k T H f g g2 ((O++Ay tt2 a s k).foldl (clS (vP T H)) z).1.1 ((O++Ay tt2 a s k).foldl (clS (vP T H)) z).1.2
  = some (((O++Ay tt2 a s T.length).foldl (clS (vP T H)) z).2,(a:Int),T,H,f,g,g2,((O++Ay tt2 a s T.length).foldl (clS (vP T H)) z).1.1,((O++Ay tt2 a s T.length).foldl (clS (vP T H)) z).1.2)
 | 0,k,h1,h2,h3=>by omega
 | n+1,k,h1,h2,h3=>by
  unfold rclosest_l2
  have hT:=h.n
  by_cases c:k<T.length
  ·rw[A4 (by omega),W2 hN h hs (by omega) (by omega)]
   simp only[Option.bind_some,Int.toNat_natCast]
   have next:=Mr hN h hs (s:=s) (g:=g) (g2:=g2) (O:=O) (z:=z) ha n (k+1) (by omega) (by omega) (by omega)
   rw[show((k+1:Nat):Int)=(k:Int)+1 by omega,Gf h2 (show tt2 a k=true from rfl),←List.append_assoc,List.foldl_append (l:=O++Ay tt2 a s k)]at next
   generalize (O++Ay tt2 a s k).foldl (clS (vP T H)) z=S at next ⊢
   rw[List.foldl_cons,List.foldl_nil]at next
   have ev:B8 H (T.getD a []) (T.getD k [])=vP T H ((a:Int),(k:Int)):=by simp[vP]
   rw[ev]
   unfold clS at next
   by_cases d:vP T H ((a:Int),(k:Int))<S.2
   ·rw[A4 d]
    rw[if_pos d]at next
    unfold Fc
    rw[A5 (by omega)]
    exact next
   ·rw[A3 d]
    rw[if_neg d]at next
    unfold Fc
    rw[A5 (by omega)]
    exact next
  ·have e:k=T.length:=by omega
   rw[A3 (by omega),e]
theorem N7{M:Nat}(hN:20≤N)(h:Fine T H f)(hs:Slim T H M N){g g2:Int}{z:(Int×Int)×Int}:∀(n k:Nat),T.length<n+k→k≤T.length →
  rclosest_l1 N n ((Ai tt2 T.length 0 k).foldl (clS (vP T H)) z).2 k T H f g g2 ((Ai tt2 T.length 0 k).foldl (clS (vP T H)) z).1.1 ((Ai tt2 T.length 0 k).foldl (clS (vP T H)) z).1.2
  = some (((prs T.length).foldl (clS (vP T H)) z).2,g,g2,((prs T.length).foldl (clS (vP T H)) z).1.1,((prs T.length).foldl (clS (vP T H)) z).1.2)
 | 0,k,h1,h2=>by omega
 | n+1,k,h1,h2=>by
  unfold rclosest_l1
  have hT:=h.n
  by_cases c:k<T.length
  ·rw[A4 (by omega)]
   have e:=Mr (N:=N) hN h hs (s:=k) (g:=g) (g2:=g2) (O:=Ai tt2 T.length 0 k) (z:=z) c N k (by omega) (by omega) (by omega)
   rw[Ef,List.append_nil]at e
   rw[e]
   simp only[Option.bind_some]
   rw[A5 (by omega)]
   have next:=N7 hN h hs (g:=g) (g2:=g2) (z:=z) n (k+1) (by omega) (by omega)
   rw[Cx,Nat.add_zero,show((k+1:Nat):Int)=(k:Int)+1 by omega]at next
   exact next
  ·have e:k=T.length:=by omega
   rw[A3 (by omega),e];rfl
theorem Abz{M:Nat}(hN:20≤N)(hm:Small T H)(h:Fine T H f)(hs:Slim T H M N):E9 N T H f=some ((clV T H).1.1,(clV T H).1.2,(clV T H).2,0):=by
 unfold E9
 have hT:=h.n
 rw[Ev hN hm,h.check]
 simp only[Option.bind_some,decide_true,Bool.not_true,A6]
 have:=N7 (N:=N) hN h hs (g:=0) (g2:=0) (z:=((0,0),99)) N 0 (by omega) (by omega)
 rw[show Ai tt2 T.length 0 0=[]from rfl]at this
 simp only[List.foldl_nil]at this
 rw[show((0:Nat):Int)=0 from rfl]at this
 rw[this]
 simp only[Option.bind_some]
 have e:(prs T.length).foldl (clS (vP T H)) ((0,0),99)=clV T H:=by
  obtain⟨l,hl⟩:=Al5 hT.1
  unfold clV
  rw[hl,List.foldl_cons,List.foldl_cons]
  have l0:=h.l (T.getD 0 []) (Aa (by omega))
  have tb:=X9 mayA (H:=H) l0.2 l0.2
  have v0:vP T H (0,0)=((T.getD 0 []).length:Int)+(T.getD 0 []).length+H.length-2*(tv mayA H (T.getD 0 []) (T.getD 0 []) (0,0,0)).1:=rfl
  have hH:=h.h
  unfold clS
  rw[if_pos (by dsimp only;omega),if_neg (by dsimp only;omega)]
 rw[e]
theorem J6{W:List (Int×Int)}{text f2 f3:Int}{T2 T3:List (List Int)}{H2 H3:List Int}(hW:W.length≤1000):∀(n k:Nat),W.length<n+k→k≤W.length→epairsl_l1 N n text W W (W.length:Int) k T H f T2 H2 f2 T3 H3 f3=some (.inr (text,T,H,f,T2,H2,f2,T3,H3,f3))
 | 0,k,h,_=>by omega
 | n+1,k,h,hk=>by
  unfold epairsl_l1
  by_cases c:k<W.length
  ·rw[A4 (by omega),Ab (0,0) (by omega) (by omega),Ab (0,0) (by omega) (by omega)]
   simp only[decide_true,Bool.and_self,Bool.not_true,A6]
   rw[A5 (by omega)]
   have:=J6 (text:=text) (f2:=f2) (f3:=f3) (T2:=T2) (T3:=T3) (H2:=H2) (H3:=H3) hW n (k+1) (by omega) (by omega)
   rw[show((k+1:Nat):Int)=(k:Int)+1 by omega]at this
   exact this
  ·rw[A3 (by omega)]
theorem J5:B0 2500=some true:=by kernel_rfl
theorem A2y{text:Int}(h0:(Ty.pair (.sl (.sl (.int .i64))) (.pair (.sl (.int .i64)) (.int .i64))).inB (T,H,f))(h1:(Ty.int .i64).inB text):epairsl_S 2500 T H f text=some true:=by
 unfold epairsl_S
 rcases Q3 (N:=2500) (by omega) T H f with e | ⟨e,hm⟩
 ·rw[e];simp only[Option.bind_some,B1,J5]
 ·rw[e]
  simp only[Option.bind_some,A6]
  have hmn:=hm.n
  rcases Al9 (N:=2500) (T:=T) (H:=H) (f:=f) (heard:=4) (words:=3) hm.n (by omega)with e | ⟨e,w1,w2⟩
  ·rw[e];simp only[Option.bind_some,B1,J5]
  ·rw[e]
   simp only[Option.bind_some,A6]
   rw[F8 (by omega) hm]
   simp only[Option.bind_some]
   by_cases c:B9 T H f=0
   ·have hF:=W3 c
    have hs:Slim T H 7 2500:=by
     have hH:=hF.h
     have hl:H.length≤4:=by omega
     have hp:7 ^ H.length≤7 ^ 4:=Nat.pow_le_pow_right (by decide) hl
     refine⟨fun x hx y hy=>?_,by omega,by omega⟩
     have a1:=w2 x hx;have a2:=hF.l x hx
     have b1:=w2 y hy;have b2:=hF.l y hy
     omega
    have al:=D4 (pE T H f) T.length 0 T.length
    have hn:=hF.n
    have hn2:T.length*T.length≤5*5:=Nat.mul_le_mul (by omega) (by omega)
    have e1:=J6 (N:=2500) (T:=T) (H:=H) (f:=f) (W:=Ai (pE T H f) T.length 0 T.length) (text:=text) (f2:=f) (f3:=f) (T2:=T) (T3:=T) (H2:=H) (H3:=H) (by omega) 2500 0 (by omega) (by omega)
    rw[show((0:Nat):Int)=0 from rfl]at e1
    rw[Alo (by omega) hF,A6s (by omega) hm hF hs]
    simp only[Option.bind_some,decide_true,Bool.not_true,A6]
    rw[e1]
    simp only[Option.bind_some]
    rw[Aoe (by omega) hF,Amw (by omega) hm hF hs]
    simp only[Option.bind_some,decide_true,Bool.not_true,A6]
    have wl:(if 0≤text∧text<(T.length:Int)then(H4 T H f text.toNat T.length,(0:Int))else([],1)).1.length≤5:=by
     split
     ·have:=Rm T H f text.toNat T.length;dsimp only;omega
     ·simp
    rw[O2 (by omega) (by omega),Aly (by omega) hF,Ahx (by omega) hm hF hs]
    simp only[Option.bind_some,decide_true,Bool.not_true,A6]
    have ml:(if Ai (pE T H f) T.length 0 T.length=[]then(([]:List Int),(6:Int))else(Gw (Ai (pE T H f) T.length 0 T.length) T.length,0)).1.length≤5:=by
     split
     ·simp
     ·have:=S3 (Ai (pE T H f) T.length 0 T.length) T.length;dsimp only;omega
    rw[O2 (by omega) (by omega),Age (by omega) hF,Abz (by omega) hm hF hs]
    simp only[Option.bind_some,decide_true,Bool.not_true,A6,B1,Bool.and_self]
    rw[Ky (by omega) hm,J5]
    rfl
   ·have e1:Jb 2500 T H f=some ([],B9 T H f):=by
     unfold Jb
     rw[C8 (by omega)]
     simp only[Option.bind_some]
     rw[Al c]
    have e2:Gv 2500 T H f=some ([],B9 T H f):=by
     unfold Gv
     rw[Ev (by omega) hm]
     simp only[Option.bind_some]
     rw[Al c]
    have e3:Hx 2500 T H f text=some ([],B9 T H f):=by
     unfold Hx
     rw[C8 (by omega)]
     simp only[Option.bind_some]
     rw[Al c]
    have e4:Lw 2500 T H f text=some ([],B9 T H f):=by
     unfold Lw
     rw[Jg (by omega) hm]
     unfold Ao
     rw[if_pos c]
     simp only[Option.bind_some]
     rw[Al c]
    have e5:M5 2500 T H f=some ([],B9 T H f):=by
     unfold M5
     rw[C8 (by omega)]
     simp only[Option.bind_some]
     rw[Al c]
    have e6:Ij 2500 T H f=some ([],B9 T H f):=by
     unfold Ij
     rw[e2]
     simp only[Option.bind_some]
     rw[Al c]
    have e7:G8 2500 T H f=some (0,0,0,B9 T H f):=by
     unfold G8
     rw[C8 (by omega)]
     simp only[Option.bind_some]
     rw[Al c]
    have e8:E9 2500 T H f=some (0,0,0,B9 T H f):=by
     unfold E9
     rw[Ev (by omega) hm]
     simp only[Option.bind_some]
     rw[Al c]
    have e9:=J6 (N:=2500) (T:=T) (H:=H) (f:=f) (W:=[]) (text:=text) (f2:=f) (f3:=f) (T2:=T) (T3:=T) (H2:=H) (H3:=H) (by simp) 2500 0 (by simp) (by simp)
    rw[show((0:Nat):Int)=0 from rfl]at e9
    rw[e1,e2]
    simp only[Option.bind_some,decide_true,Bool.not_true,A6]
    rw[e9]
    simp only[Option.bind_some]
    rw[e3,e4]
    simp only[Option.bind_some,decide_true,Bool.not_true,A6]
    rw[O2 (s:=[]) (by simp) (by simp),e5,e6]
    simp only[Option.bind_some,decide_true,Bool.not_true,A6]
    rw[O2 (s:=[]) (by simp) (by simp),e7,e8]
    simp only[Option.bind_some,decide_true,Bool.not_true,A6,B1,Bool.and_self]
    rw[Ky (by omega) hm,J5]
    rfl
end
end Go.Proofs.YtfcnhnbnjdccfaaGreat

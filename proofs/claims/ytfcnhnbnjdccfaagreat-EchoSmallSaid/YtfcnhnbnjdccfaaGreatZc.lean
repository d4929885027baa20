/-
  Parts of a proof, put together: SvM, SvN, Sv18, Lin, Sv19, Sv20, Sv21, Sv22, Sv23, Sv24, Sv25.
  Conditions: none.
-/
import Derived.Test.YtfcnhnbnjdccfaaGreatZa
import Derived.Test.YtfcnhnbnjdccfaaGreatZb
namespace Go.Proofs.YtfcnhnbnjdccfaaGreat
set_option linter.all false
open Go

def Ty.noSl:Ty→Bool
 | .int _=>true
 | .bool=>true
 | .pair a b=>a.noSl&&b.noSl
 | .sl _=>false
 | .ptr _=>false
theorem RepC.fun_{M:Nat→Option Obj}:∀ {y:Ty} {x:y.den} {us us':List Value},y.noSl=true→RepC M y x us→RepC M y x us'→us=us'
 | .int k,x,us,us',_,h1,h2=>by rw[h1.1,h2.1]
 | .bool,x,us,us',_,h1,h2=>by simp only[RepC]at h1 h2;rw[h1,h2]
 | .pair a b,x,us,us',hn,⟨v1,v2,e,h1,h2⟩,⟨u1,u2,e',h3,h4⟩=>by
  simp only[Ty.noSl,Bool.and_eq_true]at hn
  rw[e,e',RepC.fun_ hn.1 h1 h3,RepC.fun_ hn.2 h2 h4]
 | .sl _,_,_,_,hn,_,_=>by simp[Ty.noSl]at hn
 | .ptr _,_,_,_,hn,_,_=>by simp[Ty.noSl]at hn
theorem RepC.inj_{M:Nat→Option Obj}:∀ {y:Ty} {x x':y.den} {us:List Value},y.noSl=true→RepC M y x us→RepC M y x' us→x=x'
 | .int k,x,x',us,_,h1,h2=>by
  have:=h1.1.symm.trans h2.1
  simp only[List.cons.injEq,Value.int.injEq,true_and,and_true]at this
  exact this
 | .bool,x,x',us,_,h1,h2=>by
  simp only[RepC]at h1 h2
  have:=h1.symm.trans h2
  simp only[List.cons.injEq,Value.bool.injEq,and_true]at this
  exact this
 | .pair a b,x,x',us,hn,⟨v1,v2,e,h1,h2⟩,⟨u1,u2,e',h3,h4⟩=>by
  simp only[Ty.noSl,Bool.and_eq_true]at hn
  have hl:v1.length=u1.length:=by rw[(RepC.len a _ _ h1).1,(RepC.len a _ _ h3).1]
  rw[e]at e'
  obtain⟨rfl,rfl⟩:=List.append_inj e' hl
  have e1:=RepC.inj_ hn.1 h1 h3
  have e2:=RepC.inj_ hn.2 h2 h4
  exact Prod.ext e1 e2
 | .sl _,_,_,_,hn,_,_=>by simp[Ty.noSl]at hn
 | .ptr _,_,_,_,hn,_,_=>by simp[Ty.noSl]at hn
theorem CV.fun_{y:Ty}{us:List Value}{v v':Value}(h1:CV y us v)(h2:CV y us v'):v=v':=by
 cases y<;>simp only[CV]at h1 h2
 case pair=>rw[h1,h2]
 all_goals (have:=h1.symm.trans h2;simpa using this)
theorem CV.inj_{y:Ty}{us us':List Value}{v:Value}(h1:CV y us v)(h2:CV y us' v):us=us':=by
 cases y<;>simp only[CV]at h1 h2
 case pair=>have:=h1.symm.trans h2;simpa using this
 all_goals rw[h1,h2]
theorem RepE.fun_{M:Nat→Option Obj}{y:Ty}{x:y.den}{v v':Value}(hn:y.noSl=true)(h1:RepE M y x v)(h2:RepE M y x v'):v=v':=by
 obtain⟨us,a,b⟩:=h1
 obtain⟨us',c,d⟩:=h2
 have:=RepC.fun_ hn a c
 subst this
 exact CV.fun_ b d
theorem RepE.inj_{M:Nat→Option Obj}{y:Ty}{x x':y.den}{v:Value}(hn:y.noSl=true)(h1:RepE M y x v)(h2:RepE M y x' v):x=x':=by
 obtain⟨us,a,b⟩:=h1
 obtain⟨us',c,d⟩:=h2
 have:=CV.inj_ b d
 subst this
 exact RepC.inj_ hn a c
theorem Cn:∀ {y:Ty} {x x':y.den},y.noSl=true→(y.beq x x'=true↔x=x')
 | .int k,x,x',_=>by simp[Ty.beq]
 | .bool,x,x',_=>by simp[Ty.beq]
 | .pair a b,x,x',hn=>by
  simp only[Ty.noSl,Bool.and_eq_true]at hn
  simp only[Ty.beq,Bool.and_eq_true,Cn hn.1,Cn hn.2]
  exact⟨fun h=>Prod.ext h.1 h.2,fun h=>by subst h;exact⟨rfl,rfl⟩⟩
 | .sl _,_,_,hn=>by simp[Ty.noSl]at hn
 | .ptr _,_,_,hn=>by simp[Ty.noSl]at hn
theorem Cs:∀(y:Ty) (x:y.den),(avs y x).length=y.cells∧∀p∈avs y x,p.psz=1
 | .int _,_=>by simp[avs,Ty.cells,AV.psz]
 | .bool,_=>by simp[avs,Ty.cells,AV.psz]
 | .pair a b,x=>by
  obtain⟨l1,p1⟩:=Cs a x.1
  obtain⟨l2,p2⟩:=Cs b x.2
  refine⟨by simp[avs,Ty.cells,l1,l2],fun p hp=>?_⟩
  simp only[avs]at hp
  rcases List.mem_append.1 hp with h | h
  ·exact p1 p h
  ·exact p2 p h
 | .sl _,_=>by simp[avs,Ty.cells,AV.psz]
 | .ptr _,_=>by simp[avs,Ty.cells,AV.psz]
theorem Ia:∀(l r:List AV),(∀p∈l,p.psz=1)→Es (l++r) l.length=some l
 | [],r,_=>by cases r<;>rfl
 | p::l,r,h=>by
  simp only[List.cons_append,List.length_cons,Es,h p (by simp)]
  rw[if_pos (by omega)]
  simp[Ia l r (fun q hq=>h q (by simp[hq]))]
theorem S9:∀(l r:List AV),(∀p∈l,p.psz=1)→skipP (l++r) l.length=some r
 | [],r,_=>by cases r<;>rfl
 | p::l,r,h=>by
  simp only[List.cons_append,List.length_cons,skipP,h p (by simp)]
  rw[if_pos (by omega)]
  simpa using S9 l r (fun q hq=>h q (by simp[hq]))

section
variable {P:Program} {H:HH}
theorem Nx{ok:TypeId→Ty→Bool}{o:Nat}{f:Field}{fs:List Field}{y:Ty}(h:keyFs P ok o (f::fs) y=true) :
  f.name ≠ "_" ∧ f.offset = o ∧ ((fs = [] ∧ szOf P f.type = some y.cells ∧ ok f.type y = true) ∨ ∃ a b, y = .pair a b ∧ fs ≠ [] ∧ szOf P f.type = some a.cells ∧ ok f.type a = true ∧ keyFs P ok (o + a.cells) fs b = true) := by
 cases fs with
 | nil=>
  simp only[keyFs,Bool.and_eq_true,Bool.not_eq_true',beq_iff_eq,beq_eq_false_iff_ne]at h
  exact⟨h.1.1.1,h.1.1.2,.inl ⟨rfl,h.1.2,h.2⟩⟩
 | cons g fs=>
  cases y<;>simp only[keyFs,Bool.false_eq_true,Bool.and_eq_true,Bool.not_eq_true',beq_iff_eq,beq_eq_false_iff_ne]at h
  exact⟨h.1.1.1.1,h.1.1.1.2,.inr ⟨_,_,rfl,by simp,h.1.1.2,h.1.2,h.2⟩⟩
theorem A1v{ok:TypeId→Ty→Bool}{o:Nat}{y:Ty}:keyFs P ok o [] y=false:=by unfold keyFs;rfl
theorem Cu:∀(d:Nat) (t:TypeId) (y:Ty),keyOK P d t y=true→y.noSl=true∧∃ag,aggOf P t=some ag∧(ag=false→y.cells=1)
 | 0,_,_,h=>by simp[keyOK]at h
 | d+1,t,y,h=>by
  unfold keyOK at h
  split at h
  ·rename_i he;exact⟨rfl,false,by simp[aggOf,he],fun _=>rfl⟩
  ·rename_i he;exact⟨rfl,false,by simp[aggOf,he],fun _=>rfl⟩
  ·rename_i z0 fs he
   simp only[Bool.and_eq_true]at h
   refine⟨?_,true,by simp[aggOf,he],by simp⟩
   have key:∀(fl:List Field) (o:Nat) (y:Ty),keyFs P (keyOK P d) o fl y=true→y.noSl=true:=by
    intro fl
    induction fl with
    | nil=>intro o y h;rw[A1v]at h;cases h
    | cons f fl ih=>
     intro o y h
     obtain⟨_,_,⟨_,_,h1⟩ | ⟨a,b,rfl,_,_,h1,h2⟩⟩:=Nx h
     ·exact(Cu d _ _ h1).1
     ·simp[Ty.noSl,(Cu d _ _ h1).1,ih _ _ h2]
   exact key _ _ _ h.2
  ·rename_i yy n e he
   simp only[Bool.and_eq_true]at h
   obtain⟨_,h⟩:=h
   split at h
   ·have:=of_decide_eq_true h
    subst this
    exact⟨rfl,true,by simp[aggOf,he],by simp⟩
   ·cases h
  ·cases h
theorem Yi:∀(d:Nat) (t:TypeId) (y:Ty) (x x':y.den),keyOK P d t y=true→eqT P d t (avs y x) (avs y x')=some (y.beq x x')
 | 0,_,_,_,_,h=>by simp[keyOK]at h
 | d+1,t,y,x,x',h=>by
  unfold keyOK at h
  split at h
  ·rename_i k' k he
   simp[eqT,he,avs,Ty.beq]
  ·rename_i he
   simp[eqT,he,avs,Ty.beq]
  ·rename_i z0 fs he
   simp only[Bool.and_eq_true,Bool.not_eq_true']at h
   have key:∀(fl:List Field) (o:Nat) (y:Ty) (x x':y.den),keyFs P (keyOK P d) o fl y=true→eqT.eqF P (eqT P d) o fl (avs y x) (avs y x')=some (y.beq x x'):=by
    intro fl
    induction fl with
    | nil=>intro o y x x' h;rw[A1v]at h;cases h
    | cons f fl ih=>
     intro o y x x' h
     obtain⟨hn,ho,⟨rfl,hs,h1⟩ | ⟨a,b,rfl,hne,hs,h1,h2⟩⟩:=Nx h
     ·have hc : ¬ (f.name = "_" ∨ f.offset ≠ o) := by simp [hn, ho]
      have hpos:=Ty.cells_pos y
      have t1:=Ia (avs y x) [] (Cs y x).2
      have t2:=Ia (avs y x') [] (Cs y x').2
      rw[List.append_nil,(Cs y x).1]at t1
      rw[List.append_nil,(Cs y x').1]at t2
      simp only[eqT.eqF,if_neg hc,hs,Option.bind_some,if_neg (show ¬y.cells=0 by omega),t1,t2,Yi d f.type y x x' h1]
     ·have hc : ¬ (f.name = "_" ∨ f.offset ≠ o) := by simp [hn, ho]
      have hpos:=Ty.cells_pos a
      have t1:=Ia (avs a x.1) (avs b x.2) (Cs a x.1).2
      have t2:=Ia (avs a x'.1) (avs b x'.2) (Cs a x'.1).2
      have s1:=S9 (avs a x.1) (avs b x.2) (Cs a x.1).2
      have s2:=S9 (avs a x'.1) (avs b x'.2) (Cs a x'.1).2
      rw[(Cs a x.1).1]at t1 s1
      rw[(Cs a x'.1).1]at t2 s2
      have ih':=ih _ b x.2 x'.2 h2
      cases fl with
      | nil=>exact absurd rfl hne
      | cons g gs=>
       simp only[eqT.eqF,avs,if_neg hc,hs,Option.bind_some,if_neg (show ¬a.cells=0 by omega),t1,t2,s1,s2,Yi d f.type a x.1 x'.1 h1]
       simp only[eqT.eqF]at ih'
       rw[ih']
       rfl
   unfold eqT
   simp only[he,h.1,Bool.false_eq_true,if_false]
   exact key _ _ _ _ _ h.2
  ·rename_i yy n e he
   simp only[Bool.and_eq_true,decide_eq_true_eq]at h
   obtain⟨hc,h⟩:=h
   split at h
   ·rename_i k hk
    have:=of_decide_eq_true h
    subst this
    obtain⟨x0,x1,x2,x3⟩:=x
    obtain⟨y0,y1,y2,y3⟩:=x'
    simp[eqT,he,if_pos hc,hk,avs,Ty.beq,Bool.decide_and]
   ·cases h
  ·cases h
theorem A6e{M:Nat→Option Obj}{t:TypeId}{y:Ty}(ha:aggOf P t=some y.isPair){x:y.den}{v:Value}(h:RepE M y x v):∃us,RepC M y x us∧Bl P t us v:=by
 obtain⟨us,hC,hv⟩:=h
 refine⟨us,hC,?_⟩
 cases y<;>simp only[Ty.isPair]at ha<;>simpa [Bl,ha,CV]using hv
theorem Ag4{M:Nat→Option Obj}{t:TypeId}{y:Ty}(hk:keyOK P 9 t y=true)(ha:aggOf P t=some y.isPair){x x':y.den}{v v':Value}(h1:RepE M y x v)(h2:RepE M y x' v')(w:World):(Op.equal t v v').run P w=.ok (y.beq x x') w:=by
 obtain⟨us,c1,i1⟩:=A6e (P:=P) ha h1
 obtain⟨us',c2,i2⟩:=A6e (P:=P) ha h2
 exact Rv (g:=⟨fun _=>none,M⟩) 9 t _ _ _ (Yi 9 t y x x' hk) us us' v v' (A7.avs y x us c1) (A7.avs y x' us' c2) i1 i2 10000 w (by omega)
theorem Si{α:Type}(body:α→PUnit→Sem (ForInStep PUnit)):∀(l:List α) (w:World),(∀x∈l,(body x ⟨⟩).run P w=.ok (.yield ⟨⟩) w)→(forIn l PUnit.unit body).run P w=.ok ⟨⟩ w
 | [],w,_=>by simp
 | x::l,w,h=>by
  simp only[List.forIn_cons,Sem.run_bind,h x (by simp),Result.andThen_ok]
  exact Si body l w (fun y hy=>h y (by simp[hy]))
theorem Jc:∀(d D:Nat) (t:TypeId) (y:Ty) {M:Nat→Option Obj} {x:y.den} {us:List Value} {v:Value} (em:Bool) (w:World),d≤D→keyOK P d t y=true→RepC M y x us→Bl P t us v→(Instr.checkKey em D t v).run P w=.ok () w
 | 0,_,_,_,_,_,_,_,_,_,_,h,_,_=>by simp[keyOK]at h
 | d+1,D,t,y,M,x,us,v,em,w,hD,h,hC,hv=>by
  obtain⟨D,rfl⟩:∃D',D=D'+1:=⟨D-1,by omega⟩
  unfold keyOK at h
  split at h
  ·rename_i k' k he
   obtain⟨rfl,_⟩:=hC
   simp only[Bl,aggOf,he,List.cons.injEq,and_true]at hv
   subst hv
   simp[Instr.checkKey,A9 he]
  ·rename_i he
   simp only[RepC]at hC;subst hC
   simp only[Bl,aggOf,he,List.cons.injEq,and_true]at hv
   subst hv
   simp[Instr.checkKey,A9 he]
  ·rename_i z0 fs he
   simp only[Bool.and_eq_true]at h
   simp only[Bl,aggOf,he]at hv
   subst hv
   have key : ∀ (fl : List Field) (o : Nat) (y : Ty) (x : y.den), keyFs P (keyOK P d) o fl y = true → RepC M y x (us.drop o) → ∀ f ∈ fl, ∃ v, (part f.type us.toArray f.offset).run P w = .ok v w ∧ (Instr.checkKey em D f.type v).run P w = .ok () w ∧ f.name ≠ "_" := by
    intro fl
    induction fl with
    | nil=>intro o y x _ _ f hf;cases hf
    | cons f fl ih=>
     intro o y x h hC f' hf'
     have one:∀(a:Ty) (xa:a.den),szOf P f.type=some a.cells→keyOK P d f.type a=true→RepC M a xa ((us.drop o).take a.cells)→f.offset=o→∃v,(part f.type us.toArray f.offset).run P w=.ok v w∧(Instr.checkKey em D f.type v).run P w=.ok () w:=by
      intro a xa hs hk hCa ho
      obtain⟨_,ag,hag,h1⟩:=Cu d f.type a hk
      have hl:=(RepC.len a xa _ hCa).1
      rw[List.length_take,List.length_drop]at hl
      have hpos:=Ty.cells_pos a
      obtain⟨v,hr,hi⟩:=L7 (P:=P) (t:=f.type) (o:=f.offset) (vs:=us) hs hag (by omega) rfl h1 w
      rw[ho]at hi
      exact⟨v,hr,Jc d D f.type a em w (by omega) hk hCa hi⟩
     obtain⟨hn,ho,⟨rfl,hs,h1⟩ | ⟨a,b,rfl,hne,hs,h1,h2⟩⟩:=Nx h
     ·simp at hf';subst hf'
      have hl:=(RepC.len y x _ hC).1
      obtain⟨v,r1,r2⟩:=one y x hs h1 (by rw[List.take_of_length_le (by omega)];exact hC) ho
      exact⟨v,r1,r2,hn⟩
     ·obtain⟨v1,v2,e,c1,c2⟩:=hC
      have hl:=(RepC.len a _ _ c1).1
      rcases List.mem_cons.1 hf' with rfl | hf'
      ·obtain⟨v,r1,r2⟩:=one a x.1 hs h1 (by rw[e,←hl,List.take_left];exact c1) ho
       exact⟨v,r1,r2,hn⟩
      ·refine ih (o+a.cells) b x.2 h2 ?_ f' hf'
       rw[←List.drop_drop,e,←hl,List.drop_left];exact c2
   have hall:=key fs.toList 0 _ _ h.2 (by simpa using hC)
   simp only[Instr.checkKey,Sem.run_bind,A9 he,Result.andThen_ok]
   rw[←Array.forIn_toList]
   rw[Si]
   ·rfl
   ·intro f hf
    obtain⟨v,r1,r2,hn⟩:=hall f hf
    simp[hn,r1,r2]
  ·rename_i yy n e he
   simp only[Bool.and_eq_true,decide_eq_true_eq]at h
   obtain⟨⟨hd,rfl,hsz⟩,h⟩:=h
   split at h
   ·rename_i k hk
    have:=of_decide_eq_true h
    subst this
    simp only[Bl,aggOf,he]at hv
    subst hv
    obtain⟨x0,x1,x2,x3⟩:=x
    obtain⟨_,_,rfl,⟨rfl,_⟩,_,_,rfl,⟨rfl,_⟩,_,_,rfl,⟨rfl,_⟩,rfl,_⟩:=hC
    have ha:aggOf P e=some false:=by simp[aggOf,hk]
    have hall:∀i,i<4→∃n,([Value.int k x0]++([Value.int k x1]++([Value.int k x2]++[Value.int k x3])))[i]?=some (.int k n):=fun i hi=>by
     match i,hi with
     | 0,_=>exact⟨x0,rfl⟩
     | 1,_=>exact⟨x1,rfl⟩
     | 2,_=>exact⟨x2,rfl⟩
     | 3,_=>exact⟨x3,rfl⟩
     | i+4,hi=>exact absurd hi (by omega)
    generalize ([Value.int k x0]++([Value.int k x1]++([Value.int k x2]++[Value.int k x3])))=us at *
    have one:∀(i:Nat),i<4→∃v,(part e us.toArray (i*1)).run P w=.ok v w∧(Instr.checkKey em D e v).run P w=.ok () w:=fun i hi=>by
     obtain⟨n,hn⟩:=hall i hi
     refine⟨.int k n,by simp[part,Eg ha,hn],?_⟩
     cases D with
     | zero=>omega
     | succ D=>simp[Instr.checkKey,A9 hk]
    simp only[Instr.checkKey,Sem.run_bind,A9 he,Result.andThen_ok]
    rw[Std.Legacy.Range.forIn_eq_forIn_range']
    rw[Si]
    ·rfl
    ·intro i hi
     have hi:=List.mem_range'_1.1 hi
     simp only[Std.Legacy.Range.size]at hi
     obtain⟨v,r1,r2⟩:=one i (by omega)
     simp only[Sem.run_bind,B6 hsz,r1,r2,Result.andThen_ok,Sem.run_pure]
   ·cases h
  ·cases h

def A21{M:Nat→Option Obj}{y:Ty}(x:y.den)(es:List MapEntry)(i:Nat)(r:Option (Nat×Value)):Prop:=
 (r=none∧∀e∈es,∀x',RepE M y x' e.key→y.beq x x'=false)∨∃j e,r=some (i+j,e.val)∧es[j]?=some e∧∃x',RepE M y x' e.key∧y.beq x x'=true
theorem A21.cons{M:Nat→Option Obj}{y:Ty}(hn:y.noSl=true){x:y.den}{e:MapEntry}{es:List MapEntry}{i:Nat}{r:Option (Nat×Value)}{x0:y.den}(h0:RepE M y x0 e.key)(hb:y.beq x x0=false)(h:A21 (M:=M) x es (i+1) r):A21 (M:=M) x (e::es) i r:=by
 rcases h with⟨rfl,h⟩ | ⟨j,e',rfl,h1,h2⟩
 ·refine .inl ⟨rfl,fun e' he' x' hx'=>?_⟩
  rcases List.mem_cons.1 he' with rfl | he'
  ·rw[←RepE.inj_ hn h0 hx'];exact hb
  ·exact h e' he' x' hx'
 ·exact .inr ⟨j+1,e',by rw[show i+1+j=i+(j+1)by omega],by simpa using h1,h2⟩
theorem Kn{M:Nat→Option Obj}{t:TypeId}{y:Ty}(hk:keyOK P 9 t y=true)(ha:aggOf P t=some y.isPair){x:y.den}{v:Value}(hv:RepE M y x v)(w:World):∀(es:List MapEntry) (i:Nat),(∀e∈es,∃x',RepE M y x' e.key) →
  ∃r,(Instr.findAsking t v es i).run P w=.ok r w∧A21 (M:=M) x es i r
 | [],i,_=>⟨none,rfl,.inl ⟨rfl,by simp⟩⟩
 | e::es,i,h=>by
  obtain⟨x0,h0⟩:=h e (by simp)
  have he:=Ag4 (P:=P) hk ha hv h0 w
  have hn:=(Cu (P:=P) 9 t y hk).1
  cases hb:y.beq x x0 with
  | true=>
   rw[hb]at he
   exact⟨some (i,e.val),by simp[Instr.findAsking,he],.inr ⟨0,e,rfl,rfl,x0,h0,hb⟩⟩
  | false=>
   rw[hb]at he
   obtain⟨r,hr,hR⟩:=Kn hk ha hv w es (i+1) (fun e he=>h e (by simp[he]))
   exact⟨r,by simp[Instr.findAsking,he,hr],hR.cons hn h0 hb⟩
theorem P9{M:Nat→Option Obj}{kd:TypeDesc}{y:Ty}(hn:y.noSl=true){x x':y.den}{v v':Value}(h1:RepE M y x v)(h2:RepE M y x' v'){b:Bool}(h:Instr.sameNow kd v v'=some b):b=y.beq x x':=by
 obtain⟨us,c1,e1⟩:=h1
 obtain⟨us',c2,e2⟩:=h2
 cases y with
 | int k=>
  simp only[CV]at e1 e2;subst e1 e2
  obtain⟨c1,_⟩:=c1
  obtain⟨c2,_⟩:=c2
  simp at c1 c2;subst c1 c2
  cases kd<;>simp[Instr.sameNow]at h
  subst h
  simp[Ty.beq];rfl
 | bool=>
  simp only[CV]at e1 e2;subst e1 e2
  simp only[RepC,List.cons.injEq,and_true]at c1 c2
  subst c1 c2
  cases kd<;>simp[Instr.sameNow]at h
  subst h
  simp[Ty.beq]
 | pair a b'=>
  simp only[CV]at e1 e2;subst e1 e2
  cases kd<;>simp[Instr.sameNow]at h
 | sl a=>simp[Ty.noSl]at hn
 | ptr a=>simp[Ty.noSl]at hn
theorem findNow_spec{M:Nat→Option Obj}{kd:TypeDesc}{y:Ty}(hn:y.noSl=true){x:y.den}{v:Value}(hv:RepE M y x v):∀(es:List MapEntry) (i:Nat),(∀e∈es,∃x',RepE M y x' e.key)→∀r,Instr.findNow kd v es i=some r→A21 (M:=M) x es i r
 | [],i,_,r,h=>by simp only[Instr.findNow,Option.some.injEq]at h;subst h;exact .inl ⟨rfl,by simp⟩
 | e::es,i,hes,r,h=>by
  obtain⟨x0,h0⟩:=hes e (by simp)
  simp only[Instr.findNow]at h
  split at h
  ·rename_i hs
   simp only[Option.some.injEq]at h;subst h
   exact .inr ⟨0,e,rfl,rfl,x0,h0,(P9 hn hv h0 hs).symm⟩
  ·rename_i hs
   exact(findNow_spec hn hv es (i+1) (fun e he=>hes e (by simp[he])) r h).cons hn h0 (P9 hn hv h0 hs).symm
  ·cases h
theorem V5{M:Nat→Option Obj}{t:TypeId}{y:Ty}(hk:keyOK P 9 t y=true)(ha:aggOf P t=some y.isPair){x:y.den}{v:Value}(hv:RepE M y x v)(es:List MapEntry)(hes:∀e∈es,∃x',RepE M y x' e.key)(w:World) :
  ∃r,(Instr.findKey t v es).run P w=.ok r w∧A21 (M:=M) x es 0 r:=by
 obtain⟨kd,hkd⟩:∃kd,P.underlying t=some kd:=by
  cases h:P.underlying t with
  | none=>simp[aggOf,h]at ha
  | some kd=>exact⟨kd,rfl⟩
 have hn:=(Cu (P:=P) 9 t y hk).1
 simp only[Instr.findKey,Sem.run_bind,A9 hkd,Result.andThen_ok]
 cases hf:Instr.findNow kd v es 0 with
 | some r=>exact⟨r,rfl,findNow_spec hn hv es 0 hes r hf⟩
 | none=>exact Kn hk ha hv w es 0 hes
theorem Mw:∀(n:Nat) (l:List Value),(∀v∈l,(∃k i,v=.int k i)∨∃b,v=.bool b)→(l.zip l).all (fun(x,y)=>Instr.sameBits n x y)=true
 | n,[],_=>rfl
 | n,v::l,h=>by
  simp only[List.zip_cons_cons,List.all_cons,Bool.and_eq_true]
  refine⟨?_,Mw n l (fun u hu=>h u (by simp[hu]))⟩
  rcases h v (by simp)with⟨k,i,rfl⟩ | ⟨b,rfl⟩<;>cases n<;>simp[Instr.sameBits]
theorem Rz{M:Nat→Option Obj}:∀ {y:Ty} {x:y.den} {us:List Value},y.noSl=true→RepC M y x us→∀v∈us,(∃k i,v=.int k i)∨∃b,v=.bool b
 | .int k,x,us,_,h=>by obtain⟨rfl,_⟩:=h;intro v hv;simp at hv;exact .inl ⟨_,_,hv⟩
 | .bool,x,us,_,h=>by simp only[RepC]at h;subst h;intro v hv;simp at hv;exact .inr ⟨_,hv⟩
 | .pair a b,x,us,hn,⟨v1,v2,e,h1,h2⟩=>by
  simp only[Ty.noSl,Bool.and_eq_true]at hn
  subst e
  intro v hv
  rcases List.mem_append.1 hv with hv | hv
  ·exact Rz hn.1 h1 v hv
  ·exact Rz hn.2 h2 v hv
 | .sl _,_,_,hn,_=>by simp[Ty.noSl]at hn
 | .ptr _,_,_,hn,_=>by simp[Ty.noSl]at hn
theorem Af6{M:Nat→Option Obj}{y:Ty}(hn:y.noSl=true){x:y.den}{v:Value}(hv:RepE M y x v)(w:World):(Instr.keyThatStays v v).run P w=.ok v w:=by
 have:Instr.sameBits 10000 v v=true:=by
  obtain⟨us,hC,hc⟩:=hv
  have hvals:=Rz hn hC
  cases y with
  | pair a b=>
   simp only[CV]at hc;subst hc
   have:=Mw 9999 us hvals
   simp only[Instr.sameBits,beq_self_eq_true,Bool.true_and]
   simpa using this
  | int k=>simp only[CV]at hc;subst hc;rcases hvals v (by simp)with⟨k,i,rfl⟩ | ⟨b,rfl⟩<;>simp[Instr.sameBits]
  | bool=>simp only[CV]at hc;subst hc;rcases hvals v (by simp)with⟨k,i,rfl⟩ | ⟨b,rfl⟩<;>simp[Instr.sameBits]
  | sl a=>simp[Ty.noSl]at hn
  | ptr a=>simp[Ty.noSl]at hn
 simp[Instr.keyThatStays,this]
end
end Go.Proofs.YtfcnhnbnjdccfaaGreat

namespace Go.Proofs.YtfcnhnbnjdccfaaGreat
set_option linter.all false
open Go

section
variable {P:Program} {specs:List Spec} {o:Oper} {L:LL} {H:HH} {Z:Type} {κ:AV→HH→List Nat→List Nat→Option Z} {z:Z}

theorem Ack{t:TypeId}(hop:o.op=.makeMap t none)(h:evOp P specs o L H κ=some z):OpR P o L H κ z:=by
 simp only[evOp,hop]at h
 split at h
 ·rename_i kt vt he
  obtain⟨a,ha,h1⟩:=bind_some h
  obtain⟨b,hb,h2⟩:=bind_some h1
  refine⟨_,_,_,_,h2,OpS.new (fz:=[]) (by simp[hop]) (by simp) (by simp) (by simp) (fun g hh w ρ hO hs _ _ hρ=>?_)⟩
  have hN:=New.mk' (.map #[] 0) w
  refine⟨w.heap.size,_,_,0,0,.map (some w.heap.size),?_,⟨rfl,hN.ext,hN.size,hN.blk⟩,?_,w.heap.size,0,0,Ad _ _ _,rfl⟩
  ·simp[execOp,hop,Instr.makeMap,newObj,Sem.run_bind,Sem.run,Result.andThen,Sem.run_pure]
  ·exact⟨w.heap.size,0,0,#[],0,Ad _ _ _,hN.blk,hs.fresh,by simp,by simp,by simp⟩
 ·cases h
theorem Ahj{g:Gh}{w:World}{t:Ty}{a:AV}{r:t.den×List Nat}{v:Value}(h:un1 [] t a=some r)(hag:J8 a=t.isPair)(hv:RepV g a v):RepE g.M t r.1 v:=by
 have hp:=A9h h
 have hC:=A90 (w:=w) h hp hv (fun i hi=>by have:=Al0 h i hi;simp at this)
 refine⟨_,hC,?_⟩
 have hl:=(RepC.len t _ _ hC).1
 cases ha:J8 a with
 | true=>
  rw[ha]at hag
  cases t<;>simp[Ty.isPair]at hag
  cases a<;>simp[J8]at ha
  simp only[RepV]at hv
  obtain⟨vs,rfl,_⟩:=hv
  simp[CV,Value.cells]
 | false=>
  rw[ha]at hag
  have hcell:v.cells.toList=[v]:=by
   cases a<;>simp only[J8,Bool.true_eq_false]at ha<;>simp only[AV.parts,List.all_cons,List.all_nil,Bool.and_true,AV.part,Bool.false_eq_true]at hp<;>simp only[RepV]at hv
   case arr=>unfold un1 at h;obtain⟨x,hx,_⟩:=bind_some h;cases t<;>simp[Ty.isPair]at hag<;>simp[un,AV.parts]at hx
   case i=>rw[hv.1];rfl
   case sl=>obtain⟨_,b,c,rfl,_⟩:=hv;rfl
   case ols=>rcases hv with⟨_,rfl⟩ | ⟨_,_,_,_,rfl⟩<;>rfl
   case fe=>obtain⟨b,o,vs,ty,us,rfl,_⟩:=hv;rfl
   case fz=>obtain⟨b,o,vs,ty,us,rfl,_⟩:=hv;rfl
   case fa=>obtain⟨b,o,vs,ty,rfl,_⟩:=hv;rfl
   case own=>obtain⟨b,c,n,_,rfl⟩:=hv;rfl
   case elt=>obtain⟨b,c,n,_,rfl⟩:=hv;rfl
   case osl=>obtain⟨b,c,n,_,rfl⟩:=hv;rfl
   case mp=>obtain⟨b,c,n,_,rfl⟩:=hv;rfl
   case fn=>obtain⟨va,vc,rfl,_⟩:=hv;rfl
   all_goals (rw[hv];rfl)
  cases t<;>simp[Ty.isPair]at hag<;>simpa [CV]using hcell
theorem A5a{M:Nat→Option Obj}{kt vt:Ty}{l:List (kt.den×vt.den)}{es:Array MapEntry}(hn:kt.noSl=true)(hR:RepM M kt vt l es){x:kt.den}{j:Nat}{e:MapEntry}(hj:es.toList[j]?=some e){x':kt.den}(hx':RepE M kt x' e.key)(hb:kt.beq x x'=true) :
  x'=x∧∃y,l.find? (fun z=>kt.beq z.1 x)=some (x,y)∧RepE M vt y e.val:=by
 have hxx:=(Cn hn).1 hb
 subst hxx
 obtain⟨x1,y1,h1,h2,h3⟩:=hR.1 e (List.mem_of_getElem? hj)
 have:=RepE.inj_ hn h1 hx'
 subst this
 exact⟨rfl,y1,h2,h3⟩
theorem Afn{M:Nat→Option Obj}{kt vt:Ty}{l:List (kt.den×vt.den)}{es:Array MapEntry}(hn:kt.noSl=true)(hR:RepM M kt vt l es){x:kt.den}(h:∀e∈es.toList,∀x',RepE M kt x' e.key→kt.beq x x'=false):l.find? (fun z=>kt.beq z.1 x)=none:=by
 rw[List.find?_eq_none]
 intro q hq hb
 have:=(Cn hn).1 hb
 obtain⟨e,he,hk⟩:=hR.2.1 q hq
 rw[this]at hk
 have:=h e he x hk
 rw[(Cn hn).2 rfl]at this
 cases this
theorem Aoq{M:Nat→Option Obj}{vt:TypeId}{b:Ty}(h:elTy P vt=some b):∃zv,(∀w,(zeroValue vt).run P w=.ok zv w)∧RepE M b b.dflt zv:=by
 obtain⟨hty,hsz,i,zv,hi,_,hz,hzd,hag⟩:=Ci h
 refine⟨zv,fun w=>Sem.pv_run P _ _ (Vy hi hz) w,?_⟩
 obtain⟨us,e1,hC⟩:=Ha M _ _ _ hzd
 rw[List.append_nil]at e1
 refine⟨us,hC,?_⟩
 cases b with
 | pair x y=>
  cases zv<;>simp[isAggV,Ty.isPair]at hag
  simp only[CV];rw[←e1];simp[Value.cells]
 | int k=>cases zv<;>simp[isAggV,Ty.isPair]at hag<;>simp only[CV]<;>rw[←e1]<;>rfl
 | bool=>cases zv<;>simp[isAggV,Ty.isPair]at hag<;>simp only[CV]<;>rw[←e1]<;>rfl
 | sl x=>cases zv<;>simp[isAggV,Ty.isPair]at hag<;>simp only[CV]<;>rw[←e1]<;>rfl
 | ptr x=>cases zv<;>simp[isAggV,Ty.isPair]at hag<;>simp only[CV]<;>rw[←e1]<;>rfl
theorem Aea{M:Nat→Option Obj}{kt vt:Ty}{l:List (kt.den×vt.den)}{es:Array MapEntry}(hR:RepM M kt vt l es):∀e∈es.toList,∃x',RepE M kt x' e.key:=fun e he=>let ⟨x,_,h,_⟩:=hR.1 e he;⟨x,h⟩
theorem Afj{t:TypeId}{m k:Operand}{ok:Bool}(hop:o.op=.lookup t m k ok)(h:evOp P specs o L H κ=some z):OpR P o L H κ z:=by
 simp only[evOp,hop]at h
 obtain⟨vm,hm,h1⟩:=bind_some h
 obtain⟨vk,hk,h2⟩:=bind_some h1
 clear h h1
 split at h2
 rotate_left
 ·cases h2
 rename_i kt vt id he
 split at h2
 rotate_left
 ·cases h2
 rename_i a b l hb
 split at h2
 rotate_left
 ·cases h2
 rename_i hc
 obtain⟨hka,hvb,hkey,hag⟩:=hc
 obtain⟨x,hx,h3⟩:=bind_some h2
 have hlt:=(List.getElem?_eq_some_iff.1 hb).1
 have hn:=(Cu (P:=P) 9 kt a hkey).1
 have hagk:=Pu 9 kt a (Ci hka).1
 refine⟨_,_,_,_,h3,OpS.quiet (by simp[hop]) fun g hh w ρ hO hs hrd=>?_⟩
 have hid:=hrd id (by simp) hlt
 rw[hb]at hid
 obtain⟨bl,c,n,es,kk,e1,e2,_,hR⟩:=hs.blk id _ hid
 have rm:=hO.get (x:=m) (by simp[hop,Op.operands]) hm
 have rk:=hO.get (x:=k) (by simp[hop,Op.operands]) hk
 simp only[RepV]at rm
 obtain⟨bl',c',n',e3,erm⟩:=rm
 rw[e1]at e3;cases e3
 have hkE:=Ahj (w:=w) hx hag rk
 obtain⟨us,hC,hcv⟩:=hkE
 have hiv:Bl P kt us (ρ k):=by cases a<;>simp only[Ty.isPair]at hagk<;>simpa [Bl,hagk,CV]using hcv
 have hck:=Jc (P:=P) 9 10000 kt a es.isEmpty w (by omega) hkey hC hiv
 obtain⟨r,hr,hF⟩:=V5 (P:=P) hkey hagk (x:=x.1) ⟨us,hC,hcv⟩ es.toList (Aea hR) w
 have run:∀v gd,(match r with | some (_,v)=>(pure (v,true):Sem (Value×Bool)) | none=>do pure (←zeroValue vt,false)).run P w=.ok (v,gd) w→(execOp ρ o).run P w=.ok (.value (if ok then .tuple #[v,.bool gd]else v)) w:=by
  intro v gd hv
  simp only[execOp,hop,erm,Instr.lookup,getObj,Sem.run_bind,A9 he,Result.andThen_ok,Sem.run,e2,hck,hr,Sem.run_pure]
  cases r with
  | none=>
   simp only[Sem.run_bind,Sem.run_pure]at hv ⊢
   cases hz:(zeroValue vt).run P w with
   | halt q w'=>rw[hz]at hv;cases hv
   | ok q w'=>
    rw[hz]at hv
    simp only[Result.andThen_ok,Result.ok.injEq,Prod.mk.injEq]at hv
    obtain⟨⟨rfl,rfl⟩,rfl⟩:=hv
    rfl
  | some q=>
   simp only[Sem.run_pure,Result.ok.injEq,Prod.mk.injEq,and_true]at hv
   obtain⟨rfl,rfl⟩:=hv
   rfl
 have fin:∀(v:Value) (y:b.den) (gd:Bool),RepE g.M b y v→RepV g (if ok=true then .tup [b.av y,.b gd]else b.av y) (if ok then .tuple #[v,.bool gd]else v):=by
  intro v y gd hE
  have:=Ade b y v hE
  cases ok
  ·simpa using this
  ·simp only[if_true,RepV]
   exact⟨[v,.bool gd],rfl,v,[.bool gd],rfl,this,.bool gd,[],rfl,rfl,rfl⟩
 rcases hF with⟨rfl,hno⟩ | ⟨j,e,rfl,hj,x',hx',hbq⟩
 ·obtain⟨zv,hz,hzE⟩:=Aoq (M:=g.M) hvb
  refine⟨_,run zv false (by simp[hz]),?_⟩
  rw[Afn hn hR hno]
  exact fin zv b.dflt false hzE
 ·obtain⟨rfl,y,hfd,hyE⟩:=A5a hn hR hj hx' hbq
  refine⟨_,run e.val true (by simp),?_⟩
  rw[hfd]
  exact fin e.val y true hyE
theorem P5{t:TypeId}{m k v:Operand}(hop:o.op=.mapUpdate t m k v∨o.op=.insert t m k v)(h:evOp P specs o L H κ=some z):OpR P o L H κ z:=by
 rcases hop with hop | hop<;>(
  simp only[evOp,hop]at h
  obtain⟨vm,hm,h1⟩:=bind_some h
  obtain⟨vk,hk,h2⟩:=bind_some h1
  obtain⟨vv,hv,h3⟩:=bind_some h2
  clear h h1 h2
  split at h3
  rotate_left
  ·cases h3
  rename_i kt vt id he
  split at h3
  rotate_left
  ·cases h3
  rename_i a b l hb
  split at h3
  rotate_left
  ·cases h3
  rename_i hc
  obtain⟨hka,hvb,hkey,hag,hag2⟩:=hc
  obtain⟨x,hx,h4⟩:=bind_some h3
  obtain⟨y,hy,h5⟩:=bind_some h4
  clear h3 h4
  have hlt:=(List.getElem?_eq_some_iff.1 hb).1
  have hn:=(Cu (P:=P) 9 kt a hkey).1
  have hagk:=Pu 9 kt a (Ci hka).1
  refine⟨_,_,_,_,h5,by simp[hop],by simp,by simpa using hlt,fun i=>⟨fun _ h2=>List.getElem?_set_ne (fun e=>h2 (by simp[e])),fun h1 h2=>by rw[List.length_set]at h2;omega⟩,fun g h w ρ hO hs hh hnw=>?_⟩
  have hid:=hh id (by simp) hlt
  rw[hb]at hid
  obtain⟨bl,c,n,es,kk,e1,e2,hM,hR⟩:=hs.blk id _ hid
  have rm:=hO.get (x:=m) (by simp[hop,Op.operands]) hm
  have rk:=hO.get (x:=k) (by simp[hop,Op.operands]) hk
  have rv:=hO.get (x:=v) (by simp[hop,Op.operands]) hv
  simp only[RepV]at rm
  obtain⟨bl',c',n',e3,erm⟩:=rm
  rw[e1]at e3;cases e3
  have hkE:=Ahj (w:=w) hx hag rk
  have hvE:=Ahj (w:=w) hy hag2 rv
  obtain⟨us,hC,hcv⟩:=hkE
  have hkE:RepE g.M a x.1 (ρ k):=⟨us,hC,hcv⟩
  have hiv:Bl P kt us (ρ k):=by cases a<;>simp only[Ty.isPair]at hagk<;>simpa [Bl,hagk,CV]using hcv
  have hck:=Jc (P:=P) 9 10000 kt a false w (by omega) hkey hC hiv
  obtain⟨r,hr,hF⟩:=V5 (P:=P) hkey hagk (x:=x.1) hkE es.toList (Aea hR) w
  have hrefl:a.beq x.1 x.1=true:=(Cn hn).2 rfl
  have fin:∀(es':Array MapEntry) (k2:Nat) (w':World),(execOp ρ o).run P w=.ok .skip w'→Put bl (.map es' k2) w w'→RepM g.M a b ((x.1,y.1)::l) es'→Exec P (execOp ρ o) w fun v' w'=>∃g',Stp (Sw g h [id]) (fun i=>H.length≤i∧i<(H.set id (.map a b ((x.1,y.1)::l))).length) g w g' w'∧Sim g' (updH h H (H.set id (.map a b ((x.1,y.1)::l))) [id]) w'∧RepV g' .undef v':=by
   intro es' k2 w' hrun hP hR'
   simp only[Exec,hrun]
   obtain⟨st,hs'⟩:=Gu (wr:=[id]) (nw:=fun i=>H.length≤i∧i<(H.set id (Blk'.map a b ((x.1,y.1)::l))).length) hs hid rfl e1 hP (by simp) hM (k':=.map a b ((x.1,y.1)::l)) ⟨bl,c,n,es',k2,e1,hP.blk,hM,hR'⟩
   exact⟨g,st,by rw[Ph hlt];exact hs',rfl⟩
  rcases hF with⟨rfl,hno⟩ | ⟨j,e,rfl,hj,x',hx',hbq⟩
  ·have hP:=Put.mk' (.map (es.push { key:=ρ k,val:=ρ v,born:=kk }) (kk+1)) e2
   refine fin _ _ _ ?_ hP ⟨fun e he=>?_,fun q hq=>?_,fun i j ei ej hi hj hek=>?_⟩
   ·simp only[execOp,hop,erm,Instr.mapUpdate,getObj,setObj,Sem.run_bind,A9 he,Result.andThen_ok,Sem.run,e2,hck,hr,Sem.run_pure]
   ·simp only[Array.toList_push,List.mem_append,List.mem_singleton]at he
    rcases he with he | rfl
    ·obtain⟨x1,y1,q1,q2,q3⟩:=hR.1 e he
     refine⟨x1,y1,q1,?_,q3⟩
     rw[List.find?_cons]
     have:=hno e he x1 q1
     simp only[this];exact q2
    ·exact⟨x.1,y.1,hkE,by simp[List.find?_cons,hrefl],hvE⟩
   ·rcases List.mem_cons.1 hq with rfl | hq
    ·exact⟨{ key:=ρ k,val:=ρ v,born:=kk },by simp,hkE⟩
    ·obtain⟨e,he,hk⟩:=hR.2.1 q hq
     exact⟨e,by simp[he],hk⟩
   ·have lt:∀(i:Nat) (e:MapEntry),(es.push { key:=ρ k,val:=ρ v,born:=kk })[i]?=some e→(i<es.size∧es[i]?=some e)∨(i=es.size∧e={ key:=ρ k,val:=ρ v,born:=kk }):=by
     intro i e h
     rw[Array.getElem?_push]at h
     split at h
     ·rename_i hh;cases h;exact .inr ⟨hh,rfl⟩
     ·exact .inl ⟨(Array.getElem?_eq_some_iff.1 h).1,h⟩
    have nokey:∀(i:Nat) (e:MapEntry),es[i]?=some e→e.key≠ρ k:=by
     intro i e hi hk
     have he:e∈es.toList:=List.mem_of_getElem? (i:=i) (by simpa using hi)
     have:=hno e he x.1 (by rw[hk];exact hkE)
     rw[hrefl]at this;cases this
    rcases lt i ei hi with⟨_,h1⟩ | ⟨h1,rfl⟩<;>rcases lt j ej hj with⟨_,h2⟩ | ⟨h2,rfl⟩
    ·exact hR.2.2 i j ei ej h1 h2 hek
    ·exact absurd hek (nokey i ei h1)
    ·exact absurd hek.symm (nokey j ej h2)
    ·omega
  ·obtain⟨rfl,y0,hfd,hyE⟩:=A5a hn hR hj hx' hbq
   have hke:e.key=ρ k:=RepE.fun_ hn hx' hkE
   have hjs:es[j]?=some e:=by simpa using hj
   have hstay:=Af6 (P:=P) hn hkE w
   have hP:=Put.mk' (.map (es.modify j fun e=>{ e with key:=ρ k,val:=ρ v }) kk) e2
   have hget:∀i,(es.modify j fun e=>{ e with key:=ρ k,val:=ρ v })[i]?=if i=j then some { e with key:=ρ k,val:=ρ v }else es[i]?:=by
    intro i
    rw[Array.getElem?_modify]
    by_cases hij:j=i
    ·subst hij;simp[hjs]
    ·rw[if_neg hij,if_neg (fun h=>hij h.symm)]
   have keyAt:∀(i:Nat) (ei:MapEntry),(es.modify j fun e=>{ e with key:=ρ k,val:=ρ v })[i]?=some ei→∃e0,es[i]?=some e0∧e0.key=ei.key:=by
    intro i ei hi
    rw[hget]at hi
    split at hi
    ·rename_i hij;subst hij;cases hi;exact⟨e,hjs,hke⟩
    ·exact⟨ei,hi,rfl⟩
   refine fin _ _ _ ?_ hP ⟨fun e' he'=>?_,fun q hq=>?_,fun i i2 ei ej hi hi2 hek=>?_⟩
   ·simp only[execOp,hop,erm,Instr.mapUpdate,getObj,setObj,Sem.run_bind,A9 he,Result.andThen_ok,Sem.run,e2,hck,hr,Sem.run_pure,Nat.zero_add,hjs,Option.map_some,Option.getD_some,hke,hstay]
   ·obtain⟨i,hi⟩:=List.mem_iff_getElem?.1 he'
    rw[Array.getElem?_toList,hget]at hi
    split at hi
    ·cases hi
     exact⟨_,y.1,hkE,by simp[List.find?_cons,hrefl],hvE⟩
    ·rename_i hij
     obtain⟨x1,y1,q1,q2,q3⟩:=hR.1 e' (List.mem_of_getElem? (i:=i) (by simpa using hi))
     refine⟨x1,y1,q1,?_,q3⟩
     rw[List.find?_cons]
     cases hbb:a.beq x.1 x1 with
     | false=>exact q2
     | true=>
      exfalso
      have:=(Cn hn).1 hbb
      subst this
      have hk2:e'.key=e.key:=RepE.fun_ hn q1 hx'
      exact hij (hR.2.2 i j e' e hi hjs hk2)
   ·have:∃(i:Nat) (e0:MapEntry),es[i]?=some e0∧RepE g.M a q.1 e0.key:=by
     rcases List.mem_cons.1 hq with rfl | hq
     ·exact⟨j,e,hjs,hx'⟩
     ·obtain⟨e0,he0,hk⟩:=hR.2.1 q hq
      obtain⟨i,hi⟩:=List.mem_iff_getElem?.1 he0
      exact⟨i,e0,by simpa using hi,hk⟩
    obtain⟨i,e0,hi,hk0⟩:=this
    by_cases hij:i=j
    ·subst hij
     rw[hjs]at hi;cases hi
     exact⟨{ e with key:=ρ k,val:=ρ v },List.mem_of_getElem? (i:=i) (by rw[Array.getElem?_toList,hget,if_pos rfl]),by rw[←hke];exact hk0⟩
    ·exact⟨e0,List.mem_of_getElem? (i:=i) (by rw[Array.getElem?_toList,hget,if_neg hij];exact hi),hk0⟩
   ·obtain⟨e0,q1,q2⟩:=keyAt i ei hi
    obtain⟨e1,q3,q4⟩:=keyAt i2 ej hi2
    exact hR.2.2 i i2 e0 e1 q1 q3 (by rw[q2,q4,hek]))
end
end Go.Proofs.YtfcnhnbnjdccfaaGreat

namespace Go.Proofs.YtfcnhnbnjdccfaaGreat
set_option linter.all false
open Go

section
variable {P:Program} {specs:List Spec} {o:Oper} {L:LL} {H:HH} {Z:Type} {κ:AV→HH→List Nat→List Nat→Option Z} {z:Z}

theorem Ak4{c:Call}{gop:Operand}(hop:o.op=.call c)(hcal:c.callee=.value gop)(hall:∀s∈specs,A2 P s)(h:evCall P specs L H c κ=some z):OpR P o L H κ z:=by
 simp only[evCall,hcal]at h
 obtain⟨vg,hg,h1⟩:=bind_some h
 obtain⟨as,has,h2⟩:=bind_some h1
 clear h h1
 split at h2
 rotate_left
 ·cases h2
 rename_i f a cap
 obtain⟨s,hs,p,σ,r0,oo,r,hf,hfit,hm,hlv,hle,hrun,halt,hk⟩:=Zn (P:=P) _ _ _ hall h2
 have hA:=Ho hfit
 have step:∀(g:Gh) (h:Nat→Option Blk') (w:World) (vs:List Value),Sim g h w→(∀i,i∈σ.ids++σ.fz→h i=H[i]?)→(∀i,H.length≤i→i<H.length+(oo.blks.length-s.ins.blks.length)→g.ρ i=none∧h i=none)→RepVs g (a++as++cap) vs→_:=
  fun g h w vs h1 h2 h3 h4=>Afx (hall s hs) hfit hm hlv hle hrun halt h1 h2 h3 h4 rfl rfl rfl
 have hlen:∀(f:Nat→Nat) (X:HH),X.length=H.length→(setIds σ.ids (encBs f oo.blks r.2) X++(encBs f oo.blks r.2).drop s.ins.blks.length).length=H.length+(oo.blks.length-s.ins.blks.length):=by
  intro f X hX
  rw[List.length_append,Cf,hX,List.length_drop,Af]
 refine⟨_,_,_,_,hk,by simp[hop],?_,?_,fun i=>⟨fun h1 h2=>?_,fun h1 h2=>?_⟩,fun g h w ρ hO hsim hh hnw=>?_⟩
 rotate_left 2
 ·simp only[List.mem_append,not_or]at h2
  rw[List.getElem?_append_left (by rw[Cf,Ah];exact h1),Lz _ _ _ _ h2.1.1,Cp,if_neg h2.1.2]
 ·rw[hlen _ _ (Ah _ _)]at h2
  simp only[List.mem_append,List.mem_range'_1]
  omega
 rotate_right 2
 ·rw[hlen _ _ (Ah _ _)];omega
 ·intro i hi
  rw[hlen _ _ (Ah _ _)]
  rcases List.mem_append.1 hi with hi | hi
  ·rcases List.mem_append.1 hi with hi | hi
   ·obtain⟨j,hj⟩:=A3i hi
    have hml:σ.m.length=s.ins.blks.length:=by have:=hA.len;simpa using this
    have hlt:j<s.ins.blks.length:=by rw[←hml];exact(List.getElem?_eq_some_iff.1 hj).1
    have hb:(encBs id s.ins.blks p.2)[j]?=some ((encBs id s.ins.blks p.2)[j]'(by rw[Af];exact hlt)):=List.getElem?_eq_getElem _
    obtain⟨x,q1,q2,_⟩:=hA.hb j _ hb
    rw[hj]at q1;cases q1
    obtain⟨b0,hb0,_⟩:=q2 i rfl
    have:=(List.getElem?_eq_some_iff.1 hb0).1
    omega
   ·have hi':i∈σ.fz:=by
     unfold lend at hi
     split at hi
     ·cases hi
     ·exact hi
    have:=(hA.dis i hi').2;omega
  ·rw[List.mem_range'_1]at hi;omega
 ·have hops:gop∈o.op.operands:=by rw[hop];simp[Op.operands,Call.operands,hcal]
  have rg:=hO.get hops hg
  simp only[RepV]at rg
  obtain⟨va,vc,eg,r1,r2⟩:=rg
  have ra:=D6 hop hO has
  have rv:=RepVs.append _ _ _ _ (RepVs.append _ _ _ _ r1 ra) r2
  have hids:∀i,i∈σ.ids++σ.fz→h i=H[i]?:=by
   intro i hi
   refine hh i (.inl hi) ?_
   rcases List.mem_append.1 hi with hi | hi
   ·obtain⟨j,hj⟩:=A3i hi
    have hml:σ.m.length=s.ins.blks.length:=by have:=hA.len;simpa using this
    have hlt:j<s.ins.blks.length:=by rw[←hml];exact(List.getElem?_eq_some_iff.1 hj).1
    have hb:(encBs id s.ins.blks p.2)[j]?=some ((encBs id s.ins.blks p.2)[j]'(by rw[Af];exact hlt)):=List.getElem?_eq_getElem _
    obtain⟨x,q1,q2,_⟩:=hA.hb j _ hb
    rw[hj]at q1;cases q1
    obtain⟨b0,hb0,_⟩:=q2 i rfl
    exact(List.getElem?_eq_some_iff.1 hb0).1
   ·exact(hA.dis i hi).2
  obtain⟨_,_,hfn⟩:=step g h w _ hsim hids (fun i h1 h2=>hnw i h1 (by rw[hlen _ _ (Ah _ _)];exact h2)) rv
  have hex:execOp ρ o=callFunc f (va.toArray++c.args.map ρ++vc.toArray):=by
   simp[execOp,hop,resolve,hcal,Deferred.ofValue,eg,invoke]
  have harr:va.toArray++c.args.map ρ++vc.toArray=(va++c.args.toList.map ρ++vc).toArray:=by
   apply Array.ext';simp
  have hcf:=(hall s hs).call (va++c.args.toList.map ρ++vc).toArray w
  rw[hf]at hcf hfn
  rw[←harr]at hcf
  simp only[Exec,hex,hcf]
  rw[harr]
  exact hfn
theorem Ab3(hall:∀s∈specs,A2 P s)(h:evOp P specs o L H κ=some z):OpR P o L H κ z:=by
 have h0:=h
 unfold evOp at h
 split at h
 ·rename_i x hop;exact Adw (.inl hop) h
 ·rename_i x hop;exact Adw (.inr hop) h
 ·rename_i hop;exact Alv hop h0
 ·rename_i hop;exact Aoc hop h0
 ·rename_i hop;exact Aq3 hop h0
 ·rename_i hop;exact Abq hop h0
 ·rename_i hop;exact Aaa hop h0
 ·rename_i hop;exact A74 hop h0
 ·rename_i hop;exact A69 hop h0
 ·rename_i hop;exact A46 hop h0
 ·rename_i hop;exact Aio hop h0
 ·rename_i hop;exact A3y hop h0
 ·rename_i hop;exact Aiw hop h0
 ·rename_i hop;exact Ame hop h0
 ·rename_i hop;exact Ain hop h0
 ·rename_i hop;exact Ahw hop h0
 ·rename_i hop;exact Aoy hop h0
 ·rename_i hop;exact Aic hop h0
 ·rename_i hop;exact A0h hop h0
 ·rename_i hop;exact A36 hop h0
 ·rename_i hop
  cases hk:Nat.ble 4 (A24 specs)with
  | true=>exact Afv hop hk h0
  | false=>exact Ajl hop hk h0
 ·rename_i hop;exact Ack hop h0
 ·rename_i hop;exact Afj hop h0
 ·rename_i hop;exact P5 (.inl hop) h0
 ·rename_i hop;exact P5 (.inr hop) h0
 ·rename_i c hop
  cases hcal:c.callee with
  | value g=>exact Ak4 hop hcal hall h
  | builtin b=>exact Ad2 hop hcal h
  | invoke r n=>simp[evCall,hcal]at h
 ·cases h
end
end Go.Proofs.YtfcnhnbnjdccfaaGreat

namespace Go.Proofs.YtfcnhnbnjdccfaaGreat
set_option linter.all false
open Go
section
variable {P:Program} {ops:Array Oper} {R:World→World→Prop} {K:Act→World→Prop}
def Lin(ops:Array Oper):Array Bool→List Nat→Prop
 | listed,[]=>Region.ready .any ops listed=[]
 | listed,i::l=>i∈Region.ready .any ops listed∧Lin ops (listed.setIfInBounds i true) l
def unl(ops:Array Oper)(listed:Array Bool):Nat:=((List.range ops.size).filter fun i=>!listed.getD i true).length
theorem Adg{listed:Array Bool}{i:Nat}(hi:i∈Region.ready .any ops listed):unl ops (listed.setIfInBounds i true)<unl ops listed:=by
 obtain⟨h0,o,ho,_⟩:=mem_ready.1 hi
 have hlt:i<ops.size:=(Array.getElem?_eq_some_iff.1 ho).1
 have hil:i<listed.size:=by
  rcases Nat.lt_or_ge i listed.size with h' | h'
  ·exact h'
  ·simp[Array.getElem?_eq_none h']at h0
 have hi1:(listed.setIfInBounds i true).getD i true=true:=by simp[hil]
 unfold unl
 have e:((List.range ops.size).filter fun j=>!(listed.setIfInBounds i true).getD j true)=((List.range ops.size).filter fun j=>!listed.getD j true).filter (fun j=>!(listed.setIfInBounds i true).getD j true):=by
  rw[List.filter_filter]
  apply List.filter_congr
  intro j _
  by_cases hj:i=j
  ·subst hj;rw[hi1];simp
  ·rw[getD_set_ne true hj];simp
 rw[e]
 refine List.length_filter_lt_length_iff_exists.2 ⟨i,?_,by rw[hi1];simp⟩
 rw[List.mem_filter]
 exact⟨List.mem_range.2 hlt,by rw[h0];rfl⟩
theorem Aos:∀(fuel t:Nat) (listed:Array Bool),unl ops listed≤fuel→Lin ops listed (Region.linearise.go .any ops fuel t listed []):=by
 intro fuel
 induction fuel with
 | zero=>
  intro t listed h
  show Region.ready .any ops listed=[]
  cases hr:Region.ready .any ops listed with
  | nil=>rfl
  | cons i l=>
   have:=Adg (ops:=ops) (listed:=listed) (i:=i) (by rw[hr];simp)
   omega
 | succ fuel ih=>
  intro t listed h
  simp only[Region.linearise.go]
  change Lin ops listed (match (Region.ready .any ops listed)[t % (Region.ready .any ops listed).length]? with
   | some i=>Region.linearise.go .any ops fuel (t / (Region.ready .any ops listed).length) (listed.setIfInBounds i true) [i]
   | none=>[].reverse)
  cases hi:(Region.ready .any ops listed)[t % (Region.ready .any ops listed).length]? with
  | none=>
   have hnil:Region.ready .any ops listed=[]:=by
    cases hr:Region.ready .any ops listed with
    | nil=>rfl
    | cons x xs=>
     rw[hr]at hi
     have hlt:t % (x::xs).length<(x::xs).length:=Nat.mod_lt _ (by simp)
     simp at hi
     simp at hlt
     omega
   exact hnil
  | some i=>
   simp only[]
   rw[linearise_go_acc,List.reverse_singleton,List.singleton_append]
   have hm:i∈Region.ready .any ops listed:=List.mem_of_getElem? hi
   exact⟨hm,ih _ _ (by have:=Adg hm;omega)⟩
theorem Lin.mem{i:Nat}:∀(l:List Nat) (listed:Array Bool),i∈Region.ready .any ops listed→Lin ops listed l→i∈l
 | [],listed,hi,h=>by
  have h':Region.ready .any ops listed=[]:=h
  rw[h']at hi;cases hi
 | j::l,listed,hi,h=>by
  by_cases e:i=j
  ·subst e;simp
  ·exact List.mem_cons_of_mem _ (Lin.mem l _ (ready_mono hi e) h.2)
end

end Go.Proofs.YtfcnhnbnjdccfaaGreat

namespace Go.Proofs.YtfcnhnbnjdccfaaGreat
set_option linter.all false
open Go

def lastW(p:Nat→Bool):Nat→Option Nat
 | 0=>none
 | n+1=>if p n then some n else lastW p n
theorem Nj{p:Nat→Bool}:∀ {n i:Nat},lastW p n=some i→p i=true∧i<n∧∀j,i<j→j<n→p j=false
 | 0,i,h=>by cases h
 | n+1,i,h=>by
  simp only[lastW]at h
  split at h
  ·rename_i hp;cases h;exact⟨hp,by omega,fun j h1 h2=>by omega⟩
  ·rename_i hp
   obtain⟨h1,h2,h3⟩:=Nj h
   refine⟨h1,by omega,fun j h4 h5=>?_⟩
   by_cases e:j=n
   ·subst e;simpa using hp
   ·exact h3 j h4 (by omega)
theorem Z1{p:Nat→Bool}{i:Nat}(hp:p i=true):∀ {n:Nat},i<n→(∀j,i<j→j<n→p j=false)→lastW p n=some i
 | 0,h,_=>by omega
 | n+1,h,hj=>by
  simp only[lastW]
  by_cases e:i=n
  ·subst e;rw[if_pos hp]
  ·rw[if_neg (by rw[hj n (by omega) (by omega)];simp)]
   exact Z1 hp (by omega) (fun j h1 h2=>hj j h1 (by omega))
theorem Cz{p q:Nat→Bool}:∀ {n:Nat},(∀i,i<n→p i=q i)→lastW p n=lastW q n
 | 0,_=>rfl
 | n+1,h=>by simp only[lastW,h n (by omega),Cz (n:=n) (fun i hi=>h i (by omega))]
theorem A27{p:Nat→Bool}{n m:Nat}(h:n≤m)(hp:∀j,n≤j→j<m→p j=false):lastW p m=lastW p n:=by
 induction m with
 | zero=>have:n=0:=by omega
         subst this;rfl
 | succ m ih=>
  by_cases e:n=m+1
  ·subst e;rfl
  ·simp only[lastW,hp m (by omega) (by omega)]
   exact ih (by omega) (fun j h1 h2=>hp j h1 (by omega))
structure Tr where
 L:LL
 H:HH
 v:AV
 H':HH
 rd:List Nat
 wr:List Nat
 ran:Bool
def TrG(all:Array Oper)(o:Oper)(T:Tr):Prop:=match o.guard with
 | none=>T.ran=true
 | some (g,want)=>∃t,(all[g]?).bind (·.dst)=some t∧((∃c,T.L.lookup t=some (.b c)∧T.ran=(c==want))∨(T.L.lookup t=some .undef∧T.ran=false))
structure TrOK (P:Program) (n:Nat) (all:Array Oper) (o:Oper) (T:Tr):Prop where
 dst:dstOK n o.dst=true
 gd:TrG all o T
 ok:T.ran=true→OpS P o T.L T.H T.v T.H' T.rd T.wr
 no:T.ran=false→T.v=.undef∧T.H'=T.H∧T.rd=[]∧T.wr=[]
def Gn(P:Program)(n:Nat)(all:Array Oper):List (Oper×Tr)→(Tmp→Option AV)→HH→(Tmp→Option AV)→HH→Prop
 | [],l,H,l',H'=>l'=l∧H'=H
 | x::xs,l,H,l',H'=>TrOK P n all x.1 x.2∧(fun t=>x.2.L.lookup t)=l∧x.2.H=H∧Gn P n all xs (fun t=>(putA x.2.L x.1.dst x.2.v).lookup t) x.2.H' l' H'
def K0(all:Array Oper)(x:Oper×Tr):Rec:=⟨x.1.dst,Dn all x.1,x.2.rd,x.2.wr⟩
theorem Ju{L:LL}{t:Tmp}{a:AV}(h:L.lookup t=some a):(fun s=>((t,a)::L).lookup s)=fun s=>L.lookup s:=by
 funext s
 simp only[List.lookup_cons]
 by_cases e:s=t
 ·subst e;simp[h]
 ·have:(s==t)=false:=by simp[e]
  simp[this]

section
variable {P:Program} {specs:List Spec} {n:Nat} {all:Array Oper} {Z:Type} {z:Z}

theorem K4(hall:∀s∈specs,A2 P s){κ:List Rec→LL→HH→Option Z}:∀(os:List Oper) (acc:List Rec) (L:LL) (H:HH),evOps P specs n all κ os acc L H=some z →
  ∃X:List (Oper×Tr),X.map (·.1)=os∧∃L' H',Gn P n all X (fun t=>L.lookup t) H (fun t=>L'.lookup t) H'∧κ ((X.map (K0 all)).reverse++acc) L' H'=some z
 | [],acc,L,H,h=>⟨[],rfl,L,H,⟨rfl,rfl⟩,h⟩
 | o::os,acc,L,H,h=>by
  simp only[evOps]at h
  split at h
  rotate_left
  ·cases h
  rename_i hd
  have ran:∀(L1:LL),(fun s=>L1.lookup s)=(fun s=>L.lookup s)→TrG all o ⟨L1,H,.undef,H,[],[],true⟩→(evOp P specs o L1 H fun v H' rd wr=>evOps P specs n all κ os (⟨o.dst,Dn all o,rd,wr⟩::acc) (putA L1 o.dst v) H')=some z →
    ∃X:List (Oper×Tr),X.map (·.1)=o::os∧∃L' H',Gn P n all X (fun t=>L.lookup t) H (fun t=>L'.lookup t) H'∧κ ((X.map (K0 all)).reverse++acc) L' H'=some z:=by
   intro L1 hL hG h
   obtain⟨v,H1,rd,wr,hk,hop⟩:=Ab3 hall h
   obtain⟨X,hX,L',H',hC,hz⟩:=K4 hall os _ _ _ hk
   refine⟨(o,⟨L1,H,v,H1,rd,wr,true⟩)::X,by simp[hX],L',H',⟨⟨hd,hG,fun _=>hop,by simp⟩,hL,rfl,hC⟩,?_⟩
   simpa [K0]using hz
  have skip:∀(L1:LL),(fun s=>L1.lookup s)=(fun s=>L.lookup s)→TrG all o ⟨L1,H,.undef,H,[],[],false⟩→evOps P specs n all κ os (⟨o.dst,Dn all o,[],[]⟩::acc) (putA L1 o.dst .undef) H=some z →
    ∃X:List (Oper×Tr),X.map (·.1)=o::os∧∃L' H',Gn P n all X (fun t=>L.lookup t) H (fun t=>L'.lookup t) H'∧κ ((X.map (K0 all)).reverse++acc) L' H'=some z:=by
   intro L1 hL hG h
   obtain⟨X,hX,L',H',hC,hz⟩:=K4 hall os _ _ _ h
   refine⟨(o,⟨L1,H,.undef,H,[],[],false⟩)::X,by simp[hX],L',H',⟨⟨hd,hG,by simp,fun _=>⟨rfl,rfl,rfl,rfl⟩⟩,hL,rfl,hC⟩,?_⟩
   simpa [K0]using hz
  split at h
  ·rename_i hg
   exact ran L rfl (by simp[TrG,hg]) h
  ·rename_i g want hg
   split at h
   ·cases h
   ·rename_i t ht
    split at h
    ·rename_i c hc
     rcases Vu h with⟨rfl,h⟩ | ⟨rfl,h⟩
     ·split at h
      ·rename_i hw
       exact ran _ (Ju hc) (by simp only[TrG,hg];exact⟨t,ht,.inl ⟨true,by simp,by simp[hw]⟩⟩) h
      ·rename_i hw
       exact skip _ (Ju hc) (by simp only[TrG,hg];exact⟨t,ht,.inl ⟨true,by simp,by simp at hw;simp[hw]⟩⟩) h
     ·split at h
      ·rename_i hw
       exact skip _ (Ju hc) (by simp only[TrG,hg];exact⟨t,ht,.inl ⟨false,by simp,by simp[hw]⟩⟩) h
      ·rename_i hw
       exact ran _ (Ju hc) (by simp only[TrG,hg];exact⟨t,ht,.inl ⟨false,by simp,by simp at hw;simp[hw]⟩⟩) h
    ·rename_i hc
     exact skip L rfl (by simp only[TrG,hg];exact⟨t,ht,.inr ⟨hc,by simp⟩⟩) h
    ·cases h

def dW(X:List (Oper×Tr))(t:Tmp)(j:Nat):Bool:=match X[j]? with | some x=>x.1.dst==some t | none=>false
def hW(X:List (Oper×Tr))(i:Nat)(j:Nat):Bool:=match X[j]? with | some x=>x.2.wr.contains i | none=>false
def lkD(X:List (Oper×Tr))(l0:Tmp→Option AV)(D:Nat→Bool)(n:Nat)(t:Tmp):Option AV:=match lastW (fun j=>D j&&dW X t j) n with | some j=>(X[j]?).map (·.2.v) | none=>l0 t
def hkD(X:List (Oper×Tr))(H0:HH)(D:Nat→Bool)(n:Nat)(i:Nat):Option Blk':=match lastW (fun j=>D j&&hW X i j) n with | some j=>(X[j]?).bind (fun x=>x.2.H'[i]?) | none=>H0[i]?
def allT:Nat→Bool:=fun _=>true
theorem A5c(L:LL)(d:Option Tmp)(v:AV)(t:Tmp):(putA L d v).lookup t=if d=some t then some v else L.lookup t:=by
 cases d with
 | none=>simp[putA]
 | some d=>
  simp only[putA,List.lookup_cons,Option.some.injEq]
  by_cases e:t=d
  ·subst e;simp
  ·have:(t==d)=false:=by simp[e]
   rw[this,if_neg (fun h=>e h.symm)]
theorem Gn.split:∀(i:Nat) {X:List (Oper×Tr)} {l0 l':Tmp→Option AV} {H0 H':HH},Gn P n all X l0 H0 l' H'→i≤X.length→∃l H,Gn P n all (X.drop i) l H l' H'∧(∀t,l t=lkD X l0 allT i t)∧(∀id,H[id]?=hkD X H0 allT i id)∧H0.length≤H.length∧(∀j x,j<i→X[j]?=some x→x.2.H'.length≤H.length)
 | 0,X,l0,l',H0,H',h,_=>⟨l0,H0,h,fun t=>rfl,fun id=>rfl,Nat.le_refl _,fun j x hj=>by omega⟩
 | i+1,X,l0,l',H0,H',h,hi=>by
  obtain⟨l,H,hC,hl,hH,h1,h2⟩:=Gn.split i h (by omega)
  have hx:X[i]?=some X[i]:=List.getElem?_eq_getElem _
  rw[List.drop_eq_getElem_cons (by omega)]at hC
  obtain⟨hT,e1,e2,hC⟩:=hC
  have hle:(X[i]).2.H.length≤(X[i]).2.H'.length:=by
   cases hr:(X[i]).2.ran with
   | true=>exact(hT.ok hr).le
   | false=>rw[(hT.no hr).2.1];exact Nat.le_refl _
  rw[e2]at hle
  refine⟨_,_,hC,fun t=>?_,fun id=>?_,by omega,fun j x hj hx2=>?_⟩
  ·simp only[A5c,lkD,lastW,allT,Bool.true_and,dW,hx]
   by_cases e:(X[i]).1.dst=some t
   ·simp[e,hx]
   ·have:((X[i]).1.dst==some t)=false:=by simpa using e
    rw[this,if_neg e]
    have:(X[i]).2.L.lookup t=l t:=congrFun e1 t
    rw[this,hl];simp[lkD,allT,dW]
  ·simp only[hkD,lastW,allT,Bool.true_and,hW,hx]
   by_cases e:id∈(X[i]).2.wr
   ·simp[e,hx]
   ·have:((X[i]).2.wr.contains id)=false:=by simpa using e
    rw[this]
    have hst:(X[i]).2.H'[id]?=H[id]?:=by
     cases hr:(X[i]).2.ran with
     | true=>
      obtain⟨f1,f2⟩:=(hT.ok hr).fr id
      rw[e2]at f1 f2
      by_cases hlt:id<H.length
      ·exact f1 hlt e
      ·have:¬id<(X[i]).2.H'.length:=fun h3=>e (f2 (by omega) h3)
       rw[List.getElem?_eq_none (by omega),List.getElem?_eq_none (by omega)]
     | false=>rw[(hT.no hr).2.1,e2]
    rw[hst,hH];simp[hkD,allT,hW]
  ·by_cases e:j=i
   ·subst e;rw[hx]at hx2;cases hx2;exact Nat.le_refl _
   ·have:=h2 j x (by omega) hx2;omega
structure At1 (P:Program) (n:Nat) (all:Array Oper) (X:List (Oper×Tr)) (l0:Tmp→Option AV) (H0:HH) (i:Nat) (x:Oper×Tr):Prop where
 ok:TrOK P n all x.1 x.2
 l:∀t,x.2.L.lookup t=lkD X l0 allT i t
 h:∀id,x.2.H[id]?=hkD X H0 allT i id
 lo:H0.length≤x.2.H.length
 le:x.2.H.length≤x.2.H'.length
 mono:∀j y,j<i→X[j]?=some y→y.2.H'.length≤x.2.H.length
theorem Gn.at{X:List (Oper×Tr)}{l0 l':Tmp→Option AV}{H0 H':HH}(h:Gn P n all X l0 H0 l' H'){i:Nat}{x:Oper×Tr}(hx:X[i]?=some x):At1 P n all X l0 H0 i x:=by
 have hi:=(List.getElem?_eq_some_iff.1 hx).1
 obtain⟨l,H,hC,hl,hH,h1,h2⟩:=Gn.split i h (by omega)
 rw[List.drop_eq_getElem_cons hi]at hC
 have e:X[i]=x:=by rw[List.getElem?_eq_getElem hi]at hx;exact Option.some.inj hx
 rw[e]at hC
 obtain⟨hT,e1,e2,_⟩:=hC
 have hle:x.2.H.length≤x.2.H'.length:=by
  cases hr:x.2.ran with
  | true=>exact(hT.ok hr).le
  | false=>rw[(hT.no hr).2.1];exact Nat.le_refl _
 exact⟨hT,fun t=>by have:x.2.L.lookup t=l t:=congrFun e1 t
                    rw[this,hl],fun id=>by rw[e2,hH],by rw[e2];exact h1,hle,fun j y hj hy=>by rw[e2];exact h2 j y hj hy⟩
theorem Gn.end{X:List (Oper×Tr)}{l0 l':Tmp→Option AV}{H0 H':HH}(h:Gn P n all X l0 H0 l' H'):(∀t,l' t=lkD X l0 allT X.length t)∧(∀id,H'[id]?=hkD X H0 allT X.length id)∧H0.length≤H'.length∧(∀(j:Nat) (x:Oper×Tr),X[j]?=some x→x.2.H'.length≤H'.length):=by
 obtain⟨l,H,hC,hl,hH,h1,h2⟩:=Gn.split X.length h (Nat.le_refl _)
 rw[List.drop_length]at hC
 obtain⟨rfl,rfl⟩:=hC
 exact⟨hl,hH,h1,fun j x hx=>h2 j x (List.getElem?_eq_some_iff.1 hx).1 hx⟩
end
end Go.Proofs.YtfcnhnbnjdccfaaGreat

namespace Go.Proofs.YtfcnhnbnjdccfaaGreat
set_option linter.all false
open Go

def TmF(g:Gh)(l:Tmp→Option AV)(tm:Array Value):Prop:=∀t a,l t=some a→RepV g a (tm.getD t undef)
theorem A2b{g:Gh}{v:Value}{a:AV}(h:cst1 v=some a):RepV g a v∧PartOf g a [v] (RepV g a):=by
 unfold cst1 at h
 split at h
 ·split at h
  ·rename_i hc;cases h;exact⟨⟨rfl,hc⟩,_,rfl,rfl,hc⟩
  ·cases h
 all_goals first
  | (cases h;exact⟨rfl,_,rfl,rfl⟩)
  | cases h
theorem Wp{g:Gh}:∀(vs:List Value) (as:List AV),A99 vs=some as→A7 g as vs
 | [],as,h=>by simp only[A99,Option.some.injEq]at h;subst h;rfl
 | v::vs,as,h=>by
  simp only[A99]at h
  obtain⟨a,ha,h2⟩:=bind_some h
  obtain⟨as',has,rfl⟩:=map_some h2
  exact⟨[v],vs,rfl,(A2b ha).2,Wp vs as' has⟩
theorem Ai2{g:Gh}{v:Value}{a:AV}(h:cst v=some a):RepV g a v:=by
 unfold cst at h
 split at h
 ·rename_i cs
  obtain⟨ps,hps,rfl⟩:=map_some h
  exact⟨cs.toList,by simp,Wp _ _ hps⟩
 ·rename_i f a c
  split at h
  ·rename_i hc
   cases h
   refine⟨[],[],?_,rfl,rfl⟩
   have h1:a=#[]:=Array.eq_empty_of_size_eq_zero hc.1
   have h2:c=#[]:=Array.eq_empty_of_size_eq_zero hc.2
   rw[h1,h2]
  ·cases h
 ·exact(A2b h).1
theorem Wb{g:Gh}{L:LL}{tm:Array Value}{df:List Deferred}{x:Operand}{a:AV}(h:∀t,x=.tmp t→∀a,L.lookup t=some a→RepV g a (tm.getD t undef))(hx:opd L x=some a):RepV g a (Act.eval { tmps:=tm,defers:=df } x):=by
 cases x with
 | tmp t=>exact h t rfl a hx
 | const v=>exact Ai2 hx
 | func f=>simp only[opd,Option.some.injEq]at hx;subst hx;exact⟨[],[],rfl,rfl,rfl⟩
 | global g=>cases hx

section
variable {P:Program} {n:Nat} {all:Array Oper} {X:List (Oper×Tr)} {l0:Tmp→Option AV} {H0:HH}

theorem Afz{i:Nat}{o:Oper}{K:Act→World→Prop}{a:Act}{w:World}(ho:all[i]?=some o)(hw:Region.wanted o (yielded all a.tmps)=true)(hnd:∀c,o.op≠.defer c)(h:Exec P (execOp a.eval o) w fun v w'=>K (a.put o.dst v) w'):opOK P all i K a w:=by
 unfold opOK
 rw[ho]
 simp only[hw,if_true]
 refine⟨hnd,?_⟩
 unfold Exec at h
 revert h
 generalize (execOp a.eval o).run P w=r
 intro h
 cases r with
 | ok x w'=>cases x<;>first | exact h | exact h.elim
 | halt x w'=>exact h.elim
theorem Agd{i:Nat}{o:Oper}{K:Act→World→Prop}{a:Act}{w:World}(ho:all[i]?=some o)(hw:Region.wanted o (yielded all a.tmps)=false)(h:K (a.put o.dst undef) w):opOK P all i K a w:=by
 unfold opOK
 rw[ho]
 simp only[hw,Bool.false_eq_true,if_false]
 exact h
def Good(all:Array Oper)(X:List (Oper×Tr)):(Nat→Bool)→List Nat→Prop
 | D,[]=>∀i,i<X.length→D i=true
 | D,i::l=>i<X.length∧D i=false∧(∀j x y,j<i→X[j]?=some x→X[i]?=some y→confl (K0 all x) (K0 all y)=true→D j=true) ∧
   (∀j x y,i<j→X[i]?=some x→X[j]?=some y→confl (K0 all x) (K0 all y)=true→D j=false)∧Good all X (fun j=>D j || j==i) l
structure Inv (n:Nat) (X:List (Oper×Tr)) (l0:Tmp→Option AV) (H0:HH) (N':Nat) (df:List Deferred) (E:Gh→World→Prop) (D:Nat→Bool) (g:Gh) (a:Act) (w:World):Prop where
 sim:Sim g (hkD X H0 D X.length) w
 tm:TmF g (lkD X l0 D X.length) a.tmps
 sz:n≤a.tmps.size
 nw:∀i x,X[i]?=some x→D i=false→∀id,x.2.H.length≤id→id<x.2.H'.length→g.ρ id=none
 hi:∀id,N'≤id→g.ρ id=none
 df:a.defers=df
 ent:E g w
theorem A2h{a b:Rec}{t:Tmp}(h1:a.dst=some t)(h2:t∈b.us∨b.dst=some t):confl a b=true:=by
 unfold confl
 rw[h1]
 rcases h2 with h | h
 ·simp[h]
 ·simp[h]
theorem Ag8{a b:Rec}{t:Tmp}(h1:b.dst=some t)(h2:t∈a.us):confl a b=true:=by
 unfold confl
 rw[h1]
 simp[h2]
theorem Oj{a b:Rec}{i:Nat}(h1:i∈a.wr)(h2:i∈b.rd∨i∈b.wr):confl a b=true:=by
 unfold confl
 have:a.wr.any (fun x=>b.rd.contains x || b.wr.contains x)=true:=by
  rw[List.any_eq_true]
  exact⟨i,h1,by rcases h2 with h | h<;>simp[h]⟩
 rw[this];simp
theorem Aii{a b:Rec}{i:Nat}(h1:i∈a.rd)(h2:i∈b.wr):confl a b=true:=by
 unfold confl
 have:a.rd.any (fun x=>b.wr.contains x)=true:=by
  rw[List.any_eq_true]
  exact⟨i,h1,by simp[h2]⟩
 rw[this];simp
theorem Pt{t:Tmp}{j:Nat}:dW X t j=true↔∃x,X[j]?=some x∧x.1.dst=some t:=by
 unfold dW
 cases X[j]? with
 | none=>simp
 | some x=>simp
theorem Ma{i j:Nat}:hW X i j=true↔∃x,X[j]?=some x∧i∈x.2.wr:=by
 unfold hW
 cases X[j]? with
 | none=>simp
 | some x=>simp
theorem A3c{o:Oper}{t:Tmp}(h:Operand.tmp t∈o.op.operands):t∈Dn all o:=by
 unfold Dn
 refine List.mem_append.2 (.inr (List.mem_filterMap.2 ⟨.tmp t,by simpa using h,rfl⟩))
theorem Wi{o:Oper}{t:Tmp}{g:Nat}{want:Bool}(hg:o.guard=some (g,want))(ht:(all[g]?).bind (·.dst)=some t):t∈Dn all o:=by
 unfold Dn
 rw[hg]
 simp[ht]

theorem Jy{l':Tmp→Option AV}{H':HH}(hC:Gn P n all X l0 H0 l' H')(hX:∀(i:Nat),all[i]?=(X[i]?).map (·.1)){df:List Deferred}{E:Gh→World→Prop}
  (hE:∀ {g g':Gh} {h:Nat→Option Blk'} {w w':World} {wr:List Nat} {nw:Nat→Prop},(∀id,nw id→H0.length≤id)→Sim g h w→Stp (Sw g h wr) nw g w g' w'→E g w→E g' w') {K:Act→World→Prop}
  (hK:∀g a w,Inv n X l0 H0 H'.length df E allT g a w→K a w):∀(l:List Nat) (D:Nat→Bool) (g:Gh) (a:Act) (w:World),Good all X D l→Inv n X l0 H0 H'.length df E D g a w→seqOK P all K l a w
 | [],D,g,a,w,hG,hI=>by
  have hD:∀(q:Nat→Bool),lastW (fun j=>D j&&q j) X.length=lastW (fun j=>allT j&&q j) X.length:=fun q=>Cz fun i hi=>by rw[hG i hi];rfl
  refine hK g a w ⟨?_,?_,hI.sz,fun i x hx h=>(by cases h),hI.hi,hI.df,hI.ent⟩
  ·have:hkD X H0 D X.length=hkD X H0 allT X.length:=by funext id;unfold hkD;rw[hD]
   rw[←this];exact hI.sim
  ·have:lkD X l0 D X.length=lkD X l0 allT X.length:=by funext id;unfold lkD;rw[hD]
   rw[←this];exact hI.tm
 | i::l,D,g,a,w,hG,hI=>by
  obtain⟨hi,hDi,hbef,haft,hG'⟩:=hG
  have hx:X[i]?=some X[i]:=List.getElem?_eq_getElem hi
  generalize X[i]=x at hx
  have hA:=hC.at hx
  have ho:all[i]?=some x.1:=by rw[hX,hx];rfl
  -- what it uses
  have hL:∀t∈Dn all x.1,lkD X l0 D X.length t=x.2.L.lookup t:=by
   intro t ht
   rw[hA.l]
   unfold lkD
   have e1:lastW (fun j=>D j&&dW X t j) X.length=lastW (fun j=>D j&&dW X t j) i:=A27 (by omega) fun j h1 h2=>by
    rw[Bool.and_eq_false_iff]
    by_cases hd:dW X t j=true
    ·left
     obtain⟨y,hy,hyd⟩:=Pt.1 hd
     by_cases e:j=i
     ·subst e;exact hDi
     ·exact haft j x y (by omega) hx hy (Ag8 (t:=t) hyd ht)
    ·right;simpa using hd
   have e2:lastW (fun j=>D j&&dW X t j) i=lastW (fun j=>allT j&&dW X t j) i:=Cz fun j hj=>by
    by_cases hd:dW X t j=true
    ·obtain⟨y,hy,hyd⟩:=Pt.1 hd
     rw[hbef j y x hj hy hx (A2h (t:=t) hyd (.inl ht))];rfl
    ·simp at hd;simp[hd]
   rw[e1,e2]
  have hB:∀id,id∈x.2.rd∨id∈x.2.wr→id<x.2.H.length→hkD X H0 D X.length id=x.2.H[id]?:=by
   intro id hid _
   rw[hA.h]
   unfold hkD
   have e1:lastW (fun j=>D j&&hW X id j) X.length=lastW (fun j=>D j&&hW X id j) i:=A27 (by omega) fun j h1 h2=>by
    rw[Bool.and_eq_false_iff]
    by_cases hd:hW X id j=true
    ·left
     obtain⟨y,hy,hyd⟩:=Ma.1 hd
     by_cases e:j=i
     ·subst e;exact hDi
     ·refine haft j x y (by omega) hx hy ?_
      rcases hid with h | h
      ·exact Aii (i:=id) h hyd
      ·exact Oj (i:=id) h (.inr hyd)
    ·right;simpa using hd
   have e2:lastW (fun j=>D j&&hW X id j) i=lastW (fun j=>allT j&&hW X id j) i:=Cz fun j hj=>by
    by_cases hd:hW X id j=true
    ·obtain⟨y,hy,hyd⟩:=Ma.1 hd
     rw[hbef j y x hj hy hx (Oj (i:=id) hyd hid)];rfl
    ·simp at hd;simp[hd]
   rw[e1,e2]
  -- is it wanted?
  have hwant:Region.wanted x.1 (yielded all a.tmps)=x.2.ran:=by
   have hgd:=hA.ok.gd
   unfold TrG at hgd
   unfold Region.wanted
   split at hgd
   ·rename_i hg;rw[hg,hgd]
   ·rename_i gd want hg
    rw[hg]
    obtain⟨t,ht,hc⟩:=hgd
    have hus:=Wi (all:=all) hg ht
    have hl:=hL t hus
    simp only
    rcases hc with⟨c,hc,hr⟩ | ⟨hc,hr⟩
    ·rw[hc]at hl
     have hv:=hI.tm t _ hl
     simp only[RepV]at hv
     have h2:a.tmps[t]?=some (.bool c):=by
      rw[Array.getD_eq_getD_getElem?]at hv
      cases hq:a.tmps[t]? with
      | none=>rw[hq]at hv;simp[undef]at hv
      | some q=>rw[hq]at hv;simp at hv;rw[hv]
     have:yielded all a.tmps gd=some c:=by simp[yielded,ht,h2]
     rw[this,hr]
     cases c<;>cases want<;>rfl
    ·rw[hc]at hl
     have hv:=hI.tm t _ hl
     simp only[RepV]at hv
     have:yielded all a.tmps gd=none:=by
      simp only[yielded,ht,Option.bind_some]
      rw[Array.getD_eq_getD_getElem?]at hv
      cases hq:a.tmps[t]? with
      | none=>rfl
      | some q=>rw[hq]at hv;simp at hv;rw[hv];rfl
     rw[this,hr];rfl
  -- behind it
  have hdstL:∀t,x.1.dst=some t→lkD X l0 (fun j=>D j || j==i) X.length t=some x.2.v:=by
   intro t ht
   have:lastW (fun j=>(D j || j==i)&&dW X t j) X.length=some i:=Z1 (by simp[Pt.2 ⟨x,hx,ht⟩]) hi fun j h1 h2=>by
    rw[Bool.and_eq_false_iff]
    by_cases hd:dW X t j=true
    ·left
     obtain⟨y,hy,hyd⟩:=Pt.1 hd
     rw[haft j x y h1 hx hy (A2h (t:=t) ht (.inr hyd)),Bool.false_or]
     exact beq_eq_false_iff_ne.2 (by omega)
    ·right;simpa using hd
   simp only[lkD,this,hx,Option.map_some]
  have hdstN:∀t,x.1.dst≠some t→lkD X l0 (fun j=>D j || j==i) X.length t=lkD X l0 D X.length t:=by
   intro t ht
   have:lastW (fun j=>(D j || j==i)&&dW X t j) X.length=lastW (fun j=>D j&&dW X t j) X.length:=by
    apply Cz
    intro j hj
    by_cases e:j=i
    ·subst e
     have:dW X t j=false:=by
      cases hd:dW X t j with
      | false=>rfl
      | true=>obtain⟨y,hy,hyd⟩:=Pt.1 hd;rw[hx]at hy;cases hy;exact absurd hyd ht
     simp[this]
    ·have:(j==i)=false:=by simpa using e
     simp only[this,Bool.or_false]
   unfold lkD
   rw[this]
  have hwrY:∀id,id∈x.2.wr→hkD X H0 (fun j=>D j || j==i) X.length id=x.2.H'[id]?:=by
   intro id hid
   have:lastW (fun j=>(D j || j==i)&&hW X id j) X.length=some i:=Z1 (by simp[Ma.2 ⟨x,hx,hid⟩]) hi fun j h1 h2=>by
    rw[Bool.and_eq_false_iff]
    by_cases hd:hW X id j=true
    ·left
     obtain⟨y,hy,hyd⟩:=Ma.1 hd
     rw[haft j x y h1 hx hy (Oj (i:=id) hid (.inr hyd)),Bool.false_or]
     exact beq_eq_false_iff_ne.2 (by omega)
    ·right;simpa using hd
   simp only[hkD,this,hx,Option.bind_some]
  have hwrN:∀id,id∉x.2.wr→hkD X H0 (fun j=>D j || j==i) X.length id=hkD X H0 D X.length id:=by
   intro id hid
   have:lastW (fun j=>(D j || j==i)&&hW X id j) X.length=lastW (fun j=>D j&&hW X id j) X.length:=by
    apply Cz
    intro j hj
    by_cases e:j=i
    ·subst e
     have:hW X id j=false:=by
      cases hd:hW X id j with
      | false=>rfl
      | true=>obtain⟨y,hy,hyd⟩:=Ma.1 hd;rw[hx]at hy;cases hy;exact absurd hyd hid
     simp[this]
    ·have:(j==i)=false:=by simpa using e
     simp only[this,Bool.or_false]
   unfold hkD
   rw[this]
  have htm:∀(g':Gh) (v':Value),GE g g'→RepV g' x.2.v v'→TmF g' (lkD X l0 (fun j=>D j || j==i) X.length) (a.put x.1.dst v').tmps:=by
   intro g' v' hge hv' t b hb
   cases hd:x.1.dst with
   | none=>
    rw[hdstN t (by rw[hd];simp)]at hb
    simp only[Act.put]
    exact RepV.mono hge _ _ (hI.tm t b hb)
   | some d=>
    have hlt:d<n:=by have:=hA.ok.dst;rw[hd]at this;simpa [dstOK]using this
    simp only[Act.put]
    by_cases e:d=t
    ·subst e
     rw[hdstL d hd]at hb;cases hb
     have hlt2:d<a.tmps.size:=Nat.lt_of_lt_of_le hlt hI.sz
     simp[Array.getD_eq_getD_getElem?,hlt2]
     exact hv'
    ·rw[hdstN t (by rw[hd];simpa using e)]at hb
     rw[Array.getD_eq_getD_getElem?,Array.getElem?_setIfInBounds_ne e,←Array.getD_eq_getD_getElem?]
     exact RepV.mono hge _ _ (hI.tm t b hb)
  have hsz:∀v',n≤(a.put x.1.dst v').tmps.size:=by
   intro v'
   have:=hI.sz
   cases hd:x.1.dst<;>simp[Act.put,this]
  have hdf:∀v',(a.put x.1.dst v').defers=df:=by
   intro v'
   have:=hI.df
   cases hd:x.1.dst<;>simp[Act.put,this]
  have hends:=hC.end
  have hHle:∀(j:Nat) (y:Oper×Tr),X[j]?=some y→y.2.H'.length≤H'.length:=fun j y hy=>hends.2.2.2 j y hy
  cases hr:x.2.ran with
  | false=>
   obtain⟨n1,n2,n3,n4⟩:=hA.ok.no hr
   refine Agd ho (by rw[hwant,hr]) (Jy hC hX hE hK l _ g _ w hG' ⟨?_,htm g undef (GE.refl g) (by rw[n1];rfl),hsz _,fun j y hy hj=>?_,hI.hi,hdf _,hI.ent⟩)
   ·have:hkD X H0 (fun j=>D j || j==i) X.length=hkD X H0 D X.length:=funext fun id=>hwrN id (by rw[n4];simp)
    rw[this];exact hI.sim
   ·simp only[Bool.or_eq_false_iff]at hj
    exact hI.nw j y hy hj.1
  | true=>
   have hop:=hA.ok.ok hr
   refine Afz ho (by rw[hwant,hr]) hop.nd ?_
   have hOp:Opds g x.2.L a.eval x.1.op.operands:=by
    intro y hy b hb
    refine Wb (tm:=a.tmps) (df:=a.defers) (fun t e c hc=>?_) hb
    subst e
    exact hI.tm t c (by rw[hL t (A3c hy)];exact hc)
   have hnone:∀id,x.2.H.length≤id→id<x.2.H'.length→g.ρ id=none∧hkD X H0 D X.length id=none:=by
    intro id h1 h2
    refine⟨hI.nw i x hx hDi id h1 h2,?_⟩
    have hw:=(hop.fr id).2 h1 h2
    have:lastW (fun j=>D j&&hW X id j) X.length=none:=by
     cases hq:lastW (fun j=>D j&&hW X id j) X.length with
     | none=>rfl
     | some j=>
      obtain⟨q1,q2,_⟩:=Nj hq
      simp only[Bool.and_eq_true]at q1
      obtain⟨y,hy,hyw⟩:=Ma.1 q1.2
      rcases Nat.lt_trichotomy j i with h | h | h
      ·have hm:=hA.mono j y h hy
       have hAy:=hC.at hy
       cases hry:y.2.ran with
       | true=>have:=(hAy.ok.ok hry).wlt id hyw;omega
       | false=>rw[(hAy.ok.no hry).2.2.2]at hyw;cases hyw
      ·subst h;rw[hDi]at q1;simp at q1
      ·rw[haft j x y h hx hy (Oj (i:=id) hw (.inr hyw))]at q1;simp at q1
    unfold hkD
    rw[this]
    have:=hA.lo
    exact List.getElem?_eq_none (by omega)
   have hex:=hop.run g _ w a.eval hOp hI.sim hB hnone
   have cont:∀v' w',(∃g',Stp (Sw g (hkD X H0 D X.length) x.2.wr) (fun id=>x.2.H.length≤id∧id<x.2.H'.length) g w g' w'∧Sim g' (updH (hkD X H0 D X.length) x.2.H x.2.H' x.2.wr) w'∧RepV g' x.2.v v')→seqOK P all K l (a.put x.1.dst v') w':=by
    rintro v' w' ⟨g',st,hs',hv'⟩
    refine Jy hC hX hE hK l _ g' _ w' hG' ⟨?_,htm g' v' st.ge hv',hsz _,fun j y hy hj id h1 h2=>?_,fun id hid=>?_,hdf _,hE (fun id hn=>by have:=hA.lo;omega) hI.sim st hI.ent⟩
    ·have:hkD X H0 (fun j=>D j || j==i) X.length=updH (hkD X H0 D X.length) x.2.H x.2.H' x.2.wr:=by
      funext id
      simp only[updH]
      by_cases hw:id∈x.2.wr
      ·rw[if_pos (show chg x.2.H x.2.H' x.2.wr id from .inl hw),hwrY id hw]
      ·rw[if_neg (show ¬chg x.2.H x.2.H' x.2.wr id from fun hh=>hw (hh.elim (fun h=>h) (fun h=>(hop.fr id).2 h.1 h.2))),hwrN id hw]
     rw[this];exact hs'
    ·simp only[Bool.or_eq_false_iff,beq_eq_false_iff_ne]at hj
     have h0:=hI.nw j y hy hj.1 id h1 h2
     cases hq:g'.ρ id with
     | none=>rfl
     | some q=>
      exfalso
      obtain⟨r1,r2⟩:=st.ρn id h0 (by rw[hq];simp)
      rcases Nat.lt_or_gt_of_ne hj.2 with h | h
      ·have:=hA.mono j y h hy;omega
      ·have:=(hC.at hy).mono i x h hx;omega
    ·have h0:=hI.hi id hid
     cases hq:g'.ρ id with
     | none=>rfl
     | some q=>
      exfalso
      obtain⟨r1,r2⟩:=st.ρn id h0 (by rw[hq];simp)
      have:=hHle i x hx
      omega
   unfold Exec at hex ⊢
   revert hex
   generalize (execOp a.eval x.1).run P w=res
   intro hex
   cases res with
   | halt h' w'=>exact hex.elim
   | ok nx w'=>
    cases nx<;>first
     | exact hex.elim
     | exact cont _ _ hex
     | exact Fn.mono hex (fun v w' h=>cont v w' h)
     | exact Round.mono hex (fun v w' h=>cont v w' h)
end
end Go.Proofs.YtfcnhnbnjdccfaaGreat

namespace Go.Proofs.YtfcnhnbnjdccfaaGreat
set_option linter.all false
open Go

theorem Zw{l l2:List Nat}{i:Nat}(h:i<l.length):(l++l2).getD i 0=l.getD i 0:=by
 simp[List.getD_eq_getElem?_getD,List.getElem?_append_left h]
theorem A1n{acc:List Nat}{i:Nat}:∀(es:List Edge) (s:Nat),(es.foldl (fun s e=>if Region.binds .any e then s ||| 2 ^ e.on ||| acc.getD e.on 0 else s) s).testBit i=true →
  s.testBit i=true∨∃e∈es,Region.binds .any e=true∧(e.on=i∨(acc.getD e.on 0).testBit i=true)
 | [],s,h=>.inl h
 | e::es,s,h=>by
  simp only[List.foldl_cons]at h
  rcases A1n es _ h with h1 | ⟨e',he',h1⟩
  ·split at h1
   ·rename_i hb
    simp only[Nat.testBit_or,Bool.or_eq_true]at h1
    rcases h1 with(h1 | h1) | h1
    ·exact .inl h1
    ·refine .inr ⟨e,by simp,hb,.inl ?_⟩
     rw[Nat.testBit_two_pow]at h1
     simpa using h1
    ·exact .inr ⟨e,by simp,hb,.inr h1⟩
   ·exact .inl h1
  ·exact .inr ⟨e',by simp[he'],h1⟩
theorem A23:∀(os:List Oper) (acc:List Nat),∃tail,befs os acc=acc++tail∧tail.length=os.length∧∀(k:Nat) (o:Oper),os[k]?=some o→∀i,((acc++tail).getD (acc.length+k) 0).testBit i=true →
  ∃e∈o.after.toList,Region.binds .any e=true∧(e.on=i∨((acc++tail).getD e.on 0).testBit i=true)
 | [],acc=>⟨[],by simp[befs],rfl,fun k o h=>by simp at h⟩
 | o::os,acc=>by
  simp only[befs]
  generalize hs:(o.after.toList.foldl (fun s e=>if Region.binds .any e then s ||| 2 ^ e.on ||| acc.getD e.on 0 else s) 0)=s
  obtain⟨tail,h1,h2,h3⟩:=A23 os (acc++[s])
  refine⟨s::tail,by rw[h1];simp,by simp[h2],fun k o' hk i hi=>?_⟩
  have ea:acc++s::tail=acc++[s]++tail:=by simp
  cases k with
  | zero=>
   simp only[List.getElem?_cons_zero,Option.some.injEq]at hk
   subst hk
   have:(acc++s::tail).getD (acc.length+0) 0=s:=by simp[List.getD_eq_getElem?_getD]
   rw[this,←hs]at hi
   rcases A1n _ _ hi with h4 | ⟨e,he,hb,h4⟩
   ·simp at h4
   ·refine⟨e,he,hb,h4.imp (fun h=>h) (fun h4=>?_)⟩
    have hlt:e.on<acc.length:=by
     rcases Nat.lt_or_ge e.on acc.length with h5 | h5
     ·exact h5
     ·rw[List.getD_eq_getElem?_getD,List.getElem?_eq_none h5]at h4;simp at h4
    rw[Zw hlt];exact h4
  | succ k=>
   simp only[List.getElem?_cons_succ]at hk
   rw[ea]at hi ⊢
   exact h3 k o' hk i (by rw[List.length_append,List.length_singleton,show acc.length+1+k=acc.length+(k+1)by omega];exact hi)
theorem Ae4{r:Rec}{i:Nat}:∀(qs:List Rec) (bs:List Nat),apartB.go r qs bs i=true→∀(l:Nat) (q:Rec),qs[l]?=some q→confl r q=true→(bs.getD l 0).testBit i=true
 | [],_,_,l,q,h,_=>by simp at h
 | q::qs,[],h,_,_,_,_=>by simp[apartB.go]at h
 | q::qs,b::bs,h,0,q',hq,hc=>by
  simp only[apartB.go,Bool.and_eq_true,Bool.or_eq_true,Bool.not_eq_true']at h
  simp only[List.getElem?_cons_zero,Option.some.injEq]at hq
  subst hq
  rcases h.1 with h | h
  ·rw[hc]at h;cases h
  ·simpa using h
 | q::qs,b::bs,h,l+1,q',hq,hc=>by
  simp only[apartB.go,Bool.and_eq_true]at h
  have:=Ae4 qs bs h.2 l q' (by simpa using hq) hc
  simpa [List.getD_eq_getElem?_getD]using this
theorem Ug:∀(rs:List Rec) (bs:List Nat) (i0:Nat),apartB rs bs i0=true→∀(k l:Nat) (r q:Rec),k<l→rs[k]?=some r→rs[l]?=some q→confl r q=true→(bs.getD (i0+l) 0).testBit (i0+k)=true
 | [],_,_,_,k,l,r,q,_,h,_,_=>by simp at h
 | r0::rs,bs,i0,h,0,l,r,q,hkl,hr,hq,hc=>by
  simp only[apartB,Bool.and_eq_true]at h
  simp only[List.getElem?_cons_zero,Option.some.injEq]at hr
  subst hr
  cases l with
  | zero=>omega
  | succ l=>
   have:=Ae4 rs _ h.1 l q (by simpa using hq) hc
   rw[List.getD_eq_getElem?_getD,List.getElem?_drop]at this
   rw[List.getD_eq_getElem?_getD,show i0+(l+1)=i0+1+l by omega]
   exact this
 | r0::rs,bs,i0,h,k+1,l,r,q,hkl,hr,hq,hc=>by
  simp only[apartB,Bool.and_eq_true]at h
  cases l with
  | zero=>omega
  | succ l=>
   have:=Ug rs bs (i0+1) h.2 k l r q (by omega) (by simpa using hr) (by simpa using hq) hc
   rwa [show i0+1+l=i0+(l+1)by omega,show i0+1+k=i0+(k+1)by omega]at this
theorem Nz:∀(os:List Oper) (i0:Nat),backB os i0=true→∀(k:Nat) (o:Oper),os[k]?=some o→∀e∈o.after,Region.binds .any e=true→e.on<i0+k
 | [],_,_,k,o,h=>by simp at h
 | o0::os,i0,h,0,o,ho=>by
  simp only[backB,Bool.and_eq_true]at h
  simp only[List.getElem?_cons_zero,Option.some.injEq]at ho
  subst ho
  intro e he hb
  have:=Array.all_eq_true_iff_forall_mem.1 h.1 e he
  simp[hb]at this
  omega
 | o0::os,i0,h,k+1,o,ho=>by
  simp only[backB,Bool.and_eq_true]at h
  intro e he hb
  have:=Nz os (i0+1) h.2 k o (by simpa using ho) e he hb
  omega

section
variable {P:Program} {specs:List Spec} {n:Nat} {ops:Array Oper} {X:List (Oper×Tr)}

theorem A2m:∀(k i:Nat),i+k=X.length→Good ops X (fun j=>decide (j<i)) (List.range' i k)
 | 0,i,h=>by intro j hj;simp;omega
 | k+1,i,h=>by
  refine⟨by omega,by simp,fun j x y hj _ _ _=>by simpa using hj,fun j x y hj _ _ _=>by simp;omega,?_⟩
  have:(fun j=>decide (j<i) || j==i)=fun j=>decide (j<i+1):=by
   funext j
   rw[Bool.eq_iff_iff]
   simp;omega
  rw[this]
  exact A2m k (i+1) (by omega)
theorem A7j(hX:X.map (·.1)=ops.toList)(hb:backB ops.toList 0=true)(ha:apartB (X.map (K0 ops)) (befs ops.toList []) 0=true):∀(l:List Nat) (listed:Array Bool) (D:Nat→Bool),listed.size=ops.size→(∀j,j<ops.size→D j=listed.getD j true) →
  (∀j,j<ops.size→D j=true→∀i,i<ops.size→((befs ops.toList []).getD j 0).testBit i=true→D i=true)→Lin ops listed l→Good ops X D l
 | [],listed,D,hsz,hD,hcl,hl=>by
  have hlen:X.length=ops.size:=by have:=congrArg List.length hX;simpa using this
  have hr:Region.ready .any ops listed=[]:=hl
  intro i hi
  rw[hlen]at hi
  induction i using Nat.strongRecOn with
  | _ i ih=>
   by_cases h:D i=true
   ·exact h
   ·exfalso
    have h0:listed.getD i true=false:=by rw[←hD i hi];simpa using h
    have ho:ops[i]?=some ops[i]:=Array.getElem?_eq_getElem hi
    have hm:i∈Region.ready .any ops listed:=mem_ready.2 ⟨h0,ops[i],ho,fun e he hbi=>by
     have hlt:=Nz _ 0 hb i ops[i] (by simpa using ho) e he hbi
     have hd:=ih e.on (by omega) (by omega)
     rw[hD e.on (by omega)]at hd
     have hlt2:e.on<listed.size:=by omega
     simpa [Array.getD_eq_getD_getElem?,hlt2]using hd⟩
    rw[hr]at hm;cases hm
 | i::l,listed,D,hsz,hD,hcl,hl=>by
  have hlen:X.length=ops.size:=by have:=congrArg List.length hX;simpa using this
  obtain⟨h0,o,ho,hall⟩:=mem_ready.1 hl.1
  have hi:i<ops.size:=(Array.getElem?_eq_some_iff.1 ho).1
  have hDi:D i=false:=by rw[hD i hi];exact h0
  obtain⟨tail,t1,t2,t3⟩:=A23 ops.toList []
  rw[List.nil_append]at t1
  have hbef:∀j,j<ops.size→((befs ops.toList []).getD i 0).testBit j=true→D j=true:=by
   intro j hj hbit
   rw[t1]at hbit
   obtain⟨e,he,hbi,h1⟩:=t3 i o (by simpa using ho) j (by simpa using hbit)
   have hon:=hall e (by simpa using he) hbi
   have hlt:e.on<ops.size:=by
    have:=Nz _ 0 hb i o (by simpa using ho) e (by simpa using he) hbi
    omega
   have hd:D e.on=true:=by
    rw[hD e.on hlt]
    have hlt2:e.on<listed.size:=by omega
    simpa [Array.getD_eq_getD_getElem?,hlt2]using hon
   rcases h1 with h1 | h1
   ·rw[←h1];exact hd
   ·exact hcl e.on hlt hd j hj (by rw[t1];simpa using h1)
  have key:∀(j k:Nat) (x y:Oper×Tr),j<k→X[j]?=some x→X[k]?=some y→confl (K0 ops x) (K0 ops y)=true→((befs ops.toList []).getD k 0).testBit j=true:=by
   intro j k x y hjk hx hy hc
   have:=Ug _ _ 0 ha j k _ _ hjk (by rw[List.getElem?_map,hx];rfl) (by rw[List.getElem?_map,hy];rfl) hc
   simpa using this
  refine⟨by omega,hDi,fun j x y hj hx hy hc=>hbef j (by omega) (key j i x y hj hx hy hc),fun j x y hj hx hy hc=>?_,A7j hX hb ha l _ _ (by simpa using hsz) (fun j hj=>?_) (fun j hj hd k hk hbit=>?_) hl.2⟩
  ·have hjlt:j<ops.size:=by rw[←hlen];exact(List.getElem?_eq_some_iff.1 hy).1
   cases hdj:D j with
   | false=>rfl
   | true=>
    have:=hcl j hjlt hdj i hi (key i j x y hj hx hy hc)
    rw[hDi]at this;cases this
  ·by_cases e:j=i
   ·subst e
    simp[Array.getD_eq_getD_getElem?,hsz,hj]
   ·have h1:(j==i)=false:=by simpa using e
    rw[h1,Bool.or_false,hD j hj]
    simp only[Array.getD_eq_getD_getElem?]
    rw[Array.getElem?_setIfInBounds_ne (fun h=>e h.symm)]
  ·simp only[Bool.or_eq_true,beq_iff_eq]at hd ⊢
   left
   rcases hd with hd | hd
   ·exact hcl j hj hd k hk hbit
   ·subst hd;exact hbef k hk hbit

structure Ent (S0:Nat→Prop) (m0:Nat) (g0:Gh) (w0:World) (g:Gh) (w:World):Prop where
 os:w.os=w0.os
 tape:w.tape=w0.tape
 output:w.output=w0.output
 size:w0.heap.size≤w.heap.size
 same:∀b,b<w0.heap.size→¬S0 b→w.heap[b]?=w0.heap[b]?
 M:∀b o,g0.M b=some o→g.M b=some o
 Mn:∀b o,g.M b=some o→g0.M b=some o∨g0.M b=none∧(w0.heap.size≤b∨S0 b)∧isCel o=true
 pin:∀i,i<m0→g.ρ i=g0.ρ i
 oth:∀i b c k,m0≤i→g.ρ i=some (some (b,c,k))→w0.heap.size≤b∨S0 b
abbrev EE:=List Deferred→Gh→World→Prop
structure SR (n m0:Nat) (E:EE) (L:LL) (H:HH) (a:Act) (w:World):Prop where
 ex:∃g,Sim g (fun i=>H[i]?) w∧TmF g (fun t=>L.lookup t) a.tmps∧(∀i,H.length≤i→g.ρ i=none)∧E a.defers g w
 sz:n≤a.tmps.size
 m:m0≤H.length
structure EOK0 (m0:Nat) (E:EE):Prop where
 step:∀ {ds:List Deferred} {g g':Gh} {h:Nat→Option Blk'} {w w':World} {wr:List Nat} {nw:Nat→Prop},(∀id,nw id→m0≤id)→Sim g h w→Stp (Sw g h wr) nw g w g' w'→E ds g w→E ds g' w'
 bump:∀ds g w,E ds g w→E ds g (bump w)
 reb:∀ds g w σ,E ds g w→(∀i,i<m0→σ.m[i]?=some (some (some i)))→(∀(j k i:Nat),σ.m[j]?=some (some (some i))→σ.m[k]?=some (some (some i))→j=k)→E ds (rebG σ g) w
abbrev mk(D:Nat):Deferred:={ target:=.collected D,args:=#[] }
structure EOK (m0:Nat) (E:EE):Prop extends EOK0 m0 E where
 upd:∃lo,(∀ds g w,E ds g w→lo≤w.heap.size)∧(∀ds g w D,E ds g w→mk D∈ds→D<w.heap.size)∧∀ds g w w' T,E ds g w→Upd T w w'→(∀k∈T,lo≤k∧mk k∉ds)→E ds g w'
 mark:∀ds g w w',E ds g w→Ext w w'→w'.heap[w.heap.size]?=some (.deferred (some []))→g.M w.heap.size=none→E (mk w.heap.size::ds) g w'
theorem Ent.upd{S0:Nat→Prop}{m0:Nat}{g0 g:Gh}{w0 w w':World}{T:List Nat}(h:Ent S0 m0 g0 w0 g w)(hu:Upd T w w')(hT:∀k∈T,w0.heap.size≤k∨S0 k):Ent S0 m0 g0 w0 g w':=
 ⟨hu.os.trans h.os,hu.tape.trans h.tape,hu.output.trans h.output,Nat.le_trans h.size hu.size,fun b hb hS=>(hu.same b (Nat.lt_of_lt_of_le hb h.size) (fun hk=>(hT b hk).elim (fun x=>by omega) hS)).trans (h.same b hb hS),h.M,h.Mn,h.pin,h.oth⟩
theorem Ent.ok{S0:Nat→Prop}{m0:Nat}{g0:Gh}{w0:World}(hS:∀i b c k,i<m0→g0.ρ i=some (some (b,c,k))→S0 b)(hρ:∀i,i<m0→∃x,g0.ρ i=some x):EOK0 m0 (fun _=>Ent S0 m0 g0 w0):=by
 refine⟨fun{ds g g' h w w' wr nw} hn hs st he=>?_,fun _ g w he=>⟨he.os,he.tape,he.output,he.size,he.same,he.M,he.Mn,he.pin,he.oth⟩,fun _ g w σ he hp hi=>⟨he.os,he.tape,he.output,he.size,he.same,he.M,he.Mn,fun i h=>by simp only[rebG,hp i h];exact he.pin i h,fun j b c k hj e=>?_⟩⟩
 rotate_left
 ·simp only[rebG]at e
  split at e
  ·rename_i i hm
   refine he.oth i b c k ?_ e
   rcases Nat.lt_or_ge i m0 with h | h
   ·have:=hi j i i hm (hp i h);omega
   ·exact h
  ·cases e
  ·cases e
 have hsub:∀b,Sw g h wr b→w0.heap.size≤b∨S0 b:=by
  rintro b ⟨i,_,k,c,q,_,_,e⟩
  by_cases hi:i<m0
  ·rw[he.pin i hi]at e;exact .inr (hS i b c q hi e)
  ·exact he.oth i b c q (by omega) e
 refine⟨st.os.trans he.os,st.tape.trans he.tape,st.output.trans he.output,Nat.le_trans he.size st.size,fun b hb hS0=>?_,fun b o hb=>st.ge.M b o (he.M b o hb),fun b o hb=>?_,fun i hi=>?_,fun i b c k hi e=>?_⟩
 ·have:¬Sw g h wr b:=fun hx=>(hsub b hx).elim (fun h=>by omega) hS0
  exact(st.same b (Nat.lt_of_lt_of_le hb he.size) this).trans (he.same b hb hS0)
 ·rcases st.Mn b o hb with h1 | ⟨h1,h2,h3⟩
  ·exact he.Mn b o h1
  ·cases hg:g0.M b with
   | some o'=>have:=he.M b o' hg;rw[h1]at this;cases this
   | none=>exact .inr ⟨rfl,h2.elim (fun h=>.inl (Nat.le_trans he.size h)) (hsub b),h3⟩
 ·obtain⟨x,hx⟩:=hρ i hi
  rw[hx]
  exact st.ge.ρ i x (by rw[he.pin i hi,hx])
 ·cases hg:g.ρ i with
  | some x=>
   have:=st.ge.ρ i x hg
   rw[e]at this;cases this
   exact he.oth i b c k hi hg
  | none=>exact(st.ρb i b c k hg e).elim (fun h=>.inl (Nat.le_trans he.size h)) (hsub b)

variable {m0:Nat} {E:EE} {Z:Type} {z:Z}
theorem A3o(hall:∀s∈specs,A2 P s)(hmix:P.follows .mixedOrders=true)(hE:EOK m0 E){id:Nat}{draw:Bool}{κ:LL→HH→Option Z}{L:LL}{H:HH}{k:List Item}{Xc:Ctx}{a:Act}{w:World}
  (h:evOps P specs n ops (fun acc L' H'=>if !draw || (backB ops.toList 0&&apartB acc.reverse (befs ops.toList []) 0)then κ L' H' else none) ops.toList [] L H=some z) (hS:SR n m0 E L H a w)
  (hk:∀L' H',κ L' H'=some z→∀a w,SR n m0 E L' H' a w→At P Xc k a w):At P Xc (.code (.region id ops draw)::k) a w:=by
 obtain⟨X,hX,L',H',hC,hz⟩:=K4 hall _ _ _ _ h
 split at hz
 rotate_left
 ·cases hz
 rename_i hc
 have hXi:∀(i:Nat),ops[i]?=(X[i]?).map (·.1):=by
  intro i
  rw[←List.getElem?_map,hX];simp
 have hlen:X.length=ops.size:=by have:=congrArg List.length hX;simpa using this
 have hends:=hC.end
 -- the start
 have start:∀w',w'.heap=w.heap→(∀g,E a.defers g w→E a.defers g w')→∀D,(∀j,j<X.length→D j=false)→∃g,Inv n X (fun t=>L.lookup t) H H'.length a.defers (E a.defers) D g a w':=by
  intro w' hw hEw D hD
  obtain⟨g,hs,htm,hhi,he⟩:=hS.ex
  have h1:∀(q:Nat→Bool),lastW (fun j=>D j&&q j) X.length=none:=by
   intro q
   cases hq:lastW (fun j=>D j&&q j) X.length with
   | none=>rfl
   | some j=>
    obtain⟨q1,q2,_⟩:=Nj hq
    rw[hD j q2]at q1;simp at q1
  refine⟨g,?_,?_,hS.sz,fun i x hx _ q h2 _=>hhi q (by have:=(hC.at hx).lo;omega),fun q hq=>hhi q (by have:=hends.2.2.1;omega),rfl,hEw g he⟩
  ·have:hkD X H D X.length=fun i=>H[i]?:=by funext i;unfold hkD;rw[h1]
   rw[this]
   exact⟨fun b o hb=>by rw[hw];exact hs.mem b o hb,fun i k hk=>(hs.blk i k hk).step (GE.refl g) (fun _ b c n _ _ hM=>⟨by rw[hw],hM⟩),hs.inj⟩
  ·have:lkD X (fun t=>L.lookup t) D X.length=fun t=>L.lookup t:=by funext t;unfold lkD;rw[h1]
   rw[this];exact htm
 have fin:∀g a' w,Inv n X (fun t=>L.lookup t) H H'.length a.defers (E a.defers) allT g a' w→At P Xc k a' w:=by
  intro g a' w hI
  have e1:hkD X H allT X.length=fun i=>H'[i]?:=funext fun i=>(hends.2.1 i).symm
  have e2:lkD X (fun t=>L.lookup t) allT X.length=fun t=>L'.lookup t:=funext fun t=>(hends.1 t).symm
  refine hk L' H' hz a' w ⟨⟨g,by rw[←e1];exact hI.sim,by rw[←e2];exact hI.tm,hI.hi,by rw[hI.df];exact hI.ent⟩,hI.sz,?_⟩
  have:=hends.2.2.1
  have:=hS.m
  omega
 have hE':∀ {g g':Gh} {h:Nat→Option Blk'} {w w':World} {wr:List Nat} {nw:Nat→Prop},(∀id,nw id→H.length≤id)→Sim g h w→Stp (Sw g h wr) nw g w g' w'→E a.defers g w→E a.defers g' w':=
  fun hn hs st he=>hE.step (fun i hi=>Nat.le_trans hS.m (hn i hi)) hs st he
 cases draw with
 | false=>
  refine .head stepR_region ?_
  obtain⟨g,hI⟩:=start w rfl (fun _ h=>h) (fun j=>decide (j<0)) (fun j _=>by simp)
  have hG:=A2m (ops:=ops) (X:=X) X.length 0 (by omega)
  have:=Jy hC hXi hE' (K:=fun a w=>At P Xc k a w) fin _ _ g a w hG hI
  rw[hlen,←List.range_eq_range']at this
  exact F9 (fun a w h=>h) _ _ _ this
 | true=>
  simp only[Bool.not_true,Bool.false_or,Bool.and_eq_true,List.append_nil,List.reverse_reverse]at hc
  refine .head stepR_region_draw ?_
  simp only[Region.schedule,hmix,Bool.true_or,if_true]
  have hlin:∀t,Lin ops (Array.replicate ops.size false) (Region.linearise .any ops t):=fun t=>Aos _ _ _ (by
   unfold unl
   exact Nat.le_trans (List.length_filter_le _ _) (by simp))
  have hun:∀j,j<ops.size→(Array.replicate ops.size false).getD j true=false:=fun j hj=>by
   simp[Array.getD_eq_getD_getElem?,Array.getElem?_replicate,hj]
  obtain⟨g,hI⟩:=start (bump w) rfl (fun g h=>hE.bump _ g w h) (fun j=>(Array.replicate ops.size false).getD j true) (fun j hj=>hun j (by omega))
  refine F9 (K:=fun a w=>At P Xc k a w) (fun a w h=>h) _ _ _ ?_
  exact Jy hC hXi hE' (K:=fun a w=>At P Xc k a w) fin _ _ g a (bump w) (A7j hX hc.1 hc.2 _ (Array.replicate ops.size false) (fun j=>(Array.replicate ops.size false).getD j true) (by simp) (fun j _=>rfl) (fun j hj hd=>by rw[hun j hj]at hd;cases hd) (hlin _)) hI
end
end Go.Proofs.YtfcnhnbnjdccfaaGreat

namespace Go.Proofs.YtfcnhnbnjdccfaaGreat
set_option linter.all false
open Go

def itm(c:Code):PI→Item
 | .c p=>.code (sub c p)
 | .b id=>.inBlock id
 | .l p=>.inLoop (sub c p)
 | .r=>.beginRound
 | .s p=>.inScope (sub c p)
theorem C1:∀(p q:List Nat) (c:Code),sub c (p++q)=sub (sub c p) q
 | [],q,c=>by cases c<;>rfl
 | i::p,q,c=>by
  have leaf:∀c:Code,(∀l,sub c l=c)→sub c (i::p++q)=sub (sub c (i::p)) q:=fun c h=>by rw[h,h,h]
  cases c
  case seq a b=>simp only[List.cons_append,sub];split<;>exact C1 p q _
  case block id a=>simp only[List.cons_append,sub];exact C1 p q _
  case loop a=>simp only[List.cons_append,sub];exact C1 p q _
  case scope a=>simp only[List.cons_append,sub];exact C1 p q _
  case cond x a b=>simp only[List.cons_append,sub];split<;>exact C1 p q _
  case rangeFunc x y a b=>simp only[List.cons_append,sub];split<;>exact C1 p q _
  all_goals exact leaf _ (fun l=>by cases l<;>rfl)
theorem Eb{c:Code}{id:Nat}:∀ {k k':List PI},exitP id k=some k'→exitTo id (k.map (itm c))=some (k'.map (itm c))
 | [],k',h=>by cases h
 | .b j::k,k',h=>by
  simp only[exitP]at h
  simp only[List.map_cons,itm,exitTo,beq_iff_eq]
  split at h
  ·rename_i e;cases h;rw[if_pos e]
  ·rename_i e;rw[if_neg e];exact Eb h
 | .c p::k,k',h=>by
  simp only[exitP]at h
  simp only[List.map_cons,itm,exitTo]
  exact Eb h
 | .l p::k,k',h=>by
  simp only[exitP]at h
  simp only[List.map_cons,itm,exitTo]
  exact Eb h
 | .r::k,k',h=>by
  simp only[exitP]at h
  simp only[List.map_cons,itm,exitTo]
  exact Eb h
 | .s p::k,k',h=>by
  simp only[exitP]at h
  simp only[List.map_cons,itm,exitTo]
  exact Eb h
theorem Aer{c:Code}{k k':List PI}(h:nrm1 c k=some k'):norm1 (k.map (itm c))=some (k'.map (itm c)):=by
 unfold nrm1 at h
 split at h
 ·cases h;rfl
 ·cases h;rfl
 ·cases h;rfl
 ·rename_i p k0
  split at h
  ·rename_i e;cases h;simp only[List.map_cons,itm,e,norm1]
  ·rename_i l e;cases h;simp only[List.map_cons,itm,e,norm1]
  ·rename_i a b e
   cases h
   have e0:sub c (p++[0])=a:=by rw[C1,e];cases a<;>rfl
   have e1:sub c (p++[1])=b:=by rw[C1,e];cases b<;>rfl
   simp only[List.map_cons,itm,e,e0,e1,norm1]
  ·rename_i id a e
   cases h
   have e0:sub c (p++[0])=a:=by rw[C1,e];cases a<;>rfl
   simp only[List.map_cons,itm,e,e0,norm1]
  ·rename_i a e
   cases h
   have e0:sub c (p++[0])=a:=by rw[C1,e];cases a<;>rfl
   simp only[List.map_cons,itm,e,e0,norm1]
  ·rename_i a e
   cases h
   have e0:sub c (p++[0])=a:=by rw[C1,e];cases a<;>rfl
   simp only[List.map_cons,itm,e,e0,norm1]
  ·rename_i id e
   simp only[List.map_cons,itm,e,norm1]
   exact Eb h
  ·cases h
 ·cases h
 ·cases h
theorem At.nrmk{P:Program}{Xc:Ctx}{a:Act}{w:World}{c:Code}:∀(n:Nat) {k:List PI},At P Xc ((nrm c n k).map (itm c)) a w→At P Xc (k.map (itm c)) a w
 | 0,k,h=>h
 | n+1,k,h=>by
  unfold Proofs.YtfcnhnbnjdccfaaGreat.nrm at h
  split at h
  ·rename_i k' hk;exact .head (Xx (Aer hk)) (At.nrmk n h)
  ·exact h

theorem Xb{g:Gh}{L:LL}{tm:Array Value}(h:TmF g (fun t=>L.lookup t) tm):∀(ts:List Tmp) (as:List AV),lkups L ts=some as→RepVs g as (ts.map fun t=>tm.getD t undef)
 | [],as,ha=>by simp only[lkups,Option.some.injEq]at ha;subst ha;rfl
 | t::ts,as,ha=>by
  simp only[lkups]at ha
  obtain⟨a,h1,h2⟩:=bind_some ha
  obtain⟨as',h3,rfl⟩:=map_some h2
  exact⟨_,_,rfl,h t a h1,Xb h ts as' h3⟩
theorem A4a{g:Gh}{tm:Array Value}:∀(ts:List Tmp) (as:List AV),RepVs g as (ts.map fun t=>tm.getD t undef)→TmF g (fun t=>(ts.zip as).lookup t) tm
 | [],as,_=>by intro t a h;simp at h
 | t::ts,[],h=>by intro s a hs;simp at hs
 | t::ts,a::as,h=>by
  simp only[List.map_cons,RepVs]at h
  obtain⟨v,us,e,h1,h2⟩:=h
  cases e
  intro s b hs
  simp only[List.zip_cons_cons,List.lookup_cons]at hs
  by_cases e:s=t
  ·subst e;simp at hs;subst hs;exact h1
  ·have:(s==t)=false:=by simpa using e
   rw[this]at hs
   exact A4a ts as h2 s b hs
theorem Aiz{m i:Nat}(h:i<m):(pins m)[i]?=some (some (some i)):=by
 simp[pins,h]
theorem Aib(m:Nat):(pins m).length=m:=by simp[pins]
section
variable {P:Program} {n m0:Nat} {E:EE} {Z:Type} {z:Z}
theorem Anx(hE:EOK m0 E){L:LL}{H:HH}{a:Act}{w:World}(hS:SR n m0 E L H a w){s:StSh}{as:List AV}{y:s.den}{σ:FS}(hf:fitAll s (pins m0) as H=some (y,σ)){Q:List Value→Prop}(hv:∀g,TmF g (fun t=>L.lookup t) a.tmps→Sim g (fun i=>H[i]?) w→∀vs,Q vs→RepVs g as vs) :
  ∃g,Sim g (hOf y.2) w∧(∀vs,Q vs→RepVs g (encs id s.avs y.1) vs)∧(∀i,s.blks.length≤i→g.ρ i=none)∧E a.defers g w:=by
 have hA:=Ho hf
 obtain⟨g,hs,htm,hhi,he⟩:=hS.ex
 obtain⟨g1,st1,hs1⟩:=Mc σ.fz hs
 have hF:Frz g1 w H σ.fz:=K8 hs1 (fun i hi _=>rfl)
 have he1:=hE.step (fun _ h=>h.elim) hs st1 he
 have reb:=fun vs hr=>Aho hA hs1 (vs:=vs) (fun j i b hj hb hm k hk=>by
  have:i∉σ.fz:=fun hfz=>by rw[(hA.dis i hfz).1 j b hj hb]at hm;cases hm
  simp only[frzF,if_neg this];exact hk) hF hr
 have hs2:Sim (rebG σ g1) (hOf y.2) w:=by
  exact Yn hA hs1 (fun j i b hj hb hm k hk=>by
   have:i∉σ.fz:=fun hfz=>by rw[(hA.dis i hfz).1 j b hj hb]at hm;cases hm
   simp only[frzF,if_neg this];exact hk) hF
 refine⟨rebG σ g1,hs2,fun vs hQ=>(reb vs (RepVs.mono st1.ge _ _ (hv g htm hs vs hQ))).1,fun i hi=>?_,hE.reb _ g1 w σ he1 (fun i hi=>hA.pr i _ (Aiz hi)) hA.inj⟩
 have:σ.m[i]?=none:=List.getElem?_eq_none (by rw[hA.len];exact hi)
 simp[rebG,this]
theorem A2g(hE:EOK m0 E){L:LL}{H:HH}{a:Act}{w:World}(hS:SR n m0 E L H a w){s:Sta}{as:List AV}{y:s.sh.den}{σ:FS}(hl:lkups L s.tmps=some as)(hf:fitAll s.sh (pins m0) as H=some (y,σ)):SR n m0 E (stL s y) (stH s y) a w:=by
 obtain⟨g,h1,h2,h3,h4⟩:=Anx hE hS hf (Q:=fun vs=>vs=s.tmps.map fun t=>a.tmps.getD t undef) (fun g htm _ vs hQ=>by rw[hQ];exact Xb htm _ _ hl)
 have hlen:(stH s y).length=s.sh.blks.length:=Af _ _ _
 have:=(Ho hf).ple
 rw[Aib]at this
 exact⟨⟨g,h1,A4a _ _ (h2 _ rfl),fun i hi=>h3 i (by omega),h4⟩,hS.sz,by omega⟩

def resF(tm:Array Value):ResultVar→Sem Value:=fun r:ResultVar=>match r with | .tmp t=>(pure (tm.getD t undef):Sem Value) | .cell a t=>do loadVar t (←asAddr (tm.getD a undef))
theorem Jf{L:LL}{H:HH}{g:Gh}{tm:Array Value}{w:World}(htm:TmF g (fun t=>L.lookup t) tm)(hs:∀id ps,H[id]?=some (.segs ps)→RepBlk g w id (.segs ps)):∀(rs:List ResultVar) (as:List AV),resOf L H P rs=some as →
  ∃vs,RepVs g as vs∧(rs.mapM (resF tm)).run P w=.ok vs w
 | [],as,h=>by simp only[resOf,Option.some.injEq]at h;subst h;exact⟨[],rfl,by simp⟩
 | .tmp t::rs,as,h=>by
  simp only[resOf]at h
  obtain⟨a,h1,h2⟩:=bind_some h
  obtain⟨as',h3,rfl⟩:=map_some h2
  obtain⟨vs,hv,hr⟩:=Jf htm hs rs as' h3
  refine⟨tm.getD t undef::vs,⟨_,_,rfl,htm t a h1,hv⟩,?_⟩
  simp only[List.mapM_cons,resF,Sem.run_bind,Sem.run_pure,Result.andThen_ok]
  rw[show(List.mapM (resF tm) rs).run P w=_ from hr];rfl
 | .cell x t::rs,as,h=>by
  simp only[resOf]at h
  obtain⟨a,h1,h2⟩:=bind_some h
  obtain⟨as',h3,rfl⟩:=map_some h2
  obtain⟨vs,hv,hr⟩:=Jf htm hs rs as' h3
  split at h1
  rotate_left
  ·cases h1
  rename_i id base n ag hx hn ha
  split at h1
  rotate_left
  ·cases h1
  rename_i ps hb
  obtain⟨r,hsk,h4⟩:=bind_some h1
  obtain⟨q,hq,hval⟩:=bind_some h4
  have hxv:=htm x _ hx
  simp only[RepV]at hxv
  obtain⟨b,c,m,e1,e2⟩:=hxv
  obtain⟨b',c',m',us,ty,e3,hblk,hp,_⟩:=hs id _ hb
  rw[e1]at e3;cases e3
  obtain⟨l1,p1⟩:=As ps base r us hsk hp
  obtain⟨l2,p2⟩:=Bh r n q _ hq p1
  rw[List.length_drop]at l2
  have hl:((us.drop base).take n).length=n:=by simp;omega
  have hrow:Row w ⟨b,base,none⟩ ((us.drop base).take n):=Blk.row hblk base n
  obtain⟨v,hrun,hiv⟩:=A7a (P:=P) hn ha hl (fun e=>by subst e;have:=Sg hval p2;omega) hrow
  have hvv:=L8 hval p2 ha hiv
  simp only[Instr.loadAt,Instr.sureAddr,Sem.run_bind,Sem.run_pure,Result.andThen_ok]at hrun
  refine⟨v::vs,⟨_,_,rfl,hvv,hv⟩,?_⟩
  have hAd:(asAddr (tm.getD x undef)).run P w=.ok ⟨b,base,none⟩ w:=by rw[e2];rfl
  have hone:(resF tm (.cell x t)).run P w=.ok v w:=by simp only[resF,Sem.run_bind,hAd,Result.andThen_ok,hrun]
  simp only[List.mapM_cons,Sem.run_bind,hone,Sem.run_pure,Result.andThen_ok,hr]
theorem Ac6{g:Gh}{as:List AV}{vs:List Value}(h:RepVs g as vs):RepV g (resVal as) (Kw vs):=by
 match as,h with
 | [],h=>simp only[RepVs]at h;subst h;exact⟨[],rfl,rfl⟩
 | [a],h=>
  simp only[RepVs]at h
  obtain⟨v,us,e,h1,h2⟩:=h
  subst h2;subst e;exact h1
 | a::b::as,h=>
  have hh:=h
  simp only[RepVs]at h
  obtain⟨v,us,e,h1,u,us2,e2,h2,h3⟩:=h
  subst e2;subst e
  exact⟨_,rfl,hh⟩
theorem A0n{fn:Func}{rs:List ResultVar}{tm:Array Value}{w:World}{vs:List Value}(hr:fn.results=rs.toArray)(h:(rs.mapM (resF tm)).run P w=.ok vs w):(results fn tm).run P w=.ok (Kw vs) w:=by
 unfold results
 rw[hr]
 simp only[List.mapM_toArray,Sem.run_bind,Sem.run_map]
 have e:∀(l:List ResultVar) (f:ResultVar→Sem Value),f=(resF tm)→(l.mapM f).run P w=(l.mapM (resF tm)).run P w:=fun l f hf=>by rw[hf]
 rw[e rs _ (by funext r;cases r<;>rfl),h]
 simp only[Result.andThen_ok,Sem.run_pure]
 congr 1
 match vs with
 | []=>rfl
 | [v]=>rfl
 | v::u::vs=>rfl
end
end Go.Proofs.YtfcnhnbnjdccfaaGreat

namespace Go.Proofs.YtfcnhnbnjdccfaaGreat
set_option linter.all false
open Go

def exK:(es:List (List PI×Sta))→exD es→List PI×LL×HH
 | [],e=>nomatch e
 | x::_,.inl p=>(x.1,stL x.2 p,stH x.2 p)
 | _::xs,.inr e=>exK xs e
theorem A28{Z:Type}{go:List PI→LL→HH→Option Z}:∀(es:List (List PI×Sta)) (e:exD es),Xl go es e=go (exK es e).1 (exK es e).2.1 (exK es e).2.2
 | [],e=>nomatch e
 | x::_,.inl p=>rfl
 | _::xs,.inr e=>A28 xs e
def CxOK(top:Bool)(Xc:Ctx):Prop:=top=true→Xc.b.roundOf=none
structure Gg (P:Program) (c:Code) (n m0:Nat) (top:Bool) (x:Hs):Prop where
 nat:∀(Z:Type) (p:x.sta.sh.den) (κ:exD x.exits→Option Z),x.run p κ=(x.run p some).bind κ
 run:∀(p:x.sta.sh.den) (e:exD x.exits),x.run p some=some e→∀(E:EE),EOK m0 E→∀(Xc:Ctx) (a:Act) (w:World),CxOK top Xc→SR n m0 E (stL x.sta p) (stH x.sta p) a w →
  (∀a w,SR n m0 E (exK x.exits e).2.1 (exK x.exits e).2.2 a w→At P Xc ((exK x.exits e).1.map (itm c)) a w)→At P Xc (x.at_.map (itm c)) a w
def Be{Z:Type}(P:Program)(c:Code)(n m0:Nat)(E:EE)(Xc:Ctx)(z:Z)(x:Leaf Z):Prop:=
 ∀p,x.fn p=some z→∀a w,SR n m0 E (stL x.sta p) (stH x.sta p) a w→At P Xc (x.at_.map (itm c)) a w
def RetR(P:Program)(B:Body)(E:EE)(o:StSh)(r:o.den)(a:Act)(w:World):Prop:=
 ∃g,Sim g (hOf r.2) w∧(∀i,o.blks.length≤i→g.ρ i=none)∧E a.defers g w∧∀(fn:Func) (w1:World),fn.results=B.res.toArray→(∃Ds,(∀D∈Ds,∃x,w.heap[D]?=some (.deferred x))∧Upd Ds w w1)→∃vs,RepVs g (encs id o.avs r.1) vs∧(results fn a.tmps).run P w1=.ok (Kw vs) w1
def Bf{Z:Type}(P:Program)(B:Body)(E:EE)(Xc:Ctx)(z:Z)(rt:Option (altD B.outs→Option Z)):Prop:=
 ∀f,rt=some f→∀r,f r=some z→∀a w k,isOut k=true→RetR P B E (altOf B.outs r).1 (altOf B.outs r).2 a w→At P Xc k a w
def AllP.{u}{α:Type u}(p:α→Prop):List α→Prop
 | []=>True
 | x::xs=>p x∧AllP p xs
theorem AllP.mem.{u}{α:Type u}{p:α→Prop}:∀ {l:List α},AllP p l→∀x∈l,p x
 | [],_,x,h=>by cases h
 | y::l,h,x,hx=>by
  rcases List.mem_cons.1 hx with rfl | hx
  ·exact h.1
  ·exact AllP.mem h.2 x hx

section
variable {P:Program} {specs:List Spec} {B:Body} {loops:List Hs} {top:Bool} {E:EE} {Z:Type} {z:Z} {leaves:List (Leaf Z)} {rt:Option (altD B.outs→Option Z)} {Xc:Ctx}

theorem Ur{m0:Nat}{k:List PI}{L:LL}{H:HH}{κ:Option Z}:∀(xs:List (Leaf Z)),atLeaf m0 k L H κ xs=some z →
  (∃x∈xs,x.at_=k∧∃as y σ,lkups L x.sta.tmps=some as∧fitAll x.sta.sh (pins m0) as H=some (y,σ)∧x.fn y=some z)∨κ=some z
 | [],h=>.inr h
 | x::xs,h=>by
  simp only[atLeaf]at h
  split at h
  ·rename_i hk
   obtain⟨as,h1,h2⟩:=bind_some h
   obtain⟨y,h3,h4⟩:=bind_some h2
   exact .inl ⟨x,by simp,hk,as,y.1,y.2,h1,h3,h4⟩
  ·rcases Ur xs h with⟨x',hx',r⟩ | h
   ·exact .inl ⟨x',by simp[hx'],r⟩
   ·exact .inr h
theorem Tp{m0:Nat}{go:List PI→LL→HH→Option Z}{k:List PI}{L:LL}{H:HH}{κ:Option Z}:∀(xs:List Hs),atLoop m0 go k L H κ xs=some z →
  (∃x∈xs,x.at_=k∧∃as y σ,lkups L x.sta.tmps=some as∧fitAll x.sta.sh (pins m0) as H=some (y,σ)∧(x.run y fun e=>Xl go x.exits e)=some z)∨κ=some z
 | [],h=>.inr h
 | x::xs,h=>by
  have ih:=Tp (m0:=m0) (go:=go) (k:=k) (L:=L) (H:=H) (κ:=κ) xs
  have next:atLoop m0 go k L H κ xs=some z→(∃x'∈x::xs,x'.at_=k∧∃as y σ,lkups L x'.sta.tmps=some as∧fitAll x'.sta.sh (pins m0) as H=some (y,σ)∧(x'.run y fun e=>Xl go x'.exits e)=some z)∨κ=some z:=fun h=>by
   rcases ih h with⟨x',hx',r⟩ | h
   ·exact .inl ⟨x',by simp[hx'],r⟩
   ·exact .inr h
  simp only[atLoop]at h
  split at h
  ·rename_i hk
   split at h
   ·rename_i y hy
    obtain⟨as,h1,h2⟩:=bind_some hy
    exact .inl ⟨x,by simp,hk,as,y.1,y.2,h1,h2,h⟩
   ·cases xs with
    | nil=>cases h
    | cons q qs=>exact next h
  ·exact next h
theorem Uy{pre:List (Option (Option Nat))}{as:List AV}{H:HH}:∀(os:List StSh) (r:altD os),fitAlt pre as H os=some r→∃σ,fitAll (altOf os r).1 pre as H=some ((altOf os r).2,σ)
 | [],r,_=>nomatch r
 | [s],r,h=>by
  simp only[fitAlt]at h
  obtain⟨y,hy,rfl⟩:=map_some h
  exact⟨y.2,hy⟩
 | s::t::ss,r,h=>by
  simp only[fitAlt]at h
  split at h
  ·rename_i y hy
   simp only[Option.some.injEq]at h
   subst h
   exact⟨y.2,hy⟩
  ·obtain⟨y,hy,rfl⟩:=map_some h
   exact Uy (t::ss) y hy
theorem A2n(hE:EOK B.m0 E)(hret:Bf P B E Xc z rt){L:LL}{H:HH}(h:atRet P B L H rt=some z){a:Act}{w:World}(hS:SR B.n B.m0 E L H a w){k:List Item}(hk:isOut k=true):At P Xc k a w:=by
 unfold atRet at h
 split at h
 ·cases h
 ·rename_i f
  obtain⟨as,h1,h2⟩:=bind_some h
  obtain⟨y,h3,h4⟩:=bind_some h2
  obtain⟨g0,s0,t0,_⟩:=hS.ex
  have bl:∀w1,(∃Ds,(∀D∈Ds,∃x,w.heap[D]?=some (.deferred x))∧Upd Ds w w1)→∀(g:Gh),Sim g (fun i=>H[i]?) w→∀id ps,H[id]?=some (.segs ps)→RepBlk g w1 id (.segs ps):=by
   rintro w1 ⟨Ds,hD,hU⟩ g hs id ps hid
   obtain⟨b,c,n,us,ty,e1,e2,hp,hM⟩:=hs.blk id _ hid
   exact⟨b,c,n,us,ty,e1,hU.blk e2 (fun hb=>by obtain⟨x,hx⟩:=hD b hb;rw[e2]at hx;cases hx),hp,hM⟩
  obtain⟨σ,h3⟩:=Uy _ y h3
  obtain⟨g,q1,q2,q3,q4⟩:=Anx hE hS (y:=(altOf B.outs y).2) (σ:=σ) h3 (Q:=fun vs=>∃w1,(∃Ds,(∀D∈Ds,∃x,w.heap[D]?=some (.deferred x))∧Upd Ds w w1)∧(B.res.mapM (resF a.tmps)).run P w1=.ok vs w1) (fun g htm hs vs hQ=>by
   obtain⟨w1,hU,hrun⟩:=hQ
   obtain⟨vs',hv,hrun'⟩:=Jf (P:=P) (w:=w1) htm (bl w1 hU g hs) B.res as h1
   rw[hrun]at hrun';cases hrun';exact hv)
  refine hret f rfl y h4 a w k hk ⟨g,q1,q3,q4,fun fn w1 hr hU=>?_⟩
  obtain⟨vs1,_,hrun1⟩:=Jf (P:=P) (w:=w1) t0 (bl w1 hU g0 s0) B.res as h1
  exact⟨vs1,q2 vs1 ⟨w1,hU,hrun1⟩,A0n hr hrun1⟩
theorem ev_sound(hall:AllP (A2 P) specs)(hmix:P.follows .mixedOrders=true)(hloops:AllP (Gg P B.c B.n B.m0 top) loops)(hE:EOK B.m0 E)(hX:CxOK top Xc)(hleaf:AllP (Be P B.c B.n B.m0 E Xc z) leaves)(hret:Bf P B E Xc z rt) :
  ∀(fu:Nat) (skip:Bool) (k:List PI) (L:LL) (H:HH),ev P specs B loops leaves rt fu skip k L H=some z→∀a w,SR B.n B.m0 E L H a w→At P Xc (k.map (itm B.c)) a w
 | 0,_,_,_,_=>fun h=>by cases h
 | fu+1,skip,k,L,H=>by
  have ih:=ev_sound hall hmix hloops hE hX hleaf hret fu
  have node:(match k with
    | []=>atRet P B L H rt
    | .c p::r=>match sub B.c p with
     | .region _ ops draw=>evOps P specs B.n ops (fun acc L' H'=>if !draw || (backB ops.toList 0&&apartB acc.reverse (befs ops.toList []) 0)then ev P specs B loops leaves rt fu false (nrm B.c 99 r) L' H' else none) ops.toList [] L H
     | .cond x _ _=>(opd L x).bind fun v=>match v with
      | .b v=>br v (ev P specs B loops leaves rt fu false (nrm B.c 99 (.c (p++[0])::r)) L H) (ev P specs B loops leaves rt fu false (nrm B.c 99 (.c (p++[1])::r)) L H)
      | _=>none
     | .ret=>atRet P B L H rt
     | _=>none
    | _=>none)=some z→∀a w,SR B.n B.m0 E L H a w→At P Xc (k.map (itm B.c)) a w:=by
   intro h a w hS
   split at h
   ·exact A2n hE hret h hS rfl
   ·rename_i p r
    split at h
    ·rename_i id ops draw hsub
     simp only[List.map_cons,itm,hsub]
     exact A3o hall.mem hmix hE h hS (fun L' H' hk a w hS'=>At.nrmk 99 (ih false _ L' H' hk a w hS'))
    ·rename_i x c1 c2 hsub
     obtain⟨v,hv,h2⟩:=bind_some h
     split at h2
     ·rename_i b
      simp only[List.map_cons,itm,hsub]
      obtain⟨g,_,htm,_⟩:=hS.ex
      have hev:a.eval x=.bool b:=by
       have:=Wb (tm:=a.tmps) (df:=a.defers) (fun t _ a ha=>htm t a ha) hv
       exact this
      refine .head (stepR_cond hev) ?_
      have e0:sub B.c (p++[0])=c1:=by rw[C1,hsub];cases c1<;>rfl
      have e1:sub B.c (p++[1])=c2:=by rw[C1,hsub];cases c2<;>rfl
      rcases Vu h2 with⟨rfl,h3⟩ | ⟨rfl,h3⟩
      ·have:=At.nrmk 99 (ih false _ L H h3 a w hS)
       simp only[List.map_cons,itm,e0]at this
       exact this
      ·have:=At.nrmk 99 (ih false _ L H h3 a w hS)
       simp only[List.map_cons,itm,e1]at this
       exact this
     ·cases h2
    ·rename_i hsub
     refine A2n hE hret h hS ?_
     simp only[List.map_cons,itm,hsub,isOut]
    ·cases h
   ·cases h
  intro h a w hS
  simp only[ev]at h
  split at h
  ·exact node h a w hS
  ·rcases Ur _ h with⟨x,hx,rfl,as,y,σ,h1,h2,h3⟩ | h
   ·exact hleaf.mem x hx y h3 a w (A2g hE hS h1 h2)
   ·rcases Tp _ h with⟨x,hx,rfl,as,y,σ,h1,h2,h3⟩ | h
    ·have hx':=hloops.mem x hx
     rw[hx'.nat]at h3
     obtain⟨e,he,h4⟩:=bind_some h3
     rw[A28]at h4
     exact hx'.run y e he E hE Xc a w hX (A2g hE hS h1 h2) (fun a w hS'=>ih false _ _ _ h4 a w hS')
    ·exact node h a w hS
theorem Ny(hall:AllP (A2 P) specs)(hmix:P.follows .mixedOrders=true)(hloops:AllP (Gg P B.c B.n B.m0 top) loops)(hE:EOK B.m0 E)(hX:CxOK top Xc)(hleaf:AllP (Be P B.c B.n B.m0 E Xc z) leaves)(hret:Bf P B E Xc z rt){at_:List PI}{sta:Sta}{fn:sta.sh.den→Option Z}{fu:Nat}
  (hev:∀p,ev P specs B loops leaves rt fu true at_ (stL sta p) (stH sta p)=fn p):Be P B.c B.n B.m0 E Xc z ⟨at_,sta,fn⟩:=
 fun p hp a w hS=>ev_sound hall hmix hloops hE hX hleaf hret fu true at_ _ _ (by rw[hev p];exact hp) a w hS
theorem Bf.no:Bf P B E Xc z (none:Option (altD B.outs→Option Z)):=fun f h=>by cases h
end
theorem Aca{P:Program}{c:Code}{n m0:Nat}{top:Bool}{x:Hs}{Z:Type}{N:Nat}(F:Nat→x.sta.sh.den→Option Z)(glue:Z→exD x.exits)(hrun:∀(Y:Type) (p:x.sta.sh.den) (κ:exD x.exits→Option Y),x.run p κ=(F N p).bind fun e=>κ (glue e))(h0:∀p,F 0 p=none)
  (hstep:∀(m:Nat) (z:Z) (E:EE) (Xc:Ctx),EOK m0 E→CxOK top Xc→Be P c n m0 E Xc z ⟨x.at_,x.sta,F m⟩ →
   (∀a w,SR n m0 E (exK x.exits (glue z)).2.1 (exK x.exits (glue z)).2.2 a w→At P Xc ((exK x.exits (glue z)).1.map (itm c)) a w)→Be P c n m0 E Xc z ⟨x.at_,x.sta,F (m+1)⟩):Gg P c n m0 top x:=by
 refine⟨fun Y p κ=>?_,fun p e he E hE Xc a w hX hS hx=>?_⟩
 ·rw[hrun,hrun]
  cases F N p<;>rfl
 ·rw[hrun]at he
  obtain⟨z,hz,h2⟩:=bind_some he
  cases h2
  have key:∀m,Be P c n m0 E Xc z ⟨x.at_,x.sta,F m⟩:=by
   intro m
   induction m with
   | zero=>intro p hp;rw[show(Leaf.mk x.at_ x.sta (F 0)).fn p=F 0 p from rfl,h0]at hp;cases hp
   | succ m ih=>exact hstep m z E Xc hE hX ih hx
  exact key N p hz a w hS

def Z0(lo:Nat)(ds:List Deferred)(g:Gh)(w:World):Prop:=∃Ds:List Nat,ds=Ds.map (fun D=>{ target:=.collected D,args:=#[] })∧Ds.Nodup∧∀D∈Ds,lo≤D∧w.heap[D]?=some (.deferred (some []))∧g.M D=none
theorem Sim.kind{g:Gh}{h:Nat→Option Blk'}{w:World}(hs:Sim g h w){j:Nat}{k:Blk'}{b c n:Nat}(hj:h j=some k)(hm:k.mut=true)(he:g.ρ j=some (some (b,c,n))):(∃vs ty z,w.heap[b]?=some (.cells vs ty z))∨∃es q,w.heap[b]?=some (.map es q):=by
 have hB:=hs.blk j k hj
 cases k<;>simp only[Blk'.mut,Bool.false_eq_true]at hm
 case segs=>obtain⟨b1,_,_,_,_,e,h3,_,hM⟩:=hB;rw[e]at he;cases he;exact .inl ⟨_,_,_,h3⟩
 case lst=>
  obtain⟨_,⟨e,_⟩ | ⟨b1,_,_,_,_,e,h3,_,_,_,hM⟩⟩:=hB
  ·rw[e]at he;cases he
  ·rw[e]at he;cases he;exact .inl ⟨_,_,_,h3⟩
 case map=>obtain⟨b1,_,_,_,_,e,h3,hM,_⟩:=hB;rw[e]at he;cases he;exact .inr ⟨_,_,h3⟩
theorem Sw.kind{g:Gh}{h:Nat→Option Blk'}{w:World}(hs:Sim g h w){wr:List Nat}{b:Nat}(hb:Sw g h wr b):(∃vs ty z,w.heap[b]?=some (.cells vs ty z))∨∃es q,w.heap[b]?=some (.map es q):=by
 obtain⟨i,_,k,c,n,h1,h2,h3⟩:=hb;exact hs.kind h1 h2 h3
theorem Z0.step{lo:Nat}{ds:List Deferred}{g g':Gh}{h:Nat→Option Blk'}{w w':World}{wr:List Nat}{nw:Nat→Prop}(hs:Sim g h w)(st:Stp (Sw g h wr) nw g w g' w')(hk:Z0 lo ds g w):Z0 lo ds g' w':=by
 obtain⟨Ds,e,hn,hD⟩:=hk
 refine⟨Ds,e,hn,fun D hd=>?_⟩
 obtain⟨h1,h2,h3⟩:=hD D hd
 have hno:¬Sw g h wr D:=fun hx=>by
  rcases Sw.kind hs hx with⟨_,_,_,h4⟩ | ⟨_,_,h4⟩<;>(rw[h2]at h4;cases h4)
 refine⟨h1,by rw[st.same D (A8 h2) hno];exact h2,?_⟩
 cases hM:g'.M D with
 | none=>rfl
 | some o=>
  rcases st.Mn D o hM with h4 | ⟨_,h4 | h4,_⟩
  ·rw[h3]at h4;cases h4
  ·have:=A8 h2;omega
  ·exact absurd h4 hno
theorem Ga{g:Gh}:∀ {as:List AV} {vs:List Value},RepVs g as vs→vs.length=as.length∧∀(i:Nat) (a:AV),as[i]?=some a→∃v,vs[i]?=some v∧RepV g a v
 | [],vs,h=>by simp only[RepVs]at h;subst h;exact⟨rfl,fun i a ha=>by simp at ha⟩
 | b::as,vs,h=>by
  simp only[RepVs]at h
  obtain⟨v,us,rfl,h1,h2⟩:=h
  obtain⟨e,h3⟩:=Ga h2
  refine⟨by simp[e],fun i a ha=>?_⟩
  cases i with
  | zero=>simp at ha;subst ha;exact⟨v,rfl,h1⟩
  | succ i=>simpa using h3 i a (by simpa using ha)
theorem Jq:∀(as:List AV) (k t:Nat) (a:AV),((List.range' k as.length).zip as).lookup t=some a→k≤t∧as[t-k]?=some a
 | [],k,t,a,h=>by simp at h
 | b::as,k,t,a,h=>by
  simp only[List.length_cons,List.range'_succ,List.zip_cons_cons,List.lookup_cons]at h
  by_cases e:t=k
  ·subst e;simp at h;subst h;simp
  ·have:(t==k)=false:=by simpa using e
   rw[this]at h
   obtain⟨h1,h2⟩:=Jq as (k+1) t a h
   refine⟨by omega,?_⟩
   rw[show t-k=(t-(k+1))+1 by omega]
   simpa using h2
theorem Hb(f:Nat→Nat):∀(ss:List Sh) (p:Shs.den ss),(encs f ss p).length=ss.length
 | [],_=>rfl
 | s::ss,p=>by simp[encs,Hb f ss p.2]
theorem Rc(f:Nat→Nat):∀(ss:List BSh) (p:BShs.den ss) (j:Nat) (k:Blk'),(encBs f ss p)[j]?=some k→∃(s:BSh) (q:s.den),ss[j]?=some s∧k=encB f s q
 | [],_,j,k,h=>by simp[encBs]at h
 | s::ss,p,0,k,h=>by simp only[encBs,List.getElem?_cons_zero,Option.some.injEq]at h;exact⟨s,p.1,rfl,h.symm⟩
 | s::ss,p,j+1,k,h=>by
  simp only[encBs,List.getElem?_cons_succ]at h
  simpa using Rc f ss p.2 j k h
theorem A8r{P:Program}{specs:List Spec}{B:Body}{loops:List Hs}{f:FuncId}{ins:StSh}{run:{Y:Type}→ins.den→(altD B.outs→Option Y)→Option Y}{fn:Func}{Z:Type}{leaves:List (Leaf Z)}(F:ins.den→Option Z)(glue:Z→altD B.outs)(rt0:altD B.outs→Option Z){tmps:List Tmp}{fu:Nat}{k0:List PI}
  (hrun:∀(Y:Type) (p:ins.den) (κ:altD B.outs→Option Y),run p κ=(F p).bind fun r=>κ (glue r)) (hglue:∀r z,rt0 r=some z→glue z=r)
  (hf:P.funcs[f]?=some fn) (hb:fn.body=some B.c) (hn:fn.ntmps=B.n) (hr:fn.results=B.res.toArray) (hm:B.m0=ins.blks.length) (htm:tmps=List.range' 0 ins.avs.length) (hk:nrm B.c 99 [.c []]=k0)
  (hcall:∀args w,(callFunc f args).run P w=.ok (.enter f args) w) (hall:AllP (A2 P) specs) (hmix:P.follows .mixedOrders=true) (hloops:AllP (Gg P B.c B.n B.m0 true) loops)
  (hleaf:∀(z:Z) (E:EE) (Xc:Ctx),EOK B.m0 E→CxOK true Xc→Bf P B E Xc z (some rt0)→AllP (Be P B.c B.n B.m0 E Xc z) leaves)
  (hev:∀p,ev P specs B loops leaves (some rt0) fu false k0 (stL ⟨tmps,ins⟩ p) (stH ⟨tmps,ins⟩ p)=F p) (hlive:ins.blks.all BSh.live=true:=by rfl):A2 P { f:=f,ins:=ins,outs:=B.outs,run:=run }:=by
 refine⟨fun Y p κ=>?_,hcall,fun p r hpr g w vs hv hs hρ=>?_⟩
 ·dsimp only
  rw[hrun,hrun]
  cases F p<;>rfl
 ·dsimp only at p r hpr hv hs hρ
  rw[hrun]at hpr
  obtain⟨z,hz,h2⟩:=bind_some hpr
  simp only[Option.some.injEq]at h2
  subst h2
  -- from the start
  have hkn:∀i,i<ins.blks.length→∃x k,hOf p.2 i=some k∧k.mut=true∧g.ρ i=some x:=by
   intro i hi
   have hb:(encBs id ins.blks p.2)[i]?=some ((encBs id ins.blks p.2)[i]'(by rw[Af];exact hi)):=List.getElem?_eq_getElem _
   obtain⟨s,q,hs0,e⟩:=Rc id ins.blks p.2 i _ hb
   have hl:=Dd id s q (List.all_eq_true.1 hlive s (List.mem_of_getElem? hs0))
   rw[e]at hb
   obtain⟨x,hx⟩:=(hs.blk i _ hb).known hl
   exact⟨x,_,hb,hl,hx⟩
  have hE0:EOK0 B.m0 (fun _=>Ent (Sw g (hOf p.2) (List.range ins.blks.length)) B.m0 g w):=Ent.ok (fun i b c k hi e=>by
   rw[hm]at hi
   obtain⟨x,k',h1,h2,_⟩:=hkn i hi
   exact⟨i,by simpa using hi,k',c,k,h1,h2,e⟩) (fun i hi=>by
   rw[hm]at hi
   obtain⟨x,_,_,_,h3⟩:=hkn i hi
   exact⟨x,h3⟩)
  let E:EE:=fun ds g' w'=>Ent (Sw g (hOf p.2) (List.range ins.blks.length)) B.m0 g w g' w'∧Z0 w.heap.size ds g' w'
  have hE:EOK B.m0 E:=⟨⟨fun hn hs st he=>⟨hE0.step (ds:=[]) hn hs st he.1,he.2.step hs st⟩,fun ds g w he=>⟨hE0.bump ds g w he.1,he.2⟩,fun ds g w σ he h1 h2=>⟨hE0.reb ds g w σ he.1 h1 h2,he.2⟩⟩,⟨w.heap.size,fun ds g w' he=>he.1.size,fun ds g w' D he hD=>by
    obtain⟨Ds,rfl,_,hDs⟩:=he.2
    obtain⟨D',h1,h2⟩:=List.mem_map.1 hD
    cases h2
    exact A8 (hDs D h1).2.1,fun ds g w1 w2 T he hu hT=>⟨he.1.upd hu (fun k hk=>.inl (hT k hk).1),by
    obtain⟨Ds,rfl,hn,hDs⟩:=he.2
    refine⟨Ds,rfl,hn,fun D hD=>⟨(hDs D hD).1,hu.blk (hDs D hD).2.1 (fun hk=>(hT D hk).2 (List.mem_map.2 ⟨D,hD,rfl⟩)),(hDs D hD).2.2⟩⟩⟩⟩,fun ds g w1 w2 he hu hb hM=>⟨he.1.upd hu (fun k hk=>by cases hk),by
    obtain⟨Ds,rfl,hn,hDs⟩:=he.2
    refine⟨w1.heap.size::Ds,rfl,List.nodup_cons.2 ⟨fun hk=>?_,hn⟩,fun D hD=>?_⟩
    ·have:=A8 (hDs _ hk).2.1;omega
    ·rcases List.mem_cons.1 hD with rfl | hD
     ·exact⟨he.1.size,hb,hM⟩
     ·exact⟨(hDs D hD).1,hu.blk (hDs D hD).2.1,(hDs D hD).2.2⟩⟩⟩
  have hent:E [] g w:=⟨⟨rfl,rfl,rfl,Nat.le_refl _,fun _ _ _=>rfl,fun _ _ h=>h,fun _ _ h=>.inl h,fun _ _=>rfl,fun i b c k hi e=>by
   rw[hρ i (by omega)]at e;cases e⟩,[],rfl,List.nodup_nil,by simp⟩
  refine Fn.of hf hb fun cs=>?_
  have hret:Bf P B E (fctx P f (Post ⟨f,ins,B.outs,run⟩ p (altOf B.outs (glue z)).1 (altOf B.outs (glue z)).2 g w) cs) z (some rt0):=by
   rintro f' hf' r hrz a w' k hko ⟨g',q1,q3,⟨q4,Ds,hds,hnd,hD⟩,q5⟩
   cases hf'
   have:=hglue r z hrz
   subst this
   have hko':k=[]∨∃k',k=.code .ret::k':=by
    match k,hko with
    | [],_=>exact .inl rfl
    | .code .ret::k',_=>exact .inr ⟨k',rfl⟩
   obtain⟨tm,ds⟩:=a
   dsimp only at hds;subst hds
   refine At.out rfl hko' ?_
   have post:∀w1,Upd Ds w' w1→w1.heap.size=w'.heap.size→∃vs,(results fn tm).run P w1=.ok (Kw vs) w1∧Post ⟨f,ins,B.outs,run⟩ p (altOf B.outs (glue z)).1 (altOf B.outs (glue z)).2 g w (Kw vs) w1:=by
    intro w1 hU hsz
    obtain⟨vs,hv,hrs⟩:=q5 fn w1 hr ⟨Ds,fun D hd=>⟨_,(hD D hd).2.1⟩,hU⟩
    refine⟨vs,hrs,g',⟨hU.os.trans q4.os,hU.tape.trans q4.tape,hU.output.trans q4.output,by rw[hsz];exact q4.size,fun b hb hS=>?_,⟨fun i x hx=>?_,q4.M⟩,fun i h0 h1=>?_,fun i b c k h0 h1=>?_,q4.Mn⟩,⟨fun b o hb=>hU.blk (q1.mem b o hb) (fun hd=>by rw[(hD b hd).2.2]at hb;cases hb),fun i k hk=>(q1.blk i k hk).step (GE.refl g') (fun hm b c n e hlt hM=>⟨hU.same b hlt (fun hd=>by
      rcases q1.kind hk hm e with⟨_,_,_,h4⟩ | ⟨_,_,h4⟩<;>(rw[(hD b hd).2.1]at h4;cases h4)),hM⟩),q1.inj⟩,Ac6 hv⟩
    ·rw[hU.same b (Nat.lt_of_lt_of_le hb q4.size) (fun hd=>by have:=(hD b hd).1;omega)]
     exact q4.same b hb hS
    ·rcases Nat.lt_or_ge i B.m0 with h | h
     ·rw[q4.pin i h];exact hx
     ·rw[hρ i (by rw[←hm];exact h)]at hx;cases hx
    ·refine⟨?_,?_⟩
     ·rcases Nat.lt_or_ge i ins.blks.length with h | h
      ·rw[q4.pin i (by omega)]at h1;exact absurd h0 h1
      ·exact h
     ·rcases Nat.lt_or_ge i (altOf B.outs (glue z)).1.blks.length with h | h
      ·exact h
      ·exact absurd (q3 i h) h1
    ·rcases Nat.lt_or_ge i B.m0 with h | h
     ·rw[q4.pin i h,h0]at h1;cases h1
     ·exact q4.oth i b c k h h1
   suffices ∀(Ds':List Nat) (w1:World),Ds'.Nodup→(∀D∈Ds',w1.heap[D]?=some (.deferred (some [])))→(∀D∈Ds',D∈Ds)→Upd Ds w' w1→w1.heap.size=w'.heap.size→Out P (fctx P f (Post ⟨f,ins,B.outs,run⟩ p (altOf B.outs (glue z)).1 (altOf B.outs (glue z)).2 g w) cs) tm (Ds'.map fun D=>{ target:=.collected D,args:=#[] }) w1 from
    this Ds w' hnd (fun D hd=>(hD D hd).2.1) (fun _ h=>h) (Upd.refl _ _) rfl
   intro Ds'
   induction Ds' with
   | nil=>
    intro w1 _ _ _ hu hs
    obtain⟨vs,h1,h2⟩:=post w1 hu hs
    exact Out.done hf h1 h2
   | cons D Ds' ih=>
    intro w1 hnd1 hD1 hin hu hs
    refine Out.mark (hD1 D (by simp)) ?_
    have hp:=Put.mk' (.deferred none) (hD1 D (by simp))
    refine ih _ (List.nodup_cons.1 hnd1).2 (fun E hE=>hp.upd.blk (hD1 E (by simp[hE])) ?_) (fun E hE=>hin E (by simp[hE])) (hu.trans (hp.upd.mono (fun k hk=>?_))) (hp.size.trans hs)
    ·intro e
     simp at e
     subst e
     exact(List.nodup_cons.1 hnd1).1 hE
    ·simp at hk
     subst hk
     exact hin _ (by simp)
  have hX:CxOK true (fctx P f (Post ⟨f,ins,B.outs,run⟩ p (altOf B.outs (glue z)).1 (altOf B.outs (glue z)).2 g w) cs):=fun _=>rfl
  have hsound:=ev_sound hall hmix hloops hE hX (hleaf z _ (fctx P f (Post ⟨f,ins,B.outs,run⟩ p (altOf B.outs (glue z)).1 (altOf B.outs (glue z)).2 g w) cs) hE hX hret) hret fu false k0 _ _ (by rw[hev p];exact hz)
  have hlen:vs.length=ins.avs.length:=by rw[(Ga hv).1,Hb]
  have hstart:SR B.n B.m0 E (stL ⟨tmps,ins⟩ p) (stH ⟨tmps,ins⟩ p) { tmps:=vs.toArray++Array.replicate (fn.ntmps-vs.toArray.size) undef,defers:=[] } w:=by
   refine⟨⟨g,hs,fun t a ha=>?_,fun i hi=>?_,hent⟩,by simp;omega,by rw[hm];simp[stH,Af]⟩
   ·have ha':((List.range' 0 (encs id ins.avs p.1).length).zip (encs id ins.avs p.1)).lookup t=some a:=by
     rw[Hb,←htm];exact ha
    obtain⟨_,h3⟩:=Jq _ 0 t a ha'
    obtain⟨v,h4,h5⟩:=(Ga hv).2 t a (by simpa using h3)
    have hlt:=(List.getElem?_eq_some_iff.1 h4).1
    have:(vs.toArray++Array.replicate (fn.ntmps-vs.toArray.size) undef).getD t undef=v:=by
     rw[Array.getD_eq_getD_getElem?,Array.getElem?_append_left (by simpa using hlt)]
     simp[h4]
    rw[this];exact h5
   ·exact hρ i (by simpa [stH,Af]using hi)
  have:=hsound _ w hstart
  rw[←hk]at this
  have h9:=At.nrmk (c:=B.c) 99 (k:=[.c []]) this
  have e9:sub B.c []=B.c:=by cases B.c<;>rfl
  simp only[List.map_cons,List.map_nil,itm,e9]at h9
  exact h9
end Go.Proofs.YtfcnhnbnjdccfaaGreat

namespace Go.Proofs.YtfcnhnbnjdccfaaGreat
set_option linter.all false
open Go

def Cj(N:Nat)(T:List Nat)(w:World):Prop:=∀k∈T,N≤k∧∀cs ty z,w.heap[k]?≠some (.cells cs ty z)
theorem Cj.nil(N:Nat)(w:World):Cj N [] w:=fun _ h=>by cases h
theorem Cj.loop{N b:Nat}{w:World}{r:Loop}(h:N≤b)(hb:w.heap[b]?=some (.loop r)):Cj N [b] w:=fun k hk=>by
 simp at hk;subst hk;exact⟨h,fun _ _ _ e=>by rw[hb]at e;cases e⟩
theorem Cj.cons{N b:Nat}{w:World}{T:List Nat}(h:Cj N T w)(hb:N≤b)(hd:∀cs ty z,w.heap[b]?≠some (.cells cs ty z)):Cj N (b::T) w:=fun k hk=>by
 rcases List.mem_cons.1 hk with rfl | hk
 ·exact⟨hb,hd⟩
 ·exact h k hk
theorem Cj.le{N N':Nat}{w:World}{T:List Nat}(h:Cj N T w)(hN:N'≤N):Cj N' T w:=fun k hk=>⟨Nat.le_trans hN (h k hk).1,(h k hk).2⟩
def Bo(N:Nat)(J:World→Prop):Prop:=∀w1 w2 T,J w1→Upd T w1 w2→Cj N T w1→J w2
theorem Bo.ext{N:Nat}{J:World→Prop}(h:Bo N J){w1 w2:World}(hj:J w1)(he:Ext w1 w2):J w2:=h _ _ _ hj he (Cj.nil _ _)
theorem Bo.put{N:Nat}{J:World→Prop}(h:Bo N J){w1 w2:World}{b:Nat}{o:Obj}{r:Loop}(hj:J w1)(hp:Put b o w1 w2)(hN:N≤b)(hb:w1.heap[b]?=some (.loop r)):J w2:=h _ _ _ hj hp.upd (Cj.loop hN hb)
theorem Dj.one{P:Program}{l:Nat}{f:FuncId}{tm:Array Value}{t:Tmp}{assign body:Code}{D:Nat}{v:Value}{w:World}{K:Value→World→Prop}{n:Nat}(k:List Item){L:Tms}(L':Tms)
  (hr:w.heap[l]?=some (.loop (lrec f tm #[t] assign body D .ready none))) (htm:Has n tm L) (hp:putL n L (some t) v=some L') (hn:norm 99 [.code assign,.beginRound,.code body]=k)
  (h:∀c cs,St P (rctx l f K c cs) n k L' [] w):Dj P l #[v] w K:=by
 refine⟨_,hr,rfl,?_⟩
 have e:((#[t]:Array Tmp).zip #[v]).foldl (fun tmps (t,a)=>tmps.setIfInBounds t a) tm=tm.setIfInBounds t v:=by simp
 show Round P l f (((#[t]:Array Tmp).zip #[v]).foldl (fun tmps (t,a)=>tmps.setIfInBounds t a) tm) assign body w K
 rw[e]
 exact Round.ofSt n k L' (htm.params hp) hn h
structure Ahn where
 f:FuncId
 cap:List Sh
 elem:List Sh
 run:Shs.den cap→Option (List (Shs.den elem))
def g00:Gh:=⟨fun _=>none,fun _=>none⟩
structure Ad7 (P:Program) (s:Ahn):Prop where
 flat:Shs.flat s.elem=true
 call:∀args,Sem.pv P (callFunc s.f args)=some (.enter s.f args)
 fn:∀(p:Shs.den s.cap) (es:List (Shs.den s.elem)),s.run p=some es→∀(g:Gh) (vs:List Value),RepVs g (encs id s.cap p) vs →
  ∀(l:Nat) (S:List Nat) (J:List (Shs.den s.elem)→World→Prop) (Q:World→Prop) (w:World),(∀b o,g.M b=some o→b∉l::S∧w.heap[b]?=some o)→(∀k∈l::S,k<w.heap.size)→J es w→(∀r,Bo w.heap.size (J r))→Bo w.heap.size Q →
   (∀m r w1 us,J (m::r) w1→Upd (l::S) w w1→RepVs g00 (encs id s.elem m) us→Dj P l us.toArray w1 (fun v w2=>Upd (l::S) w1 w2∧((v=.bool true∧J r w2)∨(v=.bool false∧Q w2)))) →
   Fn P s.f (#[.func (.yield l) #[] #[]]++vs.toArray) w (fun _ w'=>Upd (l::S) w w'∧(J [] w'∨Q w'))

theorem At.rangeFunc{P:Program}{X:Ctx}{k:List Item}{a:Act}{w:World}{g:Operand}{ps:Array Tmp}{assign body:Code}(f:FuncId)(cap:Array Value)
  (hro:X.b.roundOf=none) (hg:a.eval g=.func (.func f) #[] cap) (hcf:∀args,Sem.pv P (callFunc f args)=some (.enter f args))
  (hh:∀w',Ext w w'→w'.heap.size=w.heap.size+2→w'.heap[w.heap.size]?=some (.deferred (some [])) →
   w'.heap[w.heap.size+1]?=some (.loop (lrec X.b.fn a.tmps ps assign body w.heap.size .ready none)) →
   Fn P f (#[.func (.yield (w.heap.size+1)) #[] #[]]++cap) w' (fun _ w3=>∃r,w3.heap[w.heap.size+1]?=some (.loop r)∧r.state≠.busy∧∀w4,Put (w.heap.size+1) (.loop { r with state:=.exhausted }) w3 w4 →
    At P X ((r.pending.map Item.code).toList++k) { tmps:=a.tmps,defers:=mk w.heap.size::a.defers } w4)) :
  At P X (.code (.rangeFunc g ps assign body)::k) a w:=by
 have h:=St.rangeFunc (P:=P) (X:=X) (n:=0) (kk:=.code (.rangeFunc g ps assign body)::k) (k:=k) (L:=[]) (df:=a.defers) (w:=w) (g:=.const (.func (.func f) #[] cap)) (ps:=ps) (assign:=assign) (body:=body) f #[] cap hro
 let w1:World:={ w with heap:=w.heap.push (.deferred (some [])) }
 let w2:World:={ w1 with heap:=w1.heap.push (.loop (lrec X.b.fn a.tmps ps assign body w.heap.size .ready none)) }
 have n1:=New.mk' (.deferred (some [])) w
 have n2:=New.mk' (.loop (lrec X.b.fn a.tmps ps assign body w.heap.size .ready none)) w1
 have hs1:w1.heap.size=w.heap.size+1:=n1.size
 have he:(Instr.enterLoop X.b.fn a.tmps ps assign body X.b.roundOf).run P w=.ok (w.heap.size+1,[{ target:=.collected w.heap.size,args:=#[] }]) w2:=by
  rw[hro]
  simp[Instr.enterLoop,newObj,Sem.run,Result.andThen,w2,w1,lrec]
  rfl
 have hres:(resolve a.eval (rangeCall g (w.heap.size+1)) 0).run P w2=.ok { target:=.fn (.func f) cap,args:=#[.func (.yield (w.heap.size+1)) #[] #[]] } w2:=by
  have hm:∀l:Nat,Array.map a.eval #[Operand.const (.func (.yield l) #[] #[])]=#[.func (.yield l) #[] #[]]:=fun l=>by simp[Act.eval]
  simp only[resolve,rangeCall,hg,Deferred.ofValue,hm,Sem.run_pure]
  simp
 have hinv:(invoke (.fn (.func f) cap) #[.func (.yield (w.heap.size+1)) #[] #[]]).run P w2=.ok (.enter f (#[.func (.yield (w.heap.size+1)) #[] #[]]++cap)) w2:=by
  simp only[invoke]
  exact Sem.pv_run P _ _ (hcf _) w2
 refine .head (stepR_rangeFunc he hres hinv) ?_
 have hb:=n2.blk
 rw[hs1]at hb
 obtain⟨v,w3,fr,⟨r,hr,hnb,hk⟩,st,_,hl⟩:=hh w2 (n1.ext.trans n2.ext) (by show w2.heap.size=_;rw[n2.size,hs1]) (n2.ext.blk n1.blk) hb
  (X.b.atR { tmps:=a.tmps,defers:=[{ target:=.collected w.heap.size,args:=#[] }]++a.defers } (.inRangeFunc (w.heap.size+1)::k)::X.cs)
 refine .steps st (.head (step_leave_returned hl) ?_)
 rw[finish_atR_inRangeFunc]
 refine .head (stepR_endRangeFunc (Uc hr hnb)) ?_
 exact hk _ (Put.mk' _ hr)
theorem Sim.upd{g:Gh}{h:Nat→Option Blk'}{w w':World}{T:List Nat}(hs:Sim g h w)(hu:Upd T w w')(hM:∀b o,g.M b=some o→b∉T)(hk:∀i k b c n,h i=some k→k.mut=true→g.ρ i=some (some (b,c,n))→b∉T):Sim g h w':=
 ⟨fun b o hb=>hu.blk (hs.mem b o hb) (hM b o hb),fun i k hi=>(hs.blk i k hi).step (GE.refl g) (fun hm b c n e hlt hMn=>⟨hu.same b hlt (hk i k b c n hi hm e),hMn⟩),hs.inj⟩
theorem A17{g:Gh}:∀(ps:List Tmp) (as:List AV) (us:List Value) (L:LL) (tm:Array Value),TmF g (fun t=>L.lookup t) tm→RepVs g as us→ps.length=as.length→(∀t∈ps,t<tm.size) →
  TmF g (fun t=>((ps.zip as).foldl (fun L x=>x::L) L).lookup t) ((ps.zip us).foldl (fun tm x=>tm.setIfInBounds x.1 x.2) tm)∧((ps.zip us).foldl (fun tm x=>tm.setIfInBounds x.1 x.2) tm).size=tm.size
 | [],as,us,L,tm,h,_,_,_=>by simpa using h
 | t::ps,[],us,L,tm,_,_,hl,_=>by simp at hl
 | t::ps,a::as,us,L,tm,h,hr,hl,ht=>by
  simp only[RepVs]at hr
  obtain⟨v,us,rfl,h1,h2⟩:=hr
  simp only[List.zip_cons_cons,List.foldl_cons]
  have h3:TmF g (fun s=>((t,a)::L).lookup s) (tm.setIfInBounds t v):=by
   intro s b hs
   simp only[List.lookup_cons]at hs
   by_cases e:s=t
   ·subst e
    simp at hs;subst hs
    have:=ht s (by simp)
    rw[Array.getD_eq_getD_getElem?,Array.getElem?_setIfInBounds_self_of_lt this]
    exact h1
   ·have hne:(s==t)=false:=by simpa using e
    rw[hne]at hs
    rw[Array.getD_eq_getD_getElem?,Array.getElem?_setIfInBounds_ne (fun h=>e h.symm),←Array.getD_eq_getD_getElem?]
    exact h s b hs
  obtain⟨q1,q2⟩:=A17 ps as us _ _ h3 h2 (by simpa using hl) (fun s hs=>by simpa using ht s (by simp[hs]))
  exact⟨q1,by simpa using q2⟩
end Go.Proofs.YtfcnhnbnjdccfaaGreat

namespace Go.Proofs.YtfcnhnbnjdccfaaGreat
set_option linter.all false
open Go
structure Esc (A Z:Type) where
 pe:List Nat
 rest:List PI
 blks:List BSh
 fn:A→BShs.den blks→Option Z
abbrev Esc.leaf{A Z:Type}(e:Esc A Z)(a:A):Leaf Z:=⟨.c e.pe::e.rest,⟨[],⟨[],e.blks⟩⟩,fun b=>e.fn a b.2⟩
def BSh.isMap:BSh→Bool
 | .map _ _=>true
 | _=>false
def Esc.ok{A Z:Type}(c:Code)(kb:Nat)(e:Esc A Z):Bool:=
 (match sub c e.pe with | .exit id=>(exitTo id (e.rest.map (itm c))).isNone | .ret=>true | _=>false)&&(e.blks.drop kb).all (fun s=>!s.isMap)
def locs(g:Gh)(k:Nat):List Nat:=(List.range k).filterMap fun i=>match g.ρ i with | some (some (b,_,_))=>some b | _=>none
theorem Aiu{g:Gh}{k i b c n:Nat}(hi:i<k)(h:g.ρ i=some (some (b,c,n))):b∈locs g k:=
 List.mem_filterMap.2 ⟨i,by simpa using hi,by rw[h]⟩
theorem Amx{g:Gh}{k b:Nat}(h:b∈locs g k):∃i c n,i<k∧g.ρ i=some (some (b,c,n)):=by
 obtain⟨i,hi,h⟩:=List.mem_filterMap.1 h
 split at h
 ·rename_i b' c n e
  simp only[Option.some.injEq]at h
  subst h
  exact⟨i,c,n,by simpa using hi,e⟩
 ·cases h
def pars(ps:List Tmp)(as:List AV)(L:LL):LL:=(ps.zip as).foldl (fun L x=>x::L) L
theorem Ad1{o:Obj}(h:isCel o=true):∃cs ty z,o=.cells cs ty z:=by cases o<;>simp[isCel]at h;exact⟨_,_,_,rfl⟩
theorem A4u{ss:List BSh}(hlive:ss.all BSh.live=true)(p:BShs.den ss){i:Nat}(hi:i<ss.length):∃k,hOf p i=some k∧k.mut=true:=by
 have hb:(encBs id ss p)[i]?=some ((encBs id ss p)[i]'(by rw[Af];exact hi)):=List.getElem?_eq_getElem _
 obtain⟨s,q,hs0,e⟩:=Rc id ss p i _ hb
 rw[e]at hb
 exact⟨_,hb,Dd _ _ _ (List.all_eq_true.1 hlive s (List.mem_of_getElem? hs0))⟩

section
variable {P:Program} {B:Body} {is:Ahn} {Z:Type} {p:List Nat} {k:List PI} {g:Operand} {ps:Array Tmp} {assign body:Code}
theorem Ld{x:Hs}(cap:x.sta.sh.den→Shs.den is.cap)(F:List (Shs.den is.elem)→x.sta.sh.den→Option Z){staA:Sta}(FA:List (Shs.den is.elem)→Shs.den x.sta.sh.avs→staA.sh.den→Option Z)(escs:List (Esc (Shs.den x.sta.sh.avs) Z))(glue:Z→exD x.exits)
  (hrun:∀(Y:Type) (q:x.sta.sh.den) (κ:exD x.exits→Option Y),x.run q κ=((is.run (cap q)).bind fun es=>F es q).bind fun z=>κ (glue z))
  (hat:x.at_=.c p::k) (hsub:sub B.c p=.rangeFunc g ps assign body) (hcap:∀q,opd (stL x.sta q) g=some (.fn is.f [] (encs id is.cap (cap q))))
  (hps:(decide (ps.size=is.elem.length)&&ps.toList.all (fun t=>decide (t<B.n)))=true) (hok:Ad7 P is) (hm:B.m0≤x.sta.sh.blks.length) (hes:escs.all (Esc.ok B.c x.sta.sh.blks.length)=true)
  (hend:∀(z:Z) (E:EE) (Xc:Ctx),EOK B.m0 E→CxOK true Xc→(∀a w,SR B.n B.m0 E (exK x.exits (glue z)).2.1 (exK x.exits (glue z)).2.2 a w→At P Xc ((exK x.exits (glue z)).1.map (itm B.c)) a w) →
   Be P B.c B.n B.m0 E Xc z ⟨nrm B.c 99 k,x.sta,F []⟩)
  (hesc:∀(z:Z) (E:EE) (Xc:Ctx),EOK B.m0 E→CxOK true Xc→(∀a w,SR B.n B.m0 E (exK x.exits (glue z)).2.1 (exK x.exits (glue z)).2.2 a w→At P Xc ((exK x.exits (glue z)).1.map (itm B.c)) a w) →
   ∀e∈escs,∀(q1:Shs.den x.sta.sh.avs) (b:BShs.den e.blks),e.fn q1 b=some z→∀a w,SR B.n B.m0 E (x.sta.tmps.zip (encs id x.sta.sh.avs q1)) (encBs id e.blks b) a w→At P Xc ((nrm B.c 99 (.c e.pe::k)).map (itm B.c)) a w)
  (hA:∀(z:Z) (E:EE) (Xc:Ctx),EOK x.sta.sh.blks.length E→CxOK false Xc→∀e es q,Be P B.c B.n x.sta.sh.blks.length E Xc z ⟨[.r,.c (p++[1])],staA,FA es q.1⟩ →
   F (e::es) q=some z→∀a w,SR B.n x.sta.sh.blks.length E (pars ps.toList (encs id is.elem e) (stL x.sta q)) (stH x.sta q) a w→At P Xc ((nrm B.c 99 [.c (p++[0]),.r,.c (p++[1])]).map (itm B.c)) a w)
  (hB:∀(z:Z) (E:EE) (Xc:Ctx),EOK x.sta.sh.blks.length E→CxOK false Xc→∀es q1,Be P B.c B.n x.sta.sh.blks.length E Xc z ⟨[],⟨[],⟨[],x.sta.sh.blks⟩⟩,fun b=>F es (q1,b.2)⟩→(∀e∈escs,Be P B.c B.n x.sta.sh.blks.length E Xc z (e.leaf q1)) →
   Be P B.c B.n x.sta.sh.blks.length E Xc z ⟨nrm B.c 99 [.c (p++[1])],staA,FA es q1⟩) (hlive:x.sta.sh.blks.all BSh.live=true:=by rfl):Gg P B.c B.n B.m0 true x:=by
 refine⟨fun Y q κ=>?_,fun q e he E hE Xc a w hX hS hx=>?_⟩
 ·rw[hrun,hrun]
  cases (is.run (cap q)).bind fun es=>F es q<;>rfl
 rw[hrun]at he
 obtain⟨z,hz,h2⟩:=bind_some he
 cases h2
 obtain⟨es,hes1,hF⟩:=bind_some hz
 clear he hz
 obtain⟨g0,hs0,htm0,hhi0,hE0⟩:=hS.ex
 obtain⟨lo,hlo,hmk,hupd⟩:=hE.upd
 have hlow:=hlo _ _ _ hE0
 simp only[Bool.and_eq_true,decide_eq_true_eq,List.all_eq_true]at hps
 have hlenH:(stH x.sta q).length=x.sta.sh.blks.length:=Af _ _ _
 have hhi0':∀i,x.sta.sh.blks.length≤i→g0.ρ i=none:=fun i hi=>hhi0 i (by omega)
 have hMlt:∀b o,g0.M b=some o→b<w.heap.size:=fun b o hb=>A8 (hs0.mem b o hb)
 have hloc:∀i b c n,g0.ρ i=some (some (b,c,n))→b<w.heap.size∧g0.M b=none:=by
  intro i b c n e
  rcases Nat.lt_or_ge i x.sta.sh.blks.length with h | h
  ·obtain⟨k0,h1,h2⟩:=A4u hlive q.2 h
   exact hs0.lt h1 h2 e
  ·rw[hhi0' i h]at e;cases e
 -- the function's value
 have hev:=Wb (tm:=a.tmps) (df:=a.defers) (fun t _ a ha=>htm0 t a ha) (hcap q)
 simp only[RepV]at hev
 obtain⟨va,vc,hev,hva,hvc⟩:=hev
 simp only[RepVs]at hva
 subst hva
 let kb:=x.sta.sh.blks.length
 let l:=w.heap.size+1
 let dsM:=mk w.heap.size::a.defers
 let lr:=fun(st:LoopState) (pd:Option Code)=>Obj.loop (lrec Xc.b.fn a.tmps ps assign body w.heap.size st pd)
 let Good:Gh→Prop:=fun g=>(∀i,i<kb→g.ρ i=g0.ρ i)∧(∀b o,g0.M b=some o→g.M b=some o)∧(∀b o,g.M b=some o→g0.M b=some o∨isCel o=true)
 let J:List (Shs.den is.elem)→World→Prop:=fun es w2=>∃g b,Good g∧(∀i,kb≤i→g.ρ i=none)∧Sim g (hOf b) w2∧E dsM g w2∧w2.heap[l]?=some (lr .ready none)∧F es (q.1,b)=some z
 let Q:World→Prop:=fun w2=>∃e∈escs,∃g b,Good g∧(∀i,e.blks.length≤i→g.ρ i=none)∧kb≤e.blks.length∧Sim g (hOf b) w2∧E dsM g w2∧w2.heap[l]?=some (lr .done (some (sub B.c e.pe)))∧e.fn q.1 b=some z
 let S:=locs g0 kb
 have hSlt:∀b∈S,b<w.heap.size∧g0.M b=none:=fun b hb=>by
  obtain⟨i,c,n,_,e⟩:=Amx hb
  exact hloc i b c n e
 -- blocks that the function that is ranged over may change
 have apM:∀ {g:Gh} {h:Nat→Option Blk'} {w1:World} {T:List Nat},Good g→Sim g h w1→Cj (w.heap.size+2) T w1→∀b o,g.M b=some o→b∉T:=by
  intro g h w1 T hg hs hT b o hb hbT
  obtain⟨h1,h2⟩:=hT b hbT
  rcases hg.2.2 b o hb with h3 | h3
  ·have:=hMlt b o h3;omega
  ·obtain⟨cs,ty,z,rfl⟩:=Ad1 h3
   exact h2 _ _ _ (hs.mem b _ hb)
 have apE:∀ {g:Gh} {w1 w2:World} {T:List Nat},E dsM g w1→Upd T w1 w2→(∀k∈T,w.heap.size+1≤k)→E dsM g w2:=by
  intro g w1 w2 T he hu hT
  refine hupd _ _ _ _ T he hu (fun k hk=>⟨by have:=hT k hk;omega,fun hmem=>?_⟩)
  have h1:=hT k hk
  rcases List.mem_cons.1 hmem with h2 | h2
  ·simp only[mk,Deferred.mk.injEq,Target.collected.injEq]at h2
   omega
  ·have:=hmk _ _ _ _ hE0 h2;omega
 have stJ:∀r,Bo (w.heap.size+2) (J r):=by
  rintro r w1 w2 T ⟨g,b,hg,hhi,hs,he,hl,hf⟩ hu hT
  refine⟨g,b,hg,hhi,hs.upd hu (apM hg hs hT) (fun i k b' c n _ _ e hb=>?_),apE he hu (fun k hk=>by have:=(hT k hk).1;omega),hu.blk hl (fun h=>by have:=(hT _ h).1;omega),hf⟩
  rcases Nat.lt_or_ge i kb with h | h
  ·rw[hg.1 i h]at e
   have:=(hloc i b' c n e).1
   have:=(hT b' hb).1
   omega
  ·rw[hhi i h]at e;cases e
 have stQ:Bo (w.heap.size+2) Q:=by
  rintro w1 w2 T ⟨e,hem,g,b,hg,hhi,hle,hs,he,hl,hf⟩ hu hT
  refine⟨e,hem,g,b,hg,hhi,hle,hs.upd hu (apM hg hs hT) (fun i k b' c n hk hm e' hb=>?_),apE he hu (fun k hk=>by have:=(hT k hk).1;omega),hu.blk hl (fun h=>by have:=(hT _ h).1;omega),hf⟩
  rcases Nat.lt_or_ge i kb with h | h
  ·rw[hg.1 i h]at e'
   have:=(hloc i b' c n e').1
   have:=(hT b' hb).1
   omega
  ·obtain⟨s,y,hsi,rfl⟩:=Rc id e.blks b i k hk
   have hnm:s.isMap=false:=by
    have:=List.all_eq_true.1 hes e hem
    simp only[Esc.ok,Bool.and_eq_true,List.all_eq_true]at this
    have:=this.2 s (List.mem_iff_getElem?.2 ⟨i-kb,by rw[List.getElem?_drop,show kb+(i-kb)=i by omega];exact hsi⟩)
    simpa using this
   have hB:=hs.blk i _ hk
   cases s with
   | dead=>cases hm
   | map _ _=>simp[BSh.isMap]at hnm
   | segs _=>
    obtain⟨b1,_,_,vs,ty,e1,h3,_⟩:=hB
    rw[e']at e1;cases e1
    exact(hT b' hb).2 _ _ _ h3
   | lst _=>
    obtain⟨_,⟨e1,_⟩ | ⟨b1,_,_,_,_,e1,h3,_⟩⟩:=hB
    ·rw[e']at e1;cases e1
    ·rw[e']at e1;cases e1
     exact(hT b' hb).2 _ _ _ h3
 -- the loop's object is no block that is known
 have hMl:∀ {g':Gh} {h:Nat→Option Blk'} {w':World} {r:Loop},(∀b o,g'.M b=some o→g0.M b=some o∨isCel o=true)→Sim g' h w'→w'.heap[l]?=some (.loop r)→∀b o,g'.M b=some o→b∉[l]:=by
  intro g' h w' r hg hs hl b o hb hbl
  simp only[List.mem_singleton]at hbl
  subst hbl
  have:=hs.mem _ _ hb
  rw[hl]at this;cases this
  rcases hg _ _ hb with h3 | h3
  ·have:=hMlt _ _ h3;omega
  ·simp[isCel]at h3
 have hkl:∀ {g':Gh} {h:Nat→Option Blk'} {w':World} {r:Loop},Sim g' h w'→w'.heap[l]?=some (.loop r)→∀i k b c n,h i=some k→k.mut=true→g'.ρ i=some (some (b,c,n))→b∉[l]:=by
  intro g' h w' r hs hl i k b c n h1 h2 h3 hbl
  simp only[List.mem_singleton]at hbl
  subst hbl
  rcases hs.kind h1 h2 h3 with⟨_,_,_,h4⟩ | ⟨_,_,h4⟩<;>(rw[hl]at h4;cases h4)
 have e0:sub B.c (p++[0])=assign:=by rw[C1,hsub];cases assign<;>rfl
 have e1:sub B.c (p++[1])=body:=by rw[C1,hsub];cases body<;>rfl
 have htmG:∀ {g:Gh},Good g→(∀i,kb≤i→True)→TmF g (fun t=>(stL x.sta q).lookup t) a.tmps:=by
  intro g hg _
  have hGE:GE g0 g:=by
   refine⟨fun i y hy=>?_,hg.2.1⟩
   rcases Nat.lt_or_ge i kb with h | h
   ·rw[hg.1 i h];exact hy
   ·rw[hhi0' i h]at hy;cases hy
  exact fun t av ht=>RepV.mono hGE av _ (htm0 t av ht)
 rw[hat,List.map_cons]
 simp only[itm,hsub]
 refine At.rangeFunc is.f vc.toArray (hX rfl) hev hok.call (fun w1 he1 hsz hD hl=>?_)
 have hE1:E dsM g0 w1:=hE.mark _ _ _ _ hE0 he1 hD (by
  cases hM:g0.M w.heap.size with
  | none=>rfl
  | some o=>have:=hMlt _ _ hM;omega)
 have hs1:Sim g0 (hOf q.2) w1:=hs0.upd he1 (fun _ _ _ h=>by cases h) (fun _ _ _ _ _ _ _ _ h=>by cases h)
 have hJ0:J es w1:=⟨g0,q.2,⟨fun _ _=>rfl,fun _ _ h=>h,fun _ _ h=>.inl h⟩,hhi0',hs1,hE1,hl,hF⟩
 refine(hok.fn (cap q) es hes1 g0 vc hvc l S J Q w1 (fun b o hb=>⟨fun hm=>?_,hs1.mem b o hb⟩) (fun b hb=>?_) hJ0 (fun r=>by rw[hsz];exact stJ r) (by rw[hsz];exact stQ) (fun m r w2 us hJ hU hus=>?_)).mono (fun v w3 hpost=>?_)
 ·have:=hMlt b o hb
  rcases List.mem_cons.1 hm with rfl | hm
  ·omega
  ·rw[(hSlt b hm).2]at hb;cases hb
 ·rcases List.mem_cons.1 hb with rfl | hb
  ·omega
  ·have:=(hSlt b hb).1;omega
 ·-- a round
  obtain⟨g,b,hg,hhi,hs,he,hl2,hf⟩:=hJ
  refine⟨_,hl2,?_,Round.of fun c cs=>?_⟩
  ·have:=(Ga hus).1
   rw[Hb]at this
   simp[lrec,this,hps.1]
  let S0:Nat→Prop:=fun b'=>b'=l∨Sw g (hOf b) (List.range kb) b'
  have hknown:∀i,i<kb→∃y,g.ρ i=some y:=fun i hi=>by
   obtain⟨k0,h1,h2⟩:=A4u hlive b hi
   exact(hs.blk i k0 h1).known h2
  have hS0:∀i b' c k0,i<kb→g.ρ i=some (some (b',c,k0))→S0 b':=fun i b' c k0 hi e=>by
   obtain⟨k1,h1,h2⟩:=A4u hlive b hi
   exact .inr ⟨i,by simpa using hi,k1,c,k0,h1,h2,e⟩
  have hEnt:EOK0 kb (fun _=>Ent S0 kb g w2):=Ent.ok hS0 hknown
  have hent0:Ent S0 kb g w2 g w2:=⟨rfl,rfl,rfl,Nat.le_refl _,fun _ _ _=>rfl,fun _ _ h=>h,fun _ _ h=>.inl h,fun _ _=>rfl,fun i b' c k0 hi e=>by rw[hhi i hi]at e;cases e⟩
  have hlsz:l<w2.heap.size:=A8 hl2
  let E':LoopState→EE:=fun st ds g' w'=>(∀D,mk D∈ds→D<w'.heap.size)∧Ent S0 kb g w2 g' w'∧E dsM g' w'∧w'.heap[l]?=some (lr st none)
  have hE':∀st,EOK kb (E' st):=fun st=>⟨⟨fun{ds g' g'' h w' w'' wr nw} hn hs st1 he'=>⟨fun D hD=>Nat.lt_of_lt_of_le (he'.1 D hD) st1.size,hEnt.step (ds:=[]) hn hs st1 he'.2.1,hE.step (fun i hi=>Nat.le_trans hm (hn i hi)) hs st1 he'.2.2.1,by
      rw[st1.same l (A8 he'.2.2.2) (fun hx=>by
       rcases Sw.kind hs hx with⟨_,_,_,h4⟩ | ⟨_,_,h4⟩<;>(rw[he'.2.2.2]at h4;cases h4))]
      exact he'.2.2.2⟩,
    fun ds g' w' he'=>⟨he'.1,hEnt.bump [] _ _ he'.2.1,hE.bump _ _ _ he'.2.2.1,he'.2.2.2⟩,
    fun ds g' w' σ he' h1 h2=>⟨he'.1,hEnt.reb [] _ _ _ he'.2.1 h1 h2,hE.reb _ _ _ _ he'.2.2.1 (fun i hi=>h1 i (Nat.lt_of_lt_of_le hi hm)) h2,he'.2.2.2⟩⟩,
   ⟨w2.heap.size,fun ds g' w' he'=>he'.2.1.size,fun ds g' w' D he' hD=>he'.1 D hD,fun ds g' w' w'' T he' hu hT=>⟨fun D hD=>Nat.lt_of_lt_of_le (he'.1 D hD) hu.size,he'.2.1.upd hu (fun k hk=>.inl (hT k hk).1),apE he'.2.2.1 hu (fun k hk=>by have:=(hT k hk).1;omega),hu.blk he'.2.2.2 (fun hk=>by have:=(hT l hk).1;omega)⟩⟩,
   fun ds g' w' w'' he' hu hb' hM=>⟨fun D hD=>by
       rcases List.mem_cons.1 hD with h | h
       ·simp only[mk,Deferred.mk.injEq,Target.collected.injEq]at h
        rw[h.1];exact A8 hb'
       ·exact Nat.lt_of_lt_of_le (he'.1 D h) hu.size,he'.2.1.upd hu (fun _ h=>by cases h),apE he'.2.2.1 hu (fun _ h=>by cases h),hu.blk he'.2.2.2⟩⟩
  have hgood:∀ {st ds g' w'},E' st ds g' w'→Good g':=fun{st ds g' w'} he'=>⟨fun i hi=>(he'.2.1.pin i hi).trans (hg.1 i hi),fun b o h=>he'.2.1.M b o (hg.2.1 b o h),fun b o h=>by
   rcases he'.2.1.Mn b o h with h1 | ⟨_,_,h1⟩
   ·exact hg.2.2 b o h1
   ·exact .inr h1⟩
  have hU2:∀ {st ds g' w' w'' o},E' st ds g' w'→Put l o w' w''→Upd (l::S) w2 w'':=fun{st ds g' w' w'' o} he' hp=>by
   have h1:Upd (l::S) w2 w':=⟨he'.2.1.os,he'.2.1.tape,he'.2.1.output,he'.2.1.size,fun b' hb hn=>he'.2.1.same b' hb (fun hx=>hn (by
    rcases hx with rfl | ⟨i,hi,k0,c,n,_,_,e⟩
    ·exact List.mem_cons_self
    ·have hi':i<kb:=by simpa using hi
     rw[hg.1 i hi']at e
     exact List.mem_cons_of_mem _ (Aiu hi' e)))⟩
   exact h1.trans (hp.upd.mono (fun k hk=>by simp at hk;simp[hk]))
  have hus':RepVs g (encs id is.elem m) us:=S1 is.elem m us hok.flat hus
  obtain⟨htm',hsz'⟩:=A17 ps.toList (encs id is.elem m) us _ a.tmps (htmG hg (fun _ _=>trivial)) hus' (by rw[Hb];simpa using hps.1) (fun t ht=>Nat.lt_of_lt_of_le (hps.2 t ht) hS.sz)
  have hfold:(ps.zip us.toArray).foldl (fun tmps (t,a)=>tmps.setIfInBounds t a) a.tmps=(ps.toList.zip us).foldl (fun tm x=>tm.setIfInBounds x.1 x.2) a.tmps:=by
   rw[←Array.foldl_toList,Array.toList_zip]
  have hSR:SR B.n kb (E' .ready) (pars ps.toList (encs id is.elem m) (stL x.sta (q.1,b))) (stH x.sta (q.1,b)) { tmps:=(ps.toList.zip us).foldl (fun tm x=>tm.setIfInBounds x.1 x.2) a.tmps,defers:=[] } w2:=
   ⟨⟨g,hs,htm',fun i hi=>hhi i (by simpa [stH,Af]using hi),fun _ h=>(by cases h),hent0,he,hl2⟩,by rw[hsz'];exact hS.sz,by simp[stH,Af,kb]⟩
  show At P (rctx l Xc.b.fn _ c cs) [.code assign,.beginRound,.code body] { tmps:=(ps.zip us.toArray).foldl (fun tmps (t,a)=>tmps.setIfInBounds t a) a.tmps,defers:=[] } w2
  rw[hfold]
  have hno:∀K,CxOK false (rctx l Xc.b.fn K c cs):=fun K h=>by cases h
  have hend':Be P B.c B.n kb (E' .busy) (rctx l Xc.b.fn (fun v w3=>Upd (l::S) w2 w3∧((v=.bool true∧J r w3)∨(v=.bool false∧Q w3))) c cs) z ⟨[],⟨[],⟨[],x.sta.sh.blks⟩⟩,fun b=>F r (q.1,b.2)⟩:=by
   intro b' hb' a' w' hS'
   obtain⟨g',hs',_,hhi',he'⟩:=hS'.ex
   have hp:=Put.mk' (.loop { lrec Xc.b.fn a.tmps ps assign body w.heap.size .busy none with state:=.ready,pending:=none }) he'.2.2.2
   refine .head (stepR_round_end rfl rfl (Da none he'.2.2.2)) ⟨_,⟨_,_,⟨hU2 he' hp,.inl ⟨rfl,g',b'.2,hgood he',fun i hi=>hhi' i (by simpa [stH,Af]using hi),hs'.upd hp.upd (hMl (hgood he').2.2 hs' he'.2.2.2) (hkl hs' he'.2.2.2),apE he'.2.2.1 hp.upd (fun k hk=>by simp at hk;omega),hp.blk,hb'⟩⟩,rfl⟩,Steps.refl _ _⟩
  have hesc':∀e∈escs,Be P B.c B.n kb (E' .busy) (rctx l Xc.b.fn (fun v w3=>Upd (l::S) w2 w3∧((v=.bool true∧J r w3)∨(v=.bool false∧Q w3))) c cs) z (e.leaf q.1):=by
   intro e hem b' hb' a' w' hS'
   obtain⟨g',hs',_,hhi',he'⟩:=hS'.ex
   have hle:kb≤e.blks.length:=by have:=hS'.m;simpa [stH,Af]using this
   have hok':=List.all_eq_true.1 hes e hem
   simp only[Esc.ok,Bool.and_eq_true]at hok'
   have hp:=fun j:Code=>Put.mk' (.loop { lrec Xc.b.fn a.tmps ps assign body w.heap.size .busy none with state:=.done,pending:=some j }) he'.2.2.2
   have fin:∀(j:Code),sub B.c e.pe=j→Upd (l::S) w2 { w' with heap:=w'.heap.setIfInBounds l (.loop { lrec Xc.b.fn a.tmps ps assign body w.heap.size .busy none with state:=.done,pending:=some j }) }∧((Value.bool false=.bool true∧J r { w' with heap:=w'.heap.setIfInBounds l (.loop { lrec Xc.b.fn a.tmps ps assign body w.heap.size .busy none with state:=.done,pending:=some j }) })∨(Value.bool false=.bool false∧Q { w' with heap:=w'.heap.setIfInBounds l (.loop { lrec Xc.b.fn a.tmps ps assign body w.heap.size .busy none with state:=.done,pending:=some j }) })):=fun j hj=>⟨hU2 he' (hp j),.inr ⟨rfl,e,hem,g',b'.2,hgood he',fun i hi=>hhi' i (by simpa [stH,Af]using hi),hle,hs'.upd (hp j).upd (hMl (hgood he').2.2 hs' he'.2.2.2) (hkl hs' he'.2.2.2),apE he'.2.2.1 (hp j).upd (fun k hk=>by simp at hk;omega),by rw[hj];exact(hp j).blk,hb'⟩⟩
   split at hok'
   ·rename_i id hsb
    simp only[List.map_cons,itm,hsb]
    refine .head (stepR_round_exit rfl rfl (by simpa using hok'.1) (Da (some (.exit id)) he'.2.2.2)) ⟨_,⟨_,_,fin _ hsb,rfl⟩,Steps.refl _ _⟩
   ·rename_i hsb
    simp only[List.map_cons,itm,hsb]
    refine .head (stepR_round_ret rfl rfl (Da (some .ret) he'.2.2.2)) ⟨_,⟨_,_,fin _ hsb,rfl⟩,Steps.refl _ _⟩
   ·cases hok'.1
  have hfirst:Be P B.c B.n kb (E' .ready) (rctx l Xc.b.fn (fun v w3=>Upd (l::S) w2 w3∧((v=.bool true∧J r w3)∨(v=.bool false∧Q w3))) c cs) z ⟨[.r,.c (p++[1])],staA,FA r q.1⟩:=by
   intro pA hpA a' w' hS'
   obtain⟨g',hs',ht',hhi',he'⟩:=hS'.ex
   have hp:=Put.mk' (.loop { lrec Xc.b.fn a.tmps ps assign body w.heap.size .ready none with state:=.busy }) he'.2.2.2
   refine .head (stepR_beginRound rfl (Li he'.2.2.2 rfl)) ?_
   have hS'':SR B.n kb (E' .busy) (stL staA pA) (stH staA pA) a' { w' with heap:=w'.heap.setIfInBounds l (.loop { lrec Xc.b.fn a.tmps ps assign body w.heap.size .ready none with state:=.busy }) }:=
    ⟨⟨g',hs'.upd hp.upd (hMl (hgood he').2.2 hs' he'.2.2.2) (hkl hs' he'.2.2.2),ht',hhi',fun D hD=>by have:=he'.1 D hD;rw[hp.size];exact this,he'.2.1.upd hp.upd (fun k hk=>.inr (.inl (by simpa using hk))),apE he'.2.2.1 hp.upd (fun k hk=>by simp at hk;omega),hp.blk⟩,hS'.sz,hS'.m⟩
   exact At.nrmk (c:=B.c) 99 (k:=[.c (p++[1])]) (hB z (E' .busy) _ (hE' _) (hno _) r q.1 hend' hesc' pA hpA a' _ hS'')
  have:=At.nrmk (c:=B.c) 99 (k:=[.c (p++[0]),.r,.c (p++[1])]) (hA z (E' .ready) _ (hE' _) (hno _) m r (q.1,b) hfirst hf _ _ hSR)
  simp only[List.map_cons,List.map_nil,itm,e0,e1]at this
  exact this
 ·obtain⟨_,⟨g,b,hg,hhi,hs,he,hl3,hf⟩ | ⟨e,hem,g,b,hg,hhi,hle,hs,he,hl3,hf⟩⟩:=hpost
  ·refine⟨_,hl3,by simp[lrec],fun w4 hp=>?_⟩
   have hSR:SR B.n B.m0 E (stL x.sta (q.1,b)) (stH x.sta (q.1,b)) { tmps:=a.tmps,defers:=dsM } w4:=
    ⟨⟨g,hs.upd hp.upd (hMl hg.2.2 hs hl3) (hkl hs hl3),htmG hg (fun _ _=>trivial),fun i hi=>hhi i (by simpa [stH,Af]using hi),apE he hp.upd (fun k hk=>by simp at hk;omega)⟩,hS.sz,by simp only[stH,Af];exact hm⟩
   exact At.nrmk (c:=B.c) 99 (k:=k) (hend z E Xc hE hX hx (q.1,b) hf _ _ hSR)
  ·refine⟨_,hl3,by simp[lrec],fun w4 hp=>?_⟩
   have hSR:SR B.n B.m0 E (x.sta.tmps.zip (encs id x.sta.sh.avs q.1)) (encBs id e.blks b) { tmps:=a.tmps,defers:=dsM } w4:=
    ⟨⟨g,hs.upd hp.upd (hMl hg.2.2 hs hl3) (hkl hs hl3),htmG hg (fun _ _=>trivial),fun i hi=>hhi i (by simpa [Af]using hi),apE he hp.upd (fun k hk=>by simp at hk;omega)⟩,hS.sz,by simp only[Af];exact Nat.le_trans hm hle⟩
   have:=At.nrmk (c:=B.c) 99 (k:=.c e.pe::k) (hesc z E Xc hE hX hx e hem q.1 b hf _ _ hSR)
   exact this
end
end Go.Proofs.YtfcnhnbnjdccfaaGreat

/-
  Parts of a proof, put together: SvP, InB, SvQ, F1, TG, Fm1, Fm2, FIt, FKa, FKb, FKc, FKd, FCl, FK.
  Conditions: none.
-/
import Derived.Test.YthncjilcflilcaaGreatChecked
import Derived.Test.YthncjilcflilcaaGreatZa
import Derived.Test.YthncjilcflilcaaGreatZc
namespace Go.Proofs.YthncjilcflilcaaGreat
set_option linter.all false
open Go
theorem mixed:Tryz.prog.follows .mixedOrders=true:=by kernel_rfl
theorem Lh{α Y:Type}(o:Option α)(f g:α→Option Y)(h:∀e,f e=g e):o.bind f=o.bind g:=by rw[funext h]
theorem A0.none{P:Program}{s:Spec}(h:∀(Z:Type) (p:s.ins.den) (κ:altD s.outs→Option Z),s.run p κ=Option.none)(hc:∀args w,(callFunc s.f args).run P w=.ok (.enter s.f args) w):A0 P s:=
 ⟨fun Z p κ=>by rw[h,h];rfl,hc,fun p r hr=>by rw[h]at hr;cases hr⟩
end Go.Proofs.YthncjilcflilcaaGreat

namespace Go.Proofs.YthncjilcflilcaaGreat
set_option linter.all false
open Go
def Ty.inB:(t:Ty)→t.den→Prop
 | .int k,n=>inR k n
 | .bool,_=>True
 | .pair a b,x=>a.inB x.1∧b.inB x.2
 | .sl a,l=>l.length≤9223372036854775807∧∀x∈(l:List a.den),a.inB x
 | .ptr a,x=>a.inB x
theorem Ty.inB_of{M:Nat→Option Obj}:∀(t:Ty) (x:t.den) (vs:List Value),RepC M t x vs→t.inB x
 | .int k,n,vs,h=>h.2
 | .bool,_,_,_=>trivial
 | .pair a b,x,vs,h=>by
  obtain⟨v1,v2,_,h1,h2⟩:=h
  exact⟨Ty.inB_of a _ _ h1,Ty.inB_of b _ _ h2⟩
 | .sl a,l,vs,h=>by
  obtain⟨v,_,h1,ad,cap,_,_,h2⟩:=h
  refine⟨h1,fun x hx=>?_⟩
  rcases h2 with rfl | ⟨b,o,us,ty,_,_,h3⟩
  ·cases hx
  ·obtain⟨i,hi⟩:=List.getElem?_of_mem hx
   obtain⟨us,_,h4⟩:=h3 i x hi
   exact Ty.inB_of a _ _ h4
 | .ptr a,x,vs,h=>by
  obtain⟨b,o,ws,ty,us,_,_,_,h4⟩:=h
  exact Ty.inB_of a _ _ h4
theorem Ty.inB_i64{n:Int}(h:(Ty.int .i64).inB n):-9223372036854775808≤n∧n≤9223372036854775807:=by
 have h1:IntKind.i64.min=-9223372036854775808:=by decide
 have h2:IntKind.i64.max=9223372036854775807:=by decide
 unfold Ty.inB inR at h
 rw[h1,h2]at h
 exact h
end Go.Proofs.YthncjilcflilcaaGreat

namespace Go.Proofs.YthncjilcflilcaaGreat
set_option linter.all false
open Go
abbrev Oks:=List { s:Spec // A0 Tryz.prog s }
abbrev LpQ(B:Body)(top:Bool):={ x:Hl // Gn Tryz.prog B.c B.n B.m0 top x }
abbrev JnQ{Z:Type}(B:Body)(top:Bool)(rt:Option (altD B.outs→Option Z))(base:List (Leaf Z)):={ l:Leaf Z // ∀z E Xc,EOK B.m0 E→CxOK top Xc→B4 Tryz.prog B E Xc z rt→AllP (Az Tryz.prog B.c B.n B.m0 E Xc z) base→Az Tryz.prog B.c B.n B.m0 E Xc z l }
theorem allP_map.{u}{α:Type u}{p:α→Prop}:∀l:List { x:α // p x },AllP p (l.map (·.1))
 | []=>trivial
 | x::l=>⟨x.2,allP_map l⟩
theorem allP_app.{u}{α:Type u}{p:α→Prop}:∀ {l m:List α},AllP p l→AllP p m→AllP p (l++m)
 | [],_,_,h=>h
 | _::_,_,h,h2=>⟨h.1,allP_app h.2 h2⟩
section
variable {Z:Type} {B:Body} {top:Bool}
theorem allJ{rt:Option (altD B.outs→Option Z)}{base:List (Leaf Z)}{z:Z}{E:EE}{Xc:Ctx}(hE:EOK B.m0 E)(hX:CxOK top Xc)(hr:B4 Tryz.prog B E Xc z rt)(hb:AllP (Az Tryz.prog B.c B.n B.m0 E Xc z) base):∀js:List (JnQ B top rt base),AllP (Az Tryz.prog B.c B.n B.m0 E Xc z) (js.map (·.1))
 | []=>trivial
 | j::js=>⟨j.2 z E Xc hE hX hr hb,allJ hE hX hr hb js⟩
def mkJ{rt:Option (altD B.outs→Option Z)}{base:List (Leaf Z)}(sp:Oks)(lps:List (LpQ B top))(js:List (JnQ B top rt base))(l:Leaf Z)
    (h:∀p,ev Tryz.prog (sp.map (·.1)) B (lps.map (·.1)) (base++js.map (·.1)) rt 400 true l.at_ (stL l.sta p) (stH l.sta p)=l.fn p):JnQ B top rt base:=
 ⟨l,fun _ _ _ hE hX hr hb=>Gp (allP_map sp) mixed (allP_map lps) hE hX (allP_app hb (allJ hE hX hr hb js)) hr h⟩
abbrev exs(ex:List (Leaf Z)):List (List PI×Sta):=ex.map fun l=>(l.at_,l.sta)
def mkL(sp:Oks)(lps:List (LpQ B top))(at_:List PI)(sta:Sta)(F:Nat→sta.sh.den→Option Z)(ex:List (Leaf Z))(js:(m:Nat)→List (JnQ B top none (⟨at_,sta,F m⟩::ex)))(g:{Y:Type}→(exD (exs ex)→Y)→Z→Y)(N:Nat)
    (hev:∀m p,ev Tryz.prog (sp.map (·.1)) B (lps.map (·.1)) ((⟨at_,sta,F m⟩::ex)++(js m).map (·.1)) none 400 true at_ (stL sta p) (stH sta p)=F (m+1) p)
    (h0:∀p,F 0 p=none:=by intro _;rfl)
    (hg:∀(Y:Type) (k:exD (exs ex)→Y) (z:Z),g k z=k (g id z):=by intro _ _ _;rfl)
    (hex:∀z,AllP (fun l:Leaf Z=>∀p,l.fn p=some z→exK (exs ex) (g id z)=(l.at_,stL l.sta p,stH l.sta p)) ex:=by
   intro _;(repeat' apply And.intro)<;>first | exact trivial | (intro p h;obtain rfl:=Option.some.inj h;rfl)):LpQ B top:=
 ⟨{ at_:=at_,sta:=sta,exits:=exs ex,run:=fun p k=>(F N p).bind (g k) },
 Adx (N:=N) F (g id) (fun Y p k=>Lh _ _ _ fun e=>hg _ k e) h0 fun m z E Xc hE hX hrec hx=>
  have hb:AllP (Az Tryz.prog B.c B.n B.m0 E Xc z) (⟨at_,sta,F m⟩::ex):=⟨hrec,by
   have h2:=hex z
   have key:∀l:List (Leaf Z),AllP (fun l:Leaf Z=>∀p,l.fn p=some z→exK (exs ex) (g id z)=(l.at_,stL l.sta p,stH l.sta p)) l→AllP (Az Tryz.prog B.c B.n B.m0 E Xc z) l:=by
    intro l
    induction l with
    | nil=>intro _;trivial
    | cons a l ih=>
     intro h
     refine⟨fun p hp=>?_,ih h.2⟩
     have e:=h.1 p hp
     intro a w hS
     have:=hx a w
     rw[e]at this
     exact this hS
   exact key _ h2⟩
  Gp (allP_map sp) mixed (allP_map lps) hE hX (allP_app hb (allJ hE hX B4.no hb (js m))) B4.no (hev m)⟩
end
def mkS{R:Type}(f:FuncId)(ins:StSh)(outs:List StSh)(F:ins.den→Option R)(g:{Y:Type}→(altD outs→Y)→R→Y):Spec:={ f:=f,ins:=ins,outs:=outs,run:=fun p k=>(F p).bind (g k) }
def mkB(fn:Func)(outs:List StSh)(m0:Nat):Body:={ c:=fn.body.getD .skip,n:=fn.ntmps,res:=fn.results.toList,outs:=outs,m0:=m0 }
theorem mkF{R:Type}{f:FuncId}{ins:StSh}{outs:List StSh}{F:ins.den→Option R}{g:{Y:Type}→(altD outs→Y)→R→Y}{fn:Func}{m0:Nat}(sp:Oks)(lps:List (LpQ (mkB fn outs m0) true))(rt:altD outs→Option R)(js:List (JnQ (mkB fn outs m0) true (some rt) ([]:List (Leaf R))))(hf:Tryz.prog.funcs[f]?=some fn)
  (hev:∀p,ev Tryz.prog (sp.map (·.1)) (mkB fn outs m0) (lps.map (·.1)) (js.map (·.1)) (some rt) 400 false (nrm (mkB fn outs m0).c 99 [.c []]) (stL ⟨List.range' 0 ins.avs.length,ins⟩ p) (stH ⟨List.range' 0 ins.avs.length,ins⟩ p)=F p)
  (hb:(fn.body.isSome&&decide (m0=ins.blks.length)&&ins.blks.all BSh.live)=true)
  (hc:∀args,Sem.pv Tryz.prog (callFunc f args)=some (.enter f args))
  (hg:∀(Y:Type) (k:altD outs→Y) (z:R),g k z=k (g id z):=by intro _ _ _;rfl)
  (hrt:∀r z,rt r=some z→g id z=r:=by intro r z h;cases h;rfl):A0 Tryz.prog (mkS f ins outs F g):=by
 simp only[Bool.and_eq_true,decide_eq_true_eq]at hb
 exact Qv (B:=mkB fn outs m0) F (g id) rt (fun Y p k=>Lh _ _ _ fun e=>hg _ k e) hrt hf (by obtain⟨c,e⟩:=Option.isSome_iff_exists.1 hb.1.1;rw[mkB,e];rfl) rfl (by simp[mkB]) hb.1.2 rfl rfl (fun args w=>Sem.pv_run _ _ _ (hc args) w)
  (allP_map sp) mixed (allP_map lps) (fun z E Xc hE hX hr=>allJ (base:=[]) hE hX hr trivial js) hev hb.2
end Go.Proofs.YthncjilcflilcaaGreat

namespace Go.Proofs.YthncjilcflilcaaGreat
set_option linter.all false
open Go
abbrev Li:=List Int
abbrev Ll:=List (List Int)
abbrev shI:Sh:=.i .i64
abbrev shL:Sh:=.sl (.int .i64)
abbrev shQ:Sh:=.sl (.sl (.int .i64))
abbrev shD:Sh:=.fz [.sl (.int .i64),.i .i64,.sl (.sl (.int .i64)),.sl (.sl (.int .i64)),.sl (.int .i64),.arr (.int .i64) 36,.arr (.int .i64) 36]
abbrev shG:Sh:=.agg [.sl (.int .i64),.i .i64,.sl (.sl (.int .i64)),.sl (.sl (.int .i64)),.sl (.int .i64)]
abbrev Dk:=Li×Int×Ll×Ll×Li×Li×Li×Unit
def Gi(N:Nat)(n lo hi:Int):Option Bool:=
 br (decide (lo≤n))
  (some (decide (n≤hi)))
  (some false)
noncomputable def Ams(N:Nat):Spec:=mkS 46 ⟨[shI,shI,shI],[]⟩ [⟨[.b],[]⟩] (fun p=>Gi N p.1.1 p.1.2.1 p.1.2.2.1) (fun k r=>k ((r,()),()))
theorem Cf(N:Nat):A0 Tryz.prog (Ams N):=mkF (R:=Bool) (m0:=0) [] [] (fun r=>some r.1.1) [] Tryz.func46 (fun p=>by kernel_rfl) (by kernel_rfl) (fun _=>by kernel_rfl)

def sum_l1(N:Nat):Nat→Int→Li→Int→Int→Option Int
 | 0,_,_,_,_=>none
 | n_+1,n,u,u2,u3=>
  br (decide (u3<u2))
   (idx u u3 fun x_1=>
   chk (n+x_1)<|
   chk (u3+1)<|
   sum_l1 N n_ (n+x_1) u u2 (u3+1))
   (some (n))
def Z5(N:Nat)(l:Li):Option Int:=
 (sum_l1 N N 0 l (l.length:Int) 0).bind fun n_2=>
 some n_2
noncomputable def Alx(N:Nat):Oks:=[]
abbrev Aq2:List StSh:=[⟨[shI],[]⟩]
noncomputable abbrev Aro:Body:=mkB Tryz.f89 Aq2 0
noncomputable def Akt(N:Nat){top:Bool}:LpQ Aro top:=mkL (Z:=Int) (Alx N) [] [.c [1,1,0,1,0,0,0],.c [1,1,0,1,0,0,1],.l [1,1,0,1,0,0],.b 0,.c [1,1,1]] ⟨[3,6,7,8],⟨[shI,shL,shI,shI],[]⟩⟩ (fun m p=>sum_l1 N m p.1.1 p.1.2.1 p.1.2.2.1 p.1.2.2.2.1) [⟨[.c [1,1,1,0],.c [1,1,1,1]],⟨[3],⟨[shI],[]⟩⟩,fun p=>some (p.1.1)⟩] (fun _=>[]) (fun k e=>k (.inl ((e,()),()))) N (fun m p=>by kernel_rfl)
noncomputable def Aq9(N:Nat):Spec:=mkS 89 ⟨[shL],[]⟩ Aq2 (fun p=>Z5 N p.1.1) (fun k r=>k ((r,()),()))
theorem Tf(N:Nat):A0 Tryz.prog (Aq9 N):=mkF (R:=Int) (m0:=0) (Alx N) [Akt N] (fun r=>some r.1.1) [] Tryz.func89 (fun p=>by kernel_rfl) (by kernel_rfl) (fun _=>by kernel_rfl)

def Zd(N:Nat)(l:Li)(u:(Li×(Int×(Ll×(Ll×Li))))):Option Bool:=
 some (decide ((l.length:Int)=(u.1.length:Int)))
noncomputable def Aiy(N:Nat):Spec:=mkS 42 ⟨[shL,.fe (.pair (.sl (.int .i64)) (.pair (.int .i64) (.pair (.sl (.sl (.int .i64))) (.pair (.sl (.sl (.int .i64))) (.sl (.int .i64))))))],[]⟩ [⟨[.b],[]⟩] (fun p=>Zd N p.1.1 p.1.2.1) (fun k r=>k ((r,()),()))
theorem A66(N:Nat):A0 Tryz.prog (Aiy N):=mkF (R:=Bool) (m0:=0) [] [] (fun r=>some r.1.1) [] Tryz.func42 (fun p=>by kernel_rfl) (by kernel_rfl) (fun _=>by kernel_rfl)

def My(N:Nat)(n:Int):Option Bool:=
 (Gi N n (-1) 5).bind fun x_1=>
 some x_1
noncomputable def Acn(N:Nat):Spec:=mkS 45 ⟨[shI],[]⟩ [⟨[.b],[]⟩] (fun p=>My N p.1.1) (fun k r=>k ((r,()),()))
theorem A0u(N:Nat):A0 Tryz.prog (Acn N):=mkF (R:=Bool) (m0:=0) [⟨_,Cf N⟩] [] (fun r=>some r.1.1) [] Tryz.func45 (fun p=>by kernel_rfl) (by kernel_rfl) (fun _=>by kernel_rfl)

def Si(N:Nat)(x:Int):Option Bool:=
 (My N x).bind fun x_1=>
 some (!x_1)
noncomputable def Acx(N:Nat):Spec:=mkS 85 ⟨[shI,.own 0 0],[.segs [.fn 45 [] []]]⟩ [⟨[.b],[.segs [.fn 45 [] []]]⟩] (fun p=>Si N p.1.1) (fun k r=>k ((r,()),((((),()),()),())))
theorem A09(N:Nat):A0 Tryz.prog (Acx N):=mkF (R:=Bool) (m0:=1) [⟨_,A0u N⟩] [] (fun r=>some r.1.1) [] Tryz.func85 (fun p=>by kernel_rfl) (by kernel_rfl) (fun _=>by kernel_rfl)

def ixfv_l1(N:Nat):Nat→Li→Int→Int→Option ((Int)⊕(Unit))
 | 0,_,_,_=>none
 | n_+1,s,u,u2=>
  br (decide (u2<u))
   (idx s u2 fun x_1=>
   (Si N x_1).bind fun x_2=>
   br x_2
    (some (.inl u2))
    (chk (u2+1)<|
    ixfv_l1 N n_ s u (u2+1)))
   (some (.inr ()))
def Aeb(N:Nat)(s:Li):Option Int:=
 (ixfv_l1 N N s (s.length:Int) 0).bind fun e=>match e with
 | .inl i_3=>
  some i_3
 | .inr _=>
  some (-1)
noncomputable def Agf(N:Nat):Oks:=[⟨_,A09 N⟩]
abbrev Akj:List StSh:=[⟨[shI],[.segs [.fn 45 [] []]]⟩]
noncomputable abbrev Aqf:Body:=mkB Tryz.f100 Akj 1
noncomputable def Aj2(N:Nat){top:Bool}:LpQ Aqf top:=mkL (Z:=(Int)⊕(Unit)) (Agf N) [] [.c [1,0,1,0,0,0],.c [1,0,1,0,0,1],.l [1,0,1,0,0],.b 0,.c [1,1]] ⟨[0,1,7,8],⟨[shL,.fn 85 [] [.own 0 0],shI,shI],[.segs [.fn 45 [] []]]⟩⟩ (fun m p=>ixfv_l1 N m p.1.1 p.1.2.2.1 p.1.2.2.2.1) [⟨[.c [1,0,1,0,0,1,1,0,0,1,1,0,0],.c [1,0,1,0,0,1,1,0,0,1,1,0,1],.b 1,.c [1,0,1,0,0,1,1,1],.l [1,0,1,0,0],.b 0,.c [1,1]],⟨[5],⟨[shI],[.segs [.fn 45 [] []]]⟩⟩,fun p=>some (.inl p.1.1)⟩,⟨[.c [1,1,0],.c [1,1,1]],⟨[],⟨[],[.segs [.fn 45 [] []]]⟩⟩,fun p=>some (.inr ())⟩] (fun _=>[]) (fun k e=>match e with | .inl x=>k (.inl ((x,()),((((),()),()),()))) | .inr x=>k (.inr (.inl ((),((((),()),()),()))))) N (fun m p=>by kernel_rfl) (hg:=(by rintro _ _ (_ | _)<;>rfl))
noncomputable def Apj(N:Nat):Spec:=mkS 100 ⟨[shL,.fn 85 [] [.own 0 0]],[.segs [.fn 45 [] []]]⟩ Akj (fun p=>Aeb N p.1.1) (fun k r=>k ((r,()),((((),()),()),())))
theorem Ad9(N:Nat):A0 Tryz.prog (Apj N):=mkF (R:=Int) (m0:=1) (Agf N) [Aj2 N] (fun r=>some r.1.1) [] Tryz.func100 (fun p=>by kernel_rfl) (by kernel_rfl) (fun _=>by kernel_rfl)

def Ae1(N:Nat)(s:Li):Option Bool:=
 (Aeb N s).bind fun x_1=>
 some (decide (0≤x_1))
noncomputable def Aow(N:Nat):Spec:=mkS 84 ⟨[shL,.fn 85 [] [.own 0 0]],[.segs [.fn 45 [] []]]⟩ [⟨[.b],[.segs [.fn 45 [] []]]⟩] (fun p=>Ae1 N p.1.1) (fun k r=>k ((r,()),((((),()),()),())))
theorem Ac5(N:Nat):A0 Tryz.prog (Aow N):=mkF (R:=Bool) (m0:=1) [⟨_,Ad9 N⟩] [] (fun r=>some r.1.1) [] Tryz.func84 (fun p=>by kernel_rfl) (by kernel_rfl) (fun _=>by kernel_rfl)

def Rf(N:Nat)(l:Li):Option Bool:=
 (Ae1 N l).bind fun x_1=>
 some (!x_1)
noncomputable def Ajg(N:Nat):Spec:=mkS 44 ⟨[shL,.fn 45 [] []],[]⟩ [⟨[.b],[]⟩] (fun p=>Rf N p.1.1) (fun k r=>k ((r,()),()))
theorem A4h(N:Nat):A0 Tryz.prog (Ajg N):=mkF (R:=Bool) (m0:=0) [⟨_,Ac5 N⟩] [] (fun r=>some r.1.1) [] Tryz.func44 (fun p=>by kernel_rfl) (by kernel_rfl) (fun _=>by kernel_rfl)

def Pu(N:Nat)(l:Li):Option Bool:=
 (Rf N l).bind fun x_1=>
 some x_1
noncomputable def Ahe(N:Nat):Spec:=mkS 43 ⟨[shL],[]⟩ [⟨[.b],[]⟩] (fun p=>Pu N p.1.1) (fun k r=>k ((r,()),()))
theorem A4v(N:Nat):A0 Tryz.prog (Ahe N):=mkF (R:=Bool) (m0:=0) [⟨_,A4h N⟩] [] (fun r=>some r.1.1) [] Tryz.func43 (fun p=>by kernel_rfl) (by kernel_rfl) (fun _=>by kernel_rfl)

def Jm(N:Nat)(x:Li)(g:(Li×(Int×(Ll×(Ll×Li))))):Option (Bool×(Li×(Int×(Ll×(Ll×Li))))):=
 (Zd N x g).bind fun x_1=>
 some ((!x_1),g)
noncomputable def A6r(N:Nat):Spec:=mkS 87 ⟨[shL,.own 0 0],[.segs [.fn 42 [] [.fe (.pair (.sl (.int .i64)) (.pair (.int .i64) (.pair (.sl (.sl (.int .i64))) (.pair (.sl (.sl (.int .i64))) (.sl (.int .i64))))))]]]⟩ [⟨[.b],[.segs [.fn 42 [] [.fe (.pair (.sl (.int .i64)) (.pair (.int .i64) (.pair (.sl (.sl (.int .i64))) (.pair (.sl (.sl (.int .i64))) (.sl (.int .i64))))))]]]⟩] (fun p=>Jm N p.1.1 p.2.1.1.2.1) (fun k r=>k ((r.1,()),((((),(r.2,())),()),())))
theorem X5(N:Nat):A0 Tryz.prog (A6r N):=mkF (R:=Bool×(Li×(Int×(Ll×(Ll×Li))))) (m0:=1) [⟨_,A66 N⟩] [] (fun r=>some (r.1.1,r.2.1.1.2.1)) [] Tryz.func87 (fun p=>by kernel_rfl) (by kernel_rfl) (fun _=>by kernel_rfl)

def ixflo_l1(N:Nat):Nat→Ll→Int→Int→((Li×(Int×(Ll×(Ll×Li)))))→Option ((Int×(Li×(Int×(Ll×(Ll×Li)))))⊕((Li×(Int×(Ll×(Ll×Li))))))
 | 0,_,_,_,_=>none
 | n_+1,s,u,u2,f=>
  br (decide (u2<u))
   (idx s u2 fun x_1=>
   (Jm N x_1 f).bind fun(x_2,y_3)=>
   br x_2
    (some (.inl (u2,y_3)))
    (chk (u2+1)<|
    ixflo_l1 N n_ s u (u2+1) y_3))
   (some (.inr f))
def ixflo_S(N:Nat)(s:Ll)(f:(Li×(Int×(Ll×(Ll×Li))))):Option (Int×(Li×(Int×(Ll×(Ll×Li))))):=
 (ixflo_l1 N N s (s.length:Int) 0 f).bind fun e=>match e with
 | .inl (i_4,g_5)=>
  some (i_4,g_5)
 | .inr g_6=>
  some (-1,g_6)
noncomputable def Aa7(N:Nat):Oks:=[⟨_,X5 N⟩]
abbrev Afc:List StSh:=[⟨[shI],[.segs [.fn 42 [] [.fe (.pair (.sl (.int .i64)) (.pair (.int .i64) (.pair (.sl (.sl (.int .i64))) (.pair (.sl (.sl (.int .i64))) (.sl (.int .i64))))))]]]⟩]
noncomputable abbrev Ap9:Body:=mkB Tryz.f101 Afc 1
noncomputable def Ae5(N:Nat){top:Bool}:LpQ Ap9 top:=mkL (Z:=(Int×(Li×(Int×(Ll×(Ll×Li)))))⊕((Li×(Int×(Ll×(Ll×Li)))))) (Aa7 N) [] [.c [1,0,1,0,0,0],.c [1,0,1,0,0,1],.l [1,0,1,0,0],.b 0,.c [1,1]] ⟨[0,1,7,8],⟨[shQ,.fn 87 [] [.own 0 0],shI,shI],[.segs [.fn 42 [] [.fe (.pair (.sl (.int .i64)) (.pair (.int .i64) (.pair (.sl (.sl (.int .i64))) (.pair (.sl (.sl (.int .i64))) (.sl (.int .i64))))))]]]⟩⟩ (fun m p=>ixflo_l1 N m p.1.1 p.1.2.2.1 p.1.2.2.2.1 p.2.1.1.2.1) [⟨[.c [1,0,1,0,0,1,1,0,0,1,1,0,0],.c [1,0,1,0,0,1,1,0,0,1,1,0,1],.b 1,.c [1,0,1,0,0,1,1,1],.l [1,0,1,0,0],.b 0,.c [1,1]],⟨[5],⟨[shI],[.segs [.fn 42 [] [.fe (.pair (.sl (.int .i64)) (.pair (.int .i64) (.pair (.sl (.sl (.int .i64))) (.pair (.sl (.sl (.int .i64))) (.sl (.int .i64))))))]]]⟩⟩,fun p=>some (.inl (p.1.1,p.2.1.1.2.1))⟩,⟨[.c [1,1,0],.c [1,1,1]],⟨[],⟨[],[.segs [.fn 42 [] [.fe (.pair (.sl (.int .i64)) (.pair (.int .i64) (.pair (.sl (.sl (.int .i64))) (.pair (.sl (.sl (.int .i64))) (.sl (.int .i64))))))]]]⟩⟩,fun p=>some (.inr p.2.1.1.2.1)⟩] (fun _=>[]) (fun k e=>match e with | .inl x=>k (.inl ((x.1,()),((((),(x.2,())),()),()))) | .inr x=>k (.inr (.inl ((),((((),(x,())),()),()))))) N (fun m p=>by kernel_rfl) (hg:=(by rintro _ _ (_ | _)<;>rfl))
noncomputable def Ak9(N:Nat):Spec:=mkS 101 ⟨[shQ,.fn 87 [] [.own 0 0]],[.segs [.fn 42 [] [.fe (.pair (.sl (.int .i64)) (.pair (.int .i64) (.pair (.sl (.sl (.int .i64))) (.pair (.sl (.sl (.int .i64))) (.sl (.int .i64))))))]]]⟩ Afc (fun p=>ixflo_S N p.1.1 p.2.1.1.2.1) (fun k r=>k ((r.1,()),((((),(r.2,())),()),())))
theorem A9a(N:Nat):A0 Tryz.prog (Ak9 N):=mkF (R:=Int×(Li×(Int×(Ll×(Ll×Li))))) (m0:=1) (Aa7 N) [Ae5 N] (fun r=>some (r.1.1,r.2.1.1.2.1)) [] Tryz.func101 (fun p=>by kernel_rfl) (by kernel_rfl) (fun _=>by kernel_rfl)

def A5n(N:Nat)(s:Ll)(f:(Li×(Int×(Ll×(Ll×Li))))):Option (Bool×(Li×(Int×(Ll×(Ll×Li))))):=
 (ixflo_S N s f).bind fun(x_1,y_2)=>
 some ((decide (0≤x_1)),y_2)
noncomputable def Akd(N:Nat):Spec:=mkS 86 ⟨[shQ,.fn 87 [] [.own 0 0]],[.segs [.fn 42 [] [.fe (.pair (.sl (.int .i64)) (.pair (.int .i64) (.pair (.sl (.sl (.int .i64))) (.pair (.sl (.sl (.int .i64))) (.sl (.int .i64))))))]]]⟩ [⟨[.b],[.segs [.fn 42 [] [.fe (.pair (.sl (.int .i64)) (.pair (.int .i64) (.pair (.sl (.sl (.int .i64))) (.pair (.sl (.sl (.int .i64))) (.sl (.int .i64))))))]]]⟩] (fun p=>A5n N p.1.1 p.2.1.1.2.1) (fun k r=>k ((r.1,()),((((),(r.2,())),()),())))
theorem Abt(N:Nat):A0 Tryz.prog (Akd N):=mkF (R:=Bool×(Li×(Int×(Ll×(Ll×Li))))) (m0:=1) [⟨_,A9a N⟩] [] (fun r=>some (r.1.1,r.2.1.1.2.1)) [] Tryz.func86 (fun p=>by kernel_rfl) (by kernel_rfl) (fun _=>by kernel_rfl)

def Iv(N:Nat)(l:Ll)(holds:(Li×(Int×(Ll×(Ll×Li))))):Option Bool:=
 (A5n N l holds).bind fun(x_1,y_2)=>
 some (!x_1)
noncomputable def Acb(N:Nat):Spec:=mkS 47 ⟨[shQ,.fn 42 [] [.fe (.pair (.sl (.int .i64)) (.pair (.int .i64) (.pair (.sl (.sl (.int .i64))) (.pair (.sl (.sl (.int .i64))) (.sl (.int .i64))))))]],[]⟩ [⟨[.b],[]⟩] (fun p=>Iv N p.1.1 p.1.2.1.2.1) (fun k r=>k ((r,()),()))
theorem A12(N:Nat):A0 Tryz.prog (Acb N):=mkF (R:=Bool) (m0:=0) [⟨_,Abt N⟩] [] (fun r=>some r.1.1) [] Tryz.func47 (fun p=>by kernel_rfl) (by kernel_rfl) (fun _=>by kernel_rfl)

def Oi(N:Nat)(x:Li):Option Bool:=
 (Pu N x).bind fun x_1=>
 some (!x_1)
noncomputable def A98(N:Nat):Spec:=mkS 87 ⟨[shL,.own 0 0],[.segs [.fn 43 [] []]]⟩ [⟨[.b],[.segs [.fn 43 [] []]]⟩] (fun p=>Oi N p.1.1) (fun k r=>k ((r,()),((((),()),()),())))
theorem Y2(N:Nat):A0 Tryz.prog (A98 N):=mkF (R:=Bool) (m0:=1) [⟨_,A4v N⟩] [] (fun r=>some r.1.1) [] Tryz.func87 (fun p=>by kernel_rfl) (by kernel_rfl) (fun _=>by kernel_rfl)

def ixfva_l1(N:Nat):Nat→Ll→Int→Int→Option ((Int)⊕(Unit))
 | 0,_,_,_=>none
 | n_+1,s,u,u2=>
  br (decide (u2<u))
   (idx s u2 fun x_1=>
   (Oi N x_1).bind fun x_2=>
   br x_2
    (some (.inl u2))
    (chk (u2+1)<|
    ixfva_l1 N n_ s u (u2+1)))
   (some (.inr ()))
def A4b(N:Nat)(s:Ll):Option Int:=
 (ixfva_l1 N N s (s.length:Int) 0).bind fun e=>match e with
 | .inl i_3=>
  some i_3
 | .inr _=>
  some (-1)
noncomputable def Abz(N:Nat):Oks:=[⟨_,Y2 N⟩]
abbrev Agp:List StSh:=[⟨[shI],[.segs [.fn 43 [] []]]⟩]
noncomputable abbrev Aor:Body:=mkB Tryz.f101 Agp 1
noncomputable def Aeq(N:Nat){top:Bool}:LpQ Aor top:=mkL (Z:=(Int)⊕(Unit)) (Abz N) [] [.c [1,0,1,0,0,0],.c [1,0,1,0,0,1],.l [1,0,1,0,0],.b 0,.c [1,1]] ⟨[0,1,7,8],⟨[shQ,.fn 87 [] [.own 0 0],shI,shI],[.segs [.fn 43 [] []]]⟩⟩ (fun m p=>ixfva_l1 N m p.1.1 p.1.2.2.1 p.1.2.2.2.1) [⟨[.c [1,0,1,0,0,1,1,0,0,1,1,0,0],.c [1,0,1,0,0,1,1,0,0,1,1,0,1],.b 1,.c [1,0,1,0,0,1,1,1],.l [1,0,1,0,0],.b 0,.c [1,1]],⟨[5],⟨[shI],[.segs [.fn 43 [] []]]⟩⟩,fun p=>some (.inl p.1.1)⟩,⟨[.c [1,1,0],.c [1,1,1]],⟨[],⟨[],[.segs [.fn 43 [] []]]⟩⟩,fun p=>some (.inr ())⟩] (fun _=>[]) (fun k e=>match e with | .inl x=>k (.inl ((x,()),((((),()),()),()))) | .inr x=>k (.inr (.inl ((),((((),()),()),()))))) N (fun m p=>by kernel_rfl) (hg:=(by rintro _ _ (_ | _)<;>rfl))
noncomputable def Ao4(N:Nat):Spec:=mkS 101 ⟨[shQ,.fn 87 [] [.own 0 0]],[.segs [.fn 43 [] []]]⟩ Agp (fun p=>A4b N p.1.1) (fun k r=>k ((r,()),((((),()),()),())))
theorem Abx(N:Nat):A0 Tryz.prog (Ao4 N):=mkF (R:=Int) (m0:=1) (Abz N) [Aeq N] (fun r=>some r.1.1) [] Tryz.func101 (fun p=>by kernel_rfl) (by kernel_rfl) (fun _=>by kernel_rfl)

def A6b(N:Nat)(s:Ll):Option Bool:=
 (A4b N s).bind fun x_1=>
 some (decide (0≤x_1))
noncomputable def Ao6(N:Nat):Spec:=mkS 86 ⟨[shQ,.fn 87 [] [.own 0 0]],[.segs [.fn 43 [] []]]⟩ [⟨[.b],[.segs [.fn 43 [] []]]⟩] (fun p=>A6b N p.1.1) (fun k r=>k ((r,()),((((),()),()),())))
theorem Aan(N:Nat):A0 Tryz.prog (Ao6 N):=mkF (R:=Bool) (m0:=1) [⟨_,Abx N⟩] [] (fun r=>some r.1.1) [] Tryz.func86 (fun p=>by kernel_rfl) (by kernel_rfl) (fun _=>by kernel_rfl)

def Ie(N:Nat)(l:Ll):Option Bool:=
 (A6b N l).bind fun x_1=>
 some (!x_1)
noncomputable def Ac7(N:Nat):Spec:=mkS 47 ⟨[shQ,.fn 43 [] []],[]⟩ [⟨[.b],[]⟩] (fun p=>Ie N p.1.1) (fun k r=>k ((r,()),()))
theorem A05(N:Nat):A0 Tryz.prog (Ac7 N):=mkF (R:=Bool) (m0:=0) [⟨_,Aan N⟩] [] (fun r=>some r.1.1) [] Tryz.func47 (fun p=>by kernel_rfl) (by kernel_rfl) (fun _=>by kernel_rfl)

def Ry(N:Nat)(n:Int):Option Bool:=
 (Gi N n 1 9).bind fun x_1=>
 some x_1
noncomputable def Ai0(N:Nat):Spec:=mkS 48 ⟨[shI],[]⟩ [⟨[.b],[]⟩] (fun p=>Ry N p.1.1) (fun k r=>k ((r,()),()))
theorem A55(N:Nat):A0 Tryz.prog (Ai0 N):=mkF (R:=Bool) (m0:=0) [⟨_,Cf N⟩] [] (fun r=>some r.1.1) [] Tryz.func48 (fun p=>by kernel_rfl) (by kernel_rfl) (fun _=>by kernel_rfl)

def Ps(N:Nat)(n:Int):Option Bool:=
 (Gi N n 0 99).bind fun x_1=>
 some x_1
noncomputable def Air(N:Nat):Spec:=mkS 49 ⟨[shI],[]⟩ [⟨[.b],[]⟩] (fun p=>Ps N p.1.1) (fun k r=>k ((r,()),()))
theorem A44(N:Nat):A0 Tryz.prog (Air N):=mkF (R:=Bool) (m0:=0) [⟨_,Cf N⟩] [] (fun r=>some r.1.1) [] Tryz.func49 (fun p=>by kernel_rfl) (by kernel_rfl) (fun _=>by kernel_rfl)

def Tk(N:Nat)(x:Int):Option Bool:=
 (Ry N x).bind fun x_1=>
 some (!x_1)
noncomputable def Aca(N:Nat):Spec:=mkS 85 ⟨[shI,.own 0 0],[.segs [.fn 48 [] []]]⟩ [⟨[.b],[.segs [.fn 48 [] []]]⟩] (fun p=>Tk N p.1.1) (fun k r=>k ((r,()),((((),()),()),())))
theorem A0z(N:Nat):A0 Tryz.prog (Aca N):=mkF (R:=Bool) (m0:=1) [⟨_,A55 N⟩] [] (fun r=>some r.1.1) [] Tryz.func85 (fun p=>by kernel_rfl) (by kernel_rfl) (fun _=>by kernel_rfl)

def Qy(N:Nat):Nat→Li→Int→Int→Option ((Int)⊕(Unit))
 | 0,_,_,_=>none
 | n_+1,s,u,u2=>
  br (decide (u2<u))
   (idx s u2 fun x_1=>
   (Tk N x_1).bind fun x_2=>
   br x_2
    (some (.inl u2))
    (chk (u2+1)<|
    Qy N n_ s u (u2+1)))
   (some (.inr ()))
def Ae2(N:Nat)(s:Li):Option Int:=
 (Qy N N s (s.length:Int) 0).bind fun e=>match e with
 | .inl i_3=>
  some i_3
 | .inr _=>
  some (-1)
noncomputable def Agi(N:Nat):Oks:=[⟨_,A0z N⟩]
abbrev Ako:List StSh:=[⟨[shI],[.segs [.fn 48 [] []]]⟩]
noncomputable abbrev Aqu:Body:=mkB Tryz.f100 Ako 1
noncomputable def Ai9(N:Nat){top:Bool}:LpQ Aqu top:=mkL (Z:=(Int)⊕(Unit)) (Agi N) [] [.c [1,0,1,0,0,0],.c [1,0,1,0,0,1],.l [1,0,1,0,0],.b 0,.c [1,1]] ⟨[0,1,7,8],⟨[shL,.fn 85 [] [.own 0 0],shI,shI],[.segs [.fn 48 [] []]]⟩⟩ (fun m p=>Qy N m p.1.1 p.1.2.2.1 p.1.2.2.2.1) [⟨[.c [1,0,1,0,0,1,1,0,0,1,1,0,0],.c [1,0,1,0,0,1,1,0,0,1,1,0,1],.b 1,.c [1,0,1,0,0,1,1,1],.l [1,0,1,0,0],.b 0,.c [1,1]],⟨[5],⟨[shI],[.segs [.fn 48 [] []]]⟩⟩,fun p=>some (.inl p.1.1)⟩,⟨[.c [1,1,0],.c [1,1,1]],⟨[],⟨[],[.segs [.fn 48 [] []]]⟩⟩,fun p=>some (.inr ())⟩] (fun _=>[]) (fun k e=>match e with | .inl x=>k (.inl ((x,()),((((),()),()),()))) | .inr x=>k (.inr (.inl ((),((((),()),()),()))))) N (fun m p=>by kernel_rfl) (hg:=(by rintro _ _ (_ | _)<;>rfl))
noncomputable def Ao8(N:Nat):Spec:=mkS 100 ⟨[shL,.fn 85 [] [.own 0 0]],[.segs [.fn 48 [] []]]⟩ Ako (fun p=>Ae2 N p.1.1) (fun k r=>k ((r,()),((((),()),()),())))
theorem Adk(N:Nat):A0 Tryz.prog (Ao8 N):=mkF (R:=Int) (m0:=1) (Agi N) [Ai9 N] (fun r=>some r.1.1) [] Tryz.func100 (fun p=>by kernel_rfl) (by kernel_rfl) (fun _=>by kernel_rfl)

def Adg(N:Nat)(s:Li):Option Bool:=
 (Ae2 N s).bind fun x_1=>
 some (decide (0≤x_1))
noncomputable def Apd(N:Nat):Spec:=mkS 84 ⟨[shL,.fn 85 [] [.own 0 0]],[.segs [.fn 48 [] []]]⟩ [⟨[.b],[.segs [.fn 48 [] []]]⟩] (fun p=>Adg N p.1.1) (fun k r=>k ((r,()),((((),()),()),())))
theorem Acq(N:Nat):A0 Tryz.prog (Apd N):=mkF (R:=Bool) (m0:=1) [⟨_,Adk N⟩] [] (fun r=>some r.1.1) [] Tryz.func84 (fun p=>by kernel_rfl) (by kernel_rfl) (fun _=>by kernel_rfl)

def R7(N:Nat)(l:Li):Option Bool:=
 (Adg N l).bind fun x_1=>
 some (!x_1)
noncomputable def Ajb(N:Nat):Spec:=mkS 44 ⟨[shL,.fn 48 [] []],[]⟩ [⟨[.b],[]⟩] (fun p=>R7 N p.1.1) (fun k r=>k ((r,()),()))
theorem A5u(N:Nat):A0 Tryz.prog (Ajb N):=mkF (R:=Bool) (m0:=0) [⟨_,Acq N⟩] [] (fun r=>some r.1.1) [] Tryz.func44 (fun p=>by kernel_rfl) (by kernel_rfl) (fun _=>by kernel_rfl)

def Se(N:Nat)(x:Int):Option Bool:=
 (Ps N x).bind fun x_1=>
 some (!x_1)
noncomputable def Ada(N:Nat):Spec:=mkS 85 ⟨[shI,.own 0 0],[.segs [.fn 49 [] []]]⟩ [⟨[.b],[.segs [.fn 49 [] []]]⟩] (fun p=>Se N p.1.1) (fun k r=>k ((r,()),((((),()),()),())))
theorem A0c(N:Nat):A0 Tryz.prog (Ada N):=mkF (R:=Bool) (m0:=1) [⟨_,A44 N⟩] [] (fun r=>some r.1.1) [] Tryz.func85 (fun p=>by kernel_rfl) (by kernel_rfl) (fun _=>by kernel_rfl)

def Ra(N:Nat):Nat→Li→Int→Int→Option ((Int)⊕(Unit))
 | 0,_,_,_=>none
 | n_+1,s,u,u2=>
  br (decide (u2<u))
   (idx s u2 fun x_1=>
   (Se N x_1).bind fun x_2=>
   br x_2
    (some (.inl u2))
    (chk (u2+1)<|
    Ra N n_ s u (u2+1)))
   (some (.inr ()))
def Acz(N:Nat)(s:Li):Option Int:=
 (Ra N N s (s.length:Int) 0).bind fun e=>match e with
 | .inl i_3=>
  some i_3
 | .inr _=>
  some (-1)
noncomputable def Afg(N:Nat):Oks:=[⟨_,A0c N⟩]
abbrev Akm:List StSh:=[⟨[shI],[.segs [.fn 49 [] []]]⟩]
noncomputable abbrev Aqp:Body:=mkB Tryz.f100 Akm 1
noncomputable def Aig(N:Nat){top:Bool}:LpQ Aqp top:=mkL (Z:=(Int)⊕(Unit)) (Afg N) [] [.c [1,0,1,0,0,0],.c [1,0,1,0,0,1],.l [1,0,1,0,0],.b 0,.c [1,1]] ⟨[0,1,7,8],⟨[shL,.fn 85 [] [.own 0 0],shI,shI],[.segs [.fn 49 [] []]]⟩⟩ (fun m p=>Ra N m p.1.1 p.1.2.2.1 p.1.2.2.2.1) [⟨[.c [1,0,1,0,0,1,1,0,0,1,1,0,0],.c [1,0,1,0,0,1,1,0,0,1,1,0,1],.b 1,.c [1,0,1,0,0,1,1,1],.l [1,0,1,0,0],.b 0,.c [1,1]],⟨[5],⟨[shI],[.segs [.fn 49 [] []]]⟩⟩,fun p=>some (.inl p.1.1)⟩,⟨[.c [1,1,0],.c [1,1,1]],⟨[],⟨[],[.segs [.fn 49 [] []]]⟩⟩,fun p=>some (.inr ())⟩] (fun _=>[]) (fun k e=>match e with | .inl x=>k (.inl ((x,()),((((),()),()),()))) | .inr x=>k (.inr (.inl ((),((((),()),()),()))))) N (fun m p=>by kernel_rfl) (hg:=(by rintro _ _ (_ | _)<;>rfl))
noncomputable def Apm(N:Nat):Spec:=mkS 100 ⟨[shL,.fn 85 [] [.own 0 0]],[.segs [.fn 49 [] []]]⟩ Akm (fun p=>Acz N p.1.1) (fun k r=>k ((r,()),((((),()),()),())))
theorem Ad3(N:Nat):A0 Tryz.prog (Apm N):=mkF (R:=Int) (m0:=1) (Afg N) [Aig N] (fun r=>some r.1.1) [] Tryz.func100 (fun p=>by kernel_rfl) (by kernel_rfl) (fun _=>by kernel_rfl)

def Adb(N:Nat)(s:Li):Option Bool:=
 (Acz N s).bind fun x_1=>
 some (decide (0≤x_1))
noncomputable def Aoc(N:Nat):Spec:=mkS 84 ⟨[shL,.fn 85 [] [.own 0 0]],[.segs [.fn 49 [] []]]⟩ [⟨[.b],[.segs [.fn 49 [] []]]⟩] (fun p=>Adb N p.1.1) (fun k r=>k ((r,()),((((),()),()),())))
theorem Aes(N:Nat):A0 Tryz.prog (Aoc N):=mkF (R:=Bool) (m0:=1) [⟨_,Ad3 N⟩] [] (fun r=>some r.1.1) [] Tryz.func84 (fun p=>by kernel_rfl) (by kernel_rfl) (fun _=>by kernel_rfl)

def Qj(N:Nat)(l:Li):Option Bool:=
 (Adb N l).bind fun x_1=>
 some (!x_1)
noncomputable def Ajk(N:Nat):Spec:=mkS 44 ⟨[shL,.fn 49 [] []],[]⟩ [⟨[.b],[]⟩] (fun p=>Qj N p.1.1) (fun k r=>k ((r,()),()))
theorem A68(N:Nat):A0 Tryz.prog (Ajk N):=mkF (R:=Bool) (m0:=0) [⟨_,Aes N⟩] [] (fun r=>some r.1.1) [] Tryz.func44 (fun p=>by kernel_rfl) (by kernel_rfl) (fun _=>by kernel_rfl)

def Jy(N:Nat)(d:Li)(d2:Int)(d3 d4:Ll)(d5:Li):Option Int:=
 (Gi N (d.length:Int) 1 5).bind fun x_1=>
 br (!x_1)
  (some 2)
  (br (decide (6<(d3.length:Int)))
   (some 2)
   (br (decide (6<(d4.length:Int)))
    (some 2)
    ((Iv N d3 (d,d2,d3,d4,d5)).bind fun x_2=>
    br (!x_2)
     (some 2)
     ((Iv N d4 (d,d2,d3,d4,d5)).bind fun x_3=>
     br (!x_3)
      (some 2)
      (br (!decide ((d5.length:Int)=(d3.length:Int)))
       (some 2)
       ((R7 N d).bind fun x_4=>
       br (!x_4)
        (some 3)
        ((Gi N d2 0 3).bind fun x_5=>
        br (!x_5)
         (some 3)
         ((Qj N d5).bind fun x_6=>
         br (!x_6)
          (some 3)
          ((Ie N d3).bind fun x_7=>
          br (!x_7)
           (some 3)
           ((Ie N d4).bind fun x_8=>
           br (!x_8)
            (some 3)
            (some 0)))))))))))
noncomputable def Ak2(N:Nat):Spec:=mkS 10 ⟨[shG],[]⟩ [⟨[shI],[]⟩] (fun p=>Jy N p.1.1.1 p.1.1.2.1 p.1.1.2.2.1 p.1.1.2.2.2.1 p.1.1.2.2.2.2.1) (fun k r=>k ((r,()),()))
theorem Hk(N:Nat):A0 Tryz.prog (Ak2 N):=mkF (R:=Int) (m0:=0) [⟨_,Cf N⟩,⟨_,A12 N⟩,⟨_,A05 N⟩,⟨_,A5u N⟩,⟨_,A68 N⟩] [] (fun r=>some r.1.1) [] Tryz.func10 (fun p=>by kernel_rfl) (by kernel_rfl) (fun _=>by kernel_rfl)

def Dv(N:Nat)(rec:Int→Li→Int→Li→Ll→Int→Int→Ll→Int→Int→Li→Int→Int→Li→Int→Ll→Ll→Li→Li→Int→Ll→Ll→Li→Li→Li→Option (Int×Li×Ll×Int×Int×Ll×Int×Int×Li×Int×Ll×Ll×Li×Li×Int×Ll×Ll×Li×Li×Li))(i:Int)(a:Li)(k:Int)(b:Li)(u:Ll)(u2 u3:Int)(u4:Ll)(u5 u6:Int)(u7:Li)(u8 u9:Int)(d:Li)(d2:Int)(d3 d4:Ll)(d5 out:Li)(out2:Int)(out3 out4:Ll)(out5 out6 out7:Li):Option (Int×Li×Ll×Int×Int×Ll×Int×Int×Li×Int×Ll×Ll×Li×Li×Int×Ll×Ll×Li×Li×Li):=
 chk (u9+1)<|
 rec i a k b u u2 u3 u4 u5 u6 u7 u8 (u9+1) d d2 d3 d4 d5 out out2 out3 out4 out5 out6 out7
def opened_l3(N:Nat):Nat→Int→Li→Int→Li→Ll→Int→Int→Ll→Int→Int→Li→Int→Int→Li→Int→Ll→Ll→Li→Li→Int→Ll→Ll→Li→Li→Li→Option (Int×Li×Ll×Int×Int×Ll×Int×Int×Li×Int×Ll×Ll×Li×Li×Int×Ll×Ll×Li×Li×Li)
 | 0,_,_,_,_,_,_,_,_,_,_,_,_,_,_,_,_,_,_,_,_,_,_,_,_,_=>none
 | n_+1,i,a,k,b,u,u2,u3,u4,u5,u6,u7,u8,u9,d,d2,d3,d4,d5,out,out2,out3,out4,out5,out6,out7=>
  br (decide (u9<u8))
   (idx u7 u9 fun x_4=>
   br (decide (x_4=-1))
    (Dv N (opened_l3 N n_) i a k b u u2 u3 u4 u5 u6 u7 u8 u9 d d2 d3 d4 d5 out out2 out3 out4 out5 out6 out7)
    (idx b u9 fun x_5=>
    br (decide (x_5=-1))
     (Dv N (opened_l3 N n_) i a k b u u2 u3 u4 u5 u6 u7 u8 u9 d d2 d3 d4 d5 out out2 out3 out4 out5 out6 out7)
     (idx b u9 fun x_6=>
     br (decide (x_4=x_6))
      (rng i 6<|
      rng k 6<|
      get out6 ((i.toNat*6)+k.toNat) fun x_7=>
      idx d u9 fun x_8=>
      chk (x_7+x_8)<|
      rng i 6<|
      rng k 6<|
      get out6 ((i.toNat*6)+k.toNat) fun _=>
      Dv N (opened_l3 N n_) i a k b u u2 u3 u4 u5 u6 u7 u8 u9 d d2 d3 d4 d5 out out2 out3 out4 out5 (out6.set ((i.toNat*6)+k.toNat) (x_7+x_8)) out7)
      (rng i 6<|
      rng k 6<|
      get out7 ((i.toNat*6)+k.toNat) fun x_10=>
      chk (x_10+1)<|
      rng i 6<|
      rng k 6<|
      get out7 ((i.toNat*6)+k.toNat) fun _=>
      Dv N (opened_l3 N n_) i a k b u u2 u3 u4 u5 u6 u7 u8 u9 d d2 d3 d4 d5 out out2 out3 out4 out5 out6 (out7.set ((i.toNat*6)+k.toNat) (x_10+1))))))
   (some ((i,a,u,u2,u3,u4,u5,u6,d,d2,d3,d4,d5,out,out2,out3,out4,out5,out6,out7)))
def opened_l2(N:Nat):Nat→Int→Li→Ll→Int→Int→Ll→Int→Int→Li→Int→Ll→Ll→Li→Li→Int→Ll→Ll→Li→Li→Li→Option (Ll×Int×Int×Li×Int×Ll×Ll×Li×Li×Int×Ll×Ll×Li×Li×Li)
 | 0,_,_,_,_,_,_,_,_,_,_,_,_,_,_,_,_,_,_,_,_=>none
 | n_+1,i,a,u,u2,u3,u4,u5,u6,d,d2,d3,d4,d5,out,out2,out3,out4,out5,out6,out7=>
  br (decide (u6<u5))
   (idx u4 u6 fun x_3=>
   (opened_l3 N N i a u6 x_3 u u2 u3 u4 u5 u6 a (a.length:Int) 0 d d2 d3 d4 d5 out out2 out3 out4 out5 out6 out7).bind fun(i_12,a_13,u_14,u2_15,u3_16,u4_17,u5_18,u6_19,d_20,d2_21,d3_22,d4_23,d5_24,out_25,out2_26,out3_27,out4_28,out5_29,out6_30,out7_31)=>
   chk (u6_19+1)<|
   opened_l2 N n_ i_12 a_13 u_14 u2_15 u3_16 u4_17 u5_18 (u6_19+1) d_20 d2_21 d3_22 d4_23 d5_24 out_25 out2_26 out3_27 out4_28 out5_29 out6_30 out7_31)
   (some ((u,u2,u3,d,d2,d3,d4,d5,out,out2,out3,out4,out5,out6,out7)))
def opened_l1(N:Nat):Nat→Ll→Int→Int→Li→Int→Ll→Ll→Li→Li→Int→Ll→Ll→Li→Li→Li→Option (Li×Int×Ll×Ll×Li×Li×Li)
 | 0,_,_,_,_,_,_,_,_,_,_,_,_,_,_,_=>none
 | n_+1,u,u2,u3,d,d2,d3,d4,d5,out,out2,out3,out4,out5,out6,out7=>
  br (decide (u3<u2))
   (idx u u3 fun x_2=>
   (opened_l2 N N u3 x_2 u u2 u3 d4 (d4.length:Int) 0 d d2 d3 d4 d5 out out2 out3 out4 out5 out6 out7).bind fun(u_32,u2_33,u3_34,d_35,d2_36,d3_37,d4_38,d5_39,out_40,out2_41,out3_42,out4_43,out5_44,out6_45,out7_46)=>
   chk (u3_34+1)<|
   opened_l1 N n_ u_32 u2_33 (u3_34+1) d_35 d2_36 d3_37 d4_38 d5_39 out_40 out2_41 out3_42 out4_43 out5_44 out6_45 out7_46)
   (some ((out,out2,out3,out4,out5,out6,out7)))
def Aw(N:Nat)(d:Li)(d2:Int)(d3 d4:Ll)(d5:Li):Option ((Dk×Int)⊕(Int)):=
 (Jy N d d2 d3 d4 d5).bind fun x_1=>
 br (!decide (x_1=0))
  (some (.inr x_1))
  ((opened_l1 N N d3 (d3.length:Int) 0 d d2 d3 d4 d5 d d2 d3 d4 d5 (List.replicate 36 (0:Int)) (List.replicate 36 (0:Int))).bind fun(out_47,out2_48,out3_49,out4_50,out5_51,out6_52,out7_53)=>
  some (.inl ((out_47,out2_48,out3_49,out4_50,out5_51,out6_52,out7_53,()),0)))
noncomputable def J0(N:Nat):Oks:=[⟨_,Hk N⟩]
abbrev A6l:List StSh:=[⟨[shD,shI],[]⟩,⟨[.nilp,shI],[]⟩]
noncomputable abbrev Q5:Body:=mkB Tryz.f62 A6l 0
abbrev R4:List PI:=[.c [1,1,1,0,1,0,0,1,1,0,0,1,1,0,0,1,1,0,0,1,1,0,0,0],.c [1,1,1,0,1,0,0,1,1,0,0,1,1,0,0,1,1,0,0,1,1,0,0,1],.l [1,1,1,0,1,0,0,1,1,0,0,1,1,0,0,1,1,0,0,1,1,0,0],.b 4,.b 3,.c [1,1,1,0,1,0,0,1,1,0,0,1,1,0,0,1,1,1],.l [1,1,1,0,1,0,0,1,1,0,0,1,1,0,0],.b 2,.b 1,.c [1,1,1,0,1,0,0,1,1,1],.l [1,1,1,0,1,0,0],.b 0,.c [1,1,1,1]]
abbrev Qu:Sta:=⟨[1,5,6,7,8,9,21,22,23,29,30,31,36,37,38],⟨[.own 0 0,.own 1 0,shI,shL,shI,shL,shQ,shI,shI,shQ,shI,shI,shL,shI,shI],[.segs [shL,shI,shQ,shQ,shL],.segs [shL,shI,shQ,shQ,shL,.arr (.int .i64) 36,.arr (.int .i64) 36]]⟩⟩
abbrev Aav(rec:Int→Li→Int→Li→Ll→Int→Int→Ll→Int→Int→Li→Int→Int→Li→Int→Ll→Ll→Li→Li→Int→Ll→Ll→Li→Li→Li→Option (Int×Li×Ll×Int×Int×Ll×Int×Int×Li×Int×Ll×Ll×Li×Li×Int×Ll×Ll×Li×Li×Li)):Leaf (Int×Li×Ll×Int×Int×Ll×Int×Int×Li×Int×Ll×Ll×Li×Li×Int×Ll×Ll×Li×Li×Li):=⟨R4,Qu,fun p=>rec p.1.2.2.1 p.1.2.2.2.1 p.1.2.2.2.2.1 p.1.2.2.2.2.2.1 p.1.2.2.2.2.2.2.1 p.1.2.2.2.2.2.2.2.1 p.1.2.2.2.2.2.2.2.2.1 p.1.2.2.2.2.2.2.2.2.2.1 p.1.2.2.2.2.2.2.2.2.2.2.1 p.1.2.2.2.2.2.2.2.2.2.2.2.1 p.1.2.2.2.2.2.2.2.2.2.2.2.2.1 p.1.2.2.2.2.2.2.2.2.2.2.2.2.2.1 p.1.2.2.2.2.2.2.2.2.2.2.2.2.2.2.1 p.2.1.1 p.2.1.2.1 p.2.1.2.2.1 p.2.1.2.2.2.1 p.2.1.2.2.2.2.1 p.2.2.1.1 p.2.2.1.2.1 p.2.2.1.2.2.1 p.2.2.1.2.2.2.1 p.2.2.1.2.2.2.2.1 p.2.2.1.2.2.2.2.2.1 p.2.2.1.2.2.2.2.2.2.1⟩
abbrev Qk:Leaf (Int×Li×Ll×Int×Int×Ll×Int×Int×Li×Int×Ll×Ll×Li×Li×Int×Ll×Ll×Li×Li×Li):=⟨[.c [1,1,1,0,1,0,0,1,1,0,0,1,1,0,0,1,1,1],.l [1,1,1,0,1,0,0,1,1,0,0,1,1,0,0],.b 2,.b 1,.c [1,1,1,0,1,0,0,1,1,1],.l [1,1,1,0,1,0,0],.b 0,.c [1,1,1,1]],⟨[1,5,6,7,21,22,23,29,30,31],⟨[.own 0 0,.own 1 0,shI,shL,shQ,shI,shI,shQ,shI,shI],[.segs [shL,shI,shQ,shQ,shL],.segs [shL,shI,shQ,shQ,shL,.arr (.int .i64) 36,.arr (.int .i64) 36]]⟩⟩,fun p=>some ((p.1.2.2.1,p.1.2.2.2.1,p.1.2.2.2.2.1,p.1.2.2.2.2.2.1,p.1.2.2.2.2.2.2.1,p.1.2.2.2.2.2.2.2.1,p.1.2.2.2.2.2.2.2.2.1,p.1.2.2.2.2.2.2.2.2.2.1,p.2.1.1,p.2.1.2.1,p.2.1.2.2.1,p.2.1.2.2.2.1,p.2.1.2.2.2.2.1,p.2.2.1.1,p.2.2.1.2.1,p.2.2.1.2.2.1,p.2.2.1.2.2.2.1,p.2.2.1.2.2.2.2.1,p.2.2.1.2.2.2.2.2.1,p.2.2.1.2.2.2.2.2.2.1))⟩
noncomputable def A83(N:Nat)(rec:Int→Li→Int→Li→Ll→Int→Int→Ll→Int→Int→Li→Int→Int→Li→Int→Ll→Ll→Li→Li→Int→Ll→Ll→Li→Li→Li→Option (Int×Li×Ll×Int×Int×Ll×Int×Int×Li×Int×Ll×Ll×Li×Li×Int×Ll×Ll×Li×Li×Li)){top:Bool}:JnQ (Z:=Int×Li×Ll×Int×Int×Ll×Int×Int×Li×Int×Ll×Ll×Li×Li×Int×Ll×Ll×Li×Li×Li) Q5 top none [Aav rec,Qk]:=mkJ (J0 N) [] [] ⟨[.c [1,1,1,0,1,0,0,1,1,0,0,1,1,0,0,1,1,0,0,1,1,0,0,1,1,1],.l [1,1,1,0,1,0,0,1,1,0,0,1,1,0,0,1,1,0,0,1,1,0,0],.b 4,.b 3,.c [1,1,1,0,1,0,0,1,1,0,0,1,1,0,0,1,1,1],.l [1,1,1,0,1,0,0,1,1,0,0,1,1,0,0],.b 2,.b 1,.c [1,1,1,0,1,0,0,1,1,1],.l [1,1,1,0,1,0,0],.b 0,.c [1,1,1,1]],⟨[1,5,6,7,8,9,21,22,23,29,30,31,36,37,38],⟨[.own 0 0,.own 1 0,shI,shL,shI,shL,shQ,shI,shI,shQ,shI,shI,shL,shI,shI],[.segs [shL,shI,shQ,shQ,shL],.segs [shL,shI,shQ,shQ,shL,.arr (.int .i64) 36,.arr (.int .i64) 36]]⟩⟩,fun p=>Dv N rec p.1.2.2.1 p.1.2.2.2.1 p.1.2.2.2.2.1 p.1.2.2.2.2.2.1 p.1.2.2.2.2.2.2.1 p.1.2.2.2.2.2.2.2.1 p.1.2.2.2.2.2.2.2.2.1 p.1.2.2.2.2.2.2.2.2.2.1 p.1.2.2.2.2.2.2.2.2.2.2.1 p.1.2.2.2.2.2.2.2.2.2.2.2.1 p.1.2.2.2.2.2.2.2.2.2.2.2.2.1 p.1.2.2.2.2.2.2.2.2.2.2.2.2.2.1 p.1.2.2.2.2.2.2.2.2.2.2.2.2.2.2.1 p.2.1.1 p.2.1.2.1 p.2.1.2.2.1 p.2.1.2.2.2.1 p.2.1.2.2.2.2.1 p.2.2.1.1 p.2.2.1.2.1 p.2.2.1.2.2.1 p.2.2.1.2.2.2.1 p.2.2.1.2.2.2.2.1 p.2.2.1.2.2.2.2.2.1 p.2.2.1.2.2.2.2.2.2.1⟩ (fun p=>by kernel_rfl)
noncomputable def M1(N:Nat){top:Bool}:LpQ Q5 top:=mkL (Z:=Int×Li×Ll×Int×Int×Ll×Int×Int×Li×Int×Ll×Ll×Li×Li×Int×Ll×Ll×Li×Li×Li) (J0 N) [] R4 Qu (fun m p=>opened_l3 N m p.1.2.2.1 p.1.2.2.2.1 p.1.2.2.2.2.1 p.1.2.2.2.2.2.1 p.1.2.2.2.2.2.2.1 p.1.2.2.2.2.2.2.2.1 p.1.2.2.2.2.2.2.2.2.1 p.1.2.2.2.2.2.2.2.2.2.1 p.1.2.2.2.2.2.2.2.2.2.2.1 p.1.2.2.2.2.2.2.2.2.2.2.2.1 p.1.2.2.2.2.2.2.2.2.2.2.2.2.1 p.1.2.2.2.2.2.2.2.2.2.2.2.2.2.1 p.1.2.2.2.2.2.2.2.2.2.2.2.2.2.2.1 p.2.1.1 p.2.1.2.1 p.2.1.2.2.1 p.2.1.2.2.2.1 p.2.1.2.2.2.2.1 p.2.2.1.1 p.2.2.1.2.1 p.2.2.1.2.2.1 p.2.2.1.2.2.2.1 p.2.2.1.2.2.2.2.1 p.2.2.1.2.2.2.2.2.1 p.2.2.1.2.2.2.2.2.2.1) [Qk] (fun m=>[A83 N (opened_l3 N m)]) (fun k e=>k (.inl (((),(),e.1,e.2.1,e.2.2.1,e.2.2.2.1,e.2.2.2.2.1,e.2.2.2.2.2.1,e.2.2.2.2.2.2.1,e.2.2.2.2.2.2.2.1,()),((e.2.2.2.2.2.2.2.2.1,e.2.2.2.2.2.2.2.2.2.1,e.2.2.2.2.2.2.2.2.2.2.1,e.2.2.2.2.2.2.2.2.2.2.2.1,e.2.2.2.2.2.2.2.2.2.2.2.2.1,()),(e.2.2.2.2.2.2.2.2.2.2.2.2.2.1,e.2.2.2.2.2.2.2.2.2.2.2.2.2.2.1,e.2.2.2.2.2.2.2.2.2.2.2.2.2.2.2.1,e.2.2.2.2.2.2.2.2.2.2.2.2.2.2.2.2.1,e.2.2.2.2.2.2.2.2.2.2.2.2.2.2.2.2.2.1,e.2.2.2.2.2.2.2.2.2.2.2.2.2.2.2.2.2.2.1,e.2.2.2.2.2.2.2.2.2.2.2.2.2.2.2.2.2.2.2,()),())))) N (fun m p=>by kernel_rfl)
noncomputable def Uu(N:Nat){top:Bool}:LpQ Q5 top:=mkL (Z:=Ll×Int×Int×Li×Int×Ll×Ll×Li×Li×Int×Ll×Ll×Li×Li×Li) (J0 N) [M1 N] [.c [1,1,1,0,1,0,0,1,1,0,0,1,1,0,0,0],.c [1,1,1,0,1,0,0,1,1,0,0,1,1,0,0,1],.l [1,1,1,0,1,0,0,1,1,0,0,1,1,0,0],.b 2,.b 1,.c [1,1,1,0,1,0,0,1,1,1],.l [1,1,1,0,1,0,0],.b 0,.c [1,1,1,1]] ⟨[1,5,6,7,21,22,23,29,30,31],⟨[.own 0 0,.own 1 0,shI,shL,shQ,shI,shI,shQ,shI,shI],[.segs [shL,shI,shQ,shQ,shL],.segs [shL,shI,shQ,shQ,shL,.arr (.int .i64) 36,.arr (.int .i64) 36]]⟩⟩ (fun m p=>opened_l2 N m p.1.2.2.1 p.1.2.2.2.1 p.1.2.2.2.2.1 p.1.2.2.2.2.2.1 p.1.2.2.2.2.2.2.1 p.1.2.2.2.2.2.2.2.1 p.1.2.2.2.2.2.2.2.2.1 p.1.2.2.2.2.2.2.2.2.2.1 p.2.1.1 p.2.1.2.1 p.2.1.2.2.1 p.2.1.2.2.2.1 p.2.1.2.2.2.2.1 p.2.2.1.1 p.2.2.1.2.1 p.2.2.1.2.2.1 p.2.2.1.2.2.2.1 p.2.2.1.2.2.2.2.1 p.2.2.1.2.2.2.2.2.1 p.2.2.1.2.2.2.2.2.2.1) [⟨[.c [1,1,1,0,1,0,0,1,1,1],.l [1,1,1,0,1,0,0],.b 0,.c [1,1,1,1]],⟨[1,5,21,22,23],⟨[.own 0 0,.own 1 0,shQ,shI,shI],[.segs [shL,shI,shQ,shQ,shL],.segs [shL,shI,shQ,shQ,shL,.arr (.int .i64) 36,.arr (.int .i64) 36]]⟩⟩,fun p=>some ((p.1.2.2.1,p.1.2.2.2.1,p.1.2.2.2.2.1,p.2.1.1,p.2.1.2.1,p.2.1.2.2.1,p.2.1.2.2.2.1,p.2.1.2.2.2.2.1,p.2.2.1.1,p.2.2.1.2.1,p.2.2.1.2.2.1,p.2.2.1.2.2.2.1,p.2.2.1.2.2.2.2.1,p.2.2.1.2.2.2.2.2.1,p.2.2.1.2.2.2.2.2.2.1))⟩] (fun _=>[]) (fun k e=>k (.inl (((),(),e.1,e.2.1,e.2.2.1,()),((e.2.2.2.1,e.2.2.2.2.1,e.2.2.2.2.2.1,e.2.2.2.2.2.2.1,e.2.2.2.2.2.2.2.1,()),(e.2.2.2.2.2.2.2.2.1,e.2.2.2.2.2.2.2.2.2.1,e.2.2.2.2.2.2.2.2.2.2.1,e.2.2.2.2.2.2.2.2.2.2.2.1,e.2.2.2.2.2.2.2.2.2.2.2.2.1,e.2.2.2.2.2.2.2.2.2.2.2.2.2.1,e.2.2.2.2.2.2.2.2.2.2.2.2.2.2,()),())))) N (fun m p=>by kernel_rfl)
noncomputable def A7j(N:Nat){top:Bool}:LpQ Q5 top:=mkL (Z:=Li×Int×Ll×Ll×Li×Li×Li) (J0 N) [M1 N,Uu N] [.c [1,1,1,0,1,0,0,0],.c [1,1,1,0,1,0,0,1],.l [1,1,1,0,1,0,0],.b 0,.c [1,1,1,1]] ⟨[1,5,21,22,23],⟨[.own 0 0,.own 1 0,shQ,shI,shI],[.segs [shL,shI,shQ,shQ,shL],.segs [shL,shI,shQ,shQ,shL,.arr (.int .i64) 36,.arr (.int .i64) 36]]⟩⟩ (fun m p=>opened_l1 N m p.1.2.2.1 p.1.2.2.2.1 p.1.2.2.2.2.1 p.2.1.1 p.2.1.2.1 p.2.1.2.2.1 p.2.1.2.2.2.1 p.2.1.2.2.2.2.1 p.2.2.1.1 p.2.2.1.2.1 p.2.2.1.2.2.1 p.2.2.1.2.2.2.1 p.2.2.1.2.2.2.2.1 p.2.2.1.2.2.2.2.2.1 p.2.2.1.2.2.2.2.2.2.1) [⟨[.c [1,1,1,1,0],.c [1,1,1,1,1]],⟨[5],⟨[.own 0 0],[.segs [shL,shI,shQ,shQ,shL,.arr (.int .i64) 36,.arr (.int .i64) 36]]⟩⟩,fun p=>some ((p.2.1.1,p.2.1.2.1,p.2.1.2.2.1,p.2.1.2.2.2.1,p.2.1.2.2.2.2.1,p.2.1.2.2.2.2.2.1,p.2.1.2.2.2.2.2.2.1))⟩] (fun _=>[]) (fun k e=>k (.inl (((),()),((e.1,e.2.1,e.2.2.1,e.2.2.2.1,e.2.2.2.2.1,e.2.2.2.2.2.1,e.2.2.2.2.2.2,()),())))) N (fun m p=>by kernel_rfl)
noncomputable def A1t(N:Nat):Spec:=mkS 62 ⟨[shG],[]⟩ A6l (fun p=>Aw N p.1.1.1 p.1.1.2.1 p.1.1.2.2.1 p.1.1.2.2.2.1 p.1.1.2.2.2.2.1) (fun k r=>match r with | .inl r=>k (.inl ((r.1,r.2,()),())) | .inr r=>k (.inr (((),r,()),())))
theorem Aj(N:Nat):A0 Tryz.prog (A1t N):=mkF (R:=(Dk×Int)⊕(Int)) (m0:=0) (J0 N) [M1 N,Uu N,A7j N] (fun r=>match r with | .inl r=>some (.inl (r.1.1,r.1.2.1)) | .inr r=>some (.inr r.1.2.1)) [] Tryz.func62 (fun p=>by kernel_rfl) (by kernel_rfl) (fun _=>by kernel_rfl) (by rintro _ _ (_ | _)<;>rfl) (by rintro (_ | _) z h<;>(cases h;rfl))

def Js(N:Nat)(d:Dk)(n:Int):Option Bool:=
 chk ((d.2.2.1.length:Int)-1)<|
 (Gi N n 0 ((d.2.2.1.length:Int)-1)).bind fun x_1=>
 some x_1
noncomputable def Alg(N:Nat):Spec:=mkS 69 ⟨[shD,shI],[]⟩ [⟨[.b],[]⟩] (fun p=>Js N p.1.1 p.1.2.1) (fun k r=>k ((r,()),()))
theorem Km(N:Nat):A0 Tryz.prog (Alg N):=mkF (R:=Bool) (m0:=0) [⟨_,Cf N⟩] [] (fun r=>some r.1.1) [] Tryz.func69 (fun p=>by kernel_rfl) (by kernel_rfl) (fun _=>by kernel_rfl)

def Cp(N:Nat)(d:Dk)(n:Int):Option Bool:=
 chk ((d.2.2.2.1.length:Int)-1)<|
 (Gi N n 0 ((d.2.2.2.1.length:Int)-1)).bind fun x_1=>
 some x_1
noncomputable def A20(N:Nat):Spec:=mkS 70 ⟨[shD,shI],[]⟩ [⟨[.b],[]⟩] (fun p=>Cp N p.1.1 p.1.2.1) (fun k r=>k ((r,()),()))
theorem Ch(N:Nat):A0 Tryz.prog (A20 N):=mkF (R:=Bool) (m0:=0) [⟨_,Cf N⟩] [] (fun r=>some r.1.1) [] Tryz.func70 (fun p=>by kernel_rfl) (by kernel_rfl) (fun _=>by kernel_rfl)

def I8(N:Nat)(d:Dk)(lost found:Int):Option Bool:=
 rng lost 6<|
 rng found 6<|
 get d.2.2.2.2.2.1 ((lost.toNat*6)+found.toNat) fun x_1=>
 br (decide (0<x_1))
  (rng lost 6<|
  rng found 6<|
  get d.2.2.2.2.2.2.1 ((lost.toNat*6)+found.toNat) fun x_2=>
  some (decide (x_2≤d.2.1)))
  (some false)
noncomputable def Aqi(N:Nat):Spec:=mkS 71 ⟨[shD,shI,shI],[]⟩ [⟨[.b],[]⟩] (fun p=>I8 N p.1.1 p.1.2.1 p.1.2.2.1) (fun k r=>k ((r,()),()))
theorem E4(N:Nat):A0 Tryz.prog (Aqi N):=mkF (R:=Bool) (m0:=0) [] [] (fun r=>some r.1.1) [] Tryz.func71 (fun p=>by kernel_rfl) (by kernel_rfl) (fun _=>by kernel_rfl)

def indexi_l1(N:Nat):Nat→Li→Int→Int→Int→Option ((Int)⊕(Unit))
 | 0,_,_,_,_=>none
 | n_+1,s,v,u,u2=>
  br (decide (u2<u))
   (idx s u2 fun x_1=>
   br (decide (v=x_1))
    (some (.inl u2))
    (chk (u2+1)<|
    indexi_l1 N n_ s v u (u2+1)))
   (some (.inr ()))
def Wz(N:Nat)(s:Li)(v:Int):Option Int:=
 (indexi_l1 N N s v (s.length:Int) 0).bind fun e=>match e with
 | .inl i_2=>
  some i_2
 | .inr _=>
  some (-1)
noncomputable def A23(N:Nat):Oks:=[]
abbrev Aaf:List StSh:=[⟨[shI],[]⟩]
noncomputable abbrev Ao2:Body:=mkB Tryz.f106 Aaf 0
noncomputable def A90(N:Nat){top:Bool}:LpQ Ao2 top:=mkL (Z:=(Int)⊕(Unit)) (A23 N) [] [.c [1,0,1,0,0,0],.c [1,0,1,0,0,1],.l [1,0,1,0,0],.b 0,.c [1,1]] ⟨[0,1,7,8],⟨[shL,shI,shI,shI],[]⟩⟩ (fun m p=>indexi_l1 N m p.1.1 p.1.2.1 p.1.2.2.1 p.1.2.2.2.1) [⟨[.c [1,0,1,0,0,1,1,0,0,1,1,0,0],.c [1,0,1,0,0,1,1,0,0,1,1,0,1],.b 1,.c [1,0,1,0,0,1,1,1],.l [1,0,1,0,0],.b 0,.c [1,1]],⟨[5],⟨[shI],[]⟩⟩,fun p=>some (.inl p.1.1)⟩,⟨[.c [1,1,0],.c [1,1,1]],⟨[],⟨[],[]⟩⟩,fun p=>some (.inr ())⟩] (fun _=>[]) (fun k e=>match e with | .inl x=>k (.inl ((x,()),())) | .inr x=>k (.inr (.inl ((),())))) N (fun m p=>by kernel_rfl) (hg:=(by rintro _ _ (_ | _)<;>rfl))
noncomputable def Aj7(N:Nat):Spec:=mkS 106 ⟨[shL,shI],[]⟩ Aaf (fun p=>Wz N p.1.1 p.1.2.1) (fun k r=>k ((r,()),()))
theorem A6c(N:Nat):A0 Tryz.prog (Aj7 N):=mkF (R:=Int) (m0:=0) (A23 N) [A90 N] (fun r=>some r.1.1) [] Tryz.func106 (fun p=>by kernel_rfl) (by kernel_rfl) (fun _=>by kernel_rfl)

def D3(N:Nat)(s:Li)(v:Int):Option Bool:=
 (Wz N s v).bind fun x_1=>
 some (decide (0≤x_1))
noncomputable def A64(N:Nat):Spec:=mkS 103 ⟨[shL,shI],[]⟩ [⟨[.b],[]⟩] (fun p=>D3 N p.1.1 p.1.2.1) (fun k r=>k ((r,()),()))
theorem C3(N:Nat):A0 Tryz.prog (A64 N):=mkF (R:=Bool) (m0:=0) [⟨_,A6c N⟩] [] (fun r=>some r.1.1) [] Tryz.func103 (fun p=>by kernel_rfl) (by kernel_rfl) (fun _=>by kernel_rfl)

def Ig(N:Nat)(rec:Dk→Li→Int→Int→Li→Option Li)(d:Dk)(u:Li)(u2 u3:Int)(l:Li):Option Li:=
 chk (u3+1)<|
 rec d u u2 (u3+1) l
def dworth_l1(N:Nat):Nat→Dk→Li→Int→Int→Li→Option Li
 | 0,_,_,_,_,_=>none
 | n_+1,d,u,u2,u3,l=>
  br (decide (u3<u2))
   (idx u u3 fun x_1=>
   br (!decide (x_1=-1))
    (rng u3 6<|
    rng x_1 6<|
    get d.2.2.2.2.2.1 ((u3.toNat*6)+x_1.toNat) fun x_2=>
    lim (l.length+[x_2].length)<|
    Ig N (dworth_l1 N n_) d u u2 u3 (l++[x_2]))
    (Ig N (dworth_l1 N n_) d u u2 u3 l))
   (some (l))
def Dg(N:Nat)(d:Dk)(joins:Li):Option Int:=
 (dworth_l1 N N d joins (joins.length:Int) 0 []).bind fun l_3=>
 (Z5 N l_3).bind fun x_4=>
 some x_4
noncomputable def T4(N:Nat):Oks:=[⟨_,Tf N⟩]
abbrev A7b:List StSh:=[⟨[shI],[]⟩]
noncomputable abbrev A80:Body:=mkB Tryz.f80 A7b 0
abbrev Rs:List PI:=[.c [1,1,0,1,0,0,0],.c [1,1,0,1,0,0,1],.l [1,1,0,1,0,0],.b 0,.c [1,1,1]]
abbrev Pn:Sta:=⟨[0,5,8,9,10],⟨[shD,.ols 0,shL,shI,shI],[.lst (.int .i64)]⟩⟩
abbrev A8n(rec:Dk→Li→Int→Int→Li→Option Li):Leaf Li:=⟨Rs,Pn,fun p=>rec p.1.1 p.1.2.2.1 p.1.2.2.2.1 p.1.2.2.2.2.1 p.2.1⟩
abbrev Qr:Leaf Li:=⟨[.c [1,1,1,0],.c [1,1,1,1]],⟨[5],⟨[.ols 0],[.lst (.int .i64)]⟩⟩,fun p=>some (p.2.1)⟩
noncomputable def Aa5(N:Nat)(rec:Dk→Li→Int→Int→Li→Option Li){top:Bool}:JnQ (Z:=Li) A80 top none [A8n rec,Qr]:=mkJ (T4 N) [] [] ⟨[.c [1,1,0,1,0,0,1,1,1],.l [1,1,0,1,0,0],.b 0,.c [1,1,1]],⟨[0,5,8,9,10],⟨[shD,.ols 0,shL,shI,shI],[.lst (.int .i64)]⟩⟩,fun p=>Ig N rec p.1.1 p.1.2.2.1 p.1.2.2.2.1 p.1.2.2.2.2.1 p.2.1⟩ (fun p=>by kernel_rfl)
noncomputable def A7v(N:Nat){top:Bool}:LpQ A80 top:=mkL (Z:=Li) (T4 N) [] Rs Pn (fun m p=>dworth_l1 N m p.1.1 p.1.2.2.1 p.1.2.2.2.1 p.1.2.2.2.2.1 p.2.1) [Qr] (fun m=>[Aa5 N (dworth_l1 N m)]) (fun k e=>k (.inl (((),()),(e,())))) N (fun m p=>by kernel_rfl)
noncomputable def Aje(N:Nat):Spec:=mkS 80 ⟨[shD,shL],[]⟩ A7b (fun p=>Dg N p.1.1 p.1.2.1) (fun k r=>k ((r,()),()))
theorem Ci(N:Nat):A0 Tryz.prog (Aje N):=mkF (R:=Int) (m0:=0) (T4 N) [A7v N] (fun r=>some r.1.1) [] Tryz.func80 (fun p=>by kernel_rfl) (by kernel_rfl) (fun _=>by kernel_rfl)

def Gd(N:Nat)(rec:Dk→Li→Int→Int→Li→Option Li)(d:Dk)(u:Li)(u2 u3:Int)(l:Li):Option Li:=
 chk (u3+1)<|
 rec d u u2 (u3+1) l
def Cd(N:Nat):Nat→Dk→Li→Int→Int→Li→Option Li
 | 0,_,_,_,_,_=>none
 | n_+1,d,u,u2,u3,l=>
  br (decide (u3<u2))
   (idx u u3 fun x_1=>
   br (!decide (x_1=-1))
    (idx d.2.2.2.2.1 u3 fun x_2=>
    lim (l.length+[x_2].length)<|
    Gd N (Cd N n_) d u u2 u3 (l++[x_2]))
    (Gd N (Cd N n_) d u u2 u3 l))
   (some (l))
def J8(N:Nat)(d:Dk)(joins:Li):Option Int:=
 (Cd N N d joins (joins.length:Int) 0 []).bind fun l_3=>
 (Z5 N l_3).bind fun x_4=>
 some x_4
noncomputable def Ow(N:Nat):Oks:=[⟨_,Tf N⟩]
abbrev A19:List StSh:=[⟨[shI],[]⟩]
noncomputable abbrev A1b:Body:=mkB Tryz.f82 A19 0
abbrev Np:List PI:=[.c [1,1,0,1,0,0,0],.c [1,1,0,1,0,0,1],.l [1,1,0,1,0,0],.b 0,.c [1,1,1]]
abbrev Ni:Sta:=⟨[0,5,8,9,10],⟨[shD,.ols 0,shL,shI,shI],[.lst (.int .i64)]⟩⟩
abbrev A3n(rec:Dk→Li→Int→Int→Li→Option Li):Leaf Li:=⟨Np,Ni,fun p=>rec p.1.1 p.1.2.2.1 p.1.2.2.2.1 p.1.2.2.2.2.1 p.2.1⟩
abbrev Ns:Leaf Li:=⟨[.c [1,1,1,0],.c [1,1,1,1]],⟨[5],⟨[.ols 0],[.lst (.int .i64)]⟩⟩,fun p=>some (p.2.1)⟩
noncomputable def A4k(N:Nat)(rec:Dk→Li→Int→Int→Li→Option Li){top:Bool}:JnQ (Z:=Li) A1b top none [A3n rec,Ns]:=mkJ (Ow N) [] [] ⟨[.c [1,1,0,1,0,0,1,1,1],.l [1,1,0,1,0,0],.b 0,.c [1,1,1]],⟨[0,5,8,9,10],⟨[shD,.ols 0,shL,shI,shI],[.lst (.int .i64)]⟩⟩,fun p=>Gd N rec p.1.1 p.1.2.2.1 p.1.2.2.2.1 p.1.2.2.2.2.1 p.2.1⟩ (fun p=>by kernel_rfl)
noncomputable def A51(N:Nat){top:Bool}:LpQ A1b top:=mkL (Z:=Li) (Ow N) [] Np Ni (fun m p=>Cd N m p.1.1 p.1.2.2.1 p.1.2.2.2.1 p.1.2.2.2.2.1 p.2.1) [Ns] (fun m=>[A4k N (Cd N m)]) (fun k e=>k (.inl (((),()),(e,())))) N (fun m p=>by kernel_rfl)
noncomputable def Acm(N:Nat):Spec:=mkS 82 ⟨[shD,shL],[]⟩ A19 (fun p=>J8 N p.1.1 p.1.2.1) (fun k r=>k ((r,()),()))
theorem Nq(N:Nat):A0 Tryz.prog (Acm N):=mkF (R:=Int) (m0:=0) (Ow N) [A51 N] (fun r=>some r.1.1) [] Tryz.func82 (fun p=>by kernel_rfl) (by kernel_rfl) (fun _=>by kernel_rfl)

def Ms(N:Nat)(k:Int)(u:Dk):Option Bool:=
 br (decide (k=-1))
  (some true)
  ((Cp N u k).bind fun x_1=>
  some x_1)
noncomputable def Adp(N:Nat):Spec:=mkS 102 ⟨[shI,.fz [shD]],[]⟩ [⟨[.b],[]⟩] (fun p=>Ms N p.1.1 p.1.2.1.1) (fun k r=>k ((r,()),()))
theorem A0e(N:Nat):A0 Tryz.prog (Adp N):=mkF (R:=Bool) (m0:=0) [⟨_,Ch N⟩] [] (fun r=>some r.1.1) [] Tryz.func102 (fun p=>by kernel_rfl) (by kernel_rfl) (fun _=>by kernel_rfl)

def T8(N:Nat)(x:Int)(g:Dk):Option (Bool×Dk):=
 (Ms N x g).bind fun x_1=>
 some ((!x_1),g)
noncomputable def Ady(N:Nat):Spec:=mkS 85 ⟨[shI,.own 0 0],[.segs [.fn 102 [] [.fz [shD]]]]⟩ [⟨[.b],[.segs [.fn 102 [] [.fz [shD]]]]⟩] (fun p=>T8 N p.1.1 p.2.1.1.2.1.1) (fun k r=>k ((r.1,()),((((),((r.2,()),())),()),())))
theorem A0y(N:Nat):A0 Tryz.prog (Ady N):=mkF (R:=Bool×Dk) (m0:=1) [⟨_,A0e N⟩] [] (fun r=>some (r.1.1,r.2.1.1.2.1.1)) [] Tryz.func85 (fun p=>by kernel_rfl) (by kernel_rfl) (fun _=>by kernel_rfl)

def ixfj_l1(N:Nat):Nat→Li→Int→Int→Dk→Option ((Int×Dk)⊕(Dk))
 | 0,_,_,_,_=>none
 | n_+1,s,u,u2,f=>
  br (decide (u2<u))
   (idx s u2 fun x_1=>
   (T8 N x_1 f).bind fun(x_2,y_3)=>
   br x_2
    (some (.inl (u2,y_3)))
    (chk (u2+1)<|
    ixfj_l1 N n_ s u (u2+1) y_3))
   (some (.inr f))
def ixfj_S(N:Nat)(s:Li)(f:Dk):Option (Int×Dk):=
 (ixfj_l1 N N s (s.length:Int) 0 f).bind fun e=>match e with
 | .inl (i_4,g_5)=>
  some (i_4,g_5)
 | .inr g_6=>
  some (-1,g_6)
noncomputable def Ags(N:Nat):Oks:=[⟨_,A0y N⟩]
abbrev Amz:List StSh:=[⟨[shI],[.segs [.fn 102 [] [.fz [shD]]]]⟩]
noncomputable abbrev Aqy:Body:=mkB Tryz.f100 Amz 1
noncomputable def Aix(N:Nat){top:Bool}:LpQ Aqy top:=mkL (Z:=(Int×Dk)⊕(Dk)) (Ags N) [] [.c [1,0,1,0,0,0],.c [1,0,1,0,0,1],.l [1,0,1,0,0],.b 0,.c [1,1]] ⟨[0,1,7,8],⟨[shL,.fn 85 [] [.own 0 0],shI,shI],[.segs [.fn 102 [] [.fz [shD]]]]⟩⟩ (fun m p=>ixfj_l1 N m p.1.1 p.1.2.2.1 p.1.2.2.2.1 p.2.1.1.2.1.1) [⟨[.c [1,0,1,0,0,1,1,0,0,1,1,0,0],.c [1,0,1,0,0,1,1,0,0,1,1,0,1],.b 1,.c [1,0,1,0,0,1,1,1],.l [1,0,1,0,0],.b 0,.c [1,1]],⟨[5],⟨[shI],[.segs [.fn 102 [] [.fz [shD]]]]⟩⟩,fun p=>some (.inl (p.1.1,p.2.1.1.2.1.1))⟩,⟨[.c [1,1,0],.c [1,1,1]],⟨[],⟨[],[.segs [.fn 102 [] [.fz [shD]]]]⟩⟩,fun p=>some (.inr p.2.1.1.2.1.1)⟩] (fun _=>[]) (fun k e=>match e with | .inl x=>k (.inl ((x.1,()),((((),((x.2,()),())),()),()))) | .inr x=>k (.inr (.inl ((),((((),((x,()),())),()),()))))) N (fun m p=>by kernel_rfl) (hg:=(by rintro _ _ (_ | _)<;>rfl))
noncomputable def Aop(N:Nat):Spec:=mkS 100 ⟨[shL,.fn 85 [] [.own 0 0]],[.segs [.fn 102 [] [.fz [shD]]]]⟩ Amz (fun p=>ixfj_S N p.1.1 p.2.1.1.2.1.1) (fun k r=>k ((r.1,()),((((),((r.2,()),())),()),())))
theorem Af0(N:Nat):A0 Tryz.prog (Aop N):=mkF (R:=Int×Dk) (m0:=1) (Ags N) [Aix N] (fun r=>some (r.1.1,r.2.1.1.2.1.1)) [] Tryz.func100 (fun p=>by kernel_rfl) (by kernel_rfl) (fun _=>by kernel_rfl)

def Adz(N:Nat)(s:Li)(f:Dk):Option (Bool×Dk):=
 (ixfj_S N s f).bind fun(x_1,y_2)=>
 some ((decide (0≤x_1)),y_2)
noncomputable def Aon(N:Nat):Spec:=mkS 84 ⟨[shL,.fn 85 [] [.own 0 0]],[.segs [.fn 102 [] [.fz [shD]]]]⟩ [⟨[.b],[.segs [.fn 102 [] [.fz [shD]]]]⟩] (fun p=>Adz N p.1.1 p.2.1.1.2.1.1) (fun k r=>k ((r.1,()),((((),((r.2,()),())),()),())))
theorem Ae4(N:Nat):A0 Tryz.prog (Aon N):=mkF (R:=Bool×Dk) (m0:=1) [⟨_,Af0 N⟩] [] (fun r=>some (r.1.1,r.2.1.1.2.1.1)) [] Tryz.func84 (fun p=>by kernel_rfl) (by kernel_rfl) (fun _=>by kernel_rfl)

def Rl(N:Nat)(l:Li)(holds:Dk):Option Bool:=
 (Adz N l holds).bind fun(x_1,y_2)=>
 some (!x_1)
noncomputable def Ain(N:Nat):Spec:=mkS 44 ⟨[shL,.fn 102 [] [.fz [shD]]],[]⟩ [⟨[.b],[]⟩] (fun p=>Rl N p.1.1 p.1.2.1.2.1.1) (fun k r=>k ((r,()),()))
theorem A60(N:Nat):A0 Tryz.prog (Ain N):=mkF (R:=Bool) (m0:=0) [⟨_,Ae4 N⟩] [] (fun r=>some r.1.1) [] Tryz.func44 (fun p=>by kernel_rfl) (by kernel_rfl) (fun _=>by kernel_rfl)

def joined_l1(N:Nat):Nat→Li→Li→Int→Int→Dk→Option ((Unit)⊕(Li×Dk))
 | 0,_,_,_,_,_=>none
 | n_+1,joins,u,u2,u3,x=>
  br (decide (u3<u2))
   (idx u u3 fun x_4=>
   br (!decide (x_4=-1))
    (grd (decide ((0:Int)≤u3∧u3≤(joins.length:Int)))<|
    (D3 N (joins.take u3.toNat) x_4).bind fun x_5=>
    br x_5
     (some (.inl ()))
     (chk (u3+1)<|
     joined_l1 N n_ joins u u2 (u3+1) x))
    (chk (u3+1)<|
    joined_l1 N n_ joins u u2 (u3+1) x))
   (some (.inr (joins,x)))
def G0(N:Nat):Nat→Li→Int→Int→Dk→Option ((Unit)⊕(Dk))
 | 0,_,_,_,_=>none
 | n_+1,u,u2,u3,x=>
  br (decide (u3<u2))
   (idx u u3 fun x_8=>
   br (!decide (x_8=-1))
    ((I8 N x u3 x_8).bind fun x_9=>
    br (!x_9)
     (some (.inl ()))
     (chk (u3+1)<|
     G0 N n_ u u2 (u3+1) x))
    (chk (u3+1)<|
    G0 N n_ u u2 (u3+1) x))
   (some (.inr x))
def joined_S(N:Nat)(d:Li)(d2:Int)(d3 d4:Ll)(d5 joins:Li):Option ((Dk×Int)⊕(Int)):=
 ((Aw N d d2 d3 d4 d5).bind fun e=>match e with
 | .inl (x_1,y_2)=>
  (br (!decide (y_2=0))
   (some (.inr y_2))
   (br (!decide ((joins.length:Int)=(d3.length:Int)))
    (some (.inr 2))
    ((Rl N joins x_1).bind fun x_3=>
    br (!x_3)
     (some (.inr 1))
     ((joined_l1 N N joins joins (joins.length:Int) 0 x_1).bind fun e=>match e with
     | .inl _=>
      some (.inr 5)
     | .inr (joins_6,x_7)=>
      (G0 N N joins_6 (joins_6.length:Int) 0 x_7).bind fun e=>match e with
      | .inl _=>
       some (.inr 8)
      | .inr x_10=>
       some (.inl (x_10,0))))))
 | .inr x_11=>
  (br (!decide (x_11=0))
   (some (.inr x_11))
   (br (!decide ((joins.length:Int)=(d3.length:Int)))
    (some (.inr 2))
    (none))))
noncomputable def Tg(N:Nat):Oks:=[⟨_,Aj N⟩,⟨_,E4 N⟩,⟨_,C3 N⟩,⟨_,A60 N⟩]
abbrev A8h:List StSh:=[⟨[shD,shI],[]⟩,⟨[.nilp,shI],[]⟩]
noncomputable abbrev A8x:Body:=mkB Tryz.f90 A8h 0
noncomputable def Ud(N:Nat){top:Bool}:LpQ A8x top:=mkL (Z:=(Unit)⊕(Li×Dk)) (Tg N) [] [.c [1,1,1,0,1,0,0,0],.c [1,1,1,0,1,0,0,1],.l [1,1,1,0,1,0,0],.b 1,.c [1,1,1,1]] ⟨[1,6,33,34,35],⟨[shL,.own 0 0,shL,shI,shI],[.segs [shD]]⟩⟩ (fun m p=>joined_l1 N m p.1.1 p.1.2.2.1 p.1.2.2.2.1 p.1.2.2.2.2.1 p.2.1.1) [⟨[.c [1,1,1,0,1,0,0,1,1,0,0,1,1,0,0],.c [1,1,1,0,1,0,0,1,1,0,0,1,1,0,1],.b 2,.c [1,1,1,0,1,0,0,1,1,1],.l [1,1,1,0,1,0,0],.b 1,.c [1,1,1,1]],⟨[],⟨[],[]⟩⟩,fun p=>some (.inl ())⟩,⟨[.c [1,1,1,1,0,0],.c [1,1,1,1,0,1],.c [1,1,1,1,1]],⟨[1,6],⟨[shL,.own 0 0],[.segs [shD]]⟩⟩,fun p=>some (.inr (p.1.1,p.2.1.1))⟩] (fun _=>[]) (fun k e=>match e with | .inl x=>k (.inl ((),())) | .inr x=>k (.inr (.inl ((x.1,(),()),((x.2,()),()))))) N (fun m p=>by kernel_rfl) (hg:=(by rintro _ _ (_ | _)<;>rfl))
noncomputable def A81(N:Nat){top:Bool}:LpQ A8x top:=mkL (Z:=(Unit)⊕(Dk)) (Tg N) [Ud N] [.c [1,1,1,1,0,1,0,0,0],.c [1,1,1,1,0,1,0,0,1],.l [1,1,1,1,0,1,0,0],.b 3,.c [1,1,1,1,1]] ⟨[6,50,51,52],⟨[.own 0 0,shL,shI,shI],[.segs [shD]]⟩⟩ (fun m p=>G0 N m p.1.2.1 p.1.2.2.1 p.1.2.2.2.1 p.2.1.1) [⟨[.c [1,1,1,1,0,1,0,0,1,1,0,0,1,1,0,0],.c [1,1,1,1,0,1,0,0,1,1,0,0,1,1,0,1],.b 4,.c [1,1,1,1,0,1,0,0,1,1,1],.l [1,1,1,1,0,1,0,0],.b 3,.c [1,1,1,1,1]],⟨[],⟨[],[]⟩⟩,fun p=>some (.inl ())⟩,⟨[.c [1,1,1,1,1,0],.c [1,1,1,1,1,1]],⟨[6],⟨[.own 0 0],[.segs [shD]]⟩⟩,fun p=>some (.inr p.2.1.1)⟩] (fun _=>[]) (fun k e=>match e with | .inl x=>k (.inl ((),())) | .inr x=>k (.inr (.inl (((),()),((x,()),()))))) N (fun m p=>by kernel_rfl) (hg:=(by rintro _ _ (_ | _)<;>rfl))
noncomputable def Ahc(N:Nat):Spec:=mkS 90 ⟨[shG,shL],[]⟩ A8h (fun p=>joined_S N p.1.1.1 p.1.1.2.1 p.1.1.2.2.1 p.1.1.2.2.2.1 p.1.1.2.2.2.2.1 p.1.2.1) (fun k r=>match r with | .inl r=>k (.inl ((r.1,r.2,()),())) | .inr r=>k (.inr (((),r,()),())))
theorem K3(N:Nat):A0 Tryz.prog (Ahc N):=mkF (R:=(Dk×Int)⊕(Int)) (m0:=0) (Tg N) [Ud N,A81 N] (fun r=>match r with | .inl r=>some (.inl (r.1.1,r.1.2.1)) | .inr r=>some (.inr r.1.2.1)) [] Tryz.func90 (fun p=>by kernel_rfl) (by kernel_rfl) (fun _=>by kernel_rfl) (by rintro _ _ (_ | _)<;>rfl) (by rintro (_ | _) z h<;>(cases h;rfl))

def Mh(N:Nat)(d:Li)(d2:Int)(d3 d4:Ll)(d5 joins:Li):Option (Int×Int):=
 ((joined_S N d d2 d3 d4 d5 joins).bind fun e=>match e with
 | .inl (x_1,y_2)=>
  (br (!decide (y_2=0))
   (some (0,y_2))
   ((Dg N x_1 joins).bind fun x_3=>
   some (x_3,0)))
 | .inr x_4=>
  (br (!decide (x_4=0))
   (some (0,x_4))
   (none)))
noncomputable def Ae7(N:Nat):Spec:=mkS 53 ⟨[shG,shL],[]⟩ [⟨[shI,shI],[]⟩] (fun p=>Mh N p.1.1.1 p.1.1.2.1 p.1.1.2.2.1 p.1.1.2.2.2.1 p.1.1.2.2.2.2.1 p.1.2.1) (fun k r=>k ((r.1,r.2,()),()))
theorem A04(N:Nat):A0 Tryz.prog (Ae7 N):=mkF (R:=Int×Int) (m0:=0) [⟨_,Ci N⟩,⟨_,K3 N⟩] [] (fun r=>some (r.1.1,r.1.2.1)) [] Tryz.func53 (fun p=>by kernel_rfl) (by kernel_rfl) (fun _=>by kernel_rfl)

def Jl(N:Nat)(d:Li)(d2:Int)(d3 d4:Ll)(d5 joins:Li):Option (Int×Int):=
 ((joined_S N d d2 d3 d4 d5 joins).bind fun e=>match e with
 | .inl (x_1,y_2)=>
  (br (!decide (y_2=0))
   (some (0,y_2))
   ((J8 N x_1 joins).bind fun x_3=>
   some (x_3,0)))
 | .inr x_4=>
  (br (!decide (x_4=0))
   (some (0,x_4))
   (none)))
noncomputable def A88(N:Nat):Spec:=mkS 54 ⟨[shG,shL],[]⟩ [⟨[shI,shI],[]⟩] (fun p=>Jl N p.1.1.1 p.1.1.2.1 p.1.1.2.2.1 p.1.1.2.2.2.1 p.1.1.2.2.2.2.1 p.1.2.1) (fun k r=>k ((r.1,r.2,()),()))
theorem Zo(N:Nat):A0 Tryz.prog (A88 N):=mkF (R:=Int×Int) (m0:=0) [⟨_,Nq N⟩,⟨_,K3 N⟩] [] (fun r=>some (r.1.1,r.1.2.1)) [] Tryz.func54 (fun p=>by kernel_rfl) (by kernel_rfl) (fun _=>by kernel_rfl)

def Kr(N:Nat)(d:Li)(d2:Int)(d3 d4:Ll)(d5:Li)(lost found:Int):Option (Int×Int×Bool×Int):=
 ((Aw N d d2 d3 d4 d5).bind fun e=>match e with
 | .inl (x_1,y_2)=>
  (br (!decide (y_2=0))
   (some (0,0,false,y_2))
   ((Js N x_1 lost).bind fun x_3=>
   br (!x_3)
    (some (0,0,false,1))
    ((Cp N x_1 found).bind fun x_4=>
    br (!x_4)
     (some (0,0,false,1))
     (rng lost 6<|
     rng found 6<|
     get x_1.2.2.2.2.2.1 ((lost.toNat*6)+found.toNat) fun x_5=>
     rng lost 6<|
     rng found 6<|
     get x_1.2.2.2.2.2.2.1 ((lost.toNat*6)+found.toNat) fun x_6=>
     (I8 N x_1 lost found).bind fun x_7=>
     some (x_5,x_6,x_7,0)))))
 | .inr x_8=>
  (br (!decide (x_8=0))
   (some (0,0,false,x_8))
   (none)))
noncomputable def Aj3(N:Nat):Spec:=mkS 21 ⟨[shG,shI,shI],[]⟩ [⟨[shI,shI,.b,shI],[]⟩] (fun p=>Kr N p.1.1.1 p.1.1.2.1 p.1.1.2.2.1 p.1.1.2.2.2.1 p.1.1.2.2.2.2.1 p.1.2.1 p.1.2.2.1) (fun k r=>k ((r.1,r.2.1,r.2.2.1,r.2.2.2,()),()))
theorem Pg(N:Nat):A0 Tryz.prog (Aj3 N):=mkF (R:=Int×Int×Bool×Int) (m0:=0) [⟨_,Aj N⟩,⟨_,Km N⟩,⟨_,Ch N⟩,⟨_,E4 N⟩] [] (fun r=>some (r.1.1,r.1.2.1,r.1.2.2.1,r.1.2.2.2.1)) [] Tryz.func21 (fun p=>by kernel_rfl) (by kernel_rfl) (fun _=>by kernel_rfl)

def Zw(N:Nat)(s:Li):Option Li:=
 grd (!s.isEmpty)<|
 lim (([]:Li).length+s.length)<|
 some (([]:Li)++s)
noncomputable def Ahu(N:Nat):Spec:=mkS 92 ⟨[shL],[]⟩ [⟨[shL],[]⟩] (fun p=>Zw N p.1.1) (fun k r=>k ((r,()),()))
theorem A5o(N:Nat):A0 Tryz.prog (Ahu N):=mkF (R:=Li) (m0:=0) [] [] (fun r=>some r.1.1) [] Tryz.func92 (fun p=>by kernel_rfl) (by kernel_rfl) (fun _=>by kernel_rfl)

def Ep(N:Nat)(s:Li):Option Li:=
 grd (!s.isEmpty)<|
 lim (([]:Li).length+s.length)<|
 some (([]:Li)++s)
noncomputable def Sz(N:Nat):Spec:=mkS 92 ⟨[shL],[]⟩ [⟨[.ols 0],[.lst (.int .i64)]⟩] (fun p=>Ep N p.1.1) (fun k r=>k (((),()),(r,())))
theorem Jo(N:Nat):A0 Tryz.prog (Sz N):=mkF (R:=Li) (m0:=0) [] [] (fun r=>some r.2.1) [] Tryz.func92 (fun p=>by kernel_rfl) (by kernel_rfl) (fun _=>by kernel_rfl)

def Zl(N:Nat)  : Option Unit:=
 some ()
noncomputable def Ahz(N:Nat):Spec:=mkS 92 ⟨[.nils],[]⟩ [⟨[.nils],[]⟩] (fun p=>Zl N) (fun k r=>k (((),()),()))
theorem A4p(N:Nat):A0 Tryz.prog (Ahz N):=mkF (R:=Unit) (m0:=0) [] [] (fun r=>some ()) [] Tryz.func92 (fun p=>by kernel_rfl) (by kernel_rfl) (fun _=>by kernel_rfl)

end Go.Proofs.YthncjilcflilcaaGreat

namespace Go.Proofs.YthncjilcflilcaaGreat
set_option linter.all false
open Go
def Ok{α:Type}(o:Option α)(Q:α→Prop):Prop:=∃x,o=some x∧Q x
section
variable {α β Z:Type} {Q:Z→Prop} {x y:Option Z}
theorem Ok.some{z:Z}(h:Q z):Ok (some z) Q:=⟨z,rfl,h⟩
theorem Ok.bind{o:Option α}{P:α→Prop}{f:α→Option Z}(h:Ok o P)(k:∀a,P a→Ok (f a) Q):Ok (o.bind f) Q:=by
 obtain⟨a,rfl,ha⟩:=h
 exact k a ha
theorem Ok.eqb{o:Option α}{a:α}{f:α→Option Z}(h:o=Option.some a)(k:Ok (f a) Q):Ok (o.bind f) Q:=by subst h;exact k
theorem Ok.mono{P:Z→Prop}(h:Ok x P)(k:∀a,P a→Q a):Ok x Q:=let ⟨a,e,p⟩:=h;⟨a,e,k a p⟩
theorem Ok.br{c:Bool}(h1:c=true→Ok x Q)(h2:c=false→Ok y Q):Ok (br c x y) Q:=by
 cases c
 ·exact h2 rfl
 ·exact h1 rfl
theorem Ok.brd{p:Prop}[Decidable p](h1:p→Ok x Q)(h2:¬p→Ok y Q):Ok (Proofs.YthncjilcflilcaaGreat.br (decide p) x y) Q:=by
 by_cases h:p
 ·simpa [h,Proofs.YthncjilcflilcaaGreat.br]using h1 h
 ·simpa [h,Proofs.YthncjilcflilcaaGreat.br]using h2 h
theorem A3{n:Int}(hn:-9223372036854775808≤n∧n≤9223372036854775807):chk n x=x:=by unfold chk;rw[Afh.2 hn]
theorem Ok.chk{n:Int}(hn:-9223372036854775808≤n∧n≤9223372036854775807)(h:Ok x Q):Ok (chk n x) Q:=by rw[A3 hn];exact h
theorem Av{c:Bool}(hc:c=true):grd c x=x:=by subst hc;rfl
theorem Ok.grd{c:Bool}(hc:c=true)(h:Ok x Q):Ok (grd c x) Q:=by subst hc;exact h
theorem Ag{i:Int}{n:Nat}(hi:0≤i∧i<n):rng i n x=x:=by unfold rng;rw[if_pos hi]
theorem Ok.rng{i:Int}{n:Nat}(hi:0≤i∧i<n)(h:Ok x Q):Ok (rng i n x) Q:=by rw[Ag hi];exact h
theorem Ay{n:Nat}(hn:n≤1000000):lim n x=x:=by unfold lim;rw[if_pos hn]
theorem Ok.lim{n:Nat}(hn:n≤1000000)(h:Ok x Q):Ok (lim n x) Q:=by rw[Ay hn];exact h
theorem idx_eq{l:List α}{i:Int}{f:α→Option Z}{a:α}(h0:0≤i)(h:l[i.toNat]?=Option.some a):idx l i f=f a:=by unfold idx;rw[if_pos h0,h]
theorem Ok.idx{l:List α}{i:Int}{f:α→Option Z}(h0:0≤i)(h:i<l.length)(k:∀a,l[i.toNat]?=Option.some a→a∈l→Ok (f a) Q):Ok (idx l i f) Q:=by
 have hlt:i.toNat<l.length:=by omega
 have e:l[i.toNat]?=Option.some l[i.toNat]:=List.getElem?_eq_getElem hlt
 rw[idx_eq h0 e]
 exact k _ e (List.getElem_mem hlt)
theorem get_eq{l:List α}{k:Nat}{f:α→Option Z}{a:α}(h:l[k]?=Option.some a):get l k f=f a:=by unfold get;rw[h]
theorem C1{l:List α}{k:Nat}{f:α→Option Z}(d:α)(h:k<l.length):get l k f=f (l.getD k d):=get_eq (by simp[List.getD,h])
theorem Ok.get{l:List α}{k:Nat}{f:α→Option Z}(h:k<l.length)(c:∀a,l[k]?=Option.some a→a∈l→Ok (f a) Q):Ok (get l k f) Q:=by
 have e:l[k]?=Option.some l[k]:=List.getElem?_eq_getElem h
 rw[get_eq e]
 exact c _ e (List.getElem_mem h)
theorem Ah:br true x y=x:=rfl
theorem Ad:br false x y=y:=rfl
theorem A2{p:Prop}[Decidable p](h:p):br (decide p) x y=x:=by simp[h,br]
theorem A1{p:Prop}[Decidable p](h:¬p):br (decide p) x y=y:=by simp[h,br]
theorem A6{p:Prop}[Decidable p](h:p):br (!decide p) x y=y:=by simp[h,br]
theorem A8{p:Prop}[Decidable p](h:¬p):br (!decide p) x y=x:=by simp[h,br]
end
def InR(lo hi:Int)(l:List Int):Prop:=∀x∈l,lo≤x∧x≤hi
theorem InR.append{lo hi:Int}{l:List Int}(h:InR lo hi l){x:Int}(hx:lo≤x∧x≤hi):InR lo hi (l++[x]):=by
 intro y hy
 rcases List.mem_append.1 hy with hy | hy
 ·exact h y hy
 ·simp at hy;subst hy;exact hx
theorem InR.drop{lo hi:Int}{l:List Int}(h:InR lo hi l)(n:Nat):InR lo hi (l.drop n):=fun x hx=>h x (List.mem_of_mem_drop hx)
theorem InR.nil{lo hi:Int}:InR lo hi []:=fun _ h=>by cases h
theorem InR.mono{lo hi lo' hi':Int}{l:List Int}(h:InR lo hi l)(h1:lo'≤lo)(h2:hi≤hi'):InR lo' hi' l:=fun x hx=>by have:=h x hx;omega

def ixL{α:Type}(f:α→Option Bool):Nat→List α→Int→Int→Option (Int⊕Unit)
 | 0,_,_,_=>none
 | n+1,s,u,u2=>br (decide (u2<u)) (idx s u2 fun x=>(f x).bind fun c=>br c (some (.inl u2)) (chk (u2+1)<|ixL f n s u (u2+1))) (some (.inr ()))
def ixS{α:Type}(f:α→Option Bool)(N:Nat)(s:List α):Option Int:=(ixL f N s (s.length:Int) 0).bind fun e=>match e with
 | .inl i=>some i
 | .inr _=>some (-1)
theorem Ank{α:Type}{f:α→Option Bool}{p:α→Bool}{s:List α}(hf:∀x∈s,f x=some (p x))(hs:s.length≤1000000):∀(n k:Nat),s.length<n+k→k≤s.length →
  Ok (ixL f n s (s.length:Int) (k:Int)) fun r=>match r with | .inl i=>(0≤i∧i<s.length)∧(s.drop k).any p=true | .inr _=>(s.drop k).any p=false
 | 0,k,h,hk=>by omega
 | n+1,k,h,hk=>by
  unfold ixL
  refine Ok.brd (fun h1=>?_) (fun h1=>Ok.some ?_)
  ·have hlt:k<s.length:=by omega
   refine Ok.idx (by omega) h1 (fun a ha hm=>?_)
   have hd:s.drop k=a::s.drop (k+1):=by
    rw[List.drop_eq_getElem_cons hlt]
    have:s[k]?=some a:=by simpa using ha
    rw[List.getElem?_eq_getElem hlt]at this
    simp only[Option.some.injEq]at this
    rw[this]
   refine Ok.eqb (hf a hm) (Ok.br (fun hp=>Ok.some ?_) (fun hp=>Ok.chk (by omega) ?_))
   ·exact⟨⟨by omega,by omega⟩,by rw[hd];simp[hp]⟩
   ·have:=Ank hf hs n (k+1) (by omega) (by omega)
    rw[show((k+1:Nat):Int)=(k:Int)+1 by omega]at this
    refine this.mono (fun r hr=>?_)
    rw[hd]
    cases r<;>simpa [hp]using hr
  ·have:s.drop k=[]:=List.drop_of_length_le (by omega)
   simp[this]
theorem Af9{α:Type}{f:α→Option Bool}{p:α→Bool}{s:List α}{N:Nat}(hf:∀x∈s,f x=some (p x))(hs:s.length≤1000000)(hN:s.length<N):((ixS f N s).bind fun x=>some (decide (0≤x)))=some (s.any p):=by
 obtain⟨r,h1,h2⟩:=Ank hf hs N 0 (by omega) (by omega)
 unfold ixS
 rw[show((0:Nat):Int)=0 from rfl]at h1
 rw[h1]
 cases r with
 | inl i=>simp only[List.drop_zero]at h2;simp[h2.1.1,h2.2]
 | inr u=>simp only[List.drop_zero]at h2;simp[h2]
theorem Ap2{α:Type}(p:α→Bool)(s:List α):(!(s.any fun x=>!p x))=s.all p:=by
 induction s with
 | nil=>rfl
 | cons a s ih=>simp only[List.any_cons,List.all_cons,Bool.not_or,Bool.not_not,ih]
end Go.Proofs.YthncjilcflilcaaGreat

namespace Go.Proofs.YthncjilcflilcaaGreat
set_option linter.all false
open Go

def sumN(f:Nat→Int):Nat→Int
 | 0=>0
 | n+1=>sumN f n+f n
theorem Bq{f g:Nat→Int}:∀ {n:Nat},(∀i,i<n→f i=g i)→sumN f n=sumN g n
 | 0,_=>rfl
 | n+1,h=>by rw[sumN,sumN,Bq (fun i hi=>h i (by omega)),h n (by omega)]
theorem Abq(f g:Nat→Int):∀n:Nat,sumN (fun i=>f i+g i) n=sumN f n+sumN g n
 | 0=>rfl
 | n+1=>by rw[sumN,sumN,sumN,Abq f g n];omega
theorem Tc:∀ {f:Nat→Int} {n:Nat},(∀i,i<n→f i=0)→sumN f n=0
 | _,0,_=>rfl
 | f,n+1,h=>by rw[sumN,Tc (fun i hi=>h i (by omega)),h n (by omega)];rfl
theorem Ag1{f g:Nat→Int}:∀ {n:Nat},(∀i,i<n→f i≤g i)→sumN f n≤sumN g n
 | 0,_=>Int.le_refl _
 | n+1,h=>by
  have:=Ag1 (n:=n) (fun i hi=>h i (by omega))
  have:=h n (by omega)
  rw[sumN,sumN];omega
theorem Xi{f g:Nat→Int}:∀ {n:Nat},(∀i,i<n→f i≤g i)→sumN g n≤sumN f n→∀i,i<n→f i=g i
 | 0,_,_,i,hi=>by omega
 | n+1,h,hs,i,hi=>by
  have h1:=Ag1 (n:=n) (fun i hi=>h i (by omega))
  have h2:=h n (by omega)
  rw[sumN,sumN]at hs
  by_cases e:i=n
  ·subst e;omega
  ·exact Xi (n:=n) (fun i hi=>h i (by omega)) (by omega) i (by omega)
def upd{α:Type}(J:Nat→α)(i:Nat)(v:α):Nat→α:=fun x=>if x=i then v else J x
theorem B7{α:Type}(J:Nat→α)(i:Nat)(v:α):upd J i v i=v:=if_pos rfl
theorem Ap{α:Type}{J:Nat→α}{i x:Nat}{v:α}(h:x≠i):upd J i v x=J x:=if_neg h
theorem Rm{α:Type}(g:Nat→α→Int){J:Nat→α}{i:Nat}{v:α}:∀ {n:Nat},i<n→sumN (fun x=>g x (upd J i v x)) n=sumN (fun x=>g x (J x)) n-g i (J i)+g i v
 | 0,h=>by omega
 | n+1,h=>by
  rw[sumN,sumN]
  by_cases e:i=n
  ·subst e
   rw[B7,Bq (g:=fun x=>g x (J x)) (fun x hx=>by rw[Ap (by omega)])]
   omega
  ·rw[Rm g (n:=n) (by omega),Ap (by omega)];omega
structure Mt (n m:Nat) (can:Nat→Nat→Bool) (J:Nat→Int):Prop where
 ok:∀i,i<n→J i=-1∨∃k:Nat,J i=k∧k<m∧can i k=true
 inj:∀i j,i<n→j<n→i≠j→J i=J j→J i=-1
def pv(w:Nat→Nat→Int)(i:Nat)(x:Int):Int:=if x=-1 then 0 else w i x.toNat
def wt(w:Nat→Nat→Int)(n:Nat)(J:Nat→Int):Int:=sumN (fun i=>pv w i (J i)) n
def Usd(n:Nat)(J:Nat→Int)(k:Nat):Prop:=∃i,i<n∧J i=k
section
variable {n m:Nat} {can:Nat→Nat→Bool} {w:Nat→Nat→Int}
theorem Bc(i:Nat):pv w i (-1)=0:=if_pos rfl
theorem Bm(i k:Nat):pv w i (k:Int)=w i k:=by
 unfold pv
 rw[if_neg (by omega),Int.toNat_natCast]
theorem Jx{J:Nat→Int}{i:Nat}{v:Int}(hi:i<n):wt w n (upd J i v)=wt w n J-pv w i (J i)+pv w i v:=Rm (pv w) hi
theorem Mt.drop{J:Nat→Int}(h:Mt n m can J)(i:Nat):Mt n m can (upd J i (-1)):=by
 refine⟨fun x hx=>?_,fun x y hx hy hxy he=>?_⟩
 ·by_cases e:x=i
  ·subst e;exact .inl (B7 _ _ _)
  ·rw[Ap e];exact h.ok x hx
 ·by_cases e:x=i
  ·subst e;exact B7 _ _ _
  ·by_cases e2:y=i
   ·subst e2
    rw[B7]at he
    exact he
   ·rw[Ap e]at he ⊢
    rw[Ap e2]at he
    exact h.inj x y hx hy hxy he
theorem Mt.add{J:Nat→Int}(h:Mt n m can J){i k:Nat}(hk:k<m)(hc:can i k=true)(hu:¬Usd n J k):Mt n m can (upd J i k):=by
 refine⟨fun x hx=>?_,fun x y hx hy hxy he=>?_⟩
 ·by_cases e:x=i
  ·subst e;exact .inr ⟨k,B7 _ _ _,hk,hc⟩
  ·rw[Ap e];exact h.ok x hx
 ·by_cases e:x=i
  ·subst e
   rw[B7,Ap (fun h=>hxy h.symm)]at he
   exact absurd ⟨y,hy,he.symm⟩ hu
  ·by_cases e2:y=i
   ·subst e2
    rw[B7,Ap e]at he
    exact absurd ⟨x,hx,he⟩ hu
   ·rw[Ap e]at he ⊢
    rw[Ap e2]at he
    exact h.inj x y hx hy hxy he
theorem Usd.Ap{J:Nat→Int}{i k:Nat}{v:Int}(hv:v≠k)(h:Usd n (upd J i v) k):Usd n J k:=by
 obtain⟨x,hx,e⟩:=h
 by_cases c:x=i
 ·subst c;rw[B7]at e;exact absurd e hv
 ·rw[Proofs.YthncjilcflilcaaGreat.Ap c]at e;exact⟨x,hx,e⟩
theorem Mt.drop_free{J:Nat→Int}(h:Mt n m can J){i k:Nat}(hi:i<n)(hk:J i=k):¬Usd n (upd J i (-1)) k:=by
 rintro ⟨x,hx,e⟩
 by_cases c:x=i
 ·subst c;rw[B7]at e;omega
 ·rw[Ap c]at e
  have:=h.inj x i hx hi c (by rw[e,hk])
  omega
theorem exch:∀(c:Nat) (A B:Nat→Int) (i:Nat),sumN (fun x=>if B x=-1 then 0 else 1) n≤c→Mt n m can A→Mt n m can B→i<n→A i=-1 →
  ∃A' B',Mt n m can A'∧Mt n m can B'∧wt w n A'+wt w n B'=wt w n A+wt w n B∧B' i=-1∧(∀x,x<n→A x=-1→B x=-1→A' x=-1∧B' x=-1) ∧
   (∀k,¬Usd n B k→¬Usd n B' k)∧(∀k,¬Usd n A k→¬Usd n B k→¬Usd n A' k)∧(∀k,¬Usd n A k→¬(Usd n A' k∧Usd n B' k)):=by
 intro c
 induction c with
 | zero=>
  intro A B i hc hA hB hi hAi
  have hBi:B i=-1:=by
   have h0:∀x,x<n→(fun _=>(0:Int)) x≤(fun x=>if B x=-1 then(0:Int)else 1) x:=fun x _=>by dsimp only;split<;>omega
   have:=Xi h0 (by rw[Tc (f:=fun _=>(0:Int)) (fun _ _=>rfl)];omega) i hi
   split at this
   ·assumption
   ·omega
  exact⟨A,B,hA,hB,rfl,hBi,fun x _ a b=>⟨a,b⟩,fun k h=>h,fun k h _=>h,fun k h hh=>h hh.1⟩
 | succ c ih=>
  intro A B i hc hA hB hi hAi
  rcases hB.ok i hi with hBi | ⟨k1,hBi,hk1,hcan⟩
  ·exact⟨A,B,hA,hB,rfl,hBi,fun x _ a b=>⟨a,b⟩,fun k h=>h,fun k h _=>h,fun k h hh=>h hh.1⟩
  have hB1:=hB.drop i
  have hB1f:=hB.drop_free hi hBi
  have wB1:wt w n (upd B i (-1))=wt w n B-w i k1:=by rw[Jx hi,hBi,Bm,Bc];omega
  by_cases hu:Usd n A k1
  ·obtain⟨i1,hi1,hA1⟩:=hu
   have hne:i≠i1:=fun e=>by rw[e,hA1]at hAi;omega
   have hA1':=hA.drop i1
   have hA1f:=hA.drop_free hi1 hA1
   have wA1:wt w n (upd A i1 (-1))=wt w n A-w i1 k1:=by rw[Jx hi1,hA1,Bm,Bc];omega
   have hcnt:sumN (fun x=>if upd B i (-1) x=-1 then 0 else 1) n≤c:=by
    have:=Rm (n:=n) (fun _ (v:Int)=>if v=-1 then(0:Int)else 1) (J:=B) (i:=i) (v:=-1) hi
    rw[this,hBi,if_neg (by omega),if_pos rfl]
    omega
   obtain⟨A',B',q1,q2,q3,q4,q5,q6,q7,q8⟩:=ih (upd A i1 (-1)) (upd B i (-1)) i1 hcnt hA1' hB1 hi1 (B7 _ _ _)
   have hi0:=q5 i hi (by rw[Ap hne];exact hAi) (B7 _ _ _)
   have fA:¬Usd n A' k1:=q7 k1 hA1f hB1f
   have fB:¬Usd n B' k1:=q6 k1 hB1f
   have hcan1:can i1 k1=true:=by
    rcases hA.ok i1 hi1 with h | ⟨k,h1,_,h3⟩
    ·omega
    ·have:k=k1:=by omega
     subst this;exact h3
   have ne1:∀k,k≠k1→(k1:Int)≠k:=fun k h e=>h (by omega)
   refine⟨upd A' i k1,upd B' i1 k1,q1.add hk1 hcan fA,q2.add hk1 hcan1 fB,?_,?_,fun x hx a b=>?_,fun k h=>?_,fun k h1 h2=>?_,fun k h=>?_⟩
   ·rw[Jx hi,Jx hi1,hi0.1,q4,Bc,Bc,Bm,Bm]
    omega
   ·rw[Ap hne];exact hi0.2
   ·have x1:x≠i1:=fun e=>by rw[e,hA1]at a;omega
    have x2:x≠i:=fun e=>by rw[e,hBi]at b;omega
    have:=q5 x hx (by rw[Ap x1];exact a) (by rw[Ap x2];exact b)
    rw[Ap x2,Ap x1];exact this
   ·have hk:k≠k1:=fun e=>h (by rw[e];exact⟨i,hi,hBi⟩)
    intro hh
    exact q6 k (fun h3=>h (h3.Ap (by omega))) (hh.Ap (ne1 k hk))
   ·have hk:k≠k1:=fun e=>h2 (by rw[e];exact⟨i,hi,hBi⟩)
    intro hh
    exact q7 k (fun h3=>h1 (h3.Ap (by omega))) (fun h3=>h2 (h3.Ap (by omega))) (hh.Ap (ne1 k hk))
   ·have hk:k≠k1:=fun e=>h (by rw[e];exact⟨i1,hi1,hA1⟩)
    rintro ⟨h1,h2⟩
    exact q8 k (fun h3=>h (h3.Ap (by omega))) ⟨h1.Ap (ne1 k hk),h2.Ap (ne1 k hk)⟩
  ·refine⟨upd A i k1,upd B i (-1),hA.add hk1 hcan hu,hB1,?_,B7 _ _ _,fun x hx a b=>?_,fun k h=>?_,fun k h1 h2=>?_,fun k h=>?_⟩
   ·rw[wB1,Jx hi,hAi,Bc,Bm];omega
   ·have x2:x≠i:=fun e=>by rw[e,hBi]at b;omega
    rw[Ap x2,Ap x2];exact⟨a,b⟩
   ·exact fun h3=>h (h3.Ap (by omega))
   ·have hk:k≠k1:=fun e=>h2 (by rw[e];exact⟨i,hi,hBi⟩)
    exact fun h3=>h1 (h3.Ap (by omega))
   ·rintro ⟨h1,h2⟩
    by_cases hk:k=k1
    ·subst hk;exact hB1f h2
    ·exact h (h1.Ap (by omega))
theorem Aq5{A B:Nat→Int}{i:Nat}(hA:Mt n m can A)(hB:Mt n m can B)(hi:i<n)(hAi:A i=-1) :
  ∃A' B',Mt n m can A'∧Mt n m can B'∧wt w n A'+wt w n B'=wt w n A+wt w n B∧B' i=-1 ∧
   (∀k,¬Usd n B k→¬Usd n B' k)∧(∀k,¬Usd n A k→¬(Usd n A' k∧Usd n B' k)):=by
 have h0:sumN (fun x=>if B x=-1 then(0:Int)else 1) n≤(sumN (fun x=>if B x=-1 then(0:Int)else 1) n).toNat:=by omega
 obtain⟨A',B',q1,q2,q3,q4,_,q6,_,q8⟩:=exch (w:=w) _ A B i h0 hA hB hi hAi
 exact⟨A',B',q1,q2,q3,q4,q6,q8⟩
structure Ex (n m:Nat) (can:Nat→Nat→Bool) (w:Nat→Nat→Int) (fr:Nat→Prop) (v:Int):Prop where
 ex:∃J,Mt n m can J∧(∀k,fr k→¬Usd n J k)∧wt w n J=v
 le:∀J,Mt n m can J→(∀k,fr k→¬Usd n J k)→wt w n J≤v
theorem Ae0{J:Nat→Int}{V v:Int}{i k:Nat}(hJ:Mt n m can J)(hV:wt w n J=V)(hmax:∀J,Mt n m can J→wt w n J≤V)(hv:Ex n m can w (· = k) v)(hi:i<n)(hJi:J i=-1)(hk:k<m)(hc:can i k=true):w i k+v≤V:=by
 obtain⟨M,hM,hMk,hMv⟩:=hv.ex
 obtain⟨A',B',q1,q2,q3,q4,q6,_⟩:=Aq5 (w:=w) hJ hM hi hJi
 have h1:=hmax A' q1
 have fB:=q6 k (hMk k rfl)
 have h2:=hmax _ (q2.add hk hc fB)
 rw[Jx hi,q4,Bc,Bm]at h2
 omega
theorem Ad1{J:Nat→Int}{V v v':Int}{i k k':Nat}(hJ:Mt n m can J)(hV:wt w n J=V)(hmax:∀J,Mt n m can J→wt w n J≤V)(hv:Ex n m can w (· = k) v)(hv':Ex n m can w (· = k') v')(hi:i<n)(hJi:J i=k)(hk:k'<m)(hc:can i k'=true)(hne:k'≠k):w i k'+v'≤w i k+v:=by
 obtain⟨M,hM,hMk,hMv⟩:=hv'.ex
 obtain⟨A',B',q1,q2,q3,q4,q6,q8⟩:=Aq5 (w:=w) (hJ.drop i) hM hi (B7 _ _ _)
 have wA:wt w n (upd J i (-1))=V-w i k:=by rw[Jx hi,hJi,Bm,Bc,hV];omega
 have fB:=q6 k' (hMk k' rfl)
 have hB:=q2.add hk hc fB
 have wB:wt w n (upd B' i k')=wt w n B'+w i k':=by rw[Jx hi,q4,Bc,Bm];omega
 by_cases c:Usd n A' k
 ·have hBk:¬Usd n B' k:=fun h=>q8 k (hJ.drop_free hi hJi) ⟨c,h⟩
  have h1:=hv.le _ hB (fun x hx=>by subst hx;exact fun h=>hBk (h.Ap (by omega)))
  have h2:=hmax A' q1
  omega
 ·have h1:=hv.le A' q1 (fun x hx=>by subst hx;exact c)
  have h2:=hmax _ hB
  omega
theorem A6k{J:Nat→Int}:∀ {n:Nat} {p:Nat→Int},(∀i,i<n→J i=-1∨∃k:Nat,J i=k∧k<m)→(∀i j,i<n→j<n→i≠j→J i=J j→J i=-1)→(∀k,k<m→¬Usd n J k→p k=0)→sumN p m=sumN (fun i=>if J i=-1 then 0 else p (J i).toNat) n
 | 0,p,_,_,h=>by
  rw[sumN]
  exact Tc (fun k hk=>h k hk (fun⟨i,hi,_⟩=>by omega))
 | n+1,p,h1,h2,h=>by
  rw[sumN]
  rcases h1 n (by omega)with e | ⟨k,e,hk⟩
  ·rw[if_pos e,A6k (n:=n) (fun i hi=>h1 i (by omega)) (fun i j hi hj=>h2 i j (by omega) (by omega)) (fun k hk hu=>h k hk (fun⟨i,hi,hh⟩=>by
    by_cases c:i=n
    ·subst c;rw[e]at hh;omega
    ·exact hu ⟨i,by omega,hh⟩))]
   omega
  ·have ih:=A6k (n:=n) (p:=upd p k 0) (fun i hi=>h1 i (by omega)) (fun i j hi hj=>h2 i j (by omega) (by omega)) (fun x hx hu=>by
    by_cases c:x=k
    ·subst c;exact B7 _ _ _
    ·rw[Ap c]
     refine h x hx (fun⟨i,hi,hh⟩=>?_)
     by_cases c2:i=n
     ·subst c2;rw[e]at hh;omega
     ·exact hu ⟨i,by omega,hh⟩)
   have es:=Rm (n:=m) (fun _ (v:Int)=>v) (J:=p) (i:=k) (v:=0) hk
   have e3:sumN (fun i=>if J i=-1 then 0 else upd p k 0 (J i).toNat) n=sumN (fun i=>if J i=-1 then 0 else p (J i).toNat) n:=by
    refine Bq fun i hi=>?_
    split
    ·rfl
    ·rename_i c
     rcases h1 i (by omega)with h5 | ⟨k2,h5,_⟩
     ·exact absurd h5 c
     ·rw[Ap]
      intro h6
      have:=h2 i n (by omega) (by omega) (by omega) (by rw[h5,e];omega)
      exact c this
   have e4:sumN (upd p k 0) m=sumN p m-p k+0:=es
   rw[if_neg (by omega),e,Int.toNat_natCast]
   omega
theorem Af6{J:Nat→Int}{V:Int}{v p q:Nat→Int}(hJ:Mt n m can J)(hV:wt w n J=V)(hmax:∀J,Mt n m can J→wt w n J≤V)(hv:∀k,k<m→Ex n m can w (· = k) (v k))(hp:∀k,k<m→p k=V-v k)
  (hq0:∀i,i<n→0≤q i) (hq1:∀i k,i<n→k<m→can i k=true→w i k-p k≤q i) (hq2:∀i,i<n→q i=0∨∃k,k<m∧can i k=true∧q i=w i k-p k):sumN q n+sumN p m=V:=by
 have hfree:∀k,k<m→¬Usd n J k→p k=0:=by
  intro k hk hu
  have h1:=(hv k hk).le J hJ (fun x hx=>by subst hx;exact hu)
  obtain⟨M,hM,_,hMv⟩:=(hv k hk).ex
  have h2:=hmax M hM
  have:=hp k hk
  omega
 rw[A6k (n:=n) (J:=J) (fun i hi=>(hJ.ok i hi).imp id fun⟨k,a,b,_⟩=>⟨k,a,b⟩) hJ.inj hfree,←Abq,←hV]
 refine Bq fun i hi=>?_
 rcases hJ.ok i hi with e | ⟨k,e,hk,hc⟩
 ·rw[e,if_pos rfl,Bc]
  rcases hq2 i hi with h | ⟨k,hk,hc,h⟩
  ·omega
  ·have h1:=Ae0 hJ hV hmax (hv k hk) hi e hk hc
   have:=hq0 i hi
   have:=hp k hk
   omega
 ·rw[e,if_neg (by omega),Int.toNat_natCast,Bm]
  have h1:=hq1 i k hi hk hc
  have h2:=hp k hk
  rcases hq2 i hi with h | ⟨k',hk',hc',h⟩
  ·have h3:=(hv k hk).le (upd J i (-1)) (hJ.drop i) (fun x hx=>by subst hx;exact hJ.drop_free hi e)
   rw[Jx hi,e,Bm,Bc,hV]at h3
   omega
  ·by_cases c:k'=k
   ·subst c;omega
   ·have h3:=Ad1 hJ hV hmax (hv k hk) (hv k' hk') hi e hk' hc' c
    have:=hp k' hk'
    omega
end
end Go.Proofs.YthncjilcflilcaaGreat

namespace Go.Proofs.YthncjilcflilcaaGreat
set_option linter.all false
open Go
def mayL(can:Nat→Nat→Bool)(m i:Nat):List Nat:=(List.range m).filter (can i)
theorem B1{can:Nat→Nat→Bool}{m i k:Nat}:k∈mayL can m i↔k<m∧can i k=true:=by
 unfold mayL
 rw[List.mem_filter,List.mem_range]
theorem Amj(can:Nat→Nat→Bool)(m i:Nat):(mayL can m i).Pairwise (· < ·):=List.Pairwise.filter _ List.pairwise_lt_range
def joinsL(can:Nat→Nat→Bool)(m:Nat):Nat→Nat→Nat→List (List Int)
 | 0,_,_=>[[]]
 | d+1,i,u=>(joinsL can m d (i+1) u).map ((-1)::·)++(mayL can m i).flatMap fun k=>if u.testBit k then []else(joinsL can m d (i+1) (u ||| 2 ^ k)).map ((k:Int)::·)
def valJ(t:Nat→Nat→Int):Nat→List Int→Int
 | _,[]=>0
 | i,x::l=>pv t i x+valJ t (i+1) l
def okJ(can:Nat→Nat→Bool)(m:Nat):Nat→Nat→List Int→Prop
 | _,_,[]=>True
 | i,u,x::l=>(x=-1∧okJ can m (i+1) u l)∨∃k:Nat,x=k∧k<m∧can i k=true∧u.testBit k=false∧okJ can m (i+1) (u ||| 2 ^ k) l
section
variable {can:Nat→Nat→Bool} {m:Nat} {t:Nat→Nat→Int}
theorem Am:∀ {d i u:Nat} {l:List Int},l∈joinsL can m d i u↔l.length=d∧okJ can m i u l
 | 0,i,u,l=>by
  simp only[joinsL,List.mem_singleton]
  constructor
  ·rintro rfl;exact⟨rfl,trivial⟩
  ·rintro ⟨h,_⟩;exact List.eq_nil_of_length_eq_zero h
 | d+1,i,u,l=>by
  simp only[joinsL,List.mem_append,List.mem_map,List.mem_flatMap]
  constructor
  ·rintro (⟨a,ha,rfl⟩ | ⟨k,hk,hl⟩)
   ·obtain⟨h1,h2⟩:=Am.1 ha
    exact⟨by simp[h1],.inl ⟨rfl,h2⟩⟩
   ·obtain⟨k1,k2⟩:=B1.1 hk
    cases hb:u.testBit k
    ·rw[hb]at hl
     simp only[Bool.false_eq_true,if_false,List.mem_map]at hl
     obtain⟨a,ha,rfl⟩:=hl
     obtain⟨h1,h2⟩:=Am.1 ha
     exact⟨by simp[h1],.inr ⟨k,rfl,k1,k2,hb,h2⟩⟩
    ·rw[hb]at hl
     simp at hl
  ·rintro ⟨h,ho⟩
   cases l with
   | nil=>simp at h
   | cons x l=>
    have hl:l.length=d:=by simpa using h
    rcases ho with⟨rfl,h2⟩ | ⟨k,rfl,k1,k2,hb,h2⟩
    ·exact .inl ⟨l,Am.2 ⟨hl,h2⟩,rfl⟩
    ·refine .inr ⟨k,B1.2 ⟨k1,k2⟩,?_⟩
     rw[hb]
     simp only[Bool.false_eq_true,if_false,List.mem_map]
     exact⟨l,Am.2 ⟨hl,h2⟩,rfl⟩
theorem nodup_cons{x:Int}{L:List (List Int)}(h:L.Nodup):(L.map (x::·)).Nodup:=by
 unfold List.Nodup at h ⊢
 rw[List.pairwise_map]
 exact h.imp (fun hab e=>hab (by simpa using e))
theorem Fp:∀(d i u:Nat),(joinsL can m d i u).Nodup
 | 0,_,_=>by simp[joinsL]
 | d+1,i,u=>by
  unfold joinsL
  rw[List.nodup_append]
  refine⟨nodup_cons (Fp d _ _),?_,?_⟩
  ·unfold List.Nodup
   rw[List.pairwise_flatMap]
   refine⟨fun k hk=>?_,?_⟩
   ·split
    ·exact .nil
    ·exact nodup_cons (Fp d _ _)
   ·refine(Amj can m i).imp fun{a b} hab x hx y hy e=>?_
    subst e
    split at hx
    ·simp at hx
    split at hy
    ·simp at hy
    simp only[List.mem_map]at hx hy
    obtain⟨p,_,rfl⟩:=hx
    obtain⟨q,_,e⟩:=hy
    simp only[List.cons.injEq]at e
    omega
  ·intro x hx y hy e
   subst e
   simp only[List.mem_map,List.mem_flatMap]at hx hy
   obtain⟨p,_,rfl⟩:=hx
   obtain⟨k,_,hy⟩:=hy
   split at hy
   ·simp at hy
   simp only[List.mem_map]at hy
   obtain⟨q,_,e⟩:=hy
   simp only[List.cons.injEq]at e
   omega
def rsS(t:Nat→Nat→Int)(rec:Nat→Int×Int×Int)(i u:Nat)(b:Int×Int×Int)(k:Nat):Int×Int×Int:=
 if u.testBit k then b else if b.2.1<(rec (u ||| 2 ^ k)).2.1+t i k then((k:Int),(rec (u ||| 2 ^ k)).2.1+t i k,(rec (u ||| 2 ^ k)).2.2)
  else if(rec (u ||| 2 ^ k)).2.1+t i k=b.2.1 then(b.1,b.2.1,b.2.2+(rec (u ||| 2 ^ k)).2.2)else b
def rsR(can:Nat→Nat→Bool)(t:Nat→Nat→Int)(m:Nat):Nat→Nat→Nat→Int×Int×Int
 | 0,_,_=>(-1,0,1)
 | d+1,i,u=>(mayL can m i).foldl (rsS t (rsR can t m d (i+1)) i u) (-1,(rsR can t m d (i+1) u).2.1,(rsR can t m d (i+1) u).2.2)
def blR(can:Nat→Nat→Bool)(t:Nat→Nat→Int)(m:Nat):Nat→Nat→Nat→List Int
 | 0,_,_=>[]
 | d+1,i,u=>(rsR can t m (d+1) i u).1::blR can t m d (i+1) (if(rsR can t m (d+1) i u).1=-1 then u else u ||| 2 ^ (rsR can t m (d+1) i u).1.toNat)
structure Bst (t:Nat→Nat→Int) (i:Nat) (C:List (List Int)) (c w:Int):Prop where
 le:∀l∈C,valJ t i l≤c
 ways:(C.countP (fun l=>decide (valJ t i l=c)):Int)=w
theorem V3{α:Type}{p:α→Bool}{l:List α}(h:∀x∈l,p x=false):l.countP p=0:=by
 rw[List.countP_eq_zero]
 intro x hx
 rw[h x hx];simp
theorem Bst.group{i:Nat}{x:Int}{C:List (List Int)}{c w:Int}(h:Bst t (i+1) C c w):Bst t i (C.map (x::·)) (c+pv t i x) w:=by
 refine⟨fun l hl=>?_,?_⟩
 ·rw[List.mem_map]at hl
  obtain⟨a,ha,rfl⟩:=hl
  have:=h.le a ha
  rw[valJ];omega
 ·rw[List.countP_map,←h.ways]
  congr 1
  refine List.countP_congr fun a _=>?_
  simp only[Function.comp,decide_eq_true_eq]
  rw[valJ]
  constructor<;>intro h<;>omega
theorem Bst.gt{i:Nat}{C G:List (List Int)}{c w c' w':Int}(h:Bst t i C c w)(h':Bst t i G c' w')(hlt:c<c'):Bst t i (C++G) c' w':=by
 refine⟨fun l hl=>?_,?_⟩
 ·rcases List.mem_append.1 hl with hl | hl
  ·have:=h.le l hl;omega
  ·exact h'.le l hl
 ·rw[List.countP_append,V3 (l:=C) (fun l hl=>by
   have:=h.le l hl
   rw[decide_eq_false_iff_not];omega),Nat.zero_add]
  exact h'.ways
theorem Bst.same{i:Nat}{C G:List (List Int)}{c w w':Int}(h:Bst t i C c w)(h':Bst t i G c w'):Bst t i (C++G) c (w+w'):=by
 refine⟨fun l hl=>?_,?_⟩
 ·rcases List.mem_append.1 hl with hl | hl
  ·exact h.le l hl
  ·exact h'.le l hl
 ·rw[List.countP_append]
  have:=h.ways
  have:=h'.ways
  omega
theorem Bst.lt{i:Nat}{C G:List (List Int)}{c w c' w':Int}(h:Bst t i C c w)(h':Bst t i G c' w')(hlt:c'<c):Bst t i (C++G) c w:=by
 refine⟨fun l hl=>?_,?_⟩
 ·rcases List.mem_append.1 hl with hl | hl
  ·exact h.le l hl
  ·have:=h'.le l hl;omega
 ·rw[List.countP_append,V3 (l:=G) (fun l hl=>by
   have:=h'.le l hl
   rw[decide_eq_false_iff_not];omega),Nat.add_zero]
  exact h.ways
def Fnd(can:Nat→Nat→Bool)(t:Nat→Nat→Int)(m:Nat)(rec:Nat→Int×Int×Int)(i u:Nat)(b:Int×Int×Int):Prop:=
 b.1=-1∧b.2.1=(rec u).2.1∨∃k:Nat,b.1=k∧k∈mayL can m i∧u.testBit k=false∧b.2.1=(rec (u ||| 2 ^ k)).2.1+t i k
theorem A6f{d i u:Nat}(ih:∀u,Bst t (i+1) (joinsL can m d (i+1) u) (rsR can t m d (i+1) u).2.1 (rsR can t m d (i+1) u).2.2) :
  ∀(ks:List Nat) (C:List (List Int)) (b:Int×Int×Int),(∀k∈ks,k∈mayL can m i)→Bst t i C b.2.1 b.2.2→Fnd can t m (rsR can t m d (i+1)) i u b →
   Bst t i (C++ks.flatMap fun k=>if u.testBit k then []else(joinsL can m d (i+1) (u ||| 2 ^ k)).map ((k:Int)::·)) (ks.foldl (rsS t (rsR can t m d (i+1)) i u) b).2.1 (ks.foldl (rsS t (rsR can t m d (i+1)) i u) b).2.2 ∧
   Fnd can t m (rsR can t m d (i+1)) i u (ks.foldl (rsS t (rsR can t m d (i+1)) i u) b)
 | [],C,b,_,h,hf=>by simpa using ⟨h,hf⟩
 | k::ks,C,b,hk,h,hf=>by
  rw[List.foldl_cons,List.flatMap_cons,←List.append_assoc]
  have hm:=hk k (by simp)
  have hks:∀k∈ks,k∈mayL can m i:=fun x hx=>hk x (by simp[hx])
  cases hb:u.testBit k
  ·have hg:=(ih (u ||| 2 ^ k)).group (x:=(k:Int))
   rw[Bm]at hg
   simp only[Bool.false_eq_true,if_false]
   have key:Bst t i (C++(joinsL can m d (i+1) (u ||| 2 ^ k)).map ((k:Int)::·)) (rsS t (rsR can t m d (i+1)) i u b k).2.1 (rsS t (rsR can t m d (i+1)) i u b k).2.2∧Fnd can t m (rsR can t m d (i+1)) i u (rsS t (rsR can t m d (i+1)) i u b k):=by
    unfold rsS
    rw[hb]
    simp only[Bool.false_eq_true,if_false]
    by_cases c1:b.2.1<(rsR can t m d (i+1) (u ||| 2 ^ k)).2.1+t i k
    ·rw[if_pos c1]
     exact⟨h.gt hg c1,.inr ⟨k,rfl,hm,hb,rfl⟩⟩
    ·rw[if_neg c1]
     by_cases c2:(rsR can t m d (i+1) (u ||| 2 ^ k)).2.1+t i k=b.2.1
     ·rw[if_pos c2]
      rw[c2]at hg
      exact⟨h.same hg,hf⟩
     ·rw[if_neg c2]
      exact⟨h.lt hg (by omega),hf⟩
   exact A6f ih ks _ _ hks key.1 key.2
  ·simp only[if_true,List.append_nil]
   have:rsS t (rsR can t m d (i+1)) i u b k=b:=by unfold rsS;rw[hb];rfl
   rw[this]
   exact A6f ih ks _ _ hks h hf
theorem A4e:∀(d i u:Nat),Bst t i (joinsL can m d i u) (rsR can t m d i u).2.1 (rsR can t m d i u).2.2∧(0<d→Fnd can t m (rsR can t m (d-1) (i+1)) i u (rsR can t m d i u))
 | 0,i,u=>⟨⟨fun l hl=>by simp only[joinsL,List.mem_singleton]at hl;subst hl;exact Int.le_refl _,by simp[joinsL,rsR,valJ]⟩,fun h=>by omega⟩
 | d+1,i,u=>by
  have ih:∀u,Bst t (i+1) (joinsL can m d (i+1) u) (rsR can t m d (i+1) u).2.1 (rsR can t m d (i+1) u).2.2:=fun u=>(A4e d (i+1) u).1
  have h0:=(ih u).group (x:=-1)
  rw[Bc,Int.add_zero]at h0
  have:=A6f (u:=u) ih (mayL can m i) _ (-1,(rsR can t m d (i+1) u).2.1,(rsR can t m d (i+1) u).2.2) (fun k hk=>hk) h0 (.inl ⟨rfl,rfl⟩)
  exact⟨this.1,fun _=>this.2⟩
theorem T2(d i u:Nat):Bst t i (joinsL can m d i u) (rsR can t m d i u).2.1 (rsR can t m d i u).2.2:=(A4e d i u).1
theorem Ace{d i u:Nat}:Fnd can t m (rsR can t m d (i+1)) i u (rsR can t m (d+1) i u):=(A4e (d+1) i u).2 (by omega)
theorem Hq:∀(d i u:Nat),okJ can m i u (blR can t m d i u)∧(blR can t m d i u).length=d∧valJ t i (blR can t m d i u)=(rsR can t m d i u).2.1
 | 0,i,u=>⟨trivial,rfl,rfl⟩
 | d+1,i,u=>by
  have hf:=Ace (can:=can) (t:=t) (m:=m) (d:=d) (i:=i) (u:=u)
  unfold blR
  rcases hf with⟨h1,h2⟩ | ⟨k,h1,h2,h3,h4⟩
  ·obtain⟨q1,q2,q3⟩:=Hq d (i+1) u
   rw[h1,if_pos rfl]
   exact⟨.inl ⟨rfl,q1⟩,by simp[q2],by rw[valJ,Bc,q3,h2];omega⟩
  ·obtain⟨q1,q2,q3⟩:=Hq d (i+1) (u ||| 2 ^ k)
   obtain⟨k1,k2⟩:=B1.1 h2
   rw[h1,if_neg (by omega),Int.toNat_natCast]
   exact⟨.inr ⟨k,rfl,k1,k2,h3,q1⟩,by simp[q2],by rw[valJ,Bm,q3,h4];omega⟩
theorem Aey{u k j:Nat}:(u ||| 2 ^ k).testBit j=(u.testBit j || decide (k=j)):=by rw[Nat.testBit_or,Nat.testBit_two_pow]
theorem Qz:∀ {l:List Int} {i u:Nat},okJ can m i u l↔(∀j,j<l.length→l.getD j (-1)=-1∨∃k:Nat,l.getD j (-1)=k∧k<m∧can (i+j) k=true∧u.testBit k=false)∧∀a b,a<b→b<l.length→l.getD a (-1)=l.getD b (-1)→l.getD a (-1)=-1
 | [],i,u=>by
  constructor
  ·exact fun _=>⟨fun j h=>by simp at h,fun a b _ h=>by simp at h⟩
  ·exact fun _=>trivial
 | x::l,i,u=>by
  have e0:(x::l).getD 0 (-1)=x:=rfl
  have es:∀j,(x::l).getD (j+1) (-1)=l.getD j (-1):=fun j=>rfl
  unfold okJ
  constructor
  ·rintro (⟨rfl,h⟩ | ⟨k,rfl,k1,k2,k3,h⟩)
   ·obtain⟨h1,h2⟩:=Qz.1 h
    refine⟨fun j hj=>?_,fun a b hab hb he=>?_⟩
    ·cases j with
     | zero=>exact .inl rfl
     | succ j=>
      rw[es,show i+(j+1)=i+1+j by omega]
      exact h1 j (by simpa using hj)
    ·cases a with
     | zero=>rfl
     | succ a=>
      cases b with
      | zero=>omega
      | succ b=>rw[es]at he ⊢;rw[es]at he;exact h2 a b (by omega) (by simpa using hb) he
   ·obtain⟨h1,h2⟩:=Qz.1 h
    refine⟨fun j hj=>?_,fun a b hab hb he=>?_⟩
    ·cases j with
     | zero=>exact .inr ⟨k,rfl,k1,by simpa using k2,k3⟩
     | succ j=>
      rw[es,show i+(j+1)=i+1+j by omega]
      rcases h1 j (by simpa using hj)with h | ⟨q,a,b,c,d⟩
      ·exact .inl h
      ·rw[Aey,Bool.or_eq_false_iff]at d
       exact .inr ⟨q,a,b,c,d.1⟩
    ·cases b with
     | zero=>omega
     | succ b=>
      cases a with
      | zero=>
       rw[e0,es]at he
       rcases h1 b (by simpa using hb)with h | ⟨q,a,_,_,d⟩
       ·omega
       ·rw[Aey,Bool.or_eq_false_iff]at d
        have:k=q:=by omega
        simp[this]at d
      | succ a=>rw[es]at he ⊢;rw[es]at he;exact h2 a b (by omega) (by simpa using hb) he
  ·rintro ⟨h1,h2⟩
   have g2:∀a b,a<b→b<l.length→l.getD a (-1)=l.getD b (-1)→l.getD a (-1)=-1:=fun a b hab hb he=>h2 (a+1) (b+1) (by omega) (by simpa using hb) he
   rcases h1 0 (by simp)with h | ⟨k,ha,hb,hc,hd⟩
   ·refine .inl ⟨h,Qz.2 ⟨fun j hj=>?_,g2⟩⟩
    have:=h1 (j+1) (by simpa using hj)
    rw[es,show i+(j+1)=i+1+j by omega]at this
    exact this
   ·rw[e0]at ha
    refine .inr ⟨k,ha,hb,by simpa using hc,hd,Qz.2 ⟨fun j hj=>?_,g2⟩⟩
    have:=h1 (j+1) (by simpa using hj)
    rw[es,show i+(j+1)=i+1+j by omega]at this
    rcases this with h | ⟨q,q1,q2,q3,q4⟩
    ·exact .inl h
    ·refine .inr ⟨q,q1,q2,q3,?_⟩
     rw[Aey,q4,Bool.false_or,decide_eq_false_iff_not]
     intro e
     have:=h2 0 (j+1) (by omega) (by simpa using hj) (by rw[e0,es,ha,q1,e])
     rw[e0]at this
     omega
def fnJ(l:List Int):Nat→Int:=fun j=>l.getD j (-1)
theorem Oa{l:List Int}{u:Nat}:okJ can m 0 u l↔Mt l.length m can (fnJ l)∧∀k,u.testBit k=true→¬Usd l.length (fnJ l) k:=by
 rw[Qz]
 unfold fnJ
 constructor
 ·rintro ⟨h1,h2⟩
  refine⟨⟨fun i hi=>?_,fun i j hi hj hij he=>?_⟩,fun k hk=>?_⟩
  ·rcases h1 i hi with h | ⟨k,a,b,c,d⟩
   ·exact .inl h
   ·exact .inr ⟨k,a,b,by simpa using c⟩
  ·rcases Nat.lt_or_gt_of_ne hij with h | h
   ·exact h2 i j h hj he
   ·have:=h2 j i h hi he.symm
    rw[he];exact this
  ·rintro ⟨i,hi,e⟩
   dsimp only at e
   rcases h1 i hi with h | ⟨q,a,b,c,d⟩
   ·omega
   ·have:q=k:=by omega
    subst this
    rw[hk]at d;cases d
 ·rintro ⟨h1,h2⟩
  refine⟨fun j hj=>?_,fun a b hab hb he=>h1.inj a b (by omega) hb (by omega) he⟩
  rcases h1.ok j hj with h | ⟨k,a,b,c⟩
  ·exact .inl h
  ·refine .inr ⟨k,a,b,by simpa using c,?_⟩
   cases hk:u.testBit k
   ·rfl
   ·exact absurd ⟨j,hj,a⟩ (h2 k hk)
theorem X7(f:Nat→Int):∀n:Nat,sumN f (n+1)=f 0+sumN (fun i=>f (i+1)) n
 | 0=>by simp[sumN]
 | n+1=>by
  rw[sumN,X7 f n,sumN];omega
theorem Aam:∀(l:List Int) (i:Nat),valJ t i l=sumN (fun j=>pv t (i+j) (l.getD j (-1))) l.length
 | [],_=>rfl
 | x::l,i=>by
  rw[valJ,Aam l (i+1),List.length_cons,X7]
  congr 1
  refine Bq fun j _=>?_
  rw[show i+(j+1)=i+1+j by omega];rfl
theorem A5b(l:List Int):valJ t 0 l=wt t l.length (fnJ l):=by
 rw[Aam]
 refine Bq fun j _=>?_
 rw[Nat.zero_add];rfl
theorem Aea{f:Nat→Int}{n j:Nat}(h:j<n):((List.range n).map f).getD j (-1)=f j:=by
 simp[List.getD,h]
theorem Ap4{n u:Nat}{J:Nat→Int}(hJ:Mt n m can J)(hu:∀k,u.testBit k=true→¬Usd n J k):(List.range n).map J∈joinsL can m n 0 u∧valJ t 0 ((List.range n).map J)=wt t n J:=by
 have e:∀j,j<n→fnJ ((List.range n).map J) j=J j:=fun j hj=>Aea hj
 have hl:((List.range n).map J).length=n:=by simp
 refine⟨Am.2 ⟨hl,Oa.2 ?_⟩,?_⟩
 ·rw[hl]
  refine⟨⟨fun i hi=>by rw[e i hi];exact hJ.ok i hi,fun i j hi hj hij he=>?_⟩,fun k hk ⟨i,hi,h⟩=>hu k hk ⟨i,hi,by rw[←e i hi];exact h⟩⟩
  rw[e i hi,e j hj]at he
  rw[e i hi]
  exact hJ.inj i j hi hj hij he
 ·rw[A5b,hl]
  exact Bq fun j hj=>by rw[e j hj]
theorem Agr{n u:Nat}{l:List Int}(h:l∈joinsL can m n 0 u):Mt n m can (fnJ l)∧(∀k,u.testBit k=true→¬Usd n (fnJ l) k)∧valJ t 0 l=wt t n (fnJ l):=by
 obtain⟨hl,ho⟩:=Am.1 h
 obtain⟨h1,h2⟩:=Oa.1 ho
 rw[hl]at h1 h2
 exact⟨h1,h2,by rw[A5b,hl]⟩
theorem Ala(n u:Nat):Ex n m can t (fun k=>u.testBit k=true) (rsR can t m n 0 u).2.1:=by
 have hb:=T2 (can:=can) (t:=t) (m:=m) n 0 u
 obtain⟨q1,q2,q3⟩:=Hq (can:=can) (t:=t) (m:=m) n 0 u
 obtain⟨h1,h2,h3⟩:=Agr (t:=t) (Am.2 ⟨q2,q1⟩)
 refine⟨⟨_,h1,h2,by rw[←h3,q3]⟩,fun J hJ hu=>?_⟩
 obtain⟨a,b⟩:=Ap4 (t:=t) hJ hu
 rw[←b]
 exact hb.le _ a
theorem A7r{α:Type}{p q:α→Bool}{a b:List α}(ha:a.Nodup)(hb:b.Nodup)(h:∀x,x∈a↔x∈b)(hpq:∀x∈a,p x=q x):a.countP p=b.countP q:=by
 rw[((List.perm_ext_iff_of_nodup ha hb).2 h).countP_eq p]
 refine List.countP_congr fun x hx=>?_
 rw[hpq x ((h x).2 hx)]
end
end Go.Proofs.YthncjilcflilcaaGreat

namespace Go.Proofs.YthncjilcflilcaaGreat
set_option linter.all false
open Go

theorem Mx{P:Program}{s:Spec}(hok:A0 P s)(hb:s.ins.blks=[]){p:s.ins.den}{r:altD s.outs}(hr:s.run p some=some r){M:Nat→Option Obj}{w:World}(hM:∀b o,M b=some o→w.heap[b]?=some o)
  {vs:List Value} (hv:RepVs ⟨fun _=>none,M⟩ (encs id s.ins.avs p.1) vs):Fn P s.f vs.toArray w (fun v w'=>Ext w w'∧∃g',RepV g' (resVal (encs id (altOf s.outs r).1.avs (altOf s.outs r).2.1)) v):=by
 have hh:∀i,hOf p.2 i=Option.none:=fun i=>by
  unfold hOf
  rw[List.getElem?_eq_none]
  rw[Ae,hb];exact Nat.zero_le _
 have hs:Sim ⟨fun _=>none,M⟩ (hOf p.2) w:=⟨fun b o h=>hM b o h,fun i k hk=>(by rw[hh i]at hk;cases hk),fun i j ki kj b ci ni cj nj h1=>(by rw[hh i]at h1;cases h1)⟩
 refine Fn.mono (hok.fn p r hr ⟨fun _=>none,M⟩ w vs hv hs (fun _ _=>rfl)) ?_
 rintro v w' ⟨g',st,_,hv'⟩
 refine⟨⟨st.os,st.tape,st.output,st.size,fun k hk _=>st.same k hk ?_⟩,g',hv'⟩
 rintro ⟨i,hi,_⟩
 rw[hb]at hi;simp at hi
def Cl(w:World)(b o:Nat)(vs:List Value):Prop:=∀(i:Nat) (v:Value),vs[i]?=some v→w.cell? ⟨b,o+i,none⟩=some v
theorem Cl.cell{w:World}{b o i:Nat}{vs:List Value}{v:Value}(h:Cl w b o vs)(hi:vs[i]?=some v):w.cell? ⟨b,o+i,none⟩=some v:=h i v hi
theorem Cl.of_seg{w:World}{b o:Nat}{ws us:List Value}{ty:TypeId}{z:Nat×Nat}(hb:w.heap[b]?=some (.cells ws.toArray ty z))(h:Seg ws o us):Cl w b o us:=fun i v hi=>by
 have:=Seg.row hb h i v hi
 rwa [Ar]at this
def mayF(R:Nat→Bool)(m k:Nat):List Nat:=(List.range' k (m-k)).filter R
theorem Aa1{R:Nat→Bool}{m k:Nat}(h:k<m)(e:R k=true):mayF R m k=k::mayF R m (k+1):=by
 unfold mayF
 rw[show m-k=(m-(k+1))+1 by omega,List.range'_succ,List.filter_cons,if_pos e]
theorem Afw{R:Nat→Bool}{m k:Nat}(h:k<m)(e:R k=false):mayF R m k=mayF R m (k+1):=by
 unfold mayF
 rw[show m-k=(m-(k+1))+1 by omega,List.range'_succ,List.filter_cons,if_neg (by simp[e])]
theorem A84{R:Nat→Bool}{m k:Nat}(h:m≤k):mayF R m k=[]:=by
 unfold mayF
 rw[show m-k=0 by omega];rfl
theorem Lr{R:Nat→Bool}{m k j:Nat}:j∈mayF R m k↔k≤j∧j<m∧R j=true:=by
 unfold mayF
 rw[List.mem_filter,List.mem_range'_1]
 constructor
 ·rintro ⟨⟨h1,h2⟩,h3⟩;exact⟨h1,by omega,h3⟩
 ·rintro ⟨h1,h2,h3⟩;exact⟨⟨h1,by omega⟩,h3⟩
noncomputable def c123:Code:=(Tryz.f96.body).getD .skip
noncomputable def Amt:List Item:=[.code (sub c123 [0]),.code (sub c123 [1])]
noncomputable def Kp:List Item:=[.code (sub c123 [1,0,0,0]),.code (sub c123 [1,0,0,1]),.inLoop (sub c123 [1,0,0]),.inBlock 0]
noncomputable def Alh:List Item:=[.code (sub c123 [1,0,0,1,0]),.code (sub c123 [1,0,0,1,1]),.inLoop (sub c123 [1,0,0]),.inBlock 0]
noncomputable def Amb:List Item:=[.code (sub c123 [1,0,0,1,1,0,0,0]),.code (sub c123 [1,0,0,1,1,0,0,1]),.inBlock 1,.code (sub c123 [1,0,0,1,1,1]),.inLoop (sub c123 [1,0,0]),.inBlock 0]
noncomputable def Ali:List Item:=[]
noncomputable def Akx:List Item:=[.code (sub c123 [1,0,0,1,1,0,0,1,0]),.code (sub c123 [1,0,0,1,1,0,0,1,1]),.inBlock 1,.code (sub c123 [1,0,0,1,1,1]),.inLoop (sub c123 [1,0,0]),.inBlock 0]
noncomputable def Aml:List Item:=[.code (sub c123 [1,0,0,1,1,0,0,1,1]),.inBlock 1,.code (sub c123 [1,0,0,1,1,1]),.inLoop (sub c123 [1,0,0]),.inBlock 0]
noncomputable def Sv:List Item:=[.code (sub c123 [1,0,0,1,1,0,0,1,1,0]),.inBlock 1,.code (sub c123 [1,0,0,1,1,1]),.inLoop (sub c123 [1,0,0]),.inBlock 0]
noncomputable def S3:List Item:=[.code (sub c123 [1,0,0,1,1,1]),.inLoop (sub c123 [1,0,0]),.inBlock 0]
set_option maxHeartbeats 400000 in
theorem Aod(l bd od bc oc bl ol:Nat)(vd vd2:Addr)(lost:Int)(m:Nat)(fs:Option Addr)(fc:Nat)(R:Nat→Bool)(S:List Nat)(J:List Nat→World→Prop)(Q:World→Prop)(w:World)
  (hbd:∀w',Upd (l::S) w w'→Cl w' bd od [.pointer (some vd)]) (hbc:∀w',Upd (l::S) w w'→Cl w' bc oc [(.func (.func 71) #[.pointer (some vd2)] #[])]) (hbl:∀w',Upd (l::S) w w'→Cl w' bl ol [.int .i64 lost])
  (hfo:∀w',Upd (l::S) w w'→w'.cell? (vd.add 3)=some (.slice fs m fc))
  (hcan:∀(k:Nat) w',k<m→Upd (l::S) w w'→Fn Tryz.prog 71 #[.pointer (some vd2),.int .i64 lost,.int .i64 (↑k:Int)] w' (fun v w2=>Ext w' w2∧v=.bool (R k)))
  (hm:m≤1000000) (hJ:J (mayF R m 0) w) (hxJ:∀r,Hs w.heap.size (J r))
  (hy:∀k r w1,k∈mayF R m 0→J (k::r) w1→Upd (l::S) w w1→Fj Tryz.prog l #[.int .i64 ↑k] w1 (fun v w2=>Upd (l::S) w1 w2∧((v=.bool true∧J r w2)∨(v=.bool false∧Q w2)))) :
  Fn Tryz.prog 96 #[(.func (.yield l) #[] #[]),(.pointer (some ⟨bd,od,none⟩)),(.pointer (some ⟨bc,oc,none⟩)),(.pointer (some ⟨bl,ol,none⟩))] w (fun _ w'=>Upd (l::S) w w'∧(J [] w'∨Q w')):=by
 refine Fn.ofSt (c:=c123) 26 Amt [(0,(.func (.yield l) #[] #[])),(1,(.pointer (some ⟨bd,od,none⟩))),(2,(.pointer (some ⟨bc,oc,none⟩))),(3,(.pointer (some ⟨bl,ol,none⟩)))] Tryz.func96 (by kernel_rfl) ⟨⟨rfl,by kernel_rfl⟩,by kernel_rfl⟩ (by kernel_rfl) ?_
 intro cs
 refine St.reg Kp [(0,true),(1,true),(2,true),(3,true),(4,true),(5,true),(6,true)] (by kernel_rfl) (by kernel_rfl) ?_
 refine RX.q 7 [(0,true,(.pointer (some vd))),(4,true,(.slice fs m fc))] [(0,(.func (.yield l) #[] #[])),(1,(.pointer (some ⟨bd,od,none⟩))),(2,(.pointer (some ⟨bc,oc,none⟩))),(3,(.pointer (some ⟨bl,ol,none⟩))),(11,(.int .i64 (↑m:Int))),(12,(.int .i64 0))] [.cell ⟨bd,od+0,none⟩ (.pointer (some vd)),.cell (vd.add 3) (.slice fs m fc)] (by kernel_rfl) ⟨Cl.cell (hbd w (Upd.refl _ w)) rfl,hfo w (Upd.refl _ w)⟩ ?_
 refine RX.done [(0,(.func (.yield l) #[] #[])),(1,(.pointer (some ⟨bd,od,none⟩))),(2,(.pointer (some ⟨bc,oc,none⟩))),(3,(.pointer (some ⟨bl,ol,none⟩))),(11,(.int .i64 (↑m:Int))),(12,(.int .i64 0))] (by kernel_rfl) (by kernel_rfl) ?_
 have loop1:∀(N:Nat) (k:Nat) (w2:World),k≤m→(J (mayF R m k) w2)→(Upd (l::S) w w2)→N=m-k→St Tryz.prog (fctx Tryz.prog 96 (fun _ w'=>Upd (l::S) w w'∧(J [] w'∨Q w')) cs) 26 Kp [(12,(.int .i64 (↑k:Int))),(11,(.int .i64 (↑m:Int))),(0,(.func (.yield l) #[] #[])),(1,(.pointer (some ⟨bd,od,none⟩))),(2,(.pointer (some ⟨bc,oc,none⟩))),(3,(.pointer (some ⟨bl,ol,none⟩)))] [] w2:=by
  intro N3
  induction N3 using Nat.strongRecOn with
  | ind N3 ih4=>?_
  intro k w2 hk hJk hE hN5
  refine St.reg Alh [(0,true)] (by kernel_rfl) (by kernel_rfl) ?_
  refine RX.q 1 [] [(0,(.func (.yield l) #[] #[])),(1,(.pointer (some ⟨bd,od,none⟩))),(2,(.pointer (some ⟨bc,oc,none⟩))),(3,(.pointer (some ⟨bl,ol,none⟩))),(11,(.int .i64 (↑m:Int))),(12,(.int .i64 (↑k:Int))),(13,(.bool (decide ((↑k:Int)<(↑m:Int)))))] [] (by kernel_rfl) trivial ?_
  refine RX.done [(0,(.func (.yield l) #[] #[])),(1,(.pointer (some ⟨bd,od,none⟩))),(2,(.pointer (some ⟨bc,oc,none⟩))),(3,(.pointer (some ⟨bl,ol,none⟩))),(11,(.int .i64 (↑m:Int))),(12,(.int .i64 (↑k:Int))),(13,(.bool (decide ((↑k:Int)<(↑m:Int)))))] (by kernel_rfl) (by kernel_rfl) ?_
  refine St.cond (k1:=Amb) (k2:=Ali) (decide ((↑k:Int)<(↑m:Int))) (by kernel_rfl) (fun hc7=>?_) (fun hc7=>?_)
  ·have hh8:(↑k:Int)<(↑m:Int):=by simpa using hc7
   clear hc7
   refine St.weak (L':=[(12,(.int .i64 (↑k:Int))),(11,(.int .i64 (↑m:Int))),(0,(.func (.yield l) #[] #[])),(1,(.pointer (some ⟨bd,od,none⟩))),(2,(.pointer (some ⟨bc,oc,none⟩))),(3,(.pointer (some ⟨bl,ol,none⟩)))]) (by kernel_rfl) ?_
   refine St.reg Akx [(0,true),(1,true)] (by kernel_rfl) (by kernel_rfl) ?_
   refine RX.q 2 [] [(0,(.func (.yield l) #[] #[])),(1,(.pointer (some ⟨bd,od,none⟩))),(2,(.pointer (some ⟨bc,oc,none⟩))),(3,(.pointer (some ⟨bl,ol,none⟩))),(11,(.int .i64 (↑m:Int))),(12,(.int .i64 (↑k:Int))),(5,(.int .i64 (↑k:Int)))] [] (by kernel_rfl) trivial ?_
   refine RX.done [(0,(.func (.yield l) #[] #[])),(1,(.pointer (some ⟨bd,od,none⟩))),(2,(.pointer (some ⟨bc,oc,none⟩))),(3,(.pointer (some ⟨bl,ol,none⟩))),(11,(.int .i64 (↑m:Int))),(12,(.int .i64 (↑k:Int))),(5,(.int .i64 (↑k:Int)))] (by kernel_rfl) (by kernel_rfl) ?_
   refine St.reg Aml [(0,true),(1,true),(2,true),(3,false),(4,true),(5,true),(6,true),(7,false),(8,true),(9,true)] (by kernel_rfl) (by kernel_rfl) ?_
   refine RX.q 3 [(0,true,(.func (.func 71) #[.pointer (some vd2)] #[])),(1,true,(.int .i64 lost))] [(0,(.func (.yield l) #[] #[])),(1,(.pointer (some ⟨bd,od,none⟩))),(2,(.pointer (some ⟨bc,oc,none⟩))),(3,(.pointer (some ⟨bl,ol,none⟩))),(11,(.int .i64 (↑m:Int))),(12,(.int .i64 (↑k:Int))),(5,(.int .i64 (↑k:Int))),(15,(.func (.func 71) #[.pointer (some vd2)] #[])),(16,(.int .i64 lost)),(17,(.int .i64 (↑k:Int)))] [.cell ⟨bc,oc+0,none⟩ (.func (.func 71) #[.pointer (some vd2)] #[]),.cell ⟨bl,ol+0,none⟩ (.int .i64 lost)] (by kernel_rfl) ⟨Cl.cell (hbc w2 hE) rfl,Cl.cell (hbl w2 hE) rfl⟩ ?_
   refine RX.call 18 71 #[.pointer (some vd2),(.int .i64 lost),(.int .i64 (↑k:Int))] [(0,(.func (.yield l) #[] #[])),(1,(.pointer (some ⟨bd,od,none⟩))),(2,(.pointer (some ⟨bc,oc,none⟩))),(3,(.pointer (some ⟨bl,ol,none⟩))),(11,(.int .i64 (↑m:Int))),(12,(.int .i64 (↑k:Int))),(5,(.int .i64 (↑k:Int))),(15,(.func (.func 71) #[.pointer (some vd2)] #[])),(16,(.int .i64 lost)),(17,(.int .i64 (↑k:Int)))] (fun _=>by kernel_rfl) (by kernel_rfl) ?_
   refine Fn.mono (hcan k w2 (by omega) hE) ?_
   rintro _ w4 ⟨hx4,rfl⟩
   have hE4:Upd (l::S) w w4:=Upd.ext hE hx4
   have hJ4:J (mayF R m k) w4:=Hs.ext (hxJ _) hJk hx4
   cases hR:R k with
   | true=>
    refine RX.q 3 [] [(0,(.func (.yield l) #[] #[])),(1,(.pointer (some ⟨bd,od,none⟩))),(2,(.pointer (some ⟨bc,oc,none⟩))),(3,(.pointer (some ⟨bl,ol,none⟩))),(11,(.int .i64 (↑m:Int))),(12,(.int .i64 (↑k:Int))),(19,(.bool true)),(20,(.func (.yield l) #[] #[])),(21,(.int .i64 (↑k:Int)))] [] (by kernel_rfl) trivial ?_
    rw[Aa1 (by omega) hR]at hJ4
    refine RX.yield 22 l #[(.int .i64 (↑k:Int))] [(0,(.func (.yield l) #[] #[])),(1,(.pointer (some ⟨bd,od,none⟩))),(2,(.pointer (some ⟨bc,oc,none⟩))),(3,(.pointer (some ⟨bl,ol,none⟩))),(11,(.int .i64 (↑m:Int))),(12,(.int .i64 (↑k:Int))),(19,(.bool true)),(20,(.func (.yield l) #[] #[])),(21,(.int .i64 (↑k:Int)))] (by kernel_rfl) ?_
    refine Fj.mono (hy k _ w4 (Lr.2 ⟨by omega,by omega,hR⟩) hJ4 hE4) ?_
    rintro _ w5 ⟨hu5,⟨rfl,hv⟩ | ⟨rfl,hv⟩⟩
    ·refine RX.q 2 [] [(0,(.func (.yield l) #[] #[])),(1,(.pointer (some ⟨bd,od,none⟩))),(2,(.pointer (some ⟨bc,oc,none⟩))),(3,(.pointer (some ⟨bl,ol,none⟩))),(11,(.int .i64 (↑m:Int))),(12,(.int .i64 (↑k:Int))),(24,(.bool false))] [] (by kernel_rfl) trivial ?_
     refine RX.done [(0,(.func (.yield l) #[] #[])),(1,(.pointer (some ⟨bd,od,none⟩))),(2,(.pointer (some ⟨bc,oc,none⟩))),(3,(.pointer (some ⟨bl,ol,none⟩))),(11,(.int .i64 (↑m:Int))),(12,(.int .i64 (↑k:Int))),(24,(.bool false))] (by kernel_rfl) (by kernel_rfl) ?_
     refine St.cond (k1:=Sv) (k2:=S3) false (by kernel_rfl) (fun hc=>?_) (fun hc=>?_)
     ·cases hc
     ·clear hc
      refine St.weak (L':=[(12,(.int .i64 (↑k:Int))),(11,(.int .i64 (↑m:Int))),(0,(.func (.yield l) #[] #[])),(1,(.pointer (some ⟨bd,od,none⟩))),(2,(.pointer (some ⟨bc,oc,none⟩))),(3,(.pointer (some ⟨bl,ol,none⟩)))]) (by kernel_rfl) ?_
      refine St.reg Kp [(0,true),(1,true)] (by kernel_rfl) (by kernel_rfl) ?_
      refine RX.q 2 [(0,false,(.int .i64 ((↑k:Int)+1)))] [(0,(.func (.yield l) #[] #[])),(1,(.pointer (some ⟨bd,od,none⟩))),(2,(.pointer (some ⟨bc,oc,none⟩))),(3,(.pointer (some ⟨bl,ol,none⟩))),(11,(.int .i64 (↑m:Int))),(12,(.int .i64 ((↑k:Int)+1)))] [.eq (.int .i64 (IntKind.i64.wrap ((↑k:Int)+1))) (.int .i64 ((↑k:Int)+1))] (by kernel_rfl) (int64 (by omega)) ?_
      refine RX.done [(0,(.func (.yield l) #[] #[])),(1,(.pointer (some ⟨bd,od,none⟩))),(2,(.pointer (some ⟨bc,oc,none⟩))),(3,(.pointer (some ⟨bl,ol,none⟩))),(11,(.int .i64 (↑m:Int))),(12,(.int .i64 ((↑k:Int)+1)))] (by kernel_rfl) (by kernel_rfl) ?_
      refine St.weak (by kernel_rfl) (ih4 _ ?_ (k+1) w5 (by omega) hv (Upd.trans hE4 hu5) rfl)
      omega
    ·refine RX.q 2 [] [(0,(.func (.yield l) #[] #[])),(1,(.pointer (some ⟨bd,od,none⟩))),(2,(.pointer (some ⟨bc,oc,none⟩))),(3,(.pointer (some ⟨bl,ol,none⟩))),(11,(.int .i64 (↑m:Int))),(12,(.int .i64 (↑k:Int))),(24,(.bool true))] [] (by kernel_rfl) trivial ?_
     refine RX.done [(0,(.func (.yield l) #[] #[])),(1,(.pointer (some ⟨bd,od,none⟩))),(2,(.pointer (some ⟨bc,oc,none⟩))),(3,(.pointer (some ⟨bl,ol,none⟩))),(11,(.int .i64 (↑m:Int))),(12,(.int .i64 (↑k:Int))),(24,(.bool true))] (by kernel_rfl) (by kernel_rfl) ?_
     refine St.cond (k1:=Sv) (k2:=S3) true (by kernel_rfl) (fun hc=>?_) (fun hc=>?_)
     ·clear hc
      refine St.weak (L':=[]) (by kernel_rfl) ?_
      refine St.ret [] [] (by kernel_rfl) Tryz.func96 (by kernel_rfl) .nil ?_
      exact⟨Upd.trans hE4 hu5,.inr hv⟩
     ·cases hc
   | false=>
    refine RX.q 3 [] [(0,(.func (.yield l) #[] #[])),(1,(.pointer (some ⟨bd,od,none⟩))),(2,(.pointer (some ⟨bc,oc,none⟩))),(3,(.pointer (some ⟨bl,ol,none⟩))),(11,(.int .i64 (↑m:Int))),(12,(.int .i64 (↑k:Int))),(19,(.bool false)),(20,undef),(21,undef)] [] (by kernel_rfl) trivial ?_
    refine RX.skip [(0,(.func (.yield l) #[] #[])),(1,(.pointer (some ⟨bd,od,none⟩))),(2,(.pointer (some ⟨bc,oc,none⟩))),(3,(.pointer (some ⟨bl,ol,none⟩))),(11,(.int .i64 (↑m:Int))),(12,(.int .i64 (↑k:Int))),(19,(.bool false)),(20,undef),(21,undef),(22,undef)] (by kernel_rfl) ?_
    refine RX.q 2 [] [(0,(.func (.yield l) #[] #[])),(1,(.pointer (some ⟨bd,od,none⟩))),(2,(.pointer (some ⟨bc,oc,none⟩))),(3,(.pointer (some ⟨bl,ol,none⟩))),(11,(.int .i64 (↑m:Int))),(12,(.int .i64 (↑k:Int))),(24,(.bool false))] [] (by kernel_rfl) trivial ?_
    refine RX.done [(0,(.func (.yield l) #[] #[])),(1,(.pointer (some ⟨bd,od,none⟩))),(2,(.pointer (some ⟨bc,oc,none⟩))),(3,(.pointer (some ⟨bl,ol,none⟩))),(11,(.int .i64 (↑m:Int))),(12,(.int .i64 (↑k:Int))),(24,(.bool false))] (by kernel_rfl) (by kernel_rfl) ?_
    refine St.cond (k1:=Sv) (k2:=S3) false (by kernel_rfl) (fun hc=>?_) (fun hc=>?_)
    ·cases hc
    ·clear hc
     refine St.weak (L':=[(12,(.int .i64 (↑k:Int))),(11,(.int .i64 (↑m:Int))),(0,(.func (.yield l) #[] #[])),(1,(.pointer (some ⟨bd,od,none⟩))),(2,(.pointer (some ⟨bc,oc,none⟩))),(3,(.pointer (some ⟨bl,ol,none⟩)))]) (by kernel_rfl) ?_
     refine St.reg Kp [(0,true),(1,true)] (by kernel_rfl) (by kernel_rfl) ?_
     refine RX.q 2 [(0,false,(.int .i64 ((↑k:Int)+1)))] [(0,(.func (.yield l) #[] #[])),(1,(.pointer (some ⟨bd,od,none⟩))),(2,(.pointer (some ⟨bc,oc,none⟩))),(3,(.pointer (some ⟨bl,ol,none⟩))),(11,(.int .i64 (↑m:Int))),(12,(.int .i64 ((↑k:Int)+1)))] [.eq (.int .i64 (IntKind.i64.wrap ((↑k:Int)+1))) (.int .i64 ((↑k:Int)+1))] (by kernel_rfl) (int64 (by omega)) ?_
     refine RX.done [(0,(.func (.yield l) #[] #[])),(1,(.pointer (some ⟨bd,od,none⟩))),(2,(.pointer (some ⟨bc,oc,none⟩))),(3,(.pointer (some ⟨bl,ol,none⟩))),(11,(.int .i64 (↑m:Int))),(12,(.int .i64 ((↑k:Int)+1)))] (by kernel_rfl) (by kernel_rfl) ?_
     refine St.weak (by kernel_rfl) (ih4 _ ?_ (k+1) w4 (by omega) (by rw[←Afw (by omega) hR];exact hJ4) hE4 rfl)
     omega
  ·have hh52:(↑m:Int)≤(↑k:Int):=by simpa using hc7
   clear hc7
   refine St.weak (L':=[]) (by kernel_rfl) ?_
   refine St.ret [] [] (by kernel_rfl) Tryz.func96 (by kernel_rfl) .nil ?_
   refine⟨hE,.inl ?_⟩
   rw[←A84 (R:=R) (m:=m) (k:=k) (by omega)];exact hJk
 exact St.weak (by kernel_rfl) (loop1 _ 0 w (by omega) hJ (Upd.refl (l::S) w) rfl)
def agD(d:Dk)(i k:Nat):Int:=d.2.2.2.2.2.1.getD (i*6+k) 0
def slD(d:Dk)(i k:Nat):Int:=d.2.2.2.2.2.2.1.getD (i*6+k) 0
def canD(d:Dk)(i k:Nat):Bool:=decide (0<agD d i k)&&decide (slD d i k≤d.2.1)
theorem Akv{N:Nat}{d:Dk}(hA:d.2.2.2.2.2.1.length=36)(hS:d.2.2.2.2.2.2.1.length=36){i k:Nat}(hi:i<6)(hk:k<6):I8 N d i k=some (canD d i k):=by
 unfold I8 canD agD slD
 rw[Ag (by omega),Ag (by omega)]
 simp only[Int.toNat_natCast]
 rw[C1 0 (by omega)]
 by_cases c:0<d.2.2.2.2.2.1.getD (i*6+k) 0
 ·rw[A2 c,Ag (by omega),Ag (by omega),C1 0 (by omega),decide_eq_true c];rfl
 ·rw[A1 c,decide_eq_false c];rfl
def mayR(d d':Dk)(lost:Int):Option (List (Int×Unit)):=
 if(0≤lost∧lost<6)∧d.2.2.2.1.length≤6∧d'.2.2.2.2.2.1.length=36∧d'.2.2.2.2.2.2.1.length=36 then some ((mayF (canD d' lost.toNat) d.2.2.2.1.length 0).map fun(j:Nat)=>((j:Int),()))else none
abbrev Be:Amx:={ f:=96,cap:=[.fz [shD],.fz [.fn 71 [shD] []],.fe (.int .i64)],elem:=[.i .i64],run:=fun p=>mayR p.1.1 p.2.1.1.1.1 p.2.2.1 }
theorem D4{n:Int}(h:-1000000≤n∧n≤1000000):inR .i64 n:=Ed.2 (by omega)
theorem Jb:Aga Tryz.prog Be:=by
 refine⟨by rfl,fun _=>by kernel_rfl,fun p es hes g vs hvs l S J Q w hM hS hJ hxJ hxQ hy=>?_⟩
 obtain⟨⟨d,⟨⟩⟩,⟨⟨⟨d',⟨⟩⟩,⟨⟩⟩,⟨⟩⟩,lost,⟨⟩⟩:=p
 simp only[mayR]at hes
 split at hes
 rotate_left
 ·cases hes
 rename_i hc
 simp only[Option.some.injEq]at hes
 subst hes
 obtain⟨⟨ha0,ha1⟩,hf,hA,hS'⟩:=hc
 obtain⟨i,rfl⟩:∃n:Nat,lost=n:=⟨lost.toNat,(Int.toNat_of_nonneg ha0).symm⟩
 simp only[Int.toNat_natCast]at hJ ⊢
 simp only[encs,enc,RepVs,RepV]at hvs
 obtain⟨v1,r1,rfl,⟨bd,od,wd,td,ud,rfl,hbd,hsd,hcd⟩,v2,r2,rfl,⟨bc,oc,wc,tc,uc,rfl,hbc,hsc,hcc⟩,v3,r3,rfl,⟨bl,ol,wl,tl,ul,rfl,hbl,hsl,hcl⟩,rfl⟩:=hvs
 obtain⟨rfl,hin⟩:=hcl
 obtain⟨x1,x2,rfl,⟨x3,rfl,hx⟩,rfl⟩:=hcd
 simp only[RepV]at hx
 obtain⟨bo,oo,wo,to,uo,rfl,hbo,hso,hco⟩:=hx
 obtain⟨y1,y2,rfl,⟨y3,rfl,hy'⟩,rfl⟩:=hcc
 simp only[RepV,RepVs]at hy'
 obtain⟨va,vc,rfl,⟨z1,z2,rfl,⟨be,oe,we,te,ue,rfl,hbe,hse,hce⟩,rfl⟩,rfl⟩:=hy'
 simp only[A5,PartOf,RepV]at hco
 obtain⟨p1,q1,rfl,⟨e1,rfl,h1⟩,p2,q2,rfl,⟨e2,rfl,h2⟩,p3,q3,rfl,⟨e3,rfl,h3⟩,p4,q4,rfl,⟨e4,rfl,h4⟩,hrest⟩:=hco
 obtain⟨hl4,fa,fc,rfl,hfc,hf4⟩:=h4
 have hmem:∀w',Upd (l::S) w w'→∀b o,g.M b=some o→w'.heap[b]?=some o:=fun w' hu b o hb=>hu.blk (hM b o hb).2 (hM b o hb).1
 have hrd:RepV ⟨fun _=>none,g.M⟩ (enc id shD d') (.pointer (some ⟨be,oe,none⟩)):=⟨be,oe,we,te,ue,rfl,hbe,hse,hce⟩
 have hfn:=Aod l bd od bc oc bl ol ⟨bo,oo,none⟩ ⟨be,oe,none⟩ (i:Int) d.2.2.2.1.length fa fc (canD d' i) S (fun r=>J (r.map fun(j:Nat)=>((j:Int),()))) Q w
  (fun w' hu=>Cl.of_seg (hmem w' hu _ _ hbd) hsd) (fun w' hu=>Cl.of_seg (hmem w' hu _ _ hbc) hsc) (fun w' hu=>Cl.of_seg (hmem w' hu _ _ hbl) hsl)
  (fun w' hu=>Cl.cell (Cl.of_seg (hmem w' hu _ _ hbo) hso) (i:=3) rfl)
  (fun k w' h1 hu=>Fn.mono (Mx (E4 200) rfl (p:=((d',((i:Int),((k:Int),()))),())) (r:=((canD d' i k,()),())) (by
    show((I8 200 d' i k).bind fun r=>some ((r,()),()))=_
    rw[Akv hA hS' (by omega) (by omega)];rfl) (hmem w' hu) ⟨_,_,rfl,hrd,_,_,rfl,⟨rfl,(show inR .i64 (i:Int)from D4 (by omega))⟩,_,_,rfl,⟨rfl,(show inR .i64 (k:Int)from D4 (by omega))⟩,rfl⟩) (fun v w2 ⟨h1,g',h2⟩=>⟨h1,by
   simp only[altOf,encs,enc,resVal,RepV]at h2
   exact h2⟩))
  (by omega) hJ (fun r=>hxJ _) (fun m r w1 hm hj hu=>hy ((m:Int),()) (r.map fun(j:Nat)=>((j:Int),())) w1 [.int .i64 (m:Int)] hj hu ⟨_,_,rfl,⟨rfl,D4 (by have:=(Lr.1 hm).2.1;omega)⟩,rfl⟩)
 exact hfn
end Go.Proofs.YthncjilcflilcaaGreat

namespace Go.Proofs.YthncjilcflilcaaGreat
set_option linter.all false
open Go
def CR(w:World)(lo:Nat)(r:List Int)(v:Value):Prop:=∃b c rest ty,v=.slice (some ⟨b,0,none⟩) r.length c∧r.length≤c∧lo≤b∧r.length≤1000000∧(∀x∈r,inR .i64 x)∧Blk w b (r.map (.int .i64)++rest) ty
def blkN:Value→Nat
 | .slice (some p) _ _=>p.block
 | _=>0
theorem CR.upd{w w':World}{lo:Nat}{r:List Int}{v:Value}{S:List Nat}(h:CR w lo r v)(hu:Upd S w w')(hb:blkN v∉S):CR w' lo r v:=by
 obtain⟨b,c,rest,ty,rfl,h1,h2,h3,h4,h5⟩:=h
 exact⟨b,c,rest,ty,rfl,h1,h2,h3,h4,hu.blk h5 hb⟩
theorem CR.lo{w:World}{lo lo':Nat}{r:List Int}{v:Value}(h:CR w lo r v)(hl:lo'≤lo):CR w lo' r v:=by
 obtain⟨b,c,rest,ty,rfl,h1,h2,h3⟩:=h
 exact⟨b,c,rest,ty,rfl,h1,by omega,h3⟩
theorem CR.lt{w:World}{lo:Nat}{r:List Int}{v:Value}(h:CR w lo r v):lo≤blkN v∧blkN v<w.heap.size:=by
 obtain⟨b,c,rest,ty,rfl,h1,h2,h3,h4,h5⟩:=h
 exact⟨h2,A4 h5⟩
theorem Nb{M:Nat→Option Obj}:∀(l:List Int) (vs:List Value),RepL M (.int .i64) l vs↔vs=l.map (.int .i64)∧∀x∈l,inR .i64 x
 | [],vs=>by simp[RepL]
 | x::l,vs=>by
  simp only[RepL,RepC,List.map_cons,List.mem_cons,forall_eq_or_imp]
  constructor
  ·rintro ⟨v1,v2,rfl,⟨rfl,h1⟩,h2⟩
   obtain⟨rfl,h3⟩:=(Nb l v2).1 h2
   exact⟨rfl,h1,h3⟩
  ·rintro ⟨rfl,h1,h3⟩
   exact⟨_,_,rfl,⟨rfl,h1⟩,(Nb l _).2 ⟨rfl,h3⟩⟩
theorem Alf{M:Nat→Option Obj}{w:World}{r:List Int}{v:Value}(hM:∀b o,M b=some o→w.heap[b]?=some o)(hr:RepS M 1 (RepC M (.int .i64)) r v)(hn:r≠[])(hl:r.length≤1000000) :
  Fn Tryz.prog 92 #[v] w (fun v' w'=>Ext w w'∧CR w' w.heap.size r v'):=by
 have hrun:(Sz 0).run ((r,()),()) some=some (((),()),(r,())):=by
  show((Ep 0 r).bind fun r=>some (((),()),(r,())))=_
  unfold Ep
  rw[Av (by simp[hn]),Ay (by simpa using hl)]
  simp
 have hs:Sim ⟨fun _=>none,M⟩ (hOf (ss:=(Sz 0).ins.blks) ()) w:=⟨fun b o h=>hM b o h,fun i k hk=>(by have h:([]:List Blk')[i]?=some k:=hk;simp at h),fun i j ki kj b ci ni cj nj h1=>(by have h:([]:List Blk')[i]?=some ki:=h1;simp at h)⟩
 have h:=(Jo 0).fn ((r,()),()) _ hrun ⟨fun _=>none,M⟩ w [v] ⟨_,_,rfl,hr,rfl⟩ hs (fun _ _=>rfl)
 refine Fn.mono h ?_
 rintro v' w' ⟨g',st,hs',hv'⟩
 have he:Ext w w':=⟨st.os,st.tape,st.output,st.size,fun k hk _=>st.same k hk (by rintro ⟨i,hi,_⟩;have h:i∈([]:List Nat):=hi;simp at h)⟩
 refine⟨he,?_⟩
 have hb:=hs'.blk 0 (.lst (.int .i64) r) rfl
 simp only[RepBlk]at hb
 simp only[altOf,encs,enc,resVal,RepV]at hv'
 obtain⟨h1,⟨_,h2⟩ | ⟨b,c,vs,rest,ty,h2,h3,h4,⟨h5,h6⟩,h7,h8⟩⟩:=hb
 ·exact absurd h2 hn
 ·rcases hv' with⟨h9,_⟩ | ⟨b',c',n',h9,rfl⟩
  ·rw[show(id 0:Nat)=0 from rfl,h2]at h9;cases h9
  ·rw[show(id 0:Nat)=0 from rfl,h2]at h9
   cases h9
   obtain⟨rfl,h10⟩:=(Nb r vs).1 h4
   refine⟨b,c,rest,ty,rfl,h5,?_,h1,h10,h3⟩
   rcases st.ρb 0 b c r.length rfl h2 with h | ⟨i,hi,_⟩
   ·exact h
   ·have h:i∈([]:List Nat):=hi;simp at h
theorem Apl{M:Nat→Option Obj}{l:List (List Int)}{vs:List Value}(h:RepL M (.sl (.int .i64)) l vs):vs.length=l.length∧∀i,i<l.length→∃a c,vs[i]?=some (.slice a (l.getD i []).length c)∧RepS M 1 (RepC M (.int .i64)) (l.getD i []) (.slice a (l.getD i []).length c):=by
 refine⟨by have:=(RepL.len _ _ h).1;simpa [Ty.cells]using this,fun i hi=>?_⟩
 have hx:l[i]?=some (l.getD i []):=by simp[List.getD_eq_getElem?_getD,List.getElem?_eq_getElem hi]
 obtain⟨us,h1,v,rfl,h2⟩:=RepL.get _ _ i _ h hx
 have h3:=h2.2
 obtain⟨a,c,rfl,_⟩:=h3
 refine⟨a,c,?_,h2⟩
 have:=h1
 simp only[Ty.cells,Nat.mul_one]at this
 exact(show vs[i+0]?=_ from this 0 _ rfl)
end Go.Proofs.YthncjilcflilcaaGreat

namespace Go.Proofs.YthncjilcflilcaaGreat
set_option linter.all false
open Go

noncomputable def c81:Code:=(Tryz.f63.body).getD .skip
noncomputable def Am4:List Item:=[.code (sub c81 [1,1,1,1,0,0]),.code (sub c81 [1,1,1,1,0,1]),.code (sub c81 [1,1,1,1,1])]
noncomputable def Ak6:List Item:=[.code (sub c81 [1,1,1,1,0,1,0,0,0]),.code (sub c81 [1,1,1,1,0,1,0,0,1]),.inLoop (sub c81 [1,1,1,1,0,1,0,0]),.inBlock 0,.code (sub c81 [1,1,1,1,1])]
noncomputable def Ajx:List Item:=[.code (sub c81 [1,1,1,1,0,1,0,0,1,0]),.code (sub c81 [1,1,1,1,0,1,0,0,1,1]),.inLoop (sub c81 [1,1,1,1,0,1,0,0]),.inBlock 0,.code (sub c81 [1,1,1,1,1])]
noncomputable def Ajn:List Item:=[.code (sub c81 [1,1,1,1,0,1,0,0,1,1,0,0,0]),.code (sub c81 [1,1,1,1,0,1,0,0,1,1,0,0,1]),.inBlock 1,.code (sub c81 [1,1,1,1,0,1,0,0,1,1,1]),.inLoop (sub c81 [1,1,1,1,0,1,0,0]),.inBlock 0,.code (sub c81 [1,1,1,1,1])]
noncomputable def Als:List Item:=[.code (sub c81 [1,1,1,1,1,0]),.code (sub c81 [1,1,1,1,1,1])]
noncomputable def Apx:List Item:=[.code (sub c81 [1,1,1,1,0,1,0,0,1,1,0,0,1,0]),.code (sub c81 [1,1,1,1,0,1,0,0,1,1,0,0,1,1]),.inBlock 1,.code (sub c81 [1,1,1,1,0,1,0,0,1,1,1]),.inLoop (sub c81 [1,1,1,1,0,1,0,0]),.inBlock 0,.code (sub c81 [1,1,1,1,1])]
noncomputable def Ach:List Item:=[.code (sub c81 [1,1,1,1,1,1,0]),.code (sub c81 [1,1,1,1,1,1,1])]
noncomputable def T1:List Item:=[.code (sub c81 [1,1,1,1,0,1,0,0,1,1,0,0,1,1,0,0,0]),.code (sub c81 [1,1,1,1,0,1,0,0,1,1,0,0,1,1,0,0,1]),.inLoop (sub c81 [1,1,1,1,0,1,0,0,1,1,0,0,1,1,0,0]),.inBlock 2,.inBlock 1,.code (sub c81 [1,1,1,1,0,1,0,0,1,1,1]),.inLoop (sub c81 [1,1,1,1,0,1,0,0]),.inBlock 0,.code (sub c81 [1,1,1,1,1])]
noncomputable def Anb:List Item:=[.code (sub c81 [1,1,1,1,0,1,0,0,1,1,0,0,1,1,0,0,1,0]),.code (sub c81 [1,1,1,1,0,1,0,0,1,1,0,0,1,1,0,0,1,1]),.inLoop (sub c81 [1,1,1,1,0,1,0,0,1,1,0,0,1,1,0,0]),.inBlock 2,.inBlock 1,.code (sub c81 [1,1,1,1,0,1,0,0,1,1,1]),.inLoop (sub c81 [1,1,1,1,0,1,0,0]),.inBlock 0,.code (sub c81 [1,1,1,1,1])]
noncomputable def Amq:List Item:=[.code (sub c81 [1,1,1,1,0,1,0,0,1,1,0,0,1,1,0,0,1,1,0,0,0]),.code (sub c81 [1,1,1,1,0,1,0,0,1,1,0,0,1,1,0,0,1,1,0,0,1]),.inBlock 3,.code (sub c81 [1,1,1,1,0,1,0,0,1,1,0,0,1,1,0,0,1,1,1]),.inLoop (sub c81 [1,1,1,1,0,1,0,0,1,1,0,0,1,1,0,0]),.inBlock 2,.inBlock 1,.code (sub c81 [1,1,1,1,0,1,0,0,1,1,1]),.inLoop (sub c81 [1,1,1,1,0,1,0,0]),.inBlock 0,.code (sub c81 [1,1,1,1,1])]
noncomputable def A5l:List Item:=[.code (sub c81 [1,1,1,1,0,1,0,0,1,1,1]),.inLoop (sub c81 [1,1,1,1,0,1,0,0]),.inBlock 0,.code (sub c81 [1,1,1,1,1])]
noncomputable def Aqc:List Item:=[.code (sub c81 [1,1,1,1,0,1,0,0,1,1,0,0,1,1,0,0,1,1,0,0,1]),.inBlock 3,.code (sub c81 [1,1,1,1,0,1,0,0,1,1,0,0,1,1,0,0,1,1,1]),.inLoop (sub c81 [1,1,1,1,0,1,0,0,1,1,0,0,1,1,0,0]),.inBlock 2,.inBlock 1,.code (sub c81 [1,1,1,1,0,1,0,0,1,1,1]),.inLoop (sub c81 [1,1,1,1,0,1,0,0]),.inBlock 0,.code (sub c81 [1,1,1,1,1])]
noncomputable def Aqk:List Item:=[.code (sub c81 [1,1,1,1,0,1,0,0,1,1,0,0,1,1,0,0,1,1,1]),.inLoop (sub c81 [1,1,1,1,0,1,0,0,1,1,0,0,1,1,0,0]),.inBlock 2,.inBlock 1,.code (sub c81 [1,1,1,1,0,1,0,0,1,1,1]),.inLoop (sub c81 [1,1,1,1,0,1,0,0]),.inBlock 0,.code (sub c81 [1,1,1,1,1])]
structure Ak3 (w0 w:World) (bl:Nat) (l:List (List Int)) (rest vs:List Value) (ty:TypeId):Prop where
 len:vs.length=l.length
 upd:Upd [bl] w0 w
 blk:Blk w bl (vs++rest) ty
 row:∀j,j<l.length→CR w w0.heap.size (l.getD j []) (vs.getD j undef)
 inc:∀i j,i<j→j<l.length→blkN (vs.getD i undef)<blkN (vs.getD j undef)
set_option maxHeartbeats 1000000 in
theorem Ad2{X:Ctx}{df:List Deferred}{M:Nat→Option Obj}(a2 a3:Option Addr)(n2 c2 n3 c3 b0 b1 bl c:Nat)(fo tr va m45:Int)(l:List (List Int))(vs0 rest:List Value)(ty:TypeId)(w0:World)
  (hM:∀b o,M b=some o→b≠bl∧w0.heap[b]?=some o) (hn:l.length≤1000000) (hl:∀r∈l,r≠[]∧r.length≤1000000) (hB:Blk w0 bl (vs0++rest) ty) (hR:RepL M (.sl (.int .i64)) l vs0)
  (hk:∀vs w,Ak3 w0 w bl l rest vs ty→St Tryz.prog X 72 A5l [(1,(.int .i64 fo)),(2,(.int .i64 tr)),(3,(.int .i64 va)),(8,(.pointer (some ⟨b0,0,none⟩))),(9,(.pointer (some ⟨b1,0,none⟩))),(44,(.agg #[.slice a2 n2 c2,.slice a3 n3 c3])),(45,(.int .i64 m45))] df w) :
  St Tryz.prog X 72 T1 [(50,(.int .i64 0)),(1,(.int .i64 fo)),(2,(.int .i64 tr)),(3,(.int .i64 va)),(8,(.pointer (some ⟨b0,0,none⟩))),(9,(.pointer (some ⟨b1,0,none⟩))),(44,(.agg #[.slice a2 n2 c2,.slice a3 n3 c3])),(45,(.int .i64 m45)),(49,(.int .i64 (↑l.length:Int))),(11,(.slice (some ⟨bl,0,none⟩) l.length c))] df w0:=by
 obtain⟨hv0,hrow⟩:=Apl hR
 have loop:∀(N i:Nat) (vs:List Value) (w:World),i≤l.length→N=l.length-i→vs.length=l.length→Upd [bl] w0 w→Blk w bl (vs++rest) ty →
   (∀j,j<i→CR w w0.heap.size (l.getD j []) (vs.getD j undef))→(∀j k,j<k→k<i→blkN (vs.getD j undef)<blkN (vs.getD k undef))→(∀j,i≤j→vs[j]?=vs0[j]?) →
   St Tryz.prog X 72 T1 [(50,(.int .i64 (↑i:Int))),(1,(.int .i64 fo)),(2,(.int .i64 tr)),(3,(.int .i64 va)),(8,(.pointer (some ⟨b0,0,none⟩))),(9,(.pointer (some ⟨b1,0,none⟩))),(44,(.agg #[.slice a2 n2 c2,.slice a3 n3 c3])),(45,(.int .i64 m45)),(49,(.int .i64 (↑l.length:Int))),(11,(.slice (some ⟨bl,0,none⟩) l.length c))] df w:=by
  intro N
  induction N using Nat.strongRecOn with
  | ind N ih=>?_
  intro i vs w hi hN hlen hu hb hrw hinc hsame
  refine St.reg Anb [(0,true)] (by kernel_rfl) (by kernel_rfl) ?_
  refine RX.q 1 [] [(51,(.bool (decide ((↑i:Int)<(↑l.length:Int))))),(50,(.int .i64 (↑i:Int))),(1,(.int .i64 fo)),(2,(.int .i64 tr)),(3,(.int .i64 va)),(8,(.pointer (some ⟨b0,0,none⟩))),(9,(.pointer (some ⟨b1,0,none⟩))),(44,(.agg #[.slice a2 n2 c2,.slice a3 n3 c3])),(45,(.int .i64 m45)),(49,(.int .i64 (↑l.length:Int))),(11,(.slice (some ⟨bl,0,none⟩) l.length c))] [] (by kernel_rfl) trivial ?_
  refine RX.done [(51,(.bool (decide ((↑i:Int)<(↑l.length:Int))))),(50,(.int .i64 (↑i:Int))),(1,(.int .i64 fo)),(2,(.int .i64 tr)),(3,(.int .i64 va)),(8,(.pointer (some ⟨b0,0,none⟩))),(9,(.pointer (some ⟨b1,0,none⟩))),(44,(.agg #[.slice a2 n2 c2,.slice a3 n3 c3])),(45,(.int .i64 m45)),(49,(.int .i64 (↑l.length:Int))),(11,(.slice (some ⟨bl,0,none⟩) l.length c))] (by kernel_rfl) (by kernel_rfl) ?_
  refine St.cond (k1:=Amq) (k2:=A5l) (decide ((↑i:Int)<(↑l.length:Int))) (by kernel_rfl) (fun hc=>?_) (fun hc=>?_)
  rotate_left
  ·have hh:(↑l.length:Int)≤(↑i:Int):=by simpa using hc
   clear hc
   obtain rfl:i=l.length:=by omega
   exact St.weak (L':=[(1,(.int .i64 fo)),(2,(.int .i64 tr)),(3,(.int .i64 va)),(8,(.pointer (some ⟨b0,0,none⟩))),(9,(.pointer (some ⟨b1,0,none⟩))),(44,(.agg #[.slice a2 n2 c2,.slice a3 n3 c3])),(45,(.int .i64 m45))]) (by kernel_rfl) (hk vs w ⟨hlen,hu,hb,hrw,hinc⟩)
  have hh:(↑i:Int)<(↑l.length:Int):=by simpa using hc
  clear hc
  have hil:i<l.length:=by omega
  refine St.weak (L':=[(50,(.int .i64 (↑i:Int))),(1,(.int .i64 fo)),(2,(.int .i64 tr)),(3,(.int .i64 va)),(8,(.pointer (some ⟨b0,0,none⟩))),(9,(.pointer (some ⟨b1,0,none⟩))),(44,(.agg #[.slice a2 n2 c2,.slice a3 n3 c3])),(45,(.int .i64 m45)),(49,(.int .i64 (↑l.length:Int))),(11,(.slice (some ⟨bl,0,none⟩) l.length c))]) (by kernel_rfl) ?_
  refine St.reg Aqc [(0,true),(1,true)] (by kernel_rfl) (by kernel_rfl) ?_
  refine RX.q 2 [] [(12,(.int .i64 (↑i:Int))),(50,(.int .i64 (↑i:Int))),(1,(.int .i64 fo)),(2,(.int .i64 tr)),(3,(.int .i64 va)),(8,(.pointer (some ⟨b0,0,none⟩))),(9,(.pointer (some ⟨b1,0,none⟩))),(44,(.agg #[.slice a2 n2 c2,.slice a3 n3 c3])),(45,(.int .i64 m45)),(49,(.int .i64 (↑l.length:Int))),(11,(.slice (some ⟨bl,0,none⟩) l.length c))] [] (by kernel_rfl) trivial ?_
  refine RX.done [(12,(.int .i64 (↑i:Int))),(50,(.int .i64 (↑i:Int))),(1,(.int .i64 fo)),(2,(.int .i64 tr)),(3,(.int .i64 va)),(8,(.pointer (some ⟨b0,0,none⟩))),(9,(.pointer (some ⟨b1,0,none⟩))),(44,(.agg #[.slice a2 n2 c2,.slice a3 n3 c3])),(45,(.int .i64 m45)),(49,(.int .i64 (↑l.length:Int))),(11,(.slice (some ⟨bl,0,none⟩) l.length c))] (by kernel_rfl) (by kernel_rfl) ?_
  obtain⟨ra,rc,hra,hrs⟩:=hrow i hil
  have hcell:vs[i]?=some (.slice ra (l.getD i []).length rc):=by rw[hsame i (Nat.le_refl _)];exact hra
  have hmem:l.getD i []∈l:=by rw[List.getD_eq_getElem?_getD,List.getElem?_eq_getElem hil];exact List.getElem_mem hil
  refine St.reg Aqk [(0,true),(1,true),(2,true),(3,true),(4,true),(5,true),(6,false),(7,true),(8,false)] (by kernel_rfl) (by kernel_rfl) ?_
  refine RX.q 6 [(4,true,(.pointer (some ⟨bl,0+i*1,none⟩))),(5,true,(.slice ra (l.getD i []).length rc))] [(53,(.slice (some ⟨bl,0,none⟩) l.length c)),(54,(.int .i64 (↑i:Int))),(58,(.slice ra (l.getD i []).length rc)),(50,(.int .i64 (↑i:Int))),(1,(.int .i64 fo)),(2,(.int .i64 tr)),(3,(.int .i64 va)),(8,(.pointer (some ⟨b0,0,none⟩))),(9,(.pointer (some ⟨b1,0,none⟩))),(44,(.agg #[.slice a2 n2 c2,.slice a3 n3 c3])),(45,(.int .i64 m45)),(49,(.int .i64 (↑l.length:Int))),(11,(.slice (some ⟨bl,0,none⟩) l.length c))] [.raw (Instr.indexAt 23 (.slice (some ⟨bl,0,none⟩) l.length c) (.int .i64 (↑i:Int))) (.pointer (some ⟨bl,0+i*1,none⟩)),.cell ⟨bl,0+i*1,none⟩ (.slice ra (l.getD i []).length rc)] (by kernel_rfl) ⟨K7 (e:=22) (sz:=1) (by kernel_rfl) (by kernel_rfl) bl 0 l.length c i hil _,by rw[show 0+i*1=i by omega];exact Blk.cell hb (by rw[List.getElem?_append_left (by omega)];exact hcell)⟩ ?_
  refine RX.call 59 92 #[(.slice ra (l.getD i []).length rc)] [(53,(.slice (some ⟨bl,0,none⟩) l.length c)),(54,(.int .i64 (↑i:Int))),(58,(.slice ra (l.getD i []).length rc)),(50,(.int .i64 (↑i:Int))),(1,(.int .i64 fo)),(2,(.int .i64 tr)),(3,(.int .i64 va)),(8,(.pointer (some ⟨b0,0,none⟩))),(9,(.pointer (some ⟨b1,0,none⟩))),(44,(.agg #[.slice a2 n2 c2,.slice a3 n3 c3])),(45,(.int .i64 m45)),(49,(.int .i64 (↑l.length:Int))),(11,(.slice (some ⟨bl,0,none⟩) l.length c))] (fun _=>by kernel_rfl) (by kernel_rfl) ?_
  refine Fn.mono (Alf (fun b o h=>hu.blk (hM b o h).2 (by simp[(hM b o h).1])) hrs (hl _ hmem).1 (hl _ hmem).2) ?_
  rintro v1 w1 ⟨hx,hc1⟩
  have hcl:=hc1.lt
  obtain⟨rb,rcc,rrest,rty,rfl,-⟩:=id hc1
  have hbl:=A4 hb
  have hne:rb≠bl:=by intro e;subst e;simp only[blkN]at hcl;omega
  refine RX.q 1 [(7,true,(.pointer (some ⟨bl,0+i*1,none⟩)))] [(59,(.slice (some ⟨rb,0,none⟩) (l.getD i []).length rcc)),(60,(.pointer (some ⟨bl,0+i*1,none⟩))),(50,(.int .i64 (↑i:Int))),(1,(.int .i64 fo)),(2,(.int .i64 tr)),(3,(.int .i64 va)),(8,(.pointer (some ⟨b0,0,none⟩))),(9,(.pointer (some ⟨b1,0,none⟩))),(44,(.agg #[.slice a2 n2 c2,.slice a3 n3 c3])),(45,(.int .i64 m45)),(49,(.int .i64 (↑l.length:Int))),(11,(.slice (some ⟨bl,0,none⟩) l.length c))] [.raw (Instr.indexAt 23 (.slice (some ⟨bl,0,none⟩) l.length c) (.int .i64 (↑i:Int))) (.pointer (some ⟨bl,0+i*1,none⟩))] (by kernel_rfl) (K7 (e:=22) (sz:=1) (by kernel_rfl) (by kernel_rfl) bl 0 l.length c i hil _) ?_
  rw[show 0+i*1=i by omega]
  refine RX.store1 bl i (.slice (some ⟨rb,0,none⟩) (l.getD i []).length rcc) (vs++rest) ty (by kernel_rfl) rfl (hx.blk hb) (by rw[List.length_append];omega) ?_
  intro w2 hp
  refine RX.done [(50,(.int .i64 (↑i:Int))),(1,(.int .i64 fo)),(2,(.int .i64 tr)),(3,(.int .i64 va)),(8,(.pointer (some ⟨b0,0,none⟩))),(9,(.pointer (some ⟨b1,0,none⟩))),(44,(.agg #[.slice a2 n2 c2,.slice a3 n3 c3])),(45,(.int .i64 m45)),(49,(.int .i64 (↑l.length:Int))),(11,(.slice (some ⟨bl,0,none⟩) l.length c))] (by kernel_rfl) (by kernel_rfl) ?_
  refine St.reg T1 [(0,true),(1,true)] (by kernel_rfl) (by kernel_rfl) ?_
  refine RX.q 2 [(0,false,(.int .i64 ((↑i:Int)+1)))] [(50,(.int .i64 ((↑i:Int)+1))),(1,(.int .i64 fo)),(2,(.int .i64 tr)),(3,(.int .i64 va)),(8,(.pointer (some ⟨b0,0,none⟩))),(9,(.pointer (some ⟨b1,0,none⟩))),(44,(.agg #[.slice a2 n2 c2,.slice a3 n3 c3])),(45,(.int .i64 m45)),(49,(.int .i64 (↑l.length:Int))),(11,(.slice (some ⟨bl,0,none⟩) l.length c))] [.eq (.int .i64 (IntKind.i64.wrap ((↑i:Int)+1))) (.int .i64 ((↑i:Int)+1))] (by kernel_rfl) (int64 (by omega)) ?_
  refine RX.done [(50,(.int .i64 ((↑i:Int)+1))),(1,(.int .i64 fo)),(2,(.int .i64 tr)),(3,(.int .i64 va)),(8,(.pointer (some ⟨b0,0,none⟩))),(9,(.pointer (some ⟨b1,0,none⟩))),(44,(.agg #[.slice a2 n2 c2,.slice a3 n3 c3])),(45,(.int .i64 m45)),(49,(.int .i64 (↑l.length:Int))),(11,(.slice (some ⟨bl,0,none⟩) l.length c))] (by kernel_rfl) (by kernel_rfl) ?_
  have hu1:Upd [bl] w0 w1:=Upd.ext hu hx
  have hget:∀j,j≠i→(vs.set i (.slice (some ⟨rb,0,none⟩) (l.getD i []).length rcc)).getD j undef=vs.getD j undef:=fun j hj=>by
   simp only[List.getD_eq_getElem?_getD,List.getElem?_set_ne (Ne.symm hj)]
  have hgi:(vs.set i (.slice (some ⟨rb,0,none⟩) (l.getD i []).length rcc)).getD i undef=(.slice (some ⟨rb,0,none⟩) (l.getD i []).length rcc):=by
   simp only[List.getD_eq_getElem?_getD,List.getElem?_set_self (show i<vs.length by omega),Option.getD_some]
  refine St.weak (by kernel_rfl) (ih _ (by omega) (i+1) (vs.set i (.slice (some ⟨rb,0,none⟩) (l.getD i []).length rcc)) w2 (by omega) rfl (by simpa using hlen) (hu1.trans hp.upd) (by
    have:=hp.blk
    rwa [List.set_append_left _ _ (by omega)]at this) (fun j hj=>?_) (fun j k hjk hk=>?_) (fun j hj=>?_))
  ·by_cases e:j=i
   ·subst e
    rw[hgi]
    exact(hc1.upd hp.upd (by simp[blkN,hne])).lo hu.size
   ·rw[hget j e]
    have h1:=hrw j (by omega)
    have h2:=h1.lt
    refine(h1.upd hx (by simp)).upd hp.upd ?_
    intro h;simp only[List.mem_singleton]at h
    have:=A4 hB;omega
  ·rw[hget j (by omega)]
   by_cases e:k=i
   ·subst e
    rw[hgi]
    have:=(hrw j (by omega)).lt
    omega
   ·rw[hget k e]
    exact hinc j k hjk (by omega)
  ·rw[List.getElem?_set_ne (by omega)]
   exact hsame j (by omega)
 exact loop _ 0 vs0 w0 (by omega) rfl hv0 (Upd.refl _ _) hB (fun j hj=>by omega) (fun j k _ hk=>by omega) (fun j _=>rfl)
end Go.Proofs.YthncjilcflilcaaGreat

namespace Go.Proofs.YthncjilcflilcaaGreat
set_option linter.all false
open Go
def frzM(M:Nat→Option Obj)(S:List Nat)(n:Nat)(w:World):Nat→Option Obj:=fun b=>match M b with
 | some o=>some o
 | none=>if b∈S∨n≤b then(match w.heap[b]? with | some o=>if isCel o then some o else none | none=>none)else none
theorem Dy{M:Nat→Option Obj}{S:List Nat}{n:Nat}{w:World}(b:Nat)(o:Obj)(h:M b=some o):frzM M S n w b=some o:=by
 unfold frzM;rw[h]
theorem Rr{M:Nat→Option Obj}{S:List Nat}{n:Nat}{w:World}{b:Nat}{cs:Array Value}{ty:TypeId}{z:Nat×Nat}(h:M b=none)(hb:b∈S∨n≤b)(hw:w.heap[b]?=some (.cells cs ty z)):frzM M S n w b=some (.cells cs ty z):=by
 unfold frzM;rw[h];simp only[if_pos hb,hw,isCel];rfl
theorem Is{M:Nat→Option Obj}{S:List Nat}{n:Nat}{w:World}{b:Nat}{o:Obj}(h:frzM M S n w b=some o):M b=some o∨(M b=none∧(b∈S∨n≤b)∧w.heap[b]?=some o∧isCel o=true):=by
 unfold frzM at h
 cases e:M b with
 | some o'=>rw[e]at h;exact .inl h
 | none=>
  rw[e]at h
  dsimp only at h
  split at h
  ·rename_i hb
   split at h
   ·rename_i o' hw
    split at h
    ·rename_i hc
     cases h
     exact .inr ⟨rfl,hb,hw,hc⟩
    ·cases h
   ·cases h
  ·cases h
theorem Ng{M:Nat→Option Obj}{S:List Nat}{n:Nat}{w:World}{b:Nat}(h:M b=none)(hb:b∉S)(hn:b<n):frzM M S n w b=none:=by
 cases e:frzM M S n w b with
 | none=>rfl
 | some o=>
  rcases Is e with h1 | ⟨_,h1 | h1,_⟩
  ·rw[h]at h1;cases h1
  ·exact absurd h1 hb
  ·omega
def I2(w:World)(lo:Nat)(l:List (List Int))(bl:Nat):Prop:=∃vs rest ty,Blk w bl (vs++rest) ty∧vs.length=l.length∧∀j,j<l.length→CR w lo (l.getD j []) (vs.getD j undef)
theorem I2.rep{M:Nat→Option Obj}{S:List Nat}{n:Nat}{w:World}{l:List (List Int)}{bl c:Nat}(h:I2 w n l bl)(hM:∀b o,M b=some o→b<n)(hb:M bl=none)(hS:bl∈S∨n≤bl)(hl:l.length≤1000000)(hc:l.length≤c) :
  RepS (frzM M S n w) 1 (RepC (frzM M S n w) (.sl (.int .i64))) l (.slice (some ⟨bl,0,none⟩) l.length c):=by
 obtain⟨vs,rest,ty,h1,h2,h3⟩:=h
 refine⟨by omega,_,c,rfl,hc,.inr ⟨bl,0,vs++rest,(ty,(0,0)),rfl,Rr hb hS h1,fun i x hx=>?_⟩⟩
 obtain⟨hi,rfl⟩:=List.getElem?_eq_some_iff.1 hx
 have h4:=h3 i hi
 have e:l.getD i []=l[i]:=by simp[List.getD_eq_getElem?_getD,List.getElem?_eq_getElem hi]
 rw[e]at h4
 have ev:vs[i]?=some (vs.getD i undef):=by simp[List.getD_eq_getElem?_getD,List.getElem?_eq_getElem (show i<vs.length by omega)]
 obtain⟨b,cc,rst,ty',e2,h5,h6,h7,h8,h9⟩:=h4
 refine⟨[vs.getD i undef],fun j u hj=>?_,vs.getD i undef,rfl,?_⟩
 ·cases j with
  | zero=>
   simp only[List.getElem?_cons_zero,Option.some.injEq]at hj
   subst hj
   simp only[Nat.mul_one,Nat.zero_add,Nat.add_zero]
   rw[List.getElem?_append_left (by omega)];exact ev
  | succ j=>simp at hj
 ·rw[e2]
  have hMb:M b=none:=by
   cases e3:M b with
   | none=>rfl
   | some o=>have:=hM b o e3;omega
  refine⟨by omega,_,cc,rfl,h5,.inr ⟨b,0,_,(ty',(0,0)),rfl,Rr hMb (.inr h6) h9,fun k x hk=>?_⟩⟩
  refine⟨[.int .i64 x],fun j u hj=>?_,rfl,h8 x (List.mem_of_getElem? hk)⟩
  cases j with
  | zero=>
   simp only[List.getElem?_cons_zero,Option.some.injEq]at hj
   subst hj
   simp only[Ty.cells,Nat.mul_one,Nat.zero_add,Nat.add_zero]
   rw[List.getElem?_append_left (by have:=(List.getElem?_eq_some_iff.1 hk).1;simpa using this)]
   simp[hk]
  | succ j=>simp at hj
def Arf(w0 w:World)(l:List (List Int))(a:Option Addr)(bl:Nat):Prop:=(l=[]∧w=w0)∨(l≠[]∧a=some ⟨bl,0,none⟩∧∃vs rest ty,Ak3 w0 w bl l rest vs ty)
theorem N2{tm:Array Value}:∀(L:Tms),(∀p∈L,tm.getD p.1 undef=p.2)→∀t v,L.lookup t=some v→tm.getD t undef=v
 | [],_,t,v,h=>by simp at h
 | p::L,hL,t,v,h=>by
  rw[List.lookup_cons]at h
  split at h
  ·rename_i e
   have:=hL p (by simp)
   simp only[beq_iff_eq]at e
   rw[e]
   simp only[Option.some.injEq]at h
   rw[←h];exact this
  ·exact N2 L (fun q hq=>hL q (by simp[hq])) t v h
end Go.Proofs.YthncjilcflilcaaGreat

namespace Go.Proofs.YthncjilcflilcaaGreat
set_option linter.all false
open Go

set_option maxHeartbeats 1000000 in
theorem Uj{X:Ctx}{df:List Deferred}{M:Nat→Option Obj}(a a2 a3:Option Addr)(n2 c2 n3 c3 b0 b1 bl c:Nat)(fo tr va m45:Int)(l:List (List Int))(w0:World)
  (hM:l≠[]→∀b o,M b=some o→b≠bl∧w0.heap[b]?=some o) (hn:l.length≤1000000) (hl:∀r∈l,r≠[]∧r.length≤1000000) (hB:l≠[]→a=some ⟨bl,0,none⟩∧∃vs0 rest ty,Blk w0 bl (vs0++rest) ty∧RepL M (.sl (.int .i64)) l vs0)
  (hk:∀w,Arf w0 w l a bl→St Tryz.prog X 72 A5l [(1,(.int .i64 fo)),(2,(.int .i64 tr)),(3,(.int .i64 va)),(8,(.pointer (some ⟨b0,0,none⟩))),(9,(.pointer (some ⟨b1,0,none⟩))),(44,(.agg #[.slice a2 n2 c2,.slice a3 n3 c3])),(45,(.int .i64 m45))] df w) :
  St Tryz.prog X 72 T1 [(50,(.int .i64 0)),(1,(.int .i64 fo)),(2,(.int .i64 tr)),(3,(.int .i64 va)),(8,(.pointer (some ⟨b0,0,none⟩))),(9,(.pointer (some ⟨b1,0,none⟩))),(44,(.agg #[.slice a2 n2 c2,.slice a3 n3 c3])),(45,(.int .i64 m45)),(49,(.int .i64 (↑l.length:Int))),(11,(.slice a l.length c))] df w0:=by
 by_cases hl0:l=[]
 rotate_left
 ·obtain⟨rfl,vs0,rest,ty,hB1,hR⟩:=hB hl0
  exact Ad2 (M:=M) a2 a3 n2 c2 n3 c3 b0 b1 bl c fo tr va m45 l vs0 rest ty w0 (hM hl0) hn hl hB1 hR (fun vs w h=>hk w (.inr ⟨hl0,rfl,vs,rest,ty,h⟩))
 subst hl0
 refine St.weak (L':=[(50,(.int .i64 0)),(1,(.int .i64 fo)),(2,(.int .i64 tr)),(3,(.int .i64 va)),(8,(.pointer (some ⟨b0,0,none⟩))),(9,(.pointer (some ⟨b1,0,none⟩))),(44,(.agg #[.slice a2 n2 c2,.slice a3 n3 c3])),(45,(.int .i64 m45)),(49,(.int .i64 0)),(11,(.slice a 0 c))]) (by kernel_rfl) ?_
 refine St.reg Anb [(0,true)] (by kernel_rfl) (by kernel_rfl) ?_
 refine RX.q 1 [] [(51,(.bool false)),(1,(.int .i64 fo)),(2,(.int .i64 tr)),(3,(.int .i64 va)),(8,(.pointer (some ⟨b0,0,none⟩))),(9,(.pointer (some ⟨b1,0,none⟩))),(44,(.agg #[.slice a2 n2 c2,.slice a3 n3 c3])),(45,(.int .i64 m45))] [] (by kernel_rfl) trivial ?_
 refine RX.done [(51,(.bool false)),(1,(.int .i64 fo)),(2,(.int .i64 tr)),(3,(.int .i64 va)),(8,(.pointer (some ⟨b0,0,none⟩))),(9,(.pointer (some ⟨b1,0,none⟩))),(44,(.agg #[.slice a2 n2 c2,.slice a3 n3 c3])),(45,(.int .i64 m45))] (by kernel_rfl) (by kernel_rfl) ?_
 refine St.cond (k1:=Amq) (k2:=A5l) false (by kernel_rfl) (fun hc=>by cases hc) (fun hc=>?_)
 exact St.weak (L':=[(1,(.int .i64 fo)),(2,(.int .i64 tr)),(3,(.int .i64 va)),(8,(.pointer (some ⟨b0,0,none⟩))),(9,(.pointer (some ⟨b1,0,none⟩))),(44,(.agg #[.slice a2 n2 c2,.slice a3 n3 c3])),(45,(.int .i64 m45))]) (by kernel_rfl) (hk w0 (.inl ⟨rfl,rfl⟩))
theorem No{α:Type}(l:List α)(i:Nat)(x d:α)(h:i<l.length):(l.set i x).getD i d=x:=by
 simp[List.getD_eq_getElem?_getD,h]
theorem getD_set_ne{α:Type}(l:List α)(i j:Nat)(x d:α)(h:i≠j):(l.set i x).getD j d=l.getD j d:=by
 simp[List.getD_eq_getElem?_getD,List.getElem?_set_ne h]
theorem Upd.trans_old{S T:List Nat}{a b c:World}(h:Upd S a b)(k:Upd T b c)(hT:∀x∈T,a.heap.size≤x):Upd S a c:=
 ⟨k.os.trans h.os,k.tape.trans h.tape,k.output.trans h.output,Nat.le_trans h.size k.size,fun i hi hs=>(k.same i (Nat.lt_of_lt_of_le hi h.size) (fun hk=>by have:=hT i hk;omega)).trans (h.same i hi hs)⟩
set_option maxHeartbeats 1000000 in
theorem Zc{X:Ctx}{df:List Deferred}{M:Nat→Option Obj}(a2:Option Addr)(c2 c3 b0 b1 b2 b3 f t:Nat)(va:Int)(L F:List (List Int))(vs3 rest3:List Value)(ty3:TypeId)(S2:List Nat)(w:World)
  (hM:∀b o,M b=some o→b∉S2++[b3]∧w.heap[b]?=some o) (h12:b1∉S2++[b3]) (hb1:b1<w.heap.size) (h2:L≠[]→S2=[b2]∧b2≠b3∧a2=some ⟨b2,0,none⟩∧∃vs0 rest ty,Blk w b2 (vs0++rest) ty∧RepL M (.sl (.int .i64)) L vs0) (h2n:L=[]→S2=[])
  (hb3:Blk w b3 (vs3++rest3) ty3) (hR3:RepL M (.sl (.int .i64)) F vs3) (hLn:L.length≤1000000) (hFn:F.length≤1000000) (hL:∀r∈L,r≠[]∧r.length≤1000000) (hF:∀r∈F,r≠[]∧r.length≤1000000)
  (hf:f<F.length) (ht:t<(F.getD f []).length) (hva:inR .i64 va) (hc2:w.cell? ⟨b1,2,none⟩=some (.slice a2 L.length c2)) (hc3:w.cell? ⟨b1,3,none⟩=some (.slice (some ⟨b3,0,none⟩) F.length c3))
  (hk:∀w',Upd (S2++[b3]) w w'→(L≠[]→I2 w' w.heap.size L b2)→I2 w' w.heap.size (F.set f ((F.getD f []).set t va)) b3→St Tryz.prog X 72 Ach [(8,(.pointer (some ⟨b0,0,none⟩))),(9,(.pointer (some ⟨b1,0,none⟩)))] df w') :
  St Tryz.prog X 72 Am4 [(1,(.int .i64 (↑f:Int))),(2,(.int .i64 (↑t:Int))),(3,(.int .i64 va)),(8,(.pointer (some ⟨b0,0,none⟩))),(9,(.pointer (some ⟨b1,0,none⟩)))] df w:=by
 have hMb:∀b o,M b=some o→b<w.heap.size:=fun b o h=>A4 (hM b o h).2
 refine St.reg Ak6 [(0,true),(1,true),(2,true),(3,true),(4,true),(5,true)] (by kernel_rfl) (by kernel_rfl) ?_
 refine RX.q 6 [(1,true,(.slice a2 L.length c2)),(3,true,(.slice (some ⟨b3,0,none⟩) F.length c3))] [(1,(.int .i64 (↑f:Int))),(2,(.int .i64 (↑t:Int))),(3,(.int .i64 va)),(8,(.pointer (some ⟨b0,0,none⟩))),(9,(.pointer (some ⟨b1,0,none⟩))),(44,(.agg #[(.slice a2 L.length c2),(.slice (some ⟨b3,0,none⟩) F.length c3)])),(45,(.int .i64 0))] [.cell ⟨b1,2,none⟩ (.slice a2 L.length c2),.cell ⟨b1,3,none⟩ (.slice (some ⟨b3,0,none⟩) F.length c3)] (by kernel_rfl) ⟨hc2,hc3⟩ ?_
 refine RX.done [(1,(.int .i64 (↑f:Int))),(2,(.int .i64 (↑t:Int))),(3,(.int .i64 va)),(8,(.pointer (some ⟨b0,0,none⟩))),(9,(.pointer (some ⟨b1,0,none⟩))),(44,(.agg #[(.slice a2 L.length c2),(.slice (some ⟨b3,0,none⟩) F.length c3)])),(45,(.int .i64 0))] (by kernel_rfl) (by kernel_rfl) ?_
 refine St.reg Ajx [(0,true)] (by kernel_rfl) (by kernel_rfl) ?_
 refine RX.q 1 [] [(46,(.bool true)),(1,(.int .i64 (↑f:Int))),(2,(.int .i64 (↑t:Int))),(3,(.int .i64 va)),(8,(.pointer (some ⟨b0,0,none⟩))),(9,(.pointer (some ⟨b1,0,none⟩))),(44,(.agg #[(.slice a2 L.length c2),(.slice (some ⟨b3,0,none⟩) F.length c3)])),(45,(.int .i64 0))] [] (by kernel_rfl) trivial ?_
 refine RX.done [(46,(.bool true)),(1,(.int .i64 (↑f:Int))),(2,(.int .i64 (↑t:Int))),(3,(.int .i64 va)),(8,(.pointer (some ⟨b0,0,none⟩))),(9,(.pointer (some ⟨b1,0,none⟩))),(44,(.agg #[(.slice a2 L.length c2),(.slice (some ⟨b3,0,none⟩) F.length c3)])),(45,(.int .i64 0))] (by kernel_rfl) (by kernel_rfl) ?_
 refine St.cond (k1:=Ajn) (k2:=Als) true (by kernel_rfl) (fun hc=>?_) (fun hc=>by cases hc)
 refine St.weak (L':=[(1,(.int .i64 (↑f:Int))),(2,(.int .i64 (↑t:Int))),(3,(.int .i64 va)),(8,(.pointer (some ⟨b0,0,none⟩))),(9,(.pointer (some ⟨b1,0,none⟩))),(44,(.agg #[(.slice a2 L.length c2),(.slice (some ⟨b3,0,none⟩) F.length c3)])),(45,(.int .i64 0))]) (by kernel_rfl) ?_
 refine St.reg Apx [(0,true),(1,true)] (by kernel_rfl) (by kernel_rfl) ?_
 refine RX.q 2 [] [(11,(.slice a2 L.length c2)),(1,(.int .i64 (↑f:Int))),(2,(.int .i64 (↑t:Int))),(3,(.int .i64 va)),(8,(.pointer (some ⟨b0,0,none⟩))),(9,(.pointer (some ⟨b1,0,none⟩))),(44,(.agg #[(.slice a2 L.length c2),(.slice (some ⟨b3,0,none⟩) F.length c3)])),(45,(.int .i64 0))] [] (by kernel_rfl) trivial ?_
 refine RX.done [(11,(.slice a2 L.length c2)),(1,(.int .i64 (↑f:Int))),(2,(.int .i64 (↑t:Int))),(3,(.int .i64 va)),(8,(.pointer (some ⟨b0,0,none⟩))),(9,(.pointer (some ⟨b1,0,none⟩))),(44,(.agg #[(.slice a2 L.length c2),(.slice (some ⟨b3,0,none⟩) F.length c3)])),(45,(.int .i64 0))] (by kernel_rfl) (by kernel_rfl) ?_
 refine St.reg T1 [(0,true),(1,true),(2,true)] (by kernel_rfl) (by kernel_rfl) ?_
 refine RX.q 3 [] [(50,(.int .i64 0)),(1,(.int .i64 (↑f:Int))),(2,(.int .i64 (↑t:Int))),(3,(.int .i64 va)),(8,(.pointer (some ⟨b0,0,none⟩))),(9,(.pointer (some ⟨b1,0,none⟩))),(44,(.agg #[(.slice a2 L.length c2),(.slice (some ⟨b3,0,none⟩) F.length c3)])),(45,(.int .i64 0)),(49,(.int .i64 (↑L.length:Int))),(11,(.slice a2 L.length c2))] [] (by kernel_rfl) trivial ?_
 refine RX.done [(50,(.int .i64 0)),(1,(.int .i64 (↑f:Int))),(2,(.int .i64 (↑t:Int))),(3,(.int .i64 va)),(8,(.pointer (some ⟨b0,0,none⟩))),(9,(.pointer (some ⟨b1,0,none⟩))),(44,(.agg #[(.slice a2 L.length c2),(.slice (some ⟨b3,0,none⟩) F.length c3)])),(45,(.int .i64 0)),(49,(.int .i64 (↑L.length:Int))),(11,(.slice a2 L.length c2))] (by kernel_rfl) (by kernel_rfl) ?_
 refine Uj (M:=M) a2 a2 (some ⟨b3,0,none⟩) L.length c2 F.length c3 b0 b1 b2 c2 (↑f:Int) (↑t:Int) va 0 L w ?_ hLn hL (fun h=>(h2 h).2.2) ?_
 ·intro hL0 b o h
  have:=(hM b o h).1
  rw[(h2 hL0).1]at this
  exact⟨fun e=>this (by simp[e]),(hM b o h).2⟩
 intro w1 hd1
 have hu1:Upd S2 w w1:=by
  rcases hd1 with⟨_,rfl⟩ | ⟨hL0,_,vs,rest,ty,hd⟩
  ·exact Upd.refl _ _
  ·rw[(h2 hL0).1];exact hd.upd
 have h3S:b3∉S2:=by
  intro h
  by_cases hL0:L=[]
  ·rw[h2n hL0]at h;cases h
  ·rw[(h2 hL0).1]at h;simp at h;exact(h2 hL0).2.1 h.symm
 have h1S:b1∉S2:=fun h=>h12 (by simp[h])
 have h13:b1≠b3:=fun h=>h12 (by simp[h])
 refine St.reg Ak6 [(0,true),(1,true)] (by kernel_rfl) (by kernel_rfl) ?_
 refine RX.q 2 [] [(1,(.int .i64 (↑f:Int))),(2,(.int .i64 (↑t:Int))),(3,(.int .i64 va)),(8,(.pointer (some ⟨b0,0,none⟩))),(9,(.pointer (some ⟨b1,0,none⟩))),(44,(.agg #[(.slice a2 L.length c2),(.slice (some ⟨b3,0,none⟩) F.length c3)])),(45,(.int .i64 1))] [] (by kernel_rfl) trivial ?_
 refine RX.done [(1,(.int .i64 (↑f:Int))),(2,(.int .i64 (↑t:Int))),(3,(.int .i64 va)),(8,(.pointer (some ⟨b0,0,none⟩))),(9,(.pointer (some ⟨b1,0,none⟩))),(44,(.agg #[(.slice a2 L.length c2),(.slice (some ⟨b3,0,none⟩) F.length c3)])),(45,(.int .i64 1))] (by kernel_rfl) (by kernel_rfl) ?_
 refine St.reg Ajx [(0,true)] (by kernel_rfl) (by kernel_rfl) ?_
 refine RX.q 1 [] [(46,(.bool true)),(1,(.int .i64 (↑f:Int))),(2,(.int .i64 (↑t:Int))),(3,(.int .i64 va)),(8,(.pointer (some ⟨b0,0,none⟩))),(9,(.pointer (some ⟨b1,0,none⟩))),(44,(.agg #[(.slice a2 L.length c2),(.slice (some ⟨b3,0,none⟩) F.length c3)])),(45,(.int .i64 1))] [] (by kernel_rfl) trivial ?_
 refine RX.done [(46,(.bool true)),(1,(.int .i64 (↑f:Int))),(2,(.int .i64 (↑t:Int))),(3,(.int .i64 va)),(8,(.pointer (some ⟨b0,0,none⟩))),(9,(.pointer (some ⟨b1,0,none⟩))),(44,(.agg #[(.slice a2 L.length c2),(.slice (some ⟨b3,0,none⟩) F.length c3)])),(45,(.int .i64 1))] (by kernel_rfl) (by kernel_rfl) ?_
 refine St.cond (k1:=Ajn) (k2:=Als) true (by kernel_rfl) (fun hc=>?_) (fun hc=>by cases hc)
 refine St.weak (L':=[(1,(.int .i64 (↑f:Int))),(2,(.int .i64 (↑t:Int))),(3,(.int .i64 va)),(8,(.pointer (some ⟨b0,0,none⟩))),(9,(.pointer (some ⟨b1,0,none⟩))),(44,(.agg #[(.slice a2 L.length c2),(.slice (some ⟨b3,0,none⟩) F.length c3)])),(45,(.int .i64 1))]) (by kernel_rfl) ?_
 refine St.reg Apx [(0,true),(1,true)] (by kernel_rfl) (by kernel_rfl) ?_
 refine RX.q 2 [] [(11,(.slice (some ⟨b3,0,none⟩) F.length c3)),(1,(.int .i64 (↑f:Int))),(2,(.int .i64 (↑t:Int))),(3,(.int .i64 va)),(8,(.pointer (some ⟨b0,0,none⟩))),(9,(.pointer (some ⟨b1,0,none⟩))),(44,(.agg #[(.slice a2 L.length c2),(.slice (some ⟨b3,0,none⟩) F.length c3)])),(45,(.int .i64 1))] [] (by kernel_rfl) trivial ?_
 refine RX.done [(11,(.slice (some ⟨b3,0,none⟩) F.length c3)),(1,(.int .i64 (↑f:Int))),(2,(.int .i64 (↑t:Int))),(3,(.int .i64 va)),(8,(.pointer (some ⟨b0,0,none⟩))),(9,(.pointer (some ⟨b1,0,none⟩))),(44,(.agg #[(.slice a2 L.length c2),(.slice (some ⟨b3,0,none⟩) F.length c3)])),(45,(.int .i64 1))] (by kernel_rfl) (by kernel_rfl) ?_
 refine St.reg T1 [(0,true),(1,true),(2,true)] (by kernel_rfl) (by kernel_rfl) ?_
 refine RX.q 3 [] [(50,(.int .i64 0)),(1,(.int .i64 (↑f:Int))),(2,(.int .i64 (↑t:Int))),(3,(.int .i64 va)),(8,(.pointer (some ⟨b0,0,none⟩))),(9,(.pointer (some ⟨b1,0,none⟩))),(44,(.agg #[(.slice a2 L.length c2),(.slice (some ⟨b3,0,none⟩) F.length c3)])),(45,(.int .i64 1)),(49,(.int .i64 (↑F.length:Int))),(11,(.slice (some ⟨b3,0,none⟩) F.length c3))] [] (by kernel_rfl) trivial ?_
 refine RX.done [(50,(.int .i64 0)),(1,(.int .i64 (↑f:Int))),(2,(.int .i64 (↑t:Int))),(3,(.int .i64 va)),(8,(.pointer (some ⟨b0,0,none⟩))),(9,(.pointer (some ⟨b1,0,none⟩))),(44,(.agg #[(.slice a2 L.length c2),(.slice (some ⟨b3,0,none⟩) F.length c3)])),(45,(.int .i64 1)),(49,(.int .i64 (↑F.length:Int))),(11,(.slice (some ⟨b3,0,none⟩) F.length c3))] (by kernel_rfl) (by kernel_rfl) ?_
 refine Uj (M:=M) (some ⟨b3,0,none⟩) a2 (some ⟨b3,0,none⟩) L.length c2 F.length c3 b0 b1 b3 c3 (↑f:Int) (↑t:Int) va 1 F w1 ?_ hFn hF (fun h=>⟨rfl,vs3,rest3,ty3,hu1.blk hb3 h3S,hR3⟩) ?_
 ·intro _ b o h
  have:=(hM b o h).1
  exact⟨fun e=>this (by simp[e]),hu1.blk (hM b o h).2 (fun e=>this (by simp[e]))⟩
 intro w2 hd2
 obtain⟨hF0,_⟩ | ⟨hF0,-,vs,rest,ty,hd⟩:=hd2
 ·rw[hF0]at hf;simp at hf
 have hu2:=hd.upd
 refine St.reg Ak6 [(0,true),(1,true)] (by kernel_rfl) (by kernel_rfl) ?_
 refine RX.q 2 [] [(1,(.int .i64 (↑f:Int))),(2,(.int .i64 (↑t:Int))),(3,(.int .i64 va)),(8,(.pointer (some ⟨b0,0,none⟩))),(9,(.pointer (some ⟨b1,0,none⟩))),(44,(.agg #[(.slice a2 L.length c2),(.slice (some ⟨b3,0,none⟩) F.length c3)])),(45,(.int .i64 2))] [] (by kernel_rfl) trivial ?_
 refine RX.done [(1,(.int .i64 (↑f:Int))),(2,(.int .i64 (↑t:Int))),(3,(.int .i64 va)),(8,(.pointer (some ⟨b0,0,none⟩))),(9,(.pointer (some ⟨b1,0,none⟩))),(44,(.agg #[(.slice a2 L.length c2),(.slice (some ⟨b3,0,none⟩) F.length c3)])),(45,(.int .i64 2))] (by kernel_rfl) (by kernel_rfl) ?_
 refine St.reg Ajx [(0,true)] (by kernel_rfl) (by kernel_rfl) ?_
 refine RX.q 1 [] [(46,(.bool false)),(1,(.int .i64 (↑f:Int))),(2,(.int .i64 (↑t:Int))),(3,(.int .i64 va)),(8,(.pointer (some ⟨b0,0,none⟩))),(9,(.pointer (some ⟨b1,0,none⟩)))] [] (by kernel_rfl) trivial ?_
 refine RX.done [(46,(.bool false)),(1,(.int .i64 (↑f:Int))),(2,(.int .i64 (↑t:Int))),(3,(.int .i64 va)),(8,(.pointer (some ⟨b0,0,none⟩))),(9,(.pointer (some ⟨b1,0,none⟩)))] (by kernel_rfl) (by kernel_rfl) ?_
 refine St.cond (k1:=Ajn) (k2:=Als) false (by kernel_rfl) (fun hc=>by cases hc) (fun hc=>?_)
 refine St.weak (L':=[(1,(.int .i64 (↑f:Int))),(2,(.int .i64 (↑t:Int))),(3,(.int .i64 va)),(8,(.pointer (some ⟨b0,0,none⟩))),(9,(.pointer (some ⟨b1,0,none⟩)))]) (by kernel_rfl) ?_
 have hrf:=hd.row f hf
 have hrf1:=hrf.lt
 obtain⟨rb,rcc,rrest,rty,erb,hr1,hr2,hr3,hr4,hr5⟩:=id hrf
 have ev:vs[f]?=some (vs.getD f undef):=by simp[List.getD_eq_getElem?_getD,List.getElem?_eq_getElem (show f<vs.length by rw[hd.len];exact hf)]
 have ev2:(vs++rest)[f]?=some (.slice (some ⟨rb,0,none⟩) (F.getD f []).length rcc):=by rw[List.getElem?_append_left (by rw[hd.len];exact hf),ev,erb]
 refine St.reg Ach [(0,true),(1,true),(2,true),(3,true),(4,true),(5,true),(6,true),(7,true),(8,false)] (by kernel_rfl) (by kernel_rfl) ?_
 refine RX.q 8 [(1,true,(.slice (some ⟨b3,0,none⟩) F.length c3)),(3,true,(.pointer (some ⟨b3,0+f*1,none⟩))),(4,true,(.slice (some ⟨rb,0,none⟩) (F.getD f []).length rcc)),(7,true,(.pointer (some ⟨rb,0+t*1,none⟩)))] [(69,(.int .i64 va)),(70,(.pointer (some ⟨rb,0+t*1,none⟩))),(1,(.int .i64 (↑f:Int))),(2,(.int .i64 (↑t:Int))),(3,(.int .i64 va)),(8,(.pointer (some ⟨b0,0,none⟩))),(9,(.pointer (some ⟨b1,0,none⟩)))] [.cell ⟨b1,3,none⟩ (.slice (some ⟨b3,0,none⟩) F.length c3),.raw (Instr.indexAt 23 (.slice (some ⟨b3,0,none⟩) F.length c3) (.int .i64 (↑f:Int))) (.pointer (some ⟨b3,0+f*1,none⟩)),.cell ⟨b3,0+f*1,none⟩ (.slice (some ⟨rb,0,none⟩) (F.getD f []).length rcc),.raw (Instr.indexAt 22 (.slice (some ⟨rb,0,none⟩) (F.getD f []).length rcc) (.int .i64 (↑t:Int))) (.pointer (some ⟨rb,0+t*1,none⟩))] (by kernel_rfl) ⟨hu2.cell (hu1.cell hc3 h1S) (by simp[h13]),K7 (e:=22) (sz:=1) (by kernel_rfl) (by kernel_rfl) b3 0 F.length c3 f hf _,by rw[show 0+f*1=f by omega];exact Blk.cell hd.blk ev2,K7 (e:=3) (sz:=1) (by kernel_rfl) (by kernel_rfl) rb 0 (F.getD f []).length rcc t ht _⟩ ?_
 rw[show 0+t*1=t by omega]
 refine RX.store1 rb t (.int .i64 va) ((F.getD f []).map (.int .i64)++rrest) rty (by kernel_rfl) rfl hr5 (by rw[List.length_append,List.length_map];omega) ?_
 intro w3 hp
 refine RX.done [(8,(.pointer (some ⟨b0,0,none⟩))),(9,(.pointer (some ⟨b1,0,none⟩)))] (by kernel_rfl) (by kernel_rfl) ?_
 have erb':blkN (vs.getD f undef)=rb:=by rw[erb];rfl
 have hlow:w.heap.size≤w1.heap.size:=hu1.size
 have hlt3:=A4 hb3
 refine hk w3 ?_ (fun hL0=>?_) ?_
 ·exact((hu1.mono (fun k h=>by simp[h])).trans (hu2.mono (fun k h=>by simp at h;simp[h]))).trans_old hp.upd (fun k h=>by simp at h;subst h;omega)
 ·obtain⟨h,_⟩ | ⟨_,_,vs',rest',ty',hd'⟩:=hd1
  ·exact absurd h hL0
  have hlt2:b2<w1.heap.size:=A4 hd'.blk
  have hb23:=(h2 hL0).2.1
  refine⟨vs',rest',ty',hp.upd.blk (hu2.blk hd'.blk (by simp[hb23])) (by simp;omega),hd'.len,fun j hj=>?_⟩
  have h:=hd'.row j hj
  have hl:=h.lt
  exact(h.upd hu2 (by rw[List.mem_singleton];omega)).upd hp.upd (by rw[List.mem_singleton];omega)
 ·refine⟨vs,rest,ty,hp.upd.blk hd.blk (by simp;omega),by rw[hd.len];simp,fun j hj=>?_⟩
  simp only[List.length_set]at hj
  by_cases e:j=f
  ·subst e
   rw[No _ _ _ _ hf,erb]
   refine⟨rb,rcc,rrest,rty,by simp,by simpa using hr1,by omega,by simpa using hr3,fun x hx=>?_,?_⟩
   ·rcases List.mem_or_eq_of_mem_set hx with h | h
    ·exact hr4 x h
    ·subst h;exact hva
   ·have:=hp.blk
    rw[List.set_append_left _ _ (by simpa using ht)]at this
    rw[List.map_set];exact this
  ·rw[getD_set_ne _ _ _ _ _ (Ne.symm e)]
   refine((hd.row j hj).upd hp.upd ?_).lo hlow
   simp only[List.mem_singleton]
   intro h
   rcases Nat.lt_or_ge j f with h1 | h1
   ·have:=hd.inc j f h1 hf;omega
   ·have:=hd.inc f j (by omega) hj;omega

end Go.Proofs.YthncjilcflilcaaGreat

namespace Go.Proofs.YthncjilcflilcaaGreat
set_option linter.all false
open Go
theorem Ag6{y:Ty}{g:Gh}{w w':World}{l:List y.den}{v:Value}{h0:Nat→Option Blk'}(hs:Sim g h0 w)(hρ:∀i,g.ρ i=none)(hE:Ext w w')(hl:l.length≤1000000)
  (hv:(v=.slice none 0 0∧l=[])∨∃b c vs rest ty,v=.slice (some ⟨b,0,none⟩) l.length c∧w.heap.size≤b∧Blk w' b (vs++rest) ty∧RepL g.M y l vs∧(l.length≤c∧c≤9223372036854775807)∧rest.length=(c-l.length)*y.cells) :
  ∃g',Stp (Sw g h0 (List.range 0)) (fun i=>0≤i∧i<1) g w g' w'∧Sim g' (fun i=>([.lst y l]:List Blk')[i]?) w'∧RepV g' (.ols 0) v:=by
 have hlt:∀b o,g.M b=some o→b<w.heap.size:=fun b o h=>A4 (hs.mem b o h)
 have hsame:∀i,i<w.heap.size→w'.heap[i]?=w.heap[i]?:=fun i hi=>hE.same i hi (by simp)
 have key:∀x:Option (Nat×Nat×Nat),(∀b c n,x=some (b,c,n)→w.heap.size≤b)→RepBlk (newG g 0 x) w' 0 (.lst y l)→RepV (newG g 0 x) (.ols 0) v →
   ∃g',Stp (Sw g h0 (List.range 0)) (fun i=>0≤i∧i<1) g w g' w'∧Sim g' (fun i=>([.lst y l]:List Blk')[i]?) w'∧RepV g' (.ols 0) v:=by
  intro x hx hB hV
  refine⟨newG g 0 x,⟨hE.os,hE.tape,hE.output,hE.size,fun i hi _=>hsame i hi,Jd (hρ 0),fun i h2 h3=>?_,fun i b' c' n' h2 h3=>?_,fun b' o h2=>.inl h2⟩,⟨fun b' o h2=>?_,fun i k hk=>?_,fun i j ki kj b ci ni cj nj hi hj mi mj ei ej=>?_⟩,hV⟩
  ·by_cases e:i=0
   ·omega
   ·simp only[newG,if_neg e]at h3
    exact absurd h2 h3
  ·by_cases e:i=0
   ·subst e
    rw[Ai]at h3
    exact .inl (hx _ _ _ (Option.some.inj h3))
   ·simp only[newG,if_neg e]at h3
    rw[h2]at h3;cases h3
  ·have h2':g.M b'=some o:=h2
   rw[hsame b' (hlt b' o h2')]
   exact hs.mem b' o h2'
  ·match i,hk with
   | 0,hk=>simp at hk;subst hk;exact hB
   | i+1,hk=>simp at hk
  ·match i,j,hi,hj with
   | 0,0,_,_=>rfl
   | i+1,_,hi,_=>simp at hi
   | _,j+1,_,hj=>simp at hj
 rcases hv with⟨rfl,rfl⟩ | ⟨b,c,vs,rest,ty,rfl,hb,hB,hR,hc,hr⟩
 ·exact key none (fun _ _ _ h=>by cases h) ⟨by simp,.inl ⟨Ai _ _ _,rfl⟩⟩ (.inl ⟨Ai _ _ _,rfl⟩)
 ·have hMb:g.M b=none:=by
   cases e:g.M b with
   | none=>rfl
   | some o=>have:=hlt b o e;omega
  refine key (some (b,c,l.length)) (fun b' c' n' h=>?_) ⟨hl,.inr ⟨b,c,vs,rest,ty,Ai _ _ _,hB,hR,hc,hr,hMb⟩⟩ (.inr ⟨b,c,l.length,Ai _ _ _,rfl⟩)
  simp only[Option.some.injEq,Prod.mk.injEq]at h
  omega

noncomputable def c118:Code:=(Tryz.f92.body).getD .skip
noncomputable def Akl:List Item:=[.code (sub c118 [0]),.code (sub c118 [1])]
noncomputable def An6:List Item:=[.code (sub c118 [1,0,0]),.code (sub c118 [1,0,1]),.code (sub c118 [1,1])]
noncomputable def A5c:List Item:=[.code (sub c118 [1,0,1]),.code (sub c118 [1,1])]
noncomputable def A47:List Item:=[.code (sub c118 [1,0,1,0,0]),.code (sub c118 [1,0,1,0,1]),.code (sub c118 [1,1])]
noncomputable def A5d:List Item:=[.code (sub c118 [1,1,0]),.code (sub c118 [1,1,1])]
noncomputable def Am5:List Item:=[.code (sub c118 [1,0,1,0,1]),.code (sub c118 [1,1])]
noncomputable def Akh:List Item:=[.code (sub c118 [1,1,1])]
theorem Aiw(a:Option Addr)(c:Nat)(w:World):Fn Tryz.prog 92 #[.slice a 0 c] w (fun v w'=>Ext w w'∧∃a' c',v=.slice a' 0 c'):=by
 refine Fn.ofSt (c:=c118) 8 Akl [(0,.slice a 0 c)] Tryz.func92 (by kernel_rfl) ⟨⟨rfl,by kernel_rfl⟩,by kernel_rfl⟩ (by kernel_rfl) ?_
 intro cs
 refine St.reg An6 [(0,true)] (by kernel_rfl) (by kernel_rfl) ?_
 refine RX.q 1 [] [(0,.slice a 0 c)] [] (by kernel_rfl) trivial ?_
 refine RX.done [(0,.slice a 0 c)] (by kernel_rfl) (by kernel_rfl) ?_
 cases a with
 | none=>
  refine St.reg A5c [(0,true),(1,true)] (by kernel_rfl) (by kernel_rfl) ?_
  refine RX.q 2 [] [(4,.bool true)] [] (by kernel_rfl) trivial ?_
  refine RX.done [(4,.bool true)] (by kernel_rfl) (by kernel_rfl) ?_
  refine St.cond (k1:=A47) (k2:=A5d) true (by kernel_rfl) (fun _=>?_) (fun hc=>by cases hc)
  refine St.weak (L':=[]) (by kernel_rfl) ?_
  refine St.reg Am5 [(0,true)] (by kernel_rfl) (by kernel_rfl) ?_
  refine RX.q 1 [] [(2,.slice none 0 0)] [] (by kernel_rfl) trivial ?_
  refine RX.done [(2,.slice none 0 0)] (by kernel_rfl) (by kernel_rfl) ?_
  refine St.ret [.tmp 2] [.slice none 0 0] (by kernel_rfl) Tryz.func92 (by kernel_rfl) (.cons (.tmp (by kernel_rfl)) .nil) ?_
  exact⟨Upd.refl _ _,none,0,rfl⟩
 | some p=>
  refine St.reg A5c [(0,true),(1,true)] (by kernel_rfl) (by kernel_rfl) ?_
  refine RX.q 2 [] [(4,.bool false),(0,.slice (some p) 0 c)] [] (by kernel_rfl) trivial ?_
  refine RX.done [(4,.bool false),(0,.slice (some p) 0 c)] (by kernel_rfl) (by kernel_rfl) ?_
  refine St.cond (k1:=A47) (k2:=A5d) false (by kernel_rfl) (fun hc=>by cases hc) (fun _=>?_)
  refine St.weak (L':=[(0,.slice (some p) 0 c)]) (by kernel_rfl) ?_
  obtain⟨hue,hel,by_,zv,hT,hZ⟩:=Bg (P:=Tryz.prog) (t:=22) (e:=3) (y:=.int .i64) (by kernel_rfl)
  have hT:Du Tryz.prog 22 3 1 by_ zv:=hT
  refine St.reg Akh [(0,false),(1,true),(2,false),(3,true)] (by kernel_rfl) (by kernel_rfl) ?_
  refine RX.new 5 (.cells #[] 3) (.sl 0) [(0,.slice (some p) 0 c)] (by kernel_rfl) ?_
  intro b w1 hn
  have hsz:=hn.size;have hat:=hn.at_
  have hb:Blk w1 b [] 3:=hn.blk
  refine RX.q 1 [] [(5,.slice (some ⟨b,0,none⟩) 0 0),(6,.slice (some p) 0 c)] [] (by kernel_rfl) trivial ?_
  obtain⟨v',w2,ab',hr,hA,hU,-,-⟩:=append_run (P:=Tryz.prog) (u:=22) (ty:=22) (lo:=b) (lo2:=0) (w:=w1) (v:=.slice (some ⟨b,0,none⟩) 0 0) (x:=.slice (some p) 0 c) (n:=0) (m:=0) (cs:=[]) (xs:=[]) (ab:=[b]) hT (by kernel_rfl) ⟨rfl,.inr ⟨b,0,[],rfl,rfl,Nat.le_refl _,⟨Nat.le_refl _,by omega⟩,rfl,3,hb⟩⟩ ⟨some p,c,rfl,Nat.zero_le _,rfl,.inl rfl⟩ (fun _ h=>by cases h) (by omega) (by omega)
  refine RX.run 7 (Builtin.append_ #[22,22] 22 #[.slice (some ⟨b,0,none⟩) 0 0,.slice (some p) 0 c]) [(5,.slice (some ⟨b,0,none⟩) 0 0),(6,.slice (some p) 0 c)] (by kernel_rfl) hr ?_
  refine RX.q 1 [] [(2,v')] [] (by kernel_rfl) trivial ?_
  refine RX.done [(2,v')] (by kernel_rfl) (by kernel_rfl) ?_
  refine St.ret [.tmp 2] [v'] (by kernel_rfl) Tryz.func92 (by kernel_rfl) (.cons (.tmp (by kernel_rfl)) .nil) ?_
  obtain⟨a',c',e⟩:=hA.shape
  refine⟨?_,a',c',e⟩
  exact(hn.ext.trans_old hU (fun k hk=>by simp at hk;subst hk;omega))
def Hy(_N:Nat)(s:Li):Option Li:=lim s.length (some s)
noncomputable def A9i(N:Nat):Spec:={ f:=92,ins:=⟨[shL],[]⟩,outs:=[⟨[shL],[]⟩],run:=fun p k=>(Hy N p.1.1).bind fun r=>k ((r,()),()) }
theorem Ab7(N:Nat):A0 Tryz.prog (A9i N):=by
 refine⟨fun Z p κ=>?_,fun args w=>Sem.pv_run _ _ _ (by kernel_rfl) w,fun p r hpr g w vs hv hs hρ=>?_⟩
 ·show((Hy N p.1.1).bind _)=((Hy N p.1.1).bind _).bind κ
  cases Hy N p.1.1<;>rfl
 ·obtain⟨⟨(l:Li),⟨⟩⟩,⟨⟩⟩:=p
  have hpr':(lim l.length (some l)).bind (fun r:Li=>some (((r,()),()):(Li×Unit)×Unit))=some r:=hpr
  by_cases h:l=[]
  ·subst h
   simp only[encs,enc,RepVs,RepV]at hv
   have e:((([]:Li),()),())=r:=Option.some.inj hpr'
   subst e
   obtain⟨v,us,rfl,hv,rfl⟩:=hv
   obtain⟨_,a,c,rfl,_⟩:=hv
   refine Fn.mono (Aiw a c w) ?_
   rintro v' w' ⟨hE,a',c',rfl⟩
   have hlt:∀b o,g.M b=some o→b<w.heap.size:=fun b o h=>A4 (hs.mem b o h)
   refine⟨g,⟨hE.os,hE.tape,hE.output,hE.size,fun i hi _=>hE.same i hi (fun h=>by cases h),GE.refl g,fun _ h h'=>absurd h h',fun _ _ _ _ h h'=>(by rw[h]at h';cases h'),fun _ _ h=>.inl h⟩,⟨fun b o h=>?_,fun i k hk=>?_,fun i j ki kj b ci ni cj nj hi=>?_⟩,?_⟩
   ·exact(hE.same b (hlt b o h) (fun h=>by cases h)).trans (hs.mem b o h)
   ·have hk:([]:List Blk')[i]?=some k:=hk
    rw[List.getElem?_nil]at hk;cases hk
   ·have hk:([]:List Blk')[i]?=some ki:=hi
    rw[List.getElem?_nil]at hk;cases hk
   ·exact⟨Nat.zero_le _,a',c',rfl,Nat.zero_le _,.inl rfl⟩
  ·refine(A5o N).fn ((l,()),()) r ?_ g w vs hv hs hρ
   show((Zw N l).bind fun r=>some ((r,()),()))=some r
   unfold Zw
   rw[Av (by simp[h])]
   simpa using hpr'

end Go.Proofs.YthncjilcflilcaaGreat

namespace Go.Proofs.YthncjilcflilcaaGreat
set_option linter.all false
open Go
abbrev Qa:Ty:=.sl (.int .i64)
abbrev Qb:Ty:=.pair (.int .i64) (.pair (.sl Qa) (.pair (.sl Qa) Qa))


def Pb(N:Nat)(g:Int)(out:Li)(out2:Int)(out3 out4:Ll)(out5:Li):Option (Li×Int×Ll×Ll×Li):=
 some (out,out2,out3,out4,out5)
def Ku(N:Nat)(found trait value g:Int)(out:Li)(out2:Int)(out3:Li)(out4 out5:Ll):Option (Li×Int×Ll×Ll×Li):=
 if((0≤found∧found<out5.length)∧0≤trait∧trait<(out5.getD found.toNat []).length)∧(∀r∈out4,r≠[]∧r.length≤1000000)∧∀r∈out5,r≠[]∧r.length≤1000000 then
  Pb N g out out2 out4 (out5.set found.toNat ((out5.getD found.toNat []).set trait.toNat value)) out3
 else none
def Ji(N:Nat)(d:Li)(d2:Int)(d3 d4:Ll)(d5:Li)(found trait value:Int):Option (Li×Int×Ll×Ll×Li):=
 (Hy N d).bind fun x_1=>
 grd (lmI (d3.length:Int))<|
 grd (lmI (d4.length:Int))<|
 (Hy N d5).bind fun x_2=>
 Ku N found trait value 0 x_1 d2 x_2 (d3.take (min d3.length (List.replicate (d3.length:Int).toNat ([]:Li)).length)++(List.replicate (d3.length:Int).toNat ([]:Li)).drop (min d3.length (List.replicate (d3.length:Int).toNat ([]:Li)).length)) (d4.take (min d4.length (List.replicate (d4.length:Int).toNat ([]:Li)).length)++(List.replicate (d4.length:Int).toNat ([]:Li)).drop (min d4.length (List.replicate (d4.length:Int).toNat ([]:Li)).length))
noncomputable def Yq(N:Nat):List Spec:=[A9i N]
theorem A1w(N:Nat):AllP (A0 Tryz.prog) (Yq N):=⟨Ab7 N,trivial⟩
noncomputable def Ap8:Code:=(Tryz.f63.body).getD .skip
noncomputable abbrev Bj:Body:={ c:=Ap8,n:=72,res:=[.cell 8 25],outs:=[⟨[shG],[]⟩],m0:=0 }
abbrev Lo:altD Bj.outs→Option (Li×Int×Ll×Ll×Li):=fun r=>some (r.1.1.1,r.1.1.2.1,r.1.1.2.2.1,r.1.1.2.2.2.1,r.1.1.2.2.2.2.1)
abbrev Vl:List PI:=[.c [1,1,1,1,1,1,0],.c [1,1,1,1,1,1,1]]
abbrev Hu:Sta:=⟨[8,9],⟨[.own 0 0,.own 1 0],[.segs [.nils,shI,.nils,.nils,.nils],.segs [shL,shI,shQ,shQ,shL],.dead,.dead]⟩⟩
abbrev Z3(N:Nat):Leaf (Li×Int×Ll×Ll×Li):=⟨Vl,Hu,fun p=>Pb N p.2.1.2.1 p.2.2.1.1 p.2.2.1.2.1 p.2.2.1.2.2.1 p.2.2.1.2.2.2.1 p.2.2.1.2.2.2.2.1⟩
theorem A95(N:Nat)(g:Int)(out:Li)(out2:Int)(out3:Ll)(out4:Ll)(out5:Li):ev (Z:=Li×Int×Ll×Ll×Li) Tryz.prog (Yq N) Bj [] [] (some Lo) 400 true Vl (stL Hu (((),(),()),(((),g,(),(),(),()),(out,out2,out3,out4,out5,()),(),(),()))) (stH Hu (((),(),()),(((),g,(),(),(),()),(out,out2,out3,out4,out5,()),(),(),())))=Pb N g out out2 out3 out4 out5:=by kernel_rfl
theorem Ac3(N:Nat){z:Li×Int×Ll×Ll×Li}{E:EE}{Xc:Ctx}(hE:EOK Bj.m0 E)(hX:CxOK true Xc)(hret:B4 Tryz.prog Bj E Xc z (some Lo)):Az Tryz.prog Bj.c Bj.n Bj.m0 E Xc z (Z3 N):=Gp (B:=Bj) (loops:=[]) (leaves:=[]) (A1w N) mixed trivial hE hX trivial hret (fun p=>A95 N p.2.1.2.1 p.2.2.1.1 p.2.2.1.2.1 p.2.2.1.2.2.1 p.2.2.1.2.2.2.1 p.2.2.1.2.2.2.2.1)
abbrev A91:List PI:=[.c [1,1,1,1,0,0],.c [1,1,1,1,0,1],.c [1,1,1,1,1]]
abbrev Ko:Sta:=⟨[1,2,3,8,9],⟨[shI,shI,shI,.own 0 0,.own 1 0],[.segs [.nils,shI,.nils,.nils,.nils],.segs [shL,shI,.ols 2,.ols 3,shL],.lst Qa,.lst Qa]⟩⟩
abbrev Jq(N:Nat):Leaf (Li×Int×Ll×Ll×Li):=⟨A91,Ko,fun p=>Ku N p.1.1 p.1.2.1 p.1.2.2.1 p.2.1.2.1 p.2.2.1.1 p.2.2.1.2.1 p.2.2.1.2.2.2.2.1 p.2.2.2.1 p.2.2.2.2.1⟩
theorem Ab9(N:Nat){z:Li×Int×Ll×Ll×Li}{E:EE}{Xc:Ctx}(hE:EOK Bj.m0 E)(hX:CxOK true Xc)(hret:B4 Tryz.prog Bj E Xc z (some Lo)):Az Tryz.prog Bj.c Bj.n Bj.m0 E Xc z (Jq N):=by
 rintro ⟨⟨fo,tr,va,u1,u2,u3⟩,⟨u4,g0,u5,u6,u7,u8⟩,⟨W,s,u9,u10,R,u11⟩,L,F,u12⟩ hfn a w hS
 have hfn:Ku N fo tr va g0 W s R L F=some z:=hfn
 unfold Ku at hfn
 split at hfn
 rotate_left
 ·cases hfn
 rename_i hc
 obtain⟨⟨⟨hf0,hf1⟩,ht0,ht1⟩,hL,hF⟩:=hc
 obtain⟨f,rfl⟩:∃f:Nat,fo=f:=⟨fo.toNat,(Int.toNat_of_nonneg hf0).symm⟩
 obtain⟨t,rfl⟩:∃t:Nat,tr=t:=⟨tr.toNat,(Int.toNat_of_nonneg ht0).symm⟩
 simp only[Int.toNat_natCast]at hfn ht1
 have hf:f<F.length:=by omega
 have ht:t<(F.getD f []).length:=by omega
 obtain⟨⟨g,hs,htm,hi,he⟩,hsz,hm⟩:=hS
 have h1:RepV g (.i .i64 f) (a.tmps.getD 1 undef):=htm 1 _ rfl
 have h2:RepV g (.i .i64 t) (a.tmps.getD 2 undef):=htm 2 _ rfl
 have h3:RepV g (.i .i64 va) (a.tmps.getD 3 undef):=htm 3 _ rfl
 have h8:RepV g (.own 0 0) (a.tmps.getD 8 undef):=htm 8 _ rfl
 have h9:RepV g (.own 1 0) (a.tmps.getD 9 undef):=htm 9 _ rfl
 have hB0:RepBlk g w 0 (.segs [.nils,.i .i64 g0,.nils,.nils,.nils]):=hs.blk 0 _ rfl
 have hB1:RepBlk g w 1 (.segs [.sl (.int .i64) W,.i .i64 s,.ols 2,.ols 3,.sl (.int .i64) R]):=hs.blk 1 _ rfl
 have hB2:RepBlk g w 2 (.lst Qa L):=hs.blk 2 _ rfl
 have hB3:RepBlk g w 3 (.lst Qa F):=hs.blk 3 _ rfl
 have hdis:∀i j b ci ni cj nj,i<4→j<4→g.ρ i=some (some (b,ci,ni))→g.ρ j=some (some (b,cj,nj))→i=j:=fun i j b ci ni cj nj hi hj e1 e2=>by
  have hk:∀i,i<4→∃k,(stH Ko (((↑f:Int),(↑t:Int),va,u1,u2,u3),(u4,g0,u5,u6,u7,u8),(W,s,u9,u10,R,u11),L,F,u12))[i]?=some k∧k.mut=true:=fun i hi=>by
   match i,hi with
   | 0,_=>exact⟨_,rfl,rfl⟩
   | 1,_=>exact⟨_,rfl,rfl⟩
   | 2,_=>exact⟨_,rfl,rfl⟩
   | 3,_=>exact⟨_,rfl,rfl⟩
  obtain⟨ki,x1,x2⟩:=hk i hi
  obtain⟨kj,y1,y2⟩:=hk j hj
  exact hs.inj i j ki kj b ci ni cj nj x1 y1 x2 y2 e1 e2
 simp only[RepV]at h1 h2 h3 h8 h9
 obtain⟨b0,c0,n0,us0,ty0,e0,hb0,hp0,hm0⟩:=hB0
 obtain⟨b1,c1,n1,us1,ty1,e1,hb1,hp1,hm1⟩:=hB1
 obtain⟨_,_,_,e8,h8⟩:=h8
 rw[e0]at e8;cases e8
 obtain⟨_,_,_,e9,h9⟩:=h9
 rw[e1]at e9;cases e9
 simp only[A5,PartOf,RepV]at hp1
 obtain⟨_,_,rfl,⟨vW,rfl,hW⟩,_,_,rfl,⟨vs_,rfl,hs_⟩,_,_,rfl,⟨v2,rfl,hv2⟩,_,_,rfl,⟨v3,rfl,hv3⟩,_,_,rfl,⟨vR,rfl,hR⟩,rfl⟩:=hp1
 obtain⟨hLn,hB2⟩:=hB2
 obtain⟨hFn,hB3⟩:=hB3
 obtain⟨e3,hF0⟩ | ⟨b3,c3,vs3,rest3,ty3,e3,hb3,hR3,⟨hc3,hc3'⟩,hrl3,hm3⟩:=hB3
 ·rw[hF0]at hf;simp at hf
 rw[e3]at hv3
 obtain⟨h,_⟩ | ⟨_,_,_,h,rfl⟩:=hv3
 ·cases h
 cases h
 obtain⟨a2,c2,b2,S2,rfl,hL2,hL2n,hS2,hL2c⟩:∃(a2:Option Addr) (c2 b2:Nat) (S2:List Nat),v2=.slice a2 L.length c2∧(L≠[]→S2=[b2]∧b2≠b3∧a2=some ⟨b2,0,none⟩∧∃vs0 rest ty,Blk w b2 (vs0++rest) ty∧RepL g.M Qa L vs0)∧(L=[]→S2=[]) ∧
   (∀b∈S2,g.M b=none∧∃c n,g.ρ 2=some (some (b,c,n)))∧L.length≤c2:=by
  obtain⟨e2,hL0⟩ | ⟨b2,c2,vs2,rest2,ty2,e2,hb2,hR2,⟨hc2,hc2'⟩,hrl2,hm2⟩:=hB2
  ·rw[e2]at hv2
   subst hL0
   obtain⟨_,rfl⟩ | ⟨_,_,_,h,_⟩:=hv2
   ·exact⟨none,0,0,[],rfl,fun h=>absurd rfl h,fun _=>rfl,fun b hb=>(by cases hb),Nat.le_refl _⟩
   ·cases h
  ·rw[e2]at hv2
   obtain⟨h,_⟩ | ⟨_,_,_,h,rfl⟩:=hv2
   ·cases h
   cases h
   by_cases hL0:L=[]
   ·exact⟨_,c2,0,[],rfl,fun h=>absurd hL0 h,fun _=>rfl,fun b hb=>(by cases hb),hc2⟩
   ·refine⟨_,c2,b2,[b2],rfl,fun _=>⟨rfl,fun e=>?_,rfl,vs2,rest2,ty2,hb2,hR2⟩,fun h=>absurd h hL0,fun b hb=>?_,hc2⟩
    ·subst e
     have:=hdis 2 3 _ _ _ _ _ (by omega) (by omega) e2 e3
     omega
    ·simp only[List.mem_singleton]at hb
     subst hb
     exact⟨hm2,_,_,e2⟩
 have hlt0:=A4 hb0
 have hlt1:=A4 hb1
 have hlt3:=A4 hb3
 have hSid:∀b∈S2++[b3],g.M b=none∧∃i c n,(i=2∨i=3)∧g.ρ i=some (some (b,c,n)):=fun b hb=>by
  rcases List.mem_append.1 hb with h | h
  ·obtain⟨x,c,n,y⟩:=hS2 b h
   exact⟨x,2,c,n,.inl rfl,y⟩
  ·simp only[List.mem_singleton]at h
   subst h
   exact⟨hm3,3,_,_,.inr rfl,e3⟩
 have h0S:b0∉S2++[b3]:=fun h=>by
  obtain⟨_,i,c,n,hi,e⟩:=hSid _ h
  have:=hdis 0 i _ _ _ _ _ (by omega) (by omega) e0 e
  omega
 have h1S:b1∉S2++[b3]:=fun h=>by
  obtain⟨_,i,c,n,hi,e⟩:=hSid _ h
  have:=hdis 1 i _ _ _ _ _ (by omega) (by omega) e1 e
  omega
 have hMw:∀b o,g.M b=some o→b∉S2++[b3]∧w.heap[b]?=some o:=fun b o h=>⟨fun hb=>(by rw[(hSid b hb).1]at h;cases h),hs.mem b o h⟩
 have hwalk:=Zc (X:=Xc) (df:=a.defers) (M:=g.M) a2 c2 _ b0 b1 b2 b3 f t va L F vs3 rest3 ty3 S2 w hMw h1S hlt1 hL2 hL2n hb3 hR3 hLn hFn hL hF hf ht h3.2 (Blk.cell hb1 rfl) (Blk.cell hb1 rfl) (fun w' hu hRL hRF=>?_)
 ·have e:(Jq N).at_.map (itm Bj.c)=Am4:=by kernel_rfl
  rw[e]
  refine St.toAt (tm:=a.tmps) hwalk ⟨hsz,N2 _ (fun x hx=>?_)⟩
  simp only[List.mem_cons,List.not_mem_nil,or_false]at hx
  rcases hx with rfl | rfl | rfl | rfl | rfl
  ·exact h1.1
  ·exact h2.1
  ·exact h3.1
  ·exact h8
  ·exact h9
 ·intro tm htm'
  have e:(Z3 N).at_.map (itm Bj.c)=Ach:=by kernel_rfl
  rw[←e]
  have hge:GE g ⟨g.ρ,frzM g.M (S2++[b3]) w.heap.size w'⟩:=⟨fun _ _ h=>h,Dy⟩
  have hMlt:∀b o,g.M b=some o→b<w.heap.size:=fun b o h=>A4 (hs.mem b o h)
  have hrepL:RepS (frzM g.M (S2++[b3]) w.heap.size w') 1 (RepC (frzM g.M (S2++[b3]) w.heap.size w') Qa) L (.slice a2 L.length c2):=by
   by_cases hL0:L=[]
   ·exact⟨by omega,a2,c2,rfl,hL2c,.inl hL0⟩
   ·obtain⟨x1,x2,rfl,_⟩:=hL2 hL0
    exact I2.rep (hRL hL0) hMlt (hS2 b2 (by rw[x1];simp)).1 (.inl (by rw[x1];simp)) hLn hL2c
  have hrepF:=I2.rep (S:=S2++[b3]) (c:=c3) hRF hMlt hm3 (.inl (by simp)) (by simpa using hFn) (by simpa using hc3)
  rw[List.length_set]at hrepF
  refine Ac3 N hE hX hret (((),(),()),((),g0,(),(),(),()),(W,s,L,F.set f ((F.getD f []).set t va),R,()),(),(),()) hfn _ _ ⟨⟨⟨g.ρ,frzM g.M (S2++[b3]) w.heap.size w'⟩,⟨fun b o h=>?_,fun id k hk=>?_,fun i j ki kj b ci ni cj nj x1 y1 x2 y2 z1 z2=>?_⟩,?_,fun i hi'=>hi i hi',?_⟩,htm'.1,hm⟩
  ·rcases Is h with h | ⟨_,_,h,_⟩
   ·exact hu.blk (hs.mem b o h) (hMw b o h).1
   ·exact h
  ·match id,hk with
   | 0,hk=>
    cases hk
    exact⟨b0,c0,n0,us0,ty0,e0,hu.blk hb0 h0S,A5.mono hge _ _ hp0,Ng hm0 h0S hlt0⟩
   | 1,hk=>
    cases hk
    exact⟨b1,c1,n1,_,ty1,e1,hu.blk hb1 h1S,⟨_,_,rfl,⟨_,rfl,RepS.mono hW Dy (fun _ _ h=>h)⟩,_,_,rfl,⟨_,rfl,hs_⟩,_,_,rfl,⟨_,rfl,hrepL⟩,_,_,rfl,⟨_,rfl,hrepF⟩,_,_,rfl,⟨_,rfl,RepS.mono hR Dy (fun _ _ h=>h)⟩,rfl⟩,Ng hm1 h1S hlt1⟩
   | 2,hk=>cases hk;trivial
   | 3,hk=>cases hk;trivial
   | n+4,hk=>cases hk
  ·have hlt:∀i k,(stH Hu (((),(),()),((),g0,(),(),(),()),(W,s,L,F.set f ((F.getD f []).set t va),R,()),(),(),()))[i]?=some k→k.mut=true→i<4:=fun i k h1 h2=>by
    match i,h1 with
    | 0,_=>omega
    | 1,_=>omega
    | 2,_=>omega
    | 3,_=>omega
    | n+4,h=>cases h
   exact hdis i j _ _ _ _ _ (hlt i ki x1 x2) (hlt j kj y1 y2) z1 z2
  ·exact Qn [8,9] _ ⟨_,_,rfl,⟨b0,c0,n0,e0,htm'.2 8 _ rfl⟩,_,_,rfl,⟨b1,c1,n1,e1,htm'.2 9 _ rfl⟩,rfl⟩
  ·have hSw:∀b∈S2++[b3],Sw g (fun i=>(stH Ko (((↑f:Int),(↑t:Int),va,u1,u2,u3),(u4,g0,u5,u6,u7,u8),(W,s,u9,u10,R,u11),L,F,u12))[i]?) [2,3] b:=fun b hb=>by
    obtain⟨_,i,c,n,rfl | rfl,e⟩:=hSid b hb
    ·exact⟨2,by simp,_,c,n,rfl,rfl,e⟩
    ·exact⟨3,by simp,_,c,n,rfl,rfl,e⟩
   refine hE.step (nw:=fun _=>False) (wr:=[2,3]) (fun _ h=>h.elim) hs ⟨hu.os,hu.tape,hu.output,hu.size,fun b hb hn=>hu.same b hb (fun h=>hn (hSw b h)),hge,fun id h0 h1=>absurd h0 h1,fun id b c n h0 h1=>(by rw[h0]at h1;cases h1),fun b o h=>?_⟩ he
   rcases Is h with h | ⟨x1,x2,x3,x4⟩
   ·exact .inl h
   ·exact .inr ⟨x1,x2.symm.imp (fun h=>h) (hSw b),x4⟩

abbrev Aac:Sta:=⟨[0,1,2,3],⟨[shG,shI,shI,shI],[]⟩⟩
theorem Al1(N:Nat)(d:Li)(d2:Int)(d3:Ll)(d4:Ll)(d5:Li)(found:Int)(trait:Int)(value:Int):ev (Z:=Li×Int×Ll×Ll×Li) Tryz.prog (Yq N) Bj [] [Jq N] (some Lo) 400 false [.c [0],.c [1]] (stL Aac (((d,d2,d3,d4,d5,()),found,trait,value,()),())) (stH Aac (((d,d2,d3,d4,d5,()),found,trait,value,()),()))=Ji N d d2 d3 d4 d5 found trait value:=by kernel_rfl
noncomputable def Al2(N:Nat):Spec:={ f:=63,ins:=⟨[shG,shI,shI,shI],[]⟩,outs:=[⟨[shG],[]⟩],run:=fun p k=>(Ji N p.1.1.1 p.1.1.2.1 p.1.1.2.2.1 p.1.1.2.2.2.1 p.1.1.2.2.2.2.1 p.1.2.1 p.1.2.2.1 p.1.2.2.2.1).bind fun r=>k (((r.1,r.2.1,r.2.2.1,r.2.2.2.1,r.2.2.2.2,()),()),()) }
theorem Vm(N:Nat):A0 Tryz.prog (Al2 N):=Qv (B:=Bj) (loops:=[]) (leaves:=[Jq N]) (fun p=>Ji N p.1.1.1 p.1.1.2.1 p.1.1.2.2.1 p.1.1.2.2.2.1 p.1.1.2.2.2.2.1 p.1.2.1 p.1.2.2.1 p.1.2.2.2.1) (fun r=>(((r.1,r.2.1,r.2.2.1,r.2.2.2.1,r.2.2.2.2,()),()),())) Lo (fun _ _ _=>rfl) (fun r z h=>by cases h;rfl) Tryz.func63 (by kernel_rfl) (by kernel_rfl) (by kernel_rfl) rfl rfl (by kernel_rfl) (fun args w=>Sem.pv_run _ _ _ (by kernel_rfl) w) (A1w N) mixed trivial (fun z E Xc hE hX hret=>⟨Ab9 N hE hX hret,trivial⟩) (fun p=>Al1 N p.1.1.1 p.1.1.2.1 p.1.1.2.2.1 p.1.1.2.2.2.1 p.1.1.2.2.2.2.1 p.1.2.1 p.1.2.2.1 p.1.2.2.2.1)

end Go.Proofs.YthncjilcflilcaaGreat

/-
  Parts of a proof, put together: E4, E6, Pl27, Pl28, E7.
  Conditions: none.
-/
import Derived.Test.YtfcnhnbnjdccfaaGreatZd
namespace Go.Proofs.YtfcnhnbnjdccfaaGreat
set_option linter.all false
open Go

def Yk(N:Nat)(p p2 u:Int):Option Bool:=
 br (decide (p=u))
  (some true)
  (some (decide (p2=u)))
noncomputable def Aew(N:Nat):Spec:=mkS 91 ⟨[.agg [.i .i64,.i .i64],.fe (.int .i64)],[]⟩ [⟨[.b],[]⟩] (fun p=>Yk N p.1.1.1 p.1.1.2.1 p.1.2.1) (fun k r=>k ((r,()),()))
theorem A4f(N:Nat):A2 Tryz.prog (Aew N):=mkF (R:=Bool) (m0:=0) [] [] (fun r=>some r.1.1) [] Tryz.func91 (fun p=>by kernel_rfl) (by kernel_rfl) (fun _=>by kernel_rfl)

def M0(N:Nat)(x x2 g:Int):Option (Bool×Int):=
 (Yk N x x2 g).bind fun x_1=>
 some ((!x_1),g)
noncomputable def Aau(N:Nat):Spec:=mkS 105 ⟨[.agg [.i .i64,.i .i64],.own 0 0],[.segs [.fn 91 [] [.fe (.int .i64)]]]⟩ [⟨[.b],[.segs [.fn 91 [] [.fe (.int .i64)]]]⟩] (fun p=>M0 N p.1.1.1 p.1.1.2.1 p.2.1.1.2.1) (fun k r=>k ((r.1,()),((((),(r.2,())),()),())))
theorem Zs(N:Nat):A2 Tryz.prog (Aau N):=mkF (R:=Bool×Int) (m0:=1) [⟨_,A4f N⟩] [] (fun r=>some (r.1.1,r.2.1.1.2.1)) [] Tryz.func105 (fun p=>by kernel_rfl) (by kernel_rfl) (fun _=>by kernel_rfl)

def ixfm_l1(N:Nat):Nat→Qh→Int→Int→Int→Option (Qd⊕(Int))
 | 0,_,_,_,_=>none
 | n_+1,s,u,u2,f=>
  br (decide (u2<u))
   (idx s u2 fun x_1=>
   (M0 N x_1.1 x_1.2 f).bind fun(x_2,y_3)=>
   br x_2
    (some (.inl (u2,y_3)))
    (chk (u2+1)<|
    ixfm_l1 N n_ s u (u2+1) y_3))
   (some (.inr f))
def ixfm_S(N:Nat)(s:List Qd)(f:Int):Option Qd:=
 (ixfm_l1 N N s (s.length:Int) 0 f).bind fun e=>match e with
 | .inl (i_4,g_5)=>
  some (i_4,g_5)
 | .inr g_6=>
  some (-1,g_6)
noncomputable def Adt(N:Nat):Oks:=[⟨_,Zs N⟩]
abbrev Aj4:List StSh:=[⟨[.i .i64],[.segs [.fn 91 [] [.fe (.int .i64)]]]⟩]
noncomputable abbrev Aok:Body:=mkB Tryz.f109 Aj4 1
noncomputable def Agl(N:Nat){top:Bool}:LpQ Aok top:=mkL (Z:=Qd⊕(Int)) (Adt N) [] [.c [1,0,1,0,0,0],.c [1,0,1,0,0,1],.l [1,0,1,0,0],.b 0,.c [1,1]] ⟨[0,1,7,8],⟨[.sl Qc,.fn 105 [] [.own 0 0],.i .i64,.i .i64],[.segs [.fn 91 [] [.fe (.int .i64)]]]⟩⟩ (fun m p=>ixfm_l1 N m p.1.1 p.1.2.2.1 p.1.2.2.2.1 p.2.1.1.2.1) [⟨[.c [1,0,1,0,0,1,1,0,0,1,1,0,0],.c [1,0,1,0,0,1,1,0,0,1,1,0,1],.b 1,.c [1,0,1,0,0,1,1,1],.l [1,0,1,0,0],.b 0,.c [1,1]],⟨[5],⟨[.i .i64],[.segs [.fn 91 [] [.fe (.int .i64)]]]⟩⟩,fun p=>some (.inl (p.1.1,p.2.1.1.2.1))⟩,⟨[.c [1,1,0],.c [1,1,1]],⟨[],⟨[],[.segs [.fn 91 [] [.fe (.int .i64)]]]⟩⟩,fun p=>some (.inr p.2.1.1.2.1)⟩] (fun _=>[]) (fun k e=>match e with | .inl x=>k (.inl ((x.1,()),((((),(x.2,())),()),()))) | .inr x=>k (.inr (.inl ((),((((),(x,())),()),()))))) N (fun m p=>by kernel_rfl) (hg:=(by rintro _ _ (_ | _)<;>rfl))
noncomputable def Am8(N:Nat):Spec:=mkS 109 ⟨[.sl Qc,.fn 105 [] [.own 0 0]],[.segs [.fn 91 [] [.fe (.int .i64)]]]⟩ Aj4 (fun p=>ixfm_S N p.1.1 p.2.1.1.2.1) (fun k r=>k ((r.1,()),((((),(r.2,())),()),())))
theorem Abu(N:Nat):A2 Tryz.prog (Am8 N):=mkF (R:=Int×Int) (m0:=1) (Adt N) [Agl N] (fun r=>some (r.1.1,r.2.1.1.2.1)) [] Tryz.func109 (fun p=>by kernel_rfl) (by kernel_rfl) (fun _=>by kernel_rfl)

def Aa1(N:Nat)(s:List Qd)(f:Int):Option (Bool×Int):=
 (ixfm_S N s f).bind fun(x_1,y_2)=>
 some ((decide (0≤x_1)),y_2)
noncomputable def Amf(N:Nat):Spec:=mkS 104 ⟨[.sl Qc,.fn 105 [] [.own 0 0]],[.segs [.fn 91 [] [.fe (.int .i64)]]]⟩ [⟨[.b],[.segs [.fn 91 [] [.fe (.int .i64)]]]⟩] (fun p=>Aa1 N p.1.1 p.2.1.1.2.1) (fun k r=>k ((r.1,()),((((),(r.2,())),()),())))
theorem Aab(N:Nat):A2 Tryz.prog (Amf N):=mkF (R:=Bool×Int) (m0:=1) [⟨_,Abu N⟩] [] (fun r=>some (r.1.1,r.2.1.1.2.1)) [] Tryz.func104 (fun p=>by kernel_rfl) (by kernel_rfl) (fun _=>by kernel_rfl)

def Ox(N:Nat)(l:List Qd)(holds:Int):Option Bool:=
 (Aa1 N l holds).bind fun(x_1,y_2)=>
 some (!x_1)
noncomputable def Afi(N:Nat):Spec:=mkS 90 ⟨[.sl Qc,.fn 91 [] [.fe (.int .i64)]],[]⟩ [⟨[.b],[]⟩] (fun p=>Ox N p.1.1 p.1.2.1.2.1) (fun k r=>k ((r,()),()))
theorem A2r(N:Nat):A2 Tryz.prog (Afi N):=mkF (R:=Bool) (m0:=0) [⟨_,Aab N⟩] [] (fun r=>some r.1.1) [] Tryz.func90 (fun p=>by kernel_rfl) (by kernel_rfl) (fun _=>by kernel_rfl)

def Ko(N:Nat)(rec:Qh→Int→Int→Qe→Option Qe)(l:List Qd)(u u2:Int)(out:List Int):Option Qe:=
 chk (u2+1)<|
 rec l u (u2+1) out
def musts_l1(N:Nat):Nat→Qh→Int→Int→Qe→Option Qe
 | 0,_,_,_,_=>none
 | n_+1,l,u,u2,out=>
  br (decide (u2<u))
   ((Ox N l u2).bind fun x_3=>
   br x_3
    (lim (out.length+[u2].length)<|
    Ko N (musts_l1 N n_) l u u2 (out++[u2]))
    (Ko N (musts_l1 N n_) l u u2 out))
   (some (out))
def M5(N:Nat)(e:List Qe)(e2:List Int)(e3:Int):Option (List Int×Int):=
 (D7 N e e2 e3).bind fun x_1=>
 br (!decide (x_1=0))
  (some ([],x_1))
  ((Le N e e2 e3).bind fun x_2=>
  br (decide ((x_2.length:Int)=0))
   (some ([],6))
   ((musts_l1 N N x_2 (e.length:Int) 0 []).bind fun out_4=>
   some (out_4,0)))
noncomputable def Yv(N:Nat):Oks:=[⟨_,C0 N⟩,⟨_,Pe N⟩,⟨_,A2r N⟩]
abbrev Ae0:List StSh:=[⟨[.sl (.int .i64),.i .i64],[]⟩]
noncomputable abbrev Aem:Body:=mkB Tryz.f50 Ae0 0
abbrev V4:List PI:=[.c [1,1,1,1,1,0,1,0,0,0],.c [1,1,1,1,1,0,1,0,0,1],.l [1,1,1,1,1,0,1,0,0],.b 0,.c [1,1,1,1,1,1]]
abbrev Vc:Sta:=⟨[5,6,20,21],⟨[.sl Qc,.ols 0,.i .i64,.i .i64],[.lst (.int .i64)]⟩⟩
abbrev Aae(rec:Qh→Int→Int→Qe→Option Qe):Leaf Qe:=⟨V4,Vc,fun p=>rec p.1.1 p.1.2.2.1 p.1.2.2.2.1 p.2.1⟩
abbrev T4:Leaf Qe:=⟨[.c [1,1,1,1,1,1,0],.c [1,1,1,1,1,1,1]],⟨[6],⟨[.ols 0],[.lst (.int .i64)]⟩⟩,fun p=>some (p.2.1)⟩
noncomputable def Aba(N:Nat)(rec:Qh→Int→Int→Qe→Option Qe){top:Bool}:JnQ (Z:=List Int) Aem top none [Aae rec,T4]:=mkJ (Yv N) [] [] ⟨[.c [1,1,1,1,1,0,1,0,0,1,1,1],.l [1,1,1,1,1,0,1,0,0],.b 0,.c [1,1,1,1,1,1]],⟨[5,6,20,21],⟨[.sl Qc,.ols 0,.i .i64,.i .i64],[.lst (.int .i64)]⟩⟩,fun p=>Ko N rec p.1.1 p.1.2.2.1 p.1.2.2.2.1 p.2.1⟩ (fun p=>by kernel_rfl)
noncomputable def Aa6(N:Nat){top:Bool}:LpQ Aem top:=mkL (Z:=List Int) (Yv N) [] V4 Vc (fun m p=>musts_l1 N m p.1.1 p.1.2.2.1 p.1.2.2.2.1 p.2.1) [T4] (fun m=>[Aba N (musts_l1 N m)]) (fun k e=>k (.inl (((),()),(e,())))) N (fun m p=>by kernel_rfl)
noncomputable def Ajq(N:Nat):Spec:=mkS 50 ⟨[.agg [.sl Qf,.sl (.int .i64),.i .i64]],[]⟩ Ae0 (fun p=>M5 N p.1.1.1 p.1.1.2.1 p.1.1.2.2.1) (fun k r=>k ((r.1,r.2,()),()))
theorem A81(N:Nat):A2 Tryz.prog (Ajq N):=mkF (R:=List Int×Int) (m0:=0) (Yv N) [Aa6 N] (fun r=>some (r.1.1,r.1.2.1)) [] Tryz.func50 (fun p=>by kernel_rfl) (by kernel_rfl) (fun _=>by kernel_rfl)

def Lo(N:Nat)(n lo hi:Int):Option Bool:=
 br (decide (n<lo))
  (some true)
  (some (decide (hi<n)))
noncomputable def Aol(N:Nat):Spec:=mkS 71 ⟨[.i .i64,.i .i64,.i .i64],[]⟩ [⟨[.b],[]⟩] (fun p=>Lo N p.1.1 p.1.2.1 p.1.2.2.1) (fun k r=>k ((r,()),()))
theorem Ge(N:Nat):A2 Tryz.prog (Aol N):=mkF (R:=Bool) (m0:=0) [] [] (fun r=>some r.1.1) [] Tryz.func71 (fun p=>by kernel_rfl) (by kernel_rfl) (fun _=>by kernel_rfl)

def rcheck_l1(N:Nat):Nat→Int→Qj→Qe→Int→Option ((Unit)⊕(List Qe×List Int×Int))
 | 0,_,_,_,_=>none
 | n_+1,t,e,e2,e3=>
  br (decide (t<(e.length:Int)))
   (idx e t fun x_2=>
   (Lo N (x_2.length:Int) 1 6).bind fun x_3=>
   br x_3
    (some (.inl ()))
    (chk (t+1)<|
    rcheck_l1 N n_ (t+1) e e2 e3))
   (some (.inr (e,e2,e3)))
def rcheck_l3(N:Nat):Nat→Int→Int→Qj→Qe→Int→Option ((Unit)⊕(Int×List Qe×List Int×Int))
 | 0,_,_,_,_,_=>none
 | n_+1,t,k,e,e2,e3=>
  idx e t fun x_7=>
  br (decide (k<(x_7.length:Int)))
   (idx e t fun x_8=>
   idx x_8 k fun x_9=>
   (Lo N x_9 0 9).bind fun x_10=>
   br x_10
    (some (.inl ()))
    (chk (k+1)<|
    rcheck_l3 N n_ t (k+1) e e2 e3))
   (some (.inr (t,e,e2,e3)))
def rcheck_l2(N:Nat):Nat→Int→Qj→Qe→Int→Option ((Unit)⊕(List Qe×List Int×Int))
 | 0,_,_,_,_=>none
 | n_+1,t,e,e2,e3=>
  br (decide (t<(e.length:Int)))
   ((rcheck_l3 N N t 0 e e2 e3).bind fun e=>match e with
   | .inl _=>
    some (.inl ())
   | .inr (t_11,e_12,e2_13,e3_14)=>
    chk (t_11+1)<|
    rcheck_l2 N n_ (t_11+1) e_12 e2_13 e3_14)
   (some (.inr (e,e2,e3)))
def J0(N:Nat):Nat→Int→Qj→Qe→Int→Option ((Unit)⊕(List Qe×List Int×Int))
 | 0,_,_,_,_=>none
 | n_+1,i,e,e2,e3=>
  br (decide (i<(e2.length:Int)))
   (idx e2 i fun x_18=>
   (Lo N x_18 0 9).bind fun x_19=>
   br x_19
    (some (.inl ()))
    (chk (i+1)<|
    J0 N n_ (i+1) e e2 e3))
   (some (.inr (e,e2,e3)))
def rcheck_S(N:Nat)(e:List Qe)(e2:List Int)(e3:Int):Option Int:=
 (Lo N (e.length:Int) 1 5).bind fun x_1=>
 br x_1
  (some 2)
  (br (decide (10<(e2.length:Int)))
   (some 2)
   ((rcheck_l1 N N 0 e e2 e3).bind fun e=>match e with
   | .inl _=>
    some 2
   | .inr (e_4,e2_5,e3_6)=>
    (rcheck_l2 N N 0 e_4 e2_5 e3_6).bind fun e=>match e with
    | .inl _=>
     some 3
    | .inr (e_15,e2_16,e3_17)=>
     (J0 N N 0 e_15 e2_16 e3_17).bind fun e=>match e with
     | .inl _=>
      some 3
     | .inr (e_20,e2_21,e3_22)=>
      (Lo N e3_22 0 8).bind fun x_23=>
      br x_23
       (some 3)
       (some 0)))
noncomputable def Ir(N:Nat):Oks:=[⟨_,Ge N⟩]
abbrev A5o:List StSh:=[⟨[.i .i64],[]⟩]
noncomputable abbrev O3:Body:=mkB Tryz.f24 A5o 0
noncomputable def Hq(N:Nat){top:Bool}:LpQ O3 top:=mkL (Z:=(Unit)⊕(List Qe×List Int×Int)) (Ir N) [] [.c [1,1,0,1,0,0,0,0],.c [1,1,0,1,0,0,0,1],.c [1,1,0,1,0,0,1],.l [1,1,0,1,0,0],.b 0,.c [1,1,1]] ⟨[1,3],⟨[.own 0 0,.i .i64],[.segs [.sl Qf,.sl (.int .i64),.i .i64]]⟩⟩ (fun m p=>rcheck_l1 N m p.1.2.1 p.2.1.1 p.2.1.2.1 p.2.1.2.2.1) [⟨[.c [1,1,0,1,0,0,1,0,0,1,0,0],.c [1,1,0,1,0,0,1,0,0,1,0,1],.b 1,.c [1,1,0,1,0,0,1,1],.l [1,1,0,1,0,0],.b 0,.c [1,1,1]],⟨[],⟨[],[]⟩⟩,fun p=>some (.inl ())⟩,⟨[.c [1,1,1,0,0],.c [1,1,1,0,1],.c [1,1,1,1]],⟨[1],⟨[.own 0 0],[.segs [.sl Qf,.sl (.int .i64),.i .i64]]⟩⟩,fun p=>some (.inr (p.2.1.1,p.2.1.2.1,p.2.1.2.2.1))⟩] (fun _=>[]) (fun k e=>match e with | .inl x=>k (.inl ((),())) | .inr x=>k (.inr (.inl (((),()),((x.1,x.2.1,x.2.2,()),()))))) N (fun m p=>by kernel_rfl) (hg:=(by rintro _ _ (_ | _)<;>rfl))
noncomputable def Kz(N:Nat){top:Bool}:LpQ O3 top:=mkL (Z:=(Unit)⊕(Int×List Qe×List Int×Int)) (Ir N) [Hq N] [.c [1,1,1,0,1,0,0,1,0,0,1,0,0,0,0],.c [1,1,1,0,1,0,0,1,0,0,1,0,0,0,1],.c [1,1,1,0,1,0,0,1,0,0,1,0,0,1],.l [1,1,1,0,1,0,0,1,0,0,1,0,0],.b 4,.b 3,.c [1,1,1,0,1,0,0,1,1],.l [1,1,1,0,1,0,0],.b 2,.c [1,1,1,1]] ⟨[1,4,5],⟨[.own 0 0,.i .i64,.i .i64],[.segs [.sl Qf,.sl (.int .i64),.i .i64]]⟩⟩ (fun m p=>rcheck_l3 N m p.1.2.1 p.1.2.2.1 p.2.1.1 p.2.1.2.1 p.2.1.2.2.1) [⟨[.c [1,1,1,0,1,0,0,1,0,0,1,0,0,1,0,0,1,0,0],.c [1,1,1,0,1,0,0,1,0,0,1,0,0,1,0,0,1,0,1],.b 5,.c [1,1,1,0,1,0,0,1,0,0,1,0,0,1,1],.l [1,1,1,0,1,0,0,1,0,0,1,0,0],.b 4,.b 3,.c [1,1,1,0,1,0,0,1,1],.l [1,1,1,0,1,0,0],.b 2,.c [1,1,1,1]],⟨[],⟨[],[]⟩⟩,fun p=>some (.inl ())⟩,⟨[.c [1,1,1,0,1,0,0,1,1],.l [1,1,1,0,1,0,0],.b 2,.c [1,1,1,1]],⟨[1,4],⟨[.own 0 0,.i .i64],[.segs [.sl Qf,.sl (.int .i64),.i .i64]]⟩⟩,fun p=>some (.inr (p.1.2.1,p.2.1.1,p.2.1.2.1,p.2.1.2.2.1))⟩] (fun _=>[]) (fun k e=>match e with | .inl x=>k (.inl ((),())) | .inr x=>k (.inr (.inl (((),x.1,()),((x.2.1,x.2.2.1,x.2.2.2,()),()))))) N (fun m p=>by kernel_rfl) (hg:=(by rintro _ _ (_ | _)<;>rfl))
noncomputable def Ti(N:Nat){top:Bool}:LpQ O3 top:=mkL (Z:=(Unit)⊕(List Qe×List Int×Int)) (Ir N) [Hq N,Kz N] [.c [1,1,1,0,1,0,0,0,0],.c [1,1,1,0,1,0,0,0,1],.c [1,1,1,0,1,0,0,1],.l [1,1,1,0,1,0,0],.b 2,.c [1,1,1,1]] ⟨[1,4],⟨[.own 0 0,.i .i64],[.segs [.sl Qf,.sl (.int .i64),.i .i64]]⟩⟩ (fun m p=>rcheck_l2 N m p.1.2.1 p.2.1.1 p.2.1.2.1 p.2.1.2.2.1) [⟨[.c [1,1,1,0,1,0,0,1,0,0,1,0,0,1,0,0,1,0,0],.c [1,1,1,0,1,0,0,1,0,0,1,0,0,1,0,0,1,0,1],.b 5,.c [1,1,1,0,1,0,0,1,0,0,1,0,0,1,1],.l [1,1,1,0,1,0,0,1,0,0,1,0,0],.b 4,.b 3,.c [1,1,1,0,1,0,0,1,1],.l [1,1,1,0,1,0,0],.b 2,.c [1,1,1,1]],⟨[],⟨[],[]⟩⟩,fun p=>some (.inl ())⟩,⟨[.c [1,1,1,1,0,0],.c [1,1,1,1,0,1],.c [1,1,1,1,1]],⟨[1],⟨[.own 0 0],[.segs [.sl Qf,.sl (.int .i64),.i .i64]]⟩⟩,fun p=>some (.inr (p.2.1.1,p.2.1.2.1,p.2.1.2.2.1))⟩] (fun _=>[]) (fun k e=>match e with | .inl x=>k (.inl ((),())) | .inr x=>k (.inr (.inl (((),()),((x.1,x.2.1,x.2.2,()),()))))) N (fun m p=>by kernel_rfl) (hg:=(by rintro _ _ (_ | _)<;>rfl))
noncomputable def A7s(N:Nat){top:Bool}:LpQ O3 top:=mkL (Z:=(Unit)⊕(List Qe×List Int×Int)) (Ir N) [Hq N,Kz N,Ti N] [.c [1,1,1,1,0,1,0,0,0,0],.c [1,1,1,1,0,1,0,0,0,1],.c [1,1,1,1,0,1,0,0,1],.l [1,1,1,1,0,1,0,0],.b 6,.c [1,1,1,1,1]] ⟨[1,6],⟨[.own 0 0,.i .i64],[.segs [.sl Qf,.sl (.int .i64),.i .i64]]⟩⟩ (fun m p=>J0 N m p.1.2.1 p.2.1.1 p.2.1.2.1 p.2.1.2.2.1) [⟨[.c [1,1,1,1,0,1,0,0,1,0,0,1,0,0],.c [1,1,1,1,0,1,0,0,1,0,0,1,0,1],.b 7,.c [1,1,1,1,0,1,0,0,1,1],.l [1,1,1,1,0,1,0,0],.b 6,.c [1,1,1,1,1]],⟨[],⟨[],[]⟩⟩,fun p=>some (.inl ())⟩,⟨[.c [1,1,1,1,1,0,0],.c [1,1,1,1,1,0,1],.c [1,1,1,1,1,1]],⟨[1],⟨[.own 0 0],[.segs [.sl Qf,.sl (.int .i64),.i .i64]]⟩⟩,fun p=>some (.inr (p.2.1.1,p.2.1.2.1,p.2.1.2.2.1))⟩] (fun _=>[]) (fun k e=>match e with | .inl x=>k (.inl ((),())) | .inr x=>k (.inr (.inl (((),()),((x.1,x.2.1,x.2.2,()),()))))) N (fun m p=>by kernel_rfl) (hg:=(by rintro _ _ (_ | _)<;>rfl))
noncomputable def Ag0(N:Nat):Spec:=mkS 24 ⟨[.agg [.sl Qf,.sl (.int .i64),.i .i64]],[]⟩ A5o (fun p=>rcheck_S N p.1.1.1 p.1.1.2.1 p.1.1.2.2.1) (fun k r=>k ((r,()),()))
theorem Dl(N:Nat):A2 Tryz.prog (Ag0 N):=mkF (R:=Int) (m0:=0) (Ir N) [Hq N,Kz N,Ti N,A7s N] (fun r=>some r.1.1) [] Tryz.func24 (fun p=>by kernel_rfl) (by kernel_rfl) (fun _=>by kernel_rfl)

def Jj(N:Nat)(e:List Qe)(e2:List Int)(e3 p p2:Int):Option Int:=
 (rcheck_S N e e2 e3).bind fun x_1=>
 br (!decide (x_1=0))
  (some x_1)
  (chk ((e.length:Int)-1)<|
  (Lo N p 0 ((e.length:Int)-1)).bind fun x_2=>
  br x_2
   (some 1)
   (chk ((e.length:Int)-1)<|
   (Lo N p2 0 ((e.length:Int)-1)).bind fun x_3=>
   br x_3
    (some 1)
    (some 0)))
noncomputable def An0(N:Nat):Spec:=mkS 28 ⟨[.agg [.sl Qf,.sl (.int .i64),.i .i64],.agg [.i .i64,.i .i64]],[]⟩ [⟨[.i .i64],[]⟩] (fun p=>Jj N p.1.1.1 p.1.1.2.1 p.1.1.2.2.1 p.1.2.1.1 p.1.2.1.2.1) (fun k r=>k ((r,()),()))
theorem Dy(N:Nat):A2 Tryz.prog (An0 N):=mkF (R:=Int) (m0:=0) [⟨_,Ge N⟩,⟨_,Dl N⟩] [] (fun r=>some r.1.1) [] Tryz.func28 (fun p=>by kernel_rfl) (by kernel_rfl) (fun _=>by kernel_rfl)

def Je(N:Nat)(rec:Qh→Int→Int→Int→Qj→Qe→Int→Int→Int→Option ((Unit)⊕((Unit)⊕((Unit)⊕(Unit)))))(l:List Qd)(a b i:Int)(e:List Qe)(e2:List Int)(e3 p p2:Int):Option ((Unit)⊕((Unit)⊕((Unit)⊕(Unit)))):=
 chk (i+1)<|
 rec l a b (i+1) e e2 e3 p p2
def fits_l1(N:Nat):Nat→Qh→Int→Int→Int→Qj→Qe→Int→Int→Int→Option ((Unit)⊕((Unit)⊕((Unit)⊕(Unit))))
 | 0,_,_,_,_,_,_,_,_,_=>none
 | n_+1,l,a,b,i,e,e2,e3,p,p2=>
  br (decide (i<(l.length:Int)))
   (idx l i fun x_1=>
   br (decide (x_1.1=1))
    (idx l i fun x_2=>
    br (decide (x_2.2≤a))
     (some (.inl ()))
     (idx l i fun x_3=>
     idx e p fun x_4=>
     br (decide ((x_4.length:Int)≤x_3.2))
      (some (.inl ()))
      (idx e p fun x_5=>
      idx l i fun x_6=>
      idx x_5 x_6.2 fun x_7=>
      idx e2 i fun x_8=>
      br (!decide (x_7=x_8))
       (some (.inl ()))
       (idx l i fun x_9=>
       Je N (fits_l1 N n_) l x_9.2 b i e e2 e3 p p2))))
    (idx l i fun x_10=>
    br (decide (x_10.1=2))
     (idx l i fun x_11=>
     br (decide (x_11.2≤b))
      (some (.inr (.inl ())))
      (idx l i fun x_12=>
      idx e p2 fun x_13=>
      br (decide ((x_13.length:Int)≤x_12.2))
       (some (.inr (.inl ())))
       (idx e p2 fun x_14=>
       idx l i fun x_15=>
       idx x_14 x_15.2 fun x_16=>
       idx e2 i fun x_17=>
       br (!decide (x_16=x_17))
        (some (.inr (.inl ())))
        (idx l i fun x_18=>
        Je N (fits_l1 N n_) l a x_18.2 i e e2 e3 p p2))))
     (idx l i fun x_19=>
     br (!decide (x_19.1=3))
      (some (.inr (.inr (.inl ()))))
      (idx l i fun x_20=>
      br (!decide (x_20.2=0))
       (some (.inr (.inr (.inl ()))))
       (Je N (fits_l1 N n_) l a b i e e2 e3 p p2)))))
   (some (.inr (.inr (.inr ()))))
def We(N:Nat)(e:List Qe)(e2:List Int)(e3 p p2:Int)(l:List Qd):Option Bool:=
 (fits_l1 N N l (-1) (-1) 0 e e2 e3 p p2).bind fun e=>match e with
 | .inl _=>
  some false
 | .inr (.inl _)=>
  some false
 | .inr (.inr (.inl _))=>
  some false
 | .inr (.inr (.inr _))=>
  some true
noncomputable def A3a(N:Nat):Oks:=[]
abbrev Aj8:List StSh:=[⟨[.b],[]⟩]
noncomputable abbrev Akc:Body:=mkB Tryz.f77 Aj8 0
abbrev Wr:List PI:=[.c [1,1,0,1,0,0,0,0],.c [1,1,0,1,0,0,0,1],.c [1,1,0,1,0,0,1],.l [1,1,0,1,0,0],.b 0,.c [1,1,1]]
abbrev Xp:Sta:=⟨[2,3,4,7,8,9],⟨[.sl Qc,.own 0 0,.own 1 0,.i .i64,.i .i64,.i .i64],[.segs [.sl Qf,.sl (.int .i64),.i .i64],.segs [.i .i64,.i .i64]]⟩⟩
abbrev Agx(rec:Qh→Int→Int→Int→Qj→Qe→Int→Int→Int→Option ((Unit)⊕((Unit)⊕((Unit)⊕(Unit))))):Leaf ((Unit)⊕((Unit)⊕((Unit)⊕(Unit)))):=⟨Wr,Xp,fun p=>rec p.1.1 p.1.2.2.2.1 p.1.2.2.2.2.1 p.1.2.2.2.2.2.1 p.2.1.1 p.2.1.2.1 p.2.1.2.2.1 p.2.2.1.1 p.2.2.1.2.1⟩
abbrev Yr:Leaf ((Unit)⊕((Unit)⊕((Unit)⊕(Unit)))):=⟨[.c [1,1,0,1,0,0,1,0,0,1,0,0,1,0,0],.c [1,1,0,1,0,0,1,0,0,1,0,0,1,0,1],.c [1,1,0,1,0,0,1,0,0,1,0,1],.b 1,.c [1,1,0,1,0,0,1,1],.l [1,1,0,1,0,0],.b 0,.c [1,1,1]],⟨[],⟨[],[]⟩⟩,fun p=>some (.inl ())⟩
abbrev Wo:Leaf ((Unit)⊕((Unit)⊕((Unit)⊕(Unit)))):=⟨[.c [1,1,0,1,0,0,1,0,0,1,1,1,0,0,1,0,0],.c [1,1,0,1,0,0,1,0,0,1,1,1,0,0,1,0,1],.c [1,1,0,1,0,0,1,0,0,1,1,1,0,1],.b 1,.c [1,1,0,1,0,0,1,1],.l [1,1,0,1,0,0],.b 0,.c [1,1,1]],⟨[],⟨[],[]⟩⟩,fun p=>some (.inr (.inl ()))⟩
abbrev Wq:Leaf ((Unit)⊕((Unit)⊕((Unit)⊕(Unit)))):=⟨[.c [1,1,0,1,0,0,1,0,0,1,1,1,1,1,0,0],.c [1,1,0,1,0,0,1,0,0,1,1,1,1,1,0,1],.b 1,.c [1,1,0,1,0,0,1,1],.l [1,1,0,1,0,0],.b 0,.c [1,1,1]],⟨[],⟨[],[]⟩⟩,fun p=>some (.inr (.inr (.inl ())))⟩
abbrev Wa:Leaf ((Unit)⊕((Unit)⊕((Unit)⊕(Unit)))):=⟨[.c [1,1,1,0],.c [1,1,1,1]],⟨[],⟨[],[]⟩⟩,fun p=>some (.inr (.inr (.inr ())))⟩
noncomputable def Ah7(N:Nat)(rec:Qh→Int→Int→Int→Qj→Qe→Int→Int→Int→Option ((Unit)⊕((Unit)⊕((Unit)⊕(Unit))))){top:Bool}:JnQ (Z:=(Unit)⊕((Unit)⊕((Unit)⊕(Unit)))) Akc top none [Agx rec,Yr,Wo,Wq,Wa]:=mkJ (A3a N) [] [] ⟨[.c [1,1,0,1,0,0,1,1],.l [1,1,0,1,0,0],.b 0,.c [1,1,1]],⟨[2,3,4,7,8,9],⟨[.sl Qc,.own 0 0,.own 1 0,.i .i64,.i .i64,.i .i64],[.segs [.sl Qf,.sl (.int .i64),.i .i64],.segs [.i .i64,.i .i64]]⟩⟩,fun p=>Je N rec p.1.1 p.1.2.2.2.1 p.1.2.2.2.2.1 p.1.2.2.2.2.2.1 p.2.1.1 p.2.1.2.1 p.2.1.2.2.1 p.2.2.1.1 p.2.2.1.2.1⟩ (fun p=>by kernel_rfl)
noncomputable def Ag6(N:Nat){top:Bool}:LpQ Akc top:=mkL (Z:=(Unit)⊕((Unit)⊕((Unit)⊕(Unit)))) (A3a N) [] Wr Xp (fun m p=>fits_l1 N m p.1.1 p.1.2.2.2.1 p.1.2.2.2.2.1 p.1.2.2.2.2.2.1 p.2.1.1 p.2.1.2.1 p.2.1.2.2.1 p.2.2.1.1 p.2.2.1.2.1) [Yr,Wo,Wq,Wa] (fun m=>[Ah7 N (fits_l1 N m)]) (fun k e=>match e with | .inl x=>k (.inl ((),())) | .inr (.inl x)=>k (.inr (.inl ((),()))) | .inr (.inr (.inl x))=>k (.inr (.inr (.inl ((),())))) | .inr (.inr (.inr x))=>k (.inr (.inr (.inr (.inl ((),())))))) N (fun m p=>by kernel_rfl) (hg:=(by rintro _ _ (_ | _ | _ | _)<;>rfl))
noncomputable def Am9(N:Nat):Spec:=mkS 77 ⟨[.agg [.sl Qf,.sl (.int .i64),.i .i64],.agg [.i .i64,.i .i64],.sl Qc],[]⟩ Aj8 (fun p=>We N p.1.1.1 p.1.1.2.1 p.1.1.2.2.1 p.1.2.1.1 p.1.2.1.2.1 p.1.2.2.1) (fun k r=>k ((r,()),()))
theorem Xj(N:Nat):A2 Tryz.prog (Am9 N):=mkF (R:=Bool) (m0:=0) (A3a N) [Ag6 N] (fun r=>some r.1.1) [] Tryz.func77 (fun p=>by kernel_rfl) (by kernel_rfl) (fun _=>by kernel_rfl)

def Iz(N:Nat)(rec:Qh→Int→Int→Option Int)(l:List Qd)(n i:Int):Option Int:=
 chk (i+1)<|
 rec l n (i+1)
def faulty_l1(N:Nat):Nat→Qh→Int→Int→Option Int
 | 0,_,_,_=>none
 | n_+1,l,n,i=>
  br (decide (i<(l.length:Int)))
   (idx l i fun x_3=>
   br (decide (x_3.1=3))
    (chk (n+1)<|
    Iz N (faulty_l1 N n_) l (n+1) i)
    (chk (n-1)<|
    Iz N (faulty_l1 N n_) l (n-1) i))
   (some (n))
def Iq(N:Nat)(e:List Qe)(e2:List Int)(e3 p p2:Int)(l:List Qd):Option Int:=
 idx e p fun x_1=>
 idx e p2 fun x_2=>
 chk ((x_1.length:Int)+(x_2.length:Int))<|
 (faulty_l1 N N l ((x_1.length:Int)+(x_2.length:Int)) 0).bind fun n_4=>
 some n_4
noncomputable def Sn(N:Nat):Oks:=[]
abbrev A59:List StSh:=[⟨[.i .i64],[]⟩]
noncomputable abbrev A88:Body:=mkB Tryz.f76 A59 0
abbrev Q6:List PI:=[.c [1,1,0,1,0,0,0,0],.c [1,1,0,1,0,0,0,1],.c [1,1,0,1,0,0,1],.l [1,1,0,1,0,0],.b 0,.c [1,1,1]]
abbrev Q5:Sta:=⟨[2,7,8],⟨[.sl Qc,.i .i64,.i .i64],[]⟩⟩
abbrev A63(rec:Qh→Int→Int→Option Int):Leaf Int:=⟨Q6,Q5,fun p=>rec p.1.1 p.1.2.1 p.1.2.2.1⟩
abbrev Of:Leaf Int:=⟨[.c [1,1,1,0],.c [1,1,1,1]],⟨[7],⟨[.i .i64],[]⟩⟩,fun p=>some (p.1.1)⟩
noncomputable def A8m(N:Nat)(rec:Qh→Int→Int→Option Int){top:Bool}:JnQ (Z:=Int) A88 top none [A63 rec,Of]:=mkJ (Sn N) [] [] ⟨[.c [1,1,0,1,0,0,1,1],.l [1,1,0,1,0,0],.b 0,.c [1,1,1]],⟨[2,7,8],⟨[.sl Qc,.i .i64,.i .i64],[]⟩⟩,fun p=>Iz N rec p.1.1 p.1.2.1 p.1.2.2.1⟩ (fun p=>by kernel_rfl)
noncomputable def A5n(N:Nat){top:Bool}:LpQ A88 top:=mkL (Z:=Int) (Sn N) [] Q6 Q5 (fun m p=>faulty_l1 N m p.1.1 p.1.2.1 p.1.2.2.1) [Of] (fun m=>[A8m N (faulty_l1 N m)]) (fun k e=>k (.inl ((e,()),()))) N (fun m p=>by kernel_rfl)
noncomputable def Ah3(N:Nat):Spec:=mkS 76 ⟨[.agg [.sl Qf,.sl (.int .i64),.i .i64],.agg [.i .i64,.i .i64],.sl Qc],[]⟩ A59 (fun p=>Iq N p.1.1.1 p.1.1.2.1 p.1.1.2.2.1 p.1.2.1.1 p.1.2.1.2.1 p.1.2.2.1) (fun k r=>k ((r,()),()))
theorem Pb(N:Nat):A2 Tryz.prog (Ah3 N):=mkF (R:=Int) (m0:=0) (Sn N) [A5n N] (fun r=>some r.1.1) [] Tryz.func76 (fun p=>by kernel_rfl) (by kernel_rfl) (fun _=>by kernel_rfl)

def It(N:Nat)(e:List Qe)(e2:List Int)(e3 p p2:Int)(l:List Qd):Option Qd:=
 (Jj N e e2 e3 p p2).bind fun x_1=>
 br (!decide (x_1=0))
  (some (0,x_1))
  (br (!decide ((l.length:Int)=(e2.length:Int)))
   (some (0,2))
   ((We N e e2 e3 p p2 l).bind fun x_2=>
   br (!x_2)
    (some (0,8))
    ((Iq N e e2 e3 p p2 l).bind fun x_3=>
    some (x_3,0))))
noncomputable def Aal(N:Nat):Spec:=mkS 32 ⟨[.agg [.sl Qf,.sl (.int .i64),.i .i64],.agg [.i .i64,.i .i64],.sl Qc],[]⟩ [⟨[.i .i64,.i .i64],[]⟩] (fun p=>It N p.1.1.1 p.1.1.2.1 p.1.1.2.2.1 p.1.2.1.1 p.1.2.1.2.1 p.1.2.2.1) (fun k r=>k ((r.1,r.2,()),()))
theorem N0(N:Nat):A2 Tryz.prog (Aal N):=mkF (R:=Int×Int) (m0:=0) [⟨_,Dy N⟩,⟨_,Xj N⟩,⟨_,Pb N⟩] [] (fun r=>some (r.1.1,r.1.2.1)) [] Tryz.func32 (fun p=>by kernel_rfl) (by kernel_rfl) (fun _=>by kernel_rfl)

def great_l1(N:Nat):Nat→Qj→Int→Int→Option ((Unit)⊕(Unit))
 | 0,_,_,_=>none
 | n_+1,u,u2,u3=>
  br (decide (u3<u2))
   (idx u u3 fun x_1=>
   br (decide (9<(x_1.length:Int)))
    (some (.inl ()))
    (chk (u3+1)<|
    great_l1 N n_ u u2 (u3+1)))
   (some (.inr ()))
def great_S(N:Nat)(e:List Qe)(e2:List Int)(e3:Int):Option Bool:=
 br (decide (8<(e.length:Int)))
  (some true)
  (br (decide (14<(e2.length:Int)))
   (some true)
   ((great_l1 N N e (e.length:Int) 0).bind fun e=>match e with
   | .inl _=>
    some true
   | .inr _=>
    some false))
noncomputable def A7t(N:Nat):Oks:=[]
abbrev Adx:List StSh:=[⟨[.b],[]⟩]
noncomputable abbrev Alj:Body:=mkB Tryz.f21 Adx 0
noncomputable def A9x(N:Nat){top:Bool}:LpQ Alj top:=mkL (Z:=(Unit)⊕(Unit)) (A7t N) [] [.c [1,1,0,1,0,0,0],.c [1,1,0,1,0,0,1],.l [1,1,0,1,0,0],.b 0,.c [1,1,1]] ⟨[16,17,18],⟨[.sl Qf,.i .i64,.i .i64],[]⟩⟩ (fun m p=>great_l1 N m p.1.1 p.1.2.1 p.1.2.2.1) [⟨[.c [1,1,0,1,0,0,1,1,0,0,1,1,0,0],.c [1,1,0,1,0,0,1,1,0,0,1,1,0,1],.b 1,.c [1,1,0,1,0,0,1,1,1],.l [1,1,0,1,0,0],.b 0,.c [1,1,1]],⟨[],⟨[],[]⟩⟩,fun p=>some (.inl ())⟩,⟨[.c [1,1,1,0],.c [1,1,1,1]],⟨[],⟨[],[]⟩⟩,fun p=>some (.inr ())⟩] (fun _=>[]) (fun k e=>match e with | .inl x=>k (.inl ((),())) | .inr x=>k (.inr (.inl ((),())))) N (fun m p=>by kernel_rfl) (hg:=(by rintro _ _ (_ | _)<;>rfl))
noncomputable def Aiv(N:Nat):Spec:=mkS 21 ⟨[.agg [.sl Qf,.sl (.int .i64),.i .i64]],[]⟩ Adx (fun p=>great_S N p.1.1.1 p.1.1.2.1 p.1.1.2.2.1) (fun k r=>k ((r,()),()))
theorem Ex(N:Nat):A2 Tryz.prog (Aiv N):=mkF (R:=Bool) (m0:=0) (A7t N) [A9x N] (fun r=>some r.1.1) [] Tryz.func21 (fun p=>by kernel_rfl) (by kernel_rfl) (fun _=>by kernel_rfl)

def wide_l1(N:Nat):Nat→Int→Qj→Int→Int→Option ((Unit)⊕(Unit))
 | 0,_,_,_,_=>none
 | n_+1,words,u,u2,u3=>
  br (decide (u3<u2))
   (idx u u3 fun x_1=>
   br (decide (words<(x_1.length:Int)))
    (br (decide ((x_1.length:Int)≤6))
     (some (.inl ()))
     (chk (u3+1)<|
     wide_l1 N n_ words u u2 (u3+1)))
    (chk (u3+1)<|
    wide_l1 N n_ words u u2 (u3+1)))
   (some (.inr ()))
def S8(N:Nat)(e:List Qe)(e2:List Int)(e3 heard words:Int):Option Bool:=
 br (decide (heard<(e2.length:Int)))
  (br (decide ((e2.length:Int)≤10))
   (some true)
   ((wide_l1 N N words e (e.length:Int) 0).bind fun e=>match e with
   | .inl _=>
    some true
   | .inr _=>
    some false))
  ((wide_l1 N N words e (e.length:Int) 0).bind fun e=>match e with
  | .inl _=>
   some true
  | .inr _=>
   some false)
noncomputable def Aei(N:Nat):Oks:=[]
abbrev Ai9:List StSh:=[⟨[.b],[]⟩]
noncomputable abbrev Apu:Body:=mkB Tryz.f22 Ai9 0
noncomputable def Agu(N:Nat){top:Bool}:LpQ Apu top:=mkL (Z:=(Unit)⊕(Unit)) (Aei N) [] [.c [1,1,0,1,0,0,0],.c [1,1,0,1,0,0,1],.l [1,1,0,1,0,0],.b 0,.c [1,1,1]] ⟨[2,21,22,23],⟨[.i .i64,.sl Qf,.i .i64,.i .i64],[]⟩⟩ (fun m p=>wide_l1 N m p.1.1 p.1.2.1 p.1.2.2.1 p.1.2.2.2.1) [⟨[.c [1,1,0,1,0,0,1,1,0,0,1,1,0,0],.c [1,1,0,1,0,0,1,1,0,0,1,1,0,1],.b 1,.c [1,1,0,1,0,0,1,1,1],.l [1,1,0,1,0,0],.b 0,.c [1,1,1]],⟨[],⟨[],[]⟩⟩,fun p=>some (.inl ())⟩,⟨[.c [1,1,1,0],.c [1,1,1,1]],⟨[],⟨[],[]⟩⟩,fun p=>some (.inr ())⟩] (fun _=>[]) (fun k e=>match e with | .inl x=>k (.inl ((),())) | .inr x=>k (.inr (.inl ((),())))) N (fun m p=>by kernel_rfl) (hg:=(by rintro _ _ (_ | _)<;>rfl))
noncomputable def Am4(N:Nat):Spec:=mkS 22 ⟨[.agg [.sl Qf,.sl (.int .i64),.i .i64],.i .i64,.i .i64],[]⟩ Ai9 (fun p=>S8 N p.1.1.1 p.1.1.2.1 p.1.1.2.2.1 p.1.2.1 p.1.2.2.1) (fun k r=>k ((r,()),()))
theorem Wu(N:Nat):A2 Tryz.prog (Am4 N):=mkF (R:=Bool) (m0:=0) (Aei N) [Agu N] (fun r=>some r.1.1) [] Tryz.func22 (fun p=>by kernel_rfl) (by kernel_rfl) (fun _=>by kernel_rfl)

def places_l1(N:Nat):Nat→Qh→Int→Int→Qh→Option Qh
 | 0,_,_,_,_=>none
 | n_+1,u,u2,u3,out=>
  br (decide (u3<u2))
   (idx u u3 fun x_1=>
   lim (out.length+[(x_1.1,x_1.2)].length)<|
   chk (u3+1)<|
   places_l1 N n_ u u2 (u3+1) (out++[(x_1.1,x_1.2)]))
   (some (out))
def Lg(N:Nat)(l:List Qd):Option Qh:=
 (places_l1 N N l (l.length:Int) 0 []).bind fun out_2=>
 some out_2
noncomputable def A26(N:Nat):Oks:=[]
abbrev A9e:List StSh:=[⟨[.sl Qc],[]⟩]
noncomputable abbrev Ajp:Body:=mkB Tryz.f33 A9e 0
noncomputable def A9f(N:Nat){top:Bool}:LpQ Ajp top:=mkL (Z:=Qh) (A26 N) [] [.c [1,1,0,1,0,0,0],.c [1,1,0,1,0,0,1],.l [1,1,0,1,0,0],.b 0,.c [1,1,1]] ⟨[3,6,7,8],⟨[.ols 0,.sl Qc,.i .i64,.i .i64],[.lst Qc]⟩⟩ (fun m p=>places_l1 N m p.1.2.1 p.1.2.2.1 p.1.2.2.2.1 p.2.1) [⟨[.c [1,1,1,0],.c [1,1,1,1]],⟨[3],⟨[.ols 0],[.lst Qc]⟩⟩,fun p=>some (p.2.1)⟩] (fun _=>[]) (fun k e=>k (.inl (((),()),(e,())))) N (fun m p=>by kernel_rfl)
noncomputable def Agv(N:Nat):Spec:=mkS 33 ⟨[.sl Qc],[]⟩ A9e (fun p=>Lg N p.1.1) (fun k r=>k ((r,()),()))
theorem P2(N:Nat):A2 Tryz.prog (Agv N):=mkF (R:=Qh) (m0:=0) (A26 N) [A9f N] (fun r=>some r.1.1) [] Tryz.func33 (fun p=>by kernel_rfl) (by kernel_rfl) (fun _=>by kernel_rfl)

def equalf_l1(N:Nat):Nat→Qj→Qj→Int→Int→Option ((Unit)⊕(Unit))
 | 0,_,_,_,_=>none
 | n_+1,s2,u,u2,u3=>
  br (decide (u3<u2))
   (idx u u3 fun x_1=>
   idx s2 u3 fun x_2=>
   (Kc N x_1 x_2).bind fun x_3=>
   br (!x_3)
    (some (.inl ()))
    (chk (u3+1)<|
    equalf_l1 N n_ s2 u u2 (u3+1)))
   (some (.inr ()))
def Q0(N:Nat)(s1 s2:List Qe):Option Bool:=
 br (!decide ((s1.length:Int)=(s2.length:Int)))
  (some false)
  ((equalf_l1 N N s2 s1 (s1.length:Int) 0).bind fun e=>match e with
  | .inl _=>
   some false
  | .inr _=>
   some true)
noncomputable def A1x(N:Nat):Oks:=[⟨_,Pg N⟩]
abbrev A5g:List StSh:=[⟨[.b],[]⟩]
noncomputable abbrev Ajk:Body:=mkB Tryz.f86 A5g 0
noncomputable def A6u(N:Nat){top:Bool}:LpQ Ajk top:=mkL (Z:=(Unit)⊕(Unit)) (A1x N) [] [.c [1,1,0,1,0,0,0],.c [1,1,0,1,0,0,1],.l [1,1,0,1,0,0],.b 0,.c [1,1,1]] ⟨[1,2,15,16,17],⟨[.sl Qf,.fn 87 [] [],.sl Qf,.i .i64,.i .i64],[]⟩⟩ (fun m p=>equalf_l1 N m p.1.1 p.1.2.2.1 p.1.2.2.2.1 p.1.2.2.2.2.1) [⟨[.c [1,1,0,1,0,0,1,1,0,0,1,1,1,0,0],.c [1,1,0,1,0,0,1,1,0,0,1,1,1,0,1],.b 1,.c [1,1,0,1,0,0,1,1,1],.l [1,1,0,1,0,0],.b 0,.c [1,1,1]],⟨[],⟨[],[]⟩⟩,fun p=>some (.inl ())⟩,⟨[.c [1,1,1,0],.c [1,1,1,1]],⟨[],⟨[],[]⟩⟩,fun p=>some (.inr ())⟩] (fun _=>[]) (fun k e=>match e with | .inl x=>k (.inl ((),())) | .inr x=>k (.inr (.inl ((),())))) N (fun m p=>by kernel_rfl) (hg:=(by rintro _ _ (_ | _)<;>rfl))
noncomputable def Afk(N:Nat):Spec:=mkS 86 ⟨[.sl Qf,.sl Qf,.fn 87 [] []],[]⟩ A5g (fun p=>Q0 N p.1.1 p.1.2.1) (fun k r=>k ((r,()),()))
theorem A30(N:Nat):A2 Tryz.prog (Afk N):=mkF (R:=Bool) (m0:=0) (A1x N) [A6u N] (fun r=>some r.1.1) [] Tryz.func86 (fun p=>by kernel_rfl) (by kernel_rfl) (fun _=>by kernel_rfl)

def Mm(N:Nat)(a b:List Qe):Option Bool:=
 (Q0 N a b).bind fun x_1=>
 some x_1
noncomputable def Ai8(N:Nat):Spec:=mkS 44 ⟨[.sl Qf,.sl Qf],[]⟩ [⟨[.b],[]⟩] (fun p=>Mm N p.1.1 p.1.2.1) (fun k r=>k ((r,()),()))
theorem Tq(N:Nat):A2 Tryz.prog (Ai8 N):=mkF (R:=Bool) (m0:=0) [⟨_,A30 N⟩] [] (fun r=>some r.1.1) [] Tryz.func44 (fun p=>by kernel_rfl) (by kernel_rfl) (fun _=>by kernel_rfl)

def Hy(N:Nat)(a:List Qe)(a2:List Int)(a3:Int)(b:List Qe)(b2:List Int)(b3:Int):Option Bool:=
 (Mm N a b).bind fun x_1=>
 br x_1
  ((Ji N a2 b2).bind fun x_2=>
  br x_2
   (some (decide (a3=b3)))
   (some false))
  (some false)
noncomputable def Ali(N:Nat):Spec:=mkS 29 ⟨[.agg [.sl Qf,.sl (.int .i64),.i .i64],.agg [.sl Qf,.sl (.int .i64),.i .i64]],[]⟩ [⟨[.b],[]⟩] (fun p=>Hy N p.1.1.1 p.1.1.2.1 p.1.1.2.2.1 p.1.2.1.1 p.1.2.1.2.1 p.1.2.1.2.2.1) (fun k r=>k ((r,()),()))
theorem Gj(N:Nat):A2 Tryz.prog (Ali N):=mkF (R:=Bool) (m0:=0) [⟨_,K7 N⟩,⟨_,Tq N⟩] [] (fun r=>some r.1.1) [] Tryz.func29 (fun p=>by kernel_rfl) (by kernel_rfl) (fun _=>by kernel_rfl)

def equalq_l1(N:Nat):Nat→Qh→Qh→Int→Int→Option ((Unit)⊕(Unit))
 | 0,_,_,_,_=>none
 | n_+1,s1,s2,u,u2=>
  br (decide (u2<u))
   (idx s1 u2 fun x_1=>
   idx s2 u2 fun x_2=>
   br (!(decide (x_1.1=x_2.1)&&decide (x_1.2=x_2.2)))
    (some (.inl ()))
    (chk (u2+1)<|
    equalq_l1 N n_ s1 s2 u (u2+1)))
   (some (.inr ()))
def Z3(N:Nat)(s1 s2:List Qd):Option Bool:=
 br (!decide ((s1.length:Int)=(s2.length:Int)))
  (some false)
  ((equalq_l1 N N s1 s2 (s1.length:Int) 0).bind fun e=>match e with
  | .inl _=>
   some false
  | .inr _=>
   some true)
noncomputable def A1t(N:Nat):Oks:=[]
abbrev A6h:List StSh:=[⟨[.b],[]⟩]
noncomputable abbrev Aj1:Body:=mkB Tryz.f99 A6h 0
noncomputable def A8k(N:Nat){top:Bool}:LpQ Aj1 top:=mkL (Z:=(Unit)⊕(Unit)) (A1t N) [] [.c [1,1,0,1,0,0,0],.c [1,1,0,1,0,0,1],.l [1,1,0,1,0,0],.b 0,.c [1,1,1]] ⟨[0,1,12,13],⟨[.sl Qc,.sl Qc,.i .i64,.i .i64],[]⟩⟩ (fun m p=>equalq_l1 N m p.1.1 p.1.2.1 p.1.2.2.1 p.1.2.2.2.1) [⟨[.c [1,1,0,1,0,0,1,1,0,0,1,1,0,0],.c [1,1,0,1,0,0,1,1,0,0,1,1,0,1],.b 1,.c [1,1,0,1,0,0,1,1,1],.l [1,1,0,1,0,0],.b 0,.c [1,1,1]],⟨[],⟨[],[]⟩⟩,fun p=>some (.inl ())⟩,⟨[.c [1,1,1,0],.c [1,1,1,1]],⟨[],⟨[],[]⟩⟩,fun p=>some (.inr ())⟩] (fun _=>[]) (fun k e=>match e with | .inl x=>k (.inl ((),())) | .inr x=>k (.inr (.inl ((),())))) N (fun m p=>by kernel_rfl) (hg:=(by rintro _ _ (_ | _)<;>rfl))
noncomputable def Ah2(N:Nat):Spec:=mkS 99 ⟨[.sl Qc,.sl Qc],[]⟩ A6h (fun p=>Z3 N p.1.1 p.1.2.1) (fun k r=>k ((r,()),()))
theorem A58(N:Nat):A2 Tryz.prog (Ah2 N):=mkF (R:=Bool) (m0:=0) (A1t N) [A8k N] (fun r=>some r.1.1) [] Tryz.func99 (fun p=>by kernel_rfl) (by kernel_rfl) (fun _=>by kernel_rfl)

def W1(N:Nat)(a b:List Qd):Option Bool:=
 (Z3 N a b).bind fun x_1=>
 some x_1
noncomputable def Ajo(N:Nat):Spec:=mkS 69 ⟨[.sl Qc,.sl Qc],[]⟩ [⟨[.b],[]⟩] (fun p=>W1 N p.1.1 p.1.2.1) (fun k r=>k ((r,()),()))
theorem A5t(N:Nat):A2 Tryz.prog (Ajo N):=mkF (R:=Bool) (m0:=0) [⟨_,A58 N⟩] [] (fun r=>some r.1.1) [] Tryz.func69 (fun p=>by kernel_rfl) (by kernel_rfl) (fun _=>by kernel_rfl)

def Vr(N:Nat)(l:List Qd):Option Qh:=
 grd (lmI (l.length:Int))<|
 some (l.take (min l.length (List.replicate (l.length:Int).toNat ((0,0):Qd)).length)++(List.replicate (l.length:Int).toNat ((0,0):Qd)).drop (min l.length (List.replicate (l.length:Int).toNat ((0,0):Qd)).length))
noncomputable def Ak0(N:Nat):Spec:=mkS 67 ⟨[.sl Qc],[]⟩ [⟨[.sl Qc],[]⟩] (fun p=>Vr N p.1.1) (fun k r=>k ((r,()),()))
theorem A75(N:Nat):A2 Tryz.prog (Ak0 N):=mkF (R:=Qh) (m0:=0) [] [] (fun r=>some r.1.1) [] Tryz.func67 (fun p=>by kernel_rfl) (by kernel_rfl) (fun _=>by kernel_rfl)

def Rx(N:Nat)(x:List Qe)(x2:List Int)(x3 p p2:Int)(reading:List Qd):Option Bool:=
 (great_S N x x2 x3).bind fun x_1=>
 br x_1
  ((B0 N).bind fun x_2=>
  some x_2)
  (br (decide (14<(reading.length:Int)))
   ((B0 N).bind fun x_3=>
   some x_3)
   ((C9 N x x2 x3).bind fun(x_4,y_5,y_6)=>
   (Vr N reading).bind fun x_7=>
   (faults_S N x_4 y_5 y_6 p p2 x_7).bind fun(x_8,y_9)=>
   (C9 N x x2 x3).bind fun(x_10,y_11,y_12)=>
   (Lg N reading).bind fun x_13=>
   (It N x_10 y_11 y_12 p p2 x_13).bind fun(x_14,y_15)=>
   br (decide (x_8=x_14))
    (br (decide (y_9=y_15))
     ((Hy N x_4 y_5 y_6 x x2 x3).bind fun x_16=>
     br x_16
      ((W1 N x_7 reading).bind fun x_17=>
      br x_17
       ((B0 N).bind fun x_18=>
       some x_18)
       (some false))
      (some false))
     (some false))
    (some false)))
noncomputable def Acm(N:Nat):Spec:=mkS 20 ⟨[.agg [.sl Qf,.sl (.int .i64),.i .i64],.agg [.i .i64,.i .i64],.sl Qc],[]⟩ [⟨[.b],[]⟩] (fun p=>Rx N p.1.1.1 p.1.1.2.1 p.1.1.2.2.1 p.1.2.1.1 p.1.2.1.2.1 p.1.2.2.1) (fun k r=>k ((r,()),()))
theorem A0k(N:Nat):A2 Tryz.prog (Acm N):=mkF (R:=Bool) (m0:=0) [⟨_,A2p N⟩,⟨_,D2 N⟩,⟨_,F5 N⟩,⟨_,N0 N⟩,⟨_,Ex N⟩,⟨_,P2 N⟩,⟨_,Gj N⟩,⟨_,A5t N⟩,⟨_,A75 N⟩] [] (fun r=>some r.1.1) [] Tryz.func20 (fun p=>by kernel_rfl) (by kernel_rfl) (fun _=>by kernel_rfl)

abbrev Yy:List StSh:=[⟨[.ols 0],[.lst (.sl Qc)]⟩]
noncomputable abbrev Bt(self:Qj→Qe→Int→Int→Int→Qh→Option (List Qh)):Spec:=mkS 75 ⟨[.agg [.sl Qf,.sl (.int .i64),.i .i64],.agg [.i .i64,.i .i64],.sl Qc],[]⟩ Yy (fun p=>self p.1.1.1 p.1.1.2.1 p.1.1.2.2.1 p.1.2.1.1 p.1.2.1.2.1 p.1.2.2.1) (fun k r=>k (((),()),(r,())))
def readings_l1(N:Nat)(self:Qj→Qe→Int→Int→Int→Qh→Option (List Qh)):Nat→Qh→Int→Qj→Qe→Int→Int→Int→(List Qh)→Option (Qh×List Qe×List Int×Int×Int×Int×(List Qh))
 | 0,_,_,_,_,_,_,_,_=>none
 | n_+1,l,k,e,e2,e3,p,p2,out=>
  idx e p fun x_3=>
  br (decide (k<(x_3.length:Int)))
   (lim (([]:Qh).length+l.length)<|
   lim ((([]:Qh)++l).length+[(1,k)].length)<|
   (self e e2 e3 p p2 ((([]:Qh)++l)++[(1,k)])).bind fun x_4=>
   lim (out.length+x_4.length)<|
   chk (k+1)<|
   readings_l1 N self n_ l (k+1) e e2 e3 p p2 (out++x_4))
   (some ((l,e,e2,e3,p,p2,out)))
def Ez(N:Nat)(self:Qj→Qe→Int→Int→Int→Qh→Option (List Qh)):Nat→Qh→Int→Qj→Qe→Int→Int→Int→(List Qh)→Option (List Qh)
 | 0,_,_,_,_,_,_,_,_=>none
 | n_+1,l,k,e,e2,e3,p,p2,out=>
  idx e p2 fun x_12=>
  br (decide (k<(x_12.length:Int)))
   (lim (([]:Qh).length+l.length)<|
   lim ((([]:Qh)++l).length+[(2,k)].length)<|
   (self e e2 e3 p p2 ((([]:Qh)++l)++[(2,k)])).bind fun x_13=>
   lim (out.length+x_13.length)<|
   chk (k+1)<|
   Ez N self n_ l (k+1) e e2 e3 p p2 (out++x_13))
   (some (out))
def Jx(N:Nat)(self:Qj→Qe→Int→Int→Int→Qh→Option (List Qh))(e:List Qe)(e2:List Int)(e3 p p2:Int)(l:List Qd):Option (List Qh):=
 (We N e e2 e3 p p2 l).bind fun x_1=>
 br (!x_1)
  (some [])
  (br (decide ((l.length:Int)=(e2.length:Int)))
   (some [l])
   (lim (([]:Qh).length+l.length)<|
   lim ((([]:Qh)++l).length+[(3,0)].length)<|
   (self e e2 e3 p p2 ((([]:Qh)++l)++[(3,0)])).bind fun x_2=>
   (readings_l1 N self N l 0 e e2 e3 p p2 x_2).bind fun(l_5,e_6,e2_7,e3_8,p_9,p2_10,out_11)=>
   (Ez N self N l_5 0 e_6 e2_7 e3_8 p_9 p2_10 out_11).bind fun out_14=>
   some out_14))
noncomputable def Kd(N:Nat)(self:Qj→Qe→Int→Int→Int→Qh→Option (List Qh))(hself:A2 Tryz.prog (Bt self)):Oks:=[⟨_,Xj N⟩,⟨_,hself⟩]
noncomputable abbrev Zl:Body:=mkB Tryz.f75 Yy 0
noncomputable def N4(N:Nat)(self:Qj→Qe→Int→Int→Int→Qh→Option (List Qh))(hself:A2 Tryz.prog (Bt self)){top:Bool}:LpQ Zl top:=mkL (Z:=Qh×List Qe×List Int×Int×Int×Int×(List Qh)) (Kd N self hself) [] [.c [1,1,1,1,0,1,0,0,0,0],.c [1,1,1,1,0,1,0,0,0,1],.c [1,1,1,1,0,1,0,0,1],.l [1,1,1,1,0,1,0,0],.b 0,.c [1,1,1,1,1]] ⟨[2,3,4,7,8],⟨[.sl Qc,.own 0 0,.own 1 0,.ols 2,.i .i64],[.segs [.sl Qf,.sl (.int .i64),.i .i64],.segs [.i .i64,.i .i64],.lst (.sl Qc)]⟩⟩ (fun m p=>readings_l1 N self m p.1.1 p.1.2.2.2.2.1 p.2.1.1 p.2.1.2.1 p.2.1.2.2.1 p.2.2.1.1 p.2.2.1.2.1 p.2.2.2.1) [⟨[.c [1,1,1,1,1,0,0],.c [1,1,1,1,1,0,1],.c [1,1,1,1,1,1]],⟨[2,3,4,7],⟨[.sl Qc,.own 0 0,.own 1 0,.ols 2],[.segs [.sl Qf,.sl (.int .i64),.i .i64],.segs [.i .i64,.i .i64],.lst (.sl Qc)]⟩⟩,fun p=>some ((p.1.1,p.2.1.1,p.2.1.2.1,p.2.1.2.2.1,p.2.2.1.1,p.2.2.1.2.1,p.2.2.2.1))⟩] (fun _=>[]) (fun k e=>k (.inl ((e.1,(),(),(),()),((e.2.1,e.2.2.1,e.2.2.2.1,()),(e.2.2.2.2.1,e.2.2.2.2.2.1,()),e.2.2.2.2.2.2,())))) N (fun m p=>by kernel_rfl)
noncomputable def A0i(N:Nat)(self:Qj→Qe→Int→Int→Int→Qh→Option (List Qh))(hself:A2 Tryz.prog (Bt self)){top:Bool}:LpQ Zl top:=mkL (Z:=(List Qh)) (Kd N self hself) [N4 N self hself] [.c [1,1,1,1,1,0,1,0,0,0,0],.c [1,1,1,1,1,0,1,0,0,0,1],.c [1,1,1,1,1,0,1,0,0,1],.l [1,1,1,1,1,0,1,0,0],.b 2,.c [1,1,1,1,1,1]] ⟨[2,3,4,7,9],⟨[.sl Qc,.own 0 0,.own 1 0,.ols 2,.i .i64],[.segs [.sl Qf,.sl (.int .i64),.i .i64],.segs [.i .i64,.i .i64],.lst (.sl Qc)]⟩⟩ (fun m p=>Ez N self m p.1.1 p.1.2.2.2.2.1 p.2.1.1 p.2.1.2.1 p.2.1.2.2.1 p.2.2.1.1 p.2.2.1.2.1 p.2.2.2.1) [⟨[.c [1,1,1,1,1,1,0],.c [1,1,1,1,1,1,1]],⟨[7],⟨[.ols 0],[.lst (.sl Qc)]⟩⟩,fun p=>some (p.2.1)⟩] (fun _=>[]) (fun k e=>k (.inl (((),()),(e,())))) N (fun m p=>by kernel_rfl)
theorem Rr(N:Nat)(self:Qj→Qe→Int→Int→Int→Qh→Option (List Qh))(hself:A2 Tryz.prog (Bt self)):A2 Tryz.prog (Bt (Jx N self)):=mkF (R:=(List Qh)) (m0:=0) (Kd N self hself) [N4 N self hself,A0i N self hself] (fun r=>some r.2.1) [] Tryz.func75 (fun p=>by kernel_rfl) (by kernel_rfl) (fun _=>by kernel_rfl)
def C5(N:Nat):Nat→Qj→Qe→Int→Int→Int→Qh→Option (List Qh)
 | 0=>fun _ _ _ _ _ _=>none
 | n+1=>Jx N (C5 N n)
theorem Mz(N:Nat):∀n,A2 Tryz.prog (Bt (C5 N n))
 | 0=>A2.none (fun _ _ _=>rfl) (fun args w=>Sem.pv_run _ _ _ (by kernel_rfl) w)
 | n+1=>Rr N (C5 N n) (Mz N n)
noncomputable abbrev A60(N:Nat):Spec:=Bt (C5 N N)
theorem Xu(N:Nat):A2 Tryz.prog (A60 N):=Mz N N

def best_l1(N:Nat):Nat→Int→Int→Qj→Qe→Int→Int→Int→(List Qh)→Option (Int×List Qe×List Int×Int×Int×Int×(List Qh))
 | 0,_,_,_,_,_,_,_,_=>none
 | n_+1,least,i,e,e2,e3,p,p2,all=>
  br (decide (i<(all.length:Int)))
   (rng i all.length<|
   get all i.toNat fun x_2=>
   (Iq N e e2 e3 p p2 x_2).bind fun x_3=>
   chk (i+1)<|
   best_l1 N n_ (min least x_3) (i+1) e e2 e3 p p2 all)
   (some ((least,e,e2,e3,p,p2,all)))
def R1(N:Nat)(rec:Int→Int→Qj→Qe→Int→Int→Int→(List Qh)→(List Qh)→Option (Int×(List Qh)))(least i:Int)(e:List Qe)(e2:List Int)(e3 p p2:Int)(all out:List Qh):Option (Int×(List Qh)):=
 chk (i+1)<|
 rec least (i+1) e e2 e3 p p2 all out
def best_l2(N:Nat):Nat→Int→Int→Qj→Qe→Int→Int→Int→(List Qh)→(List Qh)→Option (Int×(List Qh))
 | 0,_,_,_,_,_,_,_,_,_=>none
 | n_+1,least,i,e,e2,e3,p,p2,all,out=>
  br (decide (i<(all.length:Int)))
   (rng i all.length<|
   get all i.toNat fun x_11=>
   (Iq N e e2 e3 p p2 x_11).bind fun x_12=>
   br (decide (x_12=least))
    (rng i all.length<|
    get all i.toNat fun x_13=>
    lim (out.length+[x_13].length)<|
    R1 N (best_l2 N n_) least i e e2 e3 p p2 all (out++[x_13]))
    (R1 N (best_l2 N n_) least i e e2 e3 p p2 all out))
   (some ((least,out)))
def Lp(N:Nat)(e:List Qe)(e2:List Int)(e3 p p2:Int):Option ((List Qh)×Int):=
 (C5 N N e e2 e3 p p2 []).bind fun x_1=>
 (best_l1 N N 99 0 e e2 e3 p p2 x_1).bind fun(least_4,e_5,e2_6,e3_7,p_8,p2_9,all_10)=>
 (best_l2 N N least_4 0 e_5 e2_6 e3_7 p_8 p2_9 all_10 []).bind fun(least_14,out_15)=>
 some (out_15,least_14)
noncomputable def Vl(N:Nat):Oks:=[⟨_,Pb N⟩,⟨_,Xu N⟩]
abbrev Alf:List StSh:=[⟨[.sl (.sl Qc),.i .i64],[]⟩]
noncomputable abbrev Abv:Body:=mkB Tryz.f30 Alf 0
noncomputable def Sr(N:Nat){top:Bool}:LpQ Abv top:=mkL (Z:=Int×List Qe×List Int×Int×Int×Int×(List Qh)) (Vl N) [] [.c [1,1,1,0,1,0,0,0,0],.c [1,1,1,0,1,0,0,0,1],.c [1,1,1,0,1,0,0,1],.l [1,1,1,0,1,0,0],.b 0,.c [1,1,1,1]] ⟨[2,3,6,7,8],⟨[.own 0 0,.own 1 0,.ols 2,.i .i64,.i .i64],[.segs [.sl Qf,.sl (.int .i64),.i .i64],.segs [.i .i64,.i .i64],.lst (.sl Qc)]⟩⟩ (fun m p=>best_l1 N m p.1.2.2.2.1 p.1.2.2.2.2.1 p.2.1.1 p.2.1.2.1 p.2.1.2.2.1 p.2.2.1.1 p.2.2.1.2.1 p.2.2.2.1) [⟨[.c [1,1,1,1,0],.c [1,1,1,1,1]],⟨[2,3,6,7],⟨[.own 0 0,.own 1 0,.ols 2,.i .i64],[.segs [.sl Qf,.sl (.int .i64),.i .i64],.segs [.i .i64,.i .i64],.lst (.sl Qc)]⟩⟩,fun p=>some ((p.1.2.2.2.1,p.2.1.1,p.2.1.2.1,p.2.1.2.2.1,p.2.2.1.1,p.2.2.1.2.1,p.2.2.2.1))⟩] (fun _=>[]) (fun k e=>k (.inl (((),(),(),e.1,()),((e.2.1,e.2.2.1,e.2.2.2.1,()),(e.2.2.2.2.1,e.2.2.2.2.2.1,()),e.2.2.2.2.2.2,())))) N (fun m p=>by kernel_rfl)
abbrev Zk:List PI:=[.c [1,1,1,1,1,0,1,0,0,0,0],.c [1,1,1,1,1,0,1,0,0,0,1],.c [1,1,1,1,1,0,1,0,0,1],.l [1,1,1,1,1,0,1,0,0],.b 2,.c [1,1,1,1,1,1]]
abbrev Wx:Sta:=⟨[2,3,6,7,9,10],⟨[.own 0 0,.own 1 0,.ols 2,.i .i64,.ols 3,.i .i64],[.segs [.sl Qf,.sl (.int .i64),.i .i64],.segs [.i .i64,.i .i64],.lst (.sl Qc),.lst (.sl Qc)]⟩⟩
abbrev Ah9(rec:Int→Int→Qj→Qe→Int→Int→Int→(List Qh)→(List Qh)→Option (Int×(List Qh))):Leaf (Int×(List Qh)):=⟨Zk,Wx,fun p=>rec p.1.2.2.2.1 p.1.2.2.2.2.2.1 p.2.1.1 p.2.1.2.1 p.2.1.2.2.1 p.2.2.1.1 p.2.2.1.2.1 p.2.2.2.1 p.2.2.2.2.1⟩
abbrev Zj:Leaf (Int×(List Qh)):=⟨[.c [1,1,1,1,1,1,0],.c [1,1,1,1,1,1,1]],⟨[7,9],⟨[.i .i64,.ols 0],[.lst (.sl Qc)]⟩⟩,fun p=>some ((p.1.1,p.2.1))⟩
noncomputable def Af0(N:Nat)(rec:Int→Int→Qj→Qe→Int→Int→Int→(List Qh)→(List Qh)→Option (Int×(List Qh))){top:Bool}:JnQ (Z:=Int×(List Qh)) Abv top none [Ah9 rec,Zj]:=mkJ (Vl N) [Sr N] [] ⟨[.c [1,1,1,1,1,0,1,0,0,1,1],.l [1,1,1,1,1,0,1,0,0],.b 2,.c [1,1,1,1,1,1]],⟨[2,3,6,7,9,10],⟨[.own 0 0,.own 1 0,.ols 2,.i .i64,.ols 3,.i .i64],[.segs [.sl Qf,.sl (.int .i64),.i .i64],.segs [.i .i64,.i .i64],.lst (.sl Qc),.lst (.sl Qc)]⟩⟩,fun p=>R1 N rec p.1.2.2.2.1 p.1.2.2.2.2.2.1 p.2.1.1 p.2.1.2.1 p.2.1.2.2.1 p.2.2.1.1 p.2.2.1.2.1 p.2.2.2.1 p.2.2.2.2.1⟩ (fun p=>by kernel_rfl)
noncomputable def Agr(N:Nat){top:Bool}:LpQ Abv top:=mkL (Z:=Int×(List Qh)) (Vl N) [Sr N] Zk Wx (fun m p=>best_l2 N m p.1.2.2.2.1 p.1.2.2.2.2.2.1 p.2.1.1 p.2.1.2.1 p.2.1.2.2.1 p.2.2.1.1 p.2.2.1.2.1 p.2.2.2.1 p.2.2.2.2.1) [Zj] (fun m=>[Af0 N (best_l2 N m)]) (fun k e=>k (.inl ((e.1,(),()),(e.2,())))) N (fun m p=>by kernel_rfl)
noncomputable def Ama(N:Nat):Spec:=mkS 30 ⟨[.agg [.sl Qf,.sl (.int .i64),.i .i64],.agg [.i .i64,.i .i64]],[]⟩ Alf (fun p=>Lp N p.1.1.1 p.1.1.2.1 p.1.1.2.2.1 p.1.2.1.1 p.1.2.1.2.1) (fun k r=>k ((r.1,r.2,()),()))
theorem J9(N:Nat):A2 Tryz.prog (Ama N):=mkF (R:=(List Qh)×Int) (m0:=0) (Vl N) [Sr N,Agr N] (fun r=>some (r.1.1,r.1.2.1)) [] Tryz.func30 (fun p=>by kernel_rfl) (by kernel_rfl) (fun _=>by kernel_rfl)

def K1(N:Nat)(rec:(List Qh)→Int→Int→Int→Qj→Qe→Int→Qe→Option Qs)(best:List Qh)(i side k:Int)(e:List Qe)(e2:List Int)(e3:Int)(out:List Int):Option Qs:=
 chk (k+1)<|
 rec best i side (k+1) e e2 e3 out
def rsure_l2(N:Nat):Nat→(List Qh)→Int→Int→Int→Qj→Qe→Int→Qe→Option Qs
 | 0,_,_,_,_,_,_,_,_=>none
 | n_+1,best,i,side,k,e,e2,e3,out=>
  br (decide (k<(best.length:Int)))
   (idx best k fun x_3=>
   idx x_3 i fun x_4=>
   br (!decide (x_4.1=side))
    (K1 N (rsure_l2 N n_) best i 0 k e e2 e3 out)
    (K1 N (rsure_l2 N n_) best i side k e e2 e3 out))
   (some ((best,i,side,e,e2,e3,out)))
def rsure_l1(N:Nat):Nat→(List Qh)→Int→Qj→Qe→Int→Qe→Option Qe
 | 0,_,_,_,_,_,_=>none
 | n_+1,best,i,e,e2,e3,out=>
  br (decide (i<(e2.length:Int)))
   (idx best 0 fun x_1=>
   idx x_1 i fun x_2=>
   (rsure_l2 N N best i x_2.1 0 e e2 e3 out).bind fun(best_5,i_6,side_7,e_8,e2_9,e3_10,out_11)=>
   lim (out_11.length+[side_7].length)<|
   chk (i_6+1)<|
   rsure_l1 N n_ best_5 (i_6+1) e_8 e2_9 e3_10 (out_11++[side_7]))
   (some (out))
def Vh(N:Nat)(e:List Qe)(e2:List Int)(e3:Int)(best:List Qh):Option Qe:=
 (rsure_l1 N N best 0 e e2 e3 []).bind fun out_12=>
 some out_12
noncomputable def Qz(N:Nat):Oks:=[]
abbrev Ads:List StSh:=[⟨[.sl (.int .i64)],[]⟩]
noncomputable abbrev A3q:Body:=mkB Tryz.f31 Ads 0
abbrev Ta:List PI:=[.c [1,1,0,1,0,0,1,0,0,1,0,1,0,0,0,0],.c [1,1,0,1,0,0,1,0,0,1,0,1,0,0,0,1],.c [1,1,0,1,0,0,1,0,0,1,0,1,0,0,1],.l [1,1,0,1,0,0,1,0,0,1,0,1,0,0],.b 2,.c [1,1,0,1,0,0,1,0,0,1,1],.b 1,.c [1,1,0,1,0,0,1,1],.l [1,1,0,1,0,0],.b 0,.c [1,1,1]]
abbrev Te:Sta:=⟨[1,2,5,6,7,8],⟨[.sl (.sl Qc),.own 0 0,.ols 1,.i .i64,.i .i64,.i .i64],[.segs [.sl Qf,.sl (.int .i64),.i .i64],.lst (.int .i64)]⟩⟩
abbrev Abk(rec:(List Qh)→Int→Int→Int→Qj→Qe→Int→Qe→Option Qs):Leaf Qs:=⟨Ta,Te,fun p=>rec p.1.1 p.1.2.2.2.1 p.1.2.2.2.2.1 p.1.2.2.2.2.2.1 p.2.1.1 p.2.1.2.1 p.2.1.2.2.1 p.2.2.1⟩
abbrev V8:Leaf Qs:=⟨[.c [1,1,0,1,0,0,1,0,0,1,1],.b 1,.c [1,1,0,1,0,0,1,1],.l [1,1,0,1,0,0],.b 0,.c [1,1,1]],⟨[1,2,5,6,7],⟨[.sl (.sl Qc),.own 0 0,.ols 1,.i .i64,.i .i64],[.segs [.sl Qf,.sl (.int .i64),.i .i64],.lst (.int .i64)]⟩⟩,fun p=>some ((p.1.1,p.1.2.2.2.1,p.1.2.2.2.2.1,p.2.1.1,p.2.1.2.1,p.2.1.2.2.1,p.2.2.1))⟩
noncomputable def Abw(N:Nat)(rec:(List Qh)→Int→Int→Int→Qj→Qe→Int→Qe→Option Qs){top:Bool}:JnQ (Z:=(List Qh)×Int×Int×List Qe×List Int×Int×List Int) A3q top none [Abk rec,V8]:=mkJ (Qz N) [] [] ⟨[.c [1,1,0,1,0,0,1,0,0,1,0,1,0,0,1,1],.l [1,1,0,1,0,0,1,0,0,1,0,1,0,0],.b 2,.c [1,1,0,1,0,0,1,0,0,1,1],.b 1,.c [1,1,0,1,0,0,1,1],.l [1,1,0,1,0,0],.b 0,.c [1,1,1]],⟨[1,2,5,6,7,8],⟨[.sl (.sl Qc),.own 0 0,.ols 1,.i .i64,.i .i64,.i .i64],[.segs [.sl Qf,.sl (.int .i64),.i .i64],.lst (.int .i64)]⟩⟩,fun p=>K1 N rec p.1.1 p.1.2.2.2.1 p.1.2.2.2.2.1 p.1.2.2.2.2.2.1 p.2.1.1 p.2.1.2.1 p.2.1.2.2.1 p.2.2.1⟩ (fun p=>by kernel_rfl)
noncomputable def X8(N:Nat){top:Bool}:LpQ A3q top:=mkL (Z:=(List Qh)×Int×Int×List Qe×List Int×Int×List Int) (Qz N) [] Ta Te (fun m p=>rsure_l2 N m p.1.1 p.1.2.2.2.1 p.1.2.2.2.2.1 p.1.2.2.2.2.2.1 p.2.1.1 p.2.1.2.1 p.2.1.2.2.1 p.2.2.1) [V8] (fun m=>[Abw N (rsure_l2 N m)]) (fun k e=>k (.inl ((e.1,(),(),e.2.1,e.2.2.1,()),((e.2.2.2.1,e.2.2.2.2.1,e.2.2.2.2.2.1,()),e.2.2.2.2.2.2,())))) N (fun m p=>by kernel_rfl)
noncomputable def Ad6(N:Nat){top:Bool}:LpQ A3q top:=mkL (Z:=List Int) (Qz N) [X8 N] [.c [1,1,0,1,0,0,0,0],.c [1,1,0,1,0,0,0,1],.c [1,1,0,1,0,0,1],.l [1,1,0,1,0,0],.b 0,.c [1,1,1]] ⟨[1,2,5,6],⟨[.sl (.sl Qc),.own 0 0,.ols 1,.i .i64],[.segs [.sl Qf,.sl (.int .i64),.i .i64],.lst (.int .i64)]⟩⟩ (fun m p=>rsure_l1 N m p.1.1 p.1.2.2.2.1 p.2.1.1 p.2.1.2.1 p.2.1.2.2.1 p.2.2.1) [⟨[.c [1,1,1,0],.c [1,1,1,1]],⟨[5],⟨[.ols 0],[.lst (.int .i64)]⟩⟩,fun p=>some (p.2.1)⟩] (fun _=>[]) (fun k e=>k (.inl (((),()),(e,())))) N (fun m p=>by kernel_rfl)
noncomputable def Al7(N:Nat):Spec:=mkS 31 ⟨[.agg [.sl Qf,.sl (.int .i64),.i .i64],.sl (.sl Qc)],[]⟩ Ads (fun p=>Vh N p.1.1.1 p.1.1.2.1 p.1.1.2.2.1 p.1.2.1) (fun k r=>k ((r,()),()))
theorem A7r(N:Nat):A2 Tryz.prog (Al7 N):=mkF (R:=List Int) (m0:=0) (Qz N) [X8 N,Ad6 N] (fun r=>some r.1.1) [] Tryz.func31 (fun p=>by kernel_rfl) (by kernel_rfl) (fun _=>by kernel_rfl)

def Ip(N:Nat)(rec:Int→Int→Qj→Qe→Int→Qh→Option Qm)(a b:Int)(e:List Qe)(e2:List Int)(e3:Int)(out:List Qd):Option Qm:=
 chk (b+1)<|
 rec a (b+1) e e2 e3 out
def rpairs_l2(N:Nat):Nat→Int→Int→Qj→Qe→Int→Qh→Option Qm
 | 0,_,_,_,_,_,_=>none
 | n_+1,a,b,e,e2,e3,out=>
  br (decide (b<(e.length:Int)))
   ((Lp N e e2 e3 a b).bind fun(x_2,y_3)=>
   br (decide (y_3≤e3))
    (lim (out.length+[(a,b)].length)<|
    Ip N (rpairs_l2 N n_) a b e e2 e3 (out++[(a,b)]))
    (Ip N (rpairs_l2 N n_) a b e e2 e3 out))
   (some ((a,e,e2,e3,out)))
def rpairs_l1(N:Nat):Nat→Int→Qj→Qe→Int→Qh→Option Qh
 | 0,_,_,_,_,_=>none
 | n_+1,a,e,e2,e3,out=>
  br (decide (a<(e.length:Int)))
   ((rpairs_l2 N N a a e e2 e3 out).bind fun(a_4,e_5,e2_6,e3_7,out_8)=>
   chk (a_4+1)<|
   rpairs_l1 N n_ (a_4+1) e_5 e2_6 e3_7 out_8)
   (some (out))
def Gv(N:Nat)(e:List Qe)(e2:List Int)(e3:Int):Option (Qh×Int):=
 (rcheck_S N e e2 e3).bind fun x_1=>
 br (!decide (x_1=0))
  (some ([],x_1))
  ((rpairs_l1 N N 0 e e2 e3 []).bind fun out_9=>
  some (out_9,0))
noncomputable def Mg(N:Nat):Oks:=[⟨_,Dl N⟩,⟨_,J9 N⟩]
abbrev A9d:List StSh:=[⟨[.sl Qc,.i .i64],[]⟩]
noncomputable abbrev Zi:Body:=mkB Tryz.f46 A9d 0
abbrev P7:List PI:=[.c [1,1,1,0,1,0,0,1,0,0,1,0,0,0,0],.c [1,1,1,0,1,0,0,1,0,0,1,0,0,0,1],.c [1,1,1,0,1,0,0,1,0,0,1,0,0,1],.l [1,1,1,0,1,0,0,1,0,0,1,0,0],.b 2,.b 1,.c [1,1,1,0,1,0,0,1,1],.l [1,1,1,0,1,0,0],.b 0,.c [1,1,1,1]]
abbrev R8:Sta:=⟨[1,5,6,7],⟨[.own 0 0,.ols 1,.i .i64,.i .i64],[.segs [.sl Qf,.sl (.int .i64),.i .i64],.lst Qc]⟩⟩
abbrev A8h(rec:Int→Int→Qj→Qe→Int→Qh→Option Qm):Leaf Qm:=⟨P7,R8,fun p=>rec p.1.2.2.1 p.1.2.2.2.1 p.2.1.1 p.2.1.2.1 p.2.1.2.2.1 p.2.2.1⟩
abbrev O5:Leaf Qm:=⟨[.c [1,1,1,0,1,0,0,1,1],.l [1,1,1,0,1,0,0],.b 0,.c [1,1,1,1]],⟨[1,5,6],⟨[.own 0 0,.ols 1,.i .i64],[.segs [.sl Qf,.sl (.int .i64),.i .i64],.lst Qc]⟩⟩,fun p=>some ((p.1.2.2.1,p.2.1.1,p.2.1.2.1,p.2.1.2.2.1,p.2.2.1))⟩
noncomputable def A9m(N:Nat)(rec:Int→Int→Qj→Qe→Int→Qh→Option Qm){top:Bool}:JnQ (Z:=Int×List Qe×List Int×Int×Qh) Zi top none [A8h rec,O5]:=mkJ (Mg N) [] [] ⟨[.c [1,1,1,0,1,0,0,1,0,0,1,0,0,1,1],.l [1,1,1,0,1,0,0,1,0,0,1,0,0],.b 2,.b 1,.c [1,1,1,0,1,0,0,1,1],.l [1,1,1,0,1,0,0],.b 0,.c [1,1,1,1]],⟨[1,5,6,7],⟨[.own 0 0,.ols 1,.i .i64,.i .i64],[.segs [.sl Qf,.sl (.int .i64),.i .i64],.lst Qc]⟩⟩,fun p=>Ip N rec p.1.2.2.1 p.1.2.2.2.1 p.2.1.1 p.2.1.2.1 p.2.1.2.2.1 p.2.2.1⟩ (fun p=>by kernel_rfl)
noncomputable def Tm(N:Nat){top:Bool}:LpQ Zi top:=mkL (Z:=Int×List Qe×List Int×Int×Qh) (Mg N) [] P7 R8 (fun m p=>rpairs_l2 N m p.1.2.2.1 p.1.2.2.2.1 p.2.1.1 p.2.1.2.1 p.2.1.2.2.1 p.2.2.1) [O5] (fun m=>[A9m N (rpairs_l2 N m)]) (fun k e=>k (.inl (((),(),e.1,()),((e.2.1,e.2.2.1,e.2.2.2.1,()),e.2.2.2.2,())))) N (fun m p=>by kernel_rfl)
noncomputable def A9l(N:Nat){top:Bool}:LpQ Zi top:=mkL (Z:=Qh) (Mg N) [Tm N] [.c [1,1,1,0,1,0,0,0,0],.c [1,1,1,0,1,0,0,0,1],.c [1,1,1,0,1,0,0,1],.l [1,1,1,0,1,0,0],.b 0,.c [1,1,1,1]] ⟨[1,5,6],⟨[.own 0 0,.ols 1,.i .i64],[.segs [.sl Qf,.sl (.int .i64),.i .i64],.lst Qc]⟩⟩ (fun m p=>rpairs_l1 N m p.1.2.2.1 p.2.1.1 p.2.1.2.1 p.2.1.2.2.1 p.2.2.1) [⟨[.c [1,1,1,1,0],.c [1,1,1,1,1]],⟨[5],⟨[.ols 0],[.lst Qc]⟩⟩,fun p=>some (p.2.1)⟩] (fun _=>[]) (fun k e=>k (.inl (((),()),(e,())))) N (fun m p=>by kernel_rfl)
noncomputable def Ah6(N:Nat):Spec:=mkS 46 ⟨[.agg [.sl Qf,.sl (.int .i64),.i .i64]],[]⟩ A9d (fun p=>Gv N p.1.1.1 p.1.1.2.1 p.1.1.2.2.1) (fun k r=>k ((r.1,r.2,()),()))
theorem Pc(N:Nat):A2 Tryz.prog (Ah6 N):=mkF (R:=Qh×Int) (m0:=0) (Mg N) [Tm N,A9l N] (fun r=>some (r.1.1,r.1.2.1)) [] Tryz.func46 (fun p=>by kernel_rfl) (by kernel_rfl) (fun _=>by kernel_rfl)

def Kf(N:Nat)(rec:Int→Int→Qj→Qe→Int→Qe→Option Qe)(text o:Int)(e:List Qe)(e2:List Int)(e3:Int)(out:List Int):Option Qe:=
 chk (o+1)<|
 rec text (o+1) e e2 e3 out
def rwith_l1(N:Nat):Nat→Int→Int→Qj→Qe→Int→Qe→Option Qe
 | 0,_,_,_,_,_,_=>none
 | n_+1,text,o,e,e2,e3,out=>
  br (decide (o<(e.length:Int)))
   ((Lp N e e2 e3 text o).bind fun(x_2,y_3)=>
   br (decide (y_3≤e3))
    (lim (out.length+[o].length)<|
    Kf N (rwith_l1 N n_) text o e e2 e3 (out++[o]))
    (Kf N (rwith_l1 N n_) text o e e2 e3 out))
   (some (out))
def Lw(N:Nat)(e:List Qe)(e2:List Int)(e3 text:Int):Option (List Int×Int):=
 (Jj N e e2 e3 text 0).bind fun x_1=>
 br (!decide (x_1=0))
  (some ([],x_1))
  ((rwith_l1 N N text 0 e e2 e3 []).bind fun out_4=>
  some (out_4,0))
noncomputable def Xf(N:Nat):Oks:=[⟨_,Dy N⟩,⟨_,J9 N⟩]
abbrev Aej:List StSh:=[⟨[.sl (.int .i64),.i .i64],[]⟩]
noncomputable abbrev Ae6:Body:=mkB Tryz.f48 Aej 0
abbrev U9:List PI:=[.c [1,1,1,0,1,0,0,0,0],.c [1,1,1,0,1,0,0,0,1],.c [1,1,1,0,1,0,0,1],.l [1,1,1,0,1,0,0],.b 0,.c [1,1,1,1]]
abbrev Vb:Sta:=⟨[1,2,7,8],⟨[.i .i64,.own 0 0,.ols 1,.i .i64],[.segs [.sl Qf,.sl (.int .i64),.i .i64],.lst (.int .i64)]⟩⟩
abbrev Aam(rec:Int→Int→Qj→Qe→Int→Qe→Option Qe):Leaf Qe:=⟨U9,Vb,fun p=>rec p.1.1 p.1.2.2.2.1 p.2.1.1 p.2.1.2.1 p.2.1.2.2.1 p.2.2.1⟩
abbrev Uf:Leaf Qe:=⟨[.c [1,1,1,1,0],.c [1,1,1,1,1]],⟨[7],⟨[.ols 0],[.lst (.int .i64)]⟩⟩,fun p=>some (p.2.1)⟩
noncomputable def Acj(N:Nat)(rec:Int→Int→Qj→Qe→Int→Qe→Option Qe){top:Bool}:JnQ (Z:=List Int) Ae6 top none [Aam rec,Uf]:=mkJ (Xf N) [] [] ⟨[.c [1,1,1,0,1,0,0,1,1],.l [1,1,1,0,1,0,0],.b 0,.c [1,1,1,1]],⟨[1,2,7,8],⟨[.i .i64,.own 0 0,.ols 1,.i .i64],[.segs [.sl Qf,.sl (.int .i64),.i .i64],.lst (.int .i64)]⟩⟩,fun p=>Kf N rec p.1.1 p.1.2.2.2.1 p.2.1.1 p.2.1.2.1 p.2.1.2.2.1 p.2.2.1⟩ (fun p=>by kernel_rfl)
noncomputable def Ac0(N:Nat){top:Bool}:LpQ Ae6 top:=mkL (Z:=List Int) (Xf N) [] U9 Vb (fun m p=>rwith_l1 N m p.1.1 p.1.2.2.2.1 p.2.1.1 p.2.1.2.1 p.2.1.2.2.1 p.2.2.1) [Uf] (fun m=>[Acj N (rwith_l1 N m)]) (fun k e=>k (.inl (((),()),(e,())))) N (fun m p=>by kernel_rfl)
noncomputable def Akp(N:Nat):Spec:=mkS 48 ⟨[.agg [.sl Qf,.sl (.int .i64),.i .i64],.i .i64],[]⟩ Aej (fun p=>Lw N p.1.1.1 p.1.1.2.1 p.1.1.2.2.1 p.1.2.1) (fun k r=>k ((r.1,r.2,()),()))
theorem A5v(N:Nat):A2 Tryz.prog (Akp N):=mkF (R:=List Int×Int) (m0:=0) (Xf N) [Ac0 N] (fun r=>some (r.1.1,r.1.2.1)) [] Tryz.func48 (fun p=>by kernel_rfl) (by kernel_rfl) (fun _=>by kernel_rfl)

def rmusts_l2(N:Nat):Nat→Qh→Int→Bool→Int→Qj→Qe→Int→Qe→Option (Qh×Int×Bool×List Qe×List Int×Int×List Int)
 | 0,_,_,_,_,_,_,_,_=>none
 | n_+1,l,t,in_,i,e,e2,e3,out=>
  br (decide (i<(l.length:Int)))
   (br in_
    (idx l i fun x_3=>
    br (decide (x_3.1=t))
     (chk (i+1)<|
     rmusts_l2 N n_ l t true (i+1) e e2 e3 out)
     (idx l i fun x_4=>
     chk (i+1)<|
     rmusts_l2 N n_ l t (decide (x_4.2=t)) (i+1) e e2 e3 out))
    (chk (i+1)<|
    rmusts_l2 N n_ l t false (i+1) e e2 e3 out))
   (some ((l,t,in_,e,e2,e3,out)))
def J3(N:Nat)(rec:Qh→Int→Qj→Qe→Int→Qe→Option Qe)(l:List Qd)(t:Int)(e:List Qe)(e2:List Int)(e3:Int)(out:List Int):Option Qe:=
 chk (t+1)<|
 rec l (t+1) e e2 e3 out
def rmusts_l1(N:Nat):Nat→Qh→Int→Qj→Qe→Int→Qe→Option Qe
 | 0,_,_,_,_,_,_=>none
 | n_+1,l,t,e,e2,e3,out=>
  br (decide (t<(e.length:Int)))
   ((rmusts_l2 N N l t true 0 e e2 e3 out).bind fun(l_5,t_6,in__7,e_8,e2_9,e3_10,out_11)=>
   br in__7
    (lim (out_11.length+[t_6].length)<|
    J3 N (rmusts_l1 N n_) l_5 t_6 e_8 e2_9 e3_10 (out_11++[t_6]))
    (J3 N (rmusts_l1 N n_) l_5 t_6 e_8 e2_9 e3_10 out_11))
   (some (out))
def Ij(N:Nat)(e:List Qe)(e2:List Int)(e3:Int):Option (List Int×Int):=
 (Gv N e e2 e3).bind fun(x_1,y_2)=>
 br (!decide (y_2=0))
  (some ([],y_2))
  (br (decide ((x_1.length:Int)=0))
   (some ([],6))
   ((rmusts_l1 N N x_1 0 e e2 e3 []).bind fun out_12=>
   some (out_12,0)))
noncomputable def Mk(N:Nat):Oks:=[⟨_,Pc N⟩]
abbrev A6a:List StSh:=[⟨[.sl (.int .i64),.i .i64],[]⟩]
noncomputable abbrev Zd:Body:=mkB Tryz.f51 A6a 0
noncomputable def Lr(N:Nat){top:Bool}:LpQ Zd top:=mkL (Z:=Qh×Int×Bool×List Qe×List Int×Int×List Int) (Mk N) [] [.c [1,1,1,1,1,0,1,0,0,1,0,0,1,0,1,0,0,0,0],.c [1,1,1,1,1,0,1,0,0,1,0,0,1,0,1,0,0,0,1],.c [1,1,1,1,1,0,1,0,0,1,0,0,1,0,1,0,0,1],.l [1,1,1,1,1,0,1,0,0,1,0,0,1,0,1,0,0],.b 2,.c [1,1,1,1,1,0,1,0,0,1,0,0,1,1],.b 1,.c [1,1,1,1,1,0,1,0,0,1,1],.l [1,1,1,1,1,0,1,0,0],.b 0,.c [1,1,1,1,1,1]] ⟨[1,4,6,7,8,9],⟨[.own 0 0,.sl Qc,.ols 1,.i .i64,.b,.i .i64],[.segs [.sl Qf,.sl (.int .i64),.i .i64],.lst (.int .i64)]⟩⟩ (fun m p=>rmusts_l2 N m p.1.2.1 p.1.2.2.2.1 p.1.2.2.2.2.1 p.1.2.2.2.2.2.1 p.2.1.1 p.2.1.2.1 p.2.1.2.2.1 p.2.2.1) [⟨[.c [1,1,1,1,1,0,1,0,0,1,0,0,1,1,0],.c [1,1,1,1,1,0,1,0,0,1,0,0,1,1,1],.b 1,.c [1,1,1,1,1,0,1,0,0,1,1],.l [1,1,1,1,1,0,1,0,0],.b 0,.c [1,1,1,1,1,1]],⟨[1,4,6,7,8],⟨[.own 0 0,.sl Qc,.ols 1,.i .i64,.b],[.segs [.sl Qf,.sl (.int .i64),.i .i64],.lst (.int .i64)]⟩⟩,fun p=>some ((p.1.2.1,p.1.2.2.2.1,p.1.2.2.2.2.1,p.2.1.1,p.2.1.2.1,p.2.1.2.2.1,p.2.2.1))⟩] (fun _=>[]) (fun k e=>k (.inl (((),e.1,(),e.2.1,e.2.2.1,()),((e.2.2.2.1,e.2.2.2.2.1,e.2.2.2.2.2.1,()),e.2.2.2.2.2.2,())))) N (fun m p=>by kernel_rfl)
abbrev Pr:List PI:=[.c [1,1,1,1,1,0,1,0,0,0,0],.c [1,1,1,1,1,0,1,0,0,0,1],.c [1,1,1,1,1,0,1,0,0,1],.l [1,1,1,1,1,0,1,0,0],.b 0,.c [1,1,1,1,1,1]]
abbrev Pn:Sta:=⟨[1,4,6,7],⟨[.own 0 0,.sl Qc,.ols 1,.i .i64],[.segs [.sl Qf,.sl (.int .i64),.i .i64],.lst (.int .i64)]⟩⟩
abbrev A89(rec:Qh→Int→Qj→Qe→Int→Qe→Option Qe):Leaf Qe:=⟨Pr,Pn,fun p=>rec p.1.2.1 p.1.2.2.2.1 p.2.1.1 p.2.1.2.1 p.2.1.2.2.1 p.2.2.1⟩
abbrev Po:Leaf Qe:=⟨[.c [1,1,1,1,1,1,0],.c [1,1,1,1,1,1,1]],⟨[6],⟨[.ols 0],[.lst (.int .i64)]⟩⟩,fun p=>some (p.2.1)⟩
noncomputable def A7e(N:Nat)(rec:Qh→Int→Qj→Qe→Int→Qe→Option Qe){top:Bool}:JnQ (Z:=List Int) Zd top none [A89 rec,Po]:=mkJ (Mk N) [Lr N] [] ⟨[.c [1,1,1,1,1,0,1,0,0,1,1],.l [1,1,1,1,1,0,1,0,0],.b 0,.c [1,1,1,1,1,1]],⟨[1,4,6,7],⟨[.own 0 0,.sl Qc,.ols 1,.i .i64],[.segs [.sl Qf,.sl (.int .i64),.i .i64],.lst (.int .i64)]⟩⟩,fun p=>J3 N rec p.1.2.1 p.1.2.2.2.1 p.2.1.1 p.2.1.2.1 p.2.1.2.2.1 p.2.2.1⟩ (fun p=>by kernel_rfl)
noncomputable def A8z(N:Nat){top:Bool}:LpQ Zd top:=mkL (Z:=List Int) (Mk N) [Lr N] Pr Pn (fun m p=>rmusts_l1 N m p.1.2.1 p.1.2.2.2.1 p.2.1.1 p.2.1.2.1 p.2.1.2.2.1 p.2.2.1) [Po] (fun m=>[A7e N (rmusts_l1 N m)]) (fun k e=>k (.inl (((),()),(e,())))) N (fun m p=>by kernel_rfl)
noncomputable def Agb(N:Nat):Spec:=mkS 51 ⟨[.agg [.sl Qf,.sl (.int .i64),.i .i64]],[]⟩ A6a (fun p=>Ij N p.1.1.1 p.1.1.2.1 p.1.1.2.2.1) (fun k r=>k ((r.1,r.2,()),()))
theorem A3g(N:Nat):A2 Tryz.prog (Agb N):=mkF (R:=List Int×Int) (m0:=0) (Mk N) [Lr N,A8z N] (fun r=>some (r.1.1,r.1.2.1)) [] Tryz.func51 (fun p=>by kernel_rfl) (by kernel_rfl) (fun _=>by kernel_rfl)

def Fc(N:Nat)(rec:Int→Int→Int→Qj→Qe→Int→Int→Int→Int→Int→Option Qr)(least a b:Int)(e:List Qe)(e2:List Int)(e3 g g2 best best2:Int):Option Qr:=
 chk (b+1)<|
 rec least a (b+1) e e2 e3 g g2 best best2
def rclosest_l2(N:Nat):Nat→Int→Int→Int→Qj→Qe→Int→Int→Int→Int→Int→Option Qr
 | 0,_,_,_,_,_,_,_,_,_,_=>none
 | n_+1,least,a,b,e,e2,e3,g,g2,best,best2=>
  br (decide (b<(e.length:Int)))
   ((Lp N e e2 e3 a b).bind fun(x_2,y_3)=>
   br (decide (y_3<least))
    (Fc N (rclosest_l2 N n_) y_3 a b e e2 e3 g g2 a b)
    (Fc N (rclosest_l2 N n_) least a b e e2 e3 g g2 best best2))
   (some ((least,a,e,e2,e3,g,g2,best,best2)))
def rclosest_l1(N:Nat):Nat→Int→Int→Qj→Qe→Int→Int→Int→Int→Int→Option (Int×Int×Int×Int×Int)
 | 0,_,_,_,_,_,_,_,_,_=>none
 | n_+1,least,a,e,e2,e3,g,g2,best,best2=>
  br (decide (a<(e.length:Int)))
   ((rclosest_l2 N N least a a e e2 e3 g g2 best best2).bind fun(least_4,a_5,e_6,e2_7,e3_8,g_9,g2_10,best_11,best2_12)=>
   chk (a_5+1)<|
   rclosest_l1 N n_ least_4 (a_5+1) e_6 e2_7 e3_8 g_9 g2_10 best_11 best2_12)
   (some ((least,g,g2,best,best2)))
def E9(N:Nat)(e:List Qe)(e2:List Int)(e3:Int):Option (Int×Int×Int×Int):=
 (rcheck_S N e e2 e3).bind fun x_1=>
 br (!decide (x_1=0))
  (some (0,0,0,x_1))
  ((rclosest_l1 N N 99 0 e e2 e3 0 0 0 0).bind fun(least_13,g_14,g2_15,best_16,best2_17)=>
  some (best_16,best2_17,least_13,0))
noncomputable def Hk(N:Nat):Oks:=[⟨_,Dl N⟩,⟨_,J9 N⟩]
abbrev Wg:List StSh:=[⟨[.agg [.i .i64,.i .i64],.i .i64,.i .i64],[]⟩]
noncomputable abbrev Nk:Body:=mkB Tryz.f53 Wg 0
abbrev Kb:List PI:=[.c [1,1,1,0,1,0,0,1,0,0,1,0,0,0,0],.c [1,1,1,0,1,0,0,1,0,0,1,0,0,0,1],.c [1,1,1,0,1,0,0,1,0,0,1,0,0,1],.l [1,1,1,0,1,0,0,1,0,0,1,0,0],.b 2,.b 1,.c [1,1,1,0,1,0,0,1,1],.l [1,1,1,0,1,0,0],.b 0,.c [1,1,1,1]]
abbrev Ls:Sta:=⟨[1,2,6,7,8,9],⟨[.own 0 0,.own 1 0,.own 2 0,.i .i64,.i .i64,.i .i64],[.segs [.sl Qf,.sl (.int .i64),.i .i64],.segs [.i .i64,.i .i64],.segs [.i .i64,.i .i64]]⟩⟩
abbrev Zz(rec:Int→Int→Int→Qj→Qe→Int→Int→Int→Int→Int→Option Qr):Leaf Qr:=⟨Kb,Ls,fun p=>rec p.1.2.2.2.1 p.1.2.2.2.2.1 p.1.2.2.2.2.2.1 p.2.1.1 p.2.1.2.1 p.2.1.2.2.1 p.2.2.1.1 p.2.2.1.2.1 p.2.2.2.1.1 p.2.2.2.1.2.1⟩
abbrev Kj:Leaf Qr:=⟨[.c [1,1,1,0,1,0,0,1,1],.l [1,1,1,0,1,0,0],.b 0,.c [1,1,1,1]],⟨[1,2,6,7,8],⟨[.own 0 0,.own 1 0,.own 2 0,.i .i64,.i .i64],[.segs [.sl Qf,.sl (.int .i64),.i .i64],.segs [.i .i64,.i .i64],.segs [.i .i64,.i .i64]]⟩⟩,fun p=>some ((p.1.2.2.2.1,p.1.2.2.2.2.1,p.2.1.1,p.2.1.2.1,p.2.1.2.2.1,p.2.2.1.1,p.2.2.1.2.1,p.2.2.2.1.1,p.2.2.2.1.2.1))⟩
noncomputable def Zu(N:Nat)(rec:Int→Int→Int→Qj→Qe→Int→Int→Int→Int→Int→Option Qr){top:Bool}:JnQ (Z:=Int×Int×List Qe×List Int×Int×Int×Int×Int×Int) Nk top none [Zz rec,Kj]:=mkJ (Hk N) [] [] ⟨[.c [1,1,1,0,1,0,0,1,0,0,1,0,0,1,1],.l [1,1,1,0,1,0,0,1,0,0,1,0,0],.b 2,.b 1,.c [1,1,1,0,1,0,0,1,1],.l [1,1,1,0,1,0,0],.b 0,.c [1,1,1,1]],⟨[1,2,6,7,8,9],⟨[.own 0 0,.own 1 0,.own 2 0,.i .i64,.i .i64,.i .i64],[.segs [.sl Qf,.sl (.int .i64),.i .i64],.segs [.i .i64,.i .i64],.segs [.i .i64,.i .i64]]⟩⟩,fun p=>Fc N rec p.1.2.2.2.1 p.1.2.2.2.2.1 p.1.2.2.2.2.2.1 p.2.1.1 p.2.1.2.1 p.2.1.2.2.1 p.2.2.1.1 p.2.2.1.2.1 p.2.2.2.1.1 p.2.2.2.1.2.1⟩ (fun p=>by kernel_rfl)
noncomputable def Mp(N:Nat){top:Bool}:LpQ Nk top:=mkL (Z:=Int×Int×List Qe×List Int×Int×Int×Int×Int×Int) (Hk N) [] Kb Ls (fun m p=>rclosest_l2 N m p.1.2.2.2.1 p.1.2.2.2.2.1 p.1.2.2.2.2.2.1 p.2.1.1 p.2.1.2.1 p.2.1.2.2.1 p.2.2.1.1 p.2.2.1.2.1 p.2.2.2.1.1 p.2.2.2.1.2.1) [Kj] (fun m=>[Zu N (rclosest_l2 N m)]) (fun k e=>k (.inl (((),(),(),e.1,e.2.1,()),((e.2.2.1,e.2.2.2.1,e.2.2.2.2.1,()),(e.2.2.2.2.2.1,e.2.2.2.2.2.2.1,()),(e.2.2.2.2.2.2.2.1,e.2.2.2.2.2.2.2.2,()),())))) N (fun m p=>by kernel_rfl)
noncomputable def Zy(N:Nat){top:Bool}:LpQ Nk top:=mkL (Z:=Int×Int×Int×Int×Int) (Hk N) [Mp N] [.c [1,1,1,0,1,0,0,0,0],.c [1,1,1,0,1,0,0,0,1],.c [1,1,1,0,1,0,0,1],.l [1,1,1,0,1,0,0],.b 0,.c [1,1,1,1]] ⟨[1,2,6,7,8],⟨[.own 0 0,.own 1 0,.own 2 0,.i .i64,.i .i64],[.segs [.sl Qf,.sl (.int .i64),.i .i64],.segs [.i .i64,.i .i64],.segs [.i .i64,.i .i64]]⟩⟩ (fun m p=>rclosest_l1 N m p.1.2.2.2.1 p.1.2.2.2.2.1 p.2.1.1 p.2.1.2.1 p.2.1.2.2.1 p.2.2.1.1 p.2.2.1.2.1 p.2.2.2.1.1 p.2.2.2.1.2.1) [⟨[.c [1,1,1,1,0],.c [1,1,1,1,1]],⟨[2,6,7],⟨[.own 0 0,.own 1 0,.i .i64],[.segs [.i .i64,.i .i64],.segs [.i .i64,.i .i64]]⟩⟩,fun p=>some ((p.1.2.2.1,p.2.1.1,p.2.1.2.1,p.2.2.1.1,p.2.2.1.2.1))⟩] (fun _=>[]) (fun k e=>k (.inl (((),(),e.1,()),((e.2.1,e.2.2.1,()),(e.2.2.2.1,e.2.2.2.2,()),())))) N (fun m p=>by kernel_rfl)
noncomputable def A5m(N:Nat):Spec:=mkS 53 ⟨[.agg [.sl Qf,.sl (.int .i64),.i .i64]],[]⟩ Wg (fun p=>E9 N p.1.1.1 p.1.1.2.1 p.1.1.2.2.1) (fun k r=>k (((r.1,r.2.1,()),r.2.2.1,r.2.2.2,()),()))
theorem W4(N:Nat):A2 Tryz.prog (A5m N):=mkF (R:=Int×Int×Int×Int) (m0:=0) (Hk N) [Mp N,Zy N] (fun r=>some (r.1.1.1,r.1.1.2.1,r.1.2.1,r.1.2.2.1)) [] Tryz.func53 (fun p=>by kernel_rfl) (by kernel_rfl) (fun _=>by kernel_rfl)

def epairsl_l1(N:Nat):Nat→Int→Qh→Qh→Int→Int→Qj→Qe→Int→Qj→Qe→Int→Qj→Qe→Int→Option ((Unit)⊕(Int×List Qe×List Int×Int×List Qe×List Int×Int×List Qe×List Int×Int))
 | 0,_,_,_,_,_,_,_,_,_,_,_,_,_,_=>none
 | n_+1,text,want,u,u2,u3,x,x2,x3,own,own2,own3,y,y2,y3=>
  br (decide (u3<u2))
   (idx u u3 fun x_15=>
   idx want u3 fun x_16=>
   br (!(decide (x_15.1=x_16.1)&&decide (x_15.2=x_16.2)))
    (some (.inl ()))
    (chk (u3+1)<|
    epairsl_l1 N n_ text want u u2 (u3+1) x x2 x3 own own2 own3 y y2 y3))
   (some (.inr (text,x,x2,x3,own,own2,own3,y,y2,y3)))
def epairsl_S(N:Nat)(x:List Qe)(x2:List Int)(x3 text:Int):Option Bool:=
 (great_S N x x2 x3).bind fun x_1=>
 br x_1
  ((B0 N).bind fun x_2=>
  some x_2)
  ((S8 N x x2 x3 4 3).bind fun x_3=>
  br x_3
   ((B0 N).bind fun x_4=>
   some x_4)
   ((C9 N x x2 x3).bind fun(x_5,y_6,y_7)=>
   (C9 N x x2 x3).bind fun(x_8,y_9,y_10)=>
   (Jb N x_5 y_6 y_7).bind fun(x_11,y_12)=>
   (Gv N x_8 y_9 y_10).bind fun(x_13,y_14)=>
   br (!decide (y_12=y_14))
    (some false)
    (br (!decide ((x_11.length:Int)=(x_13.length:Int)))
     (some false)
     ((epairsl_l1 N N text x_13 x_11 (x_11.length:Int) 0 x x2 x3 x_5 y_6 y_7 x_8 y_9 y_10).bind fun e=>match e with
     | .inl _=>
      some false
     | .inr (text_17,x_18,x2_19,x3_20,own_21,own2_22,own3_23,y_24,y2_25,y3_26)=>
      (Hx N own_21 own2_22 own3_23 text_17).bind fun(x_27,y_28)=>
      (Lw N y_24 y2_25 y3_26 text_17).bind fun(x_29,y_30)=>
      br (!decide (y_28=y_30))
       (some false)
       ((Ji N x_27 x_29).bind fun x_31=>
       br (!x_31)
        (some false)
        ((M5 N own_21 own2_22 own3_23).bind fun(x_32,y_33)=>
        (Ij N y_24 y2_25 y3_26).bind fun(x_34,y_35)=>
        br (!decide (y_33=y_35))
         (some false)
         ((Ji N x_32 x_34).bind fun x_36=>
         br (!x_36)
          (some false)
          ((G8 N own_21 own2_22 own3_23).bind fun(x_37,y_38,y_39,y_40)=>
          (E9 N y_24 y2_25 y3_26).bind fun(x_41,y_42,y_43,y_44)=>
          br (decide (x_37=x_41)&&decide (y_38=y_42))
           (br (decide (y_39=y_43))
            (br (decide (y_40=y_44))
             ((Hy N own_21 own2_22 own3_23 x_18 x2_19 x3_20).bind fun x_45=>
             br x_45
              ((B0 N).bind fun x_46=>
              some x_46)
              (some false))
             (some false))
            (some false))
           (some false)))))))))
noncomputable def Yw(N:Nat):Oks:=[⟨_,Ul N⟩,⟨_,A6c N⟩,⟨_,A07 N⟩,⟨_,K7 N⟩,⟨_,D2 N⟩,⟨_,F5 N⟩,⟨_,A81 N⟩,⟨_,Ex N⟩,⟨_,Wu N⟩,⟨_,Gj N⟩,⟨_,Pc N⟩,⟨_,A5v N⟩,⟨_,A3g N⟩,⟨_,W4 N⟩]
abbrev A14:List StSh:=[⟨[.b],[]⟩]
noncomputable abbrev Aes:Body:=mkB Tryz.f11 A14 0
noncomputable def A4i(N:Nat){top:Bool}:LpQ Aes top:=mkL (Z:=(Unit)⊕(Int×List Qe×List Int×Int×List Qe×List Int×Int×List Qe×List Int×Int)) (Yw N) [] [.c [1,1,1,1,1,1,0,1,0,0,0],.c [1,1,1,1,1,1,0,1,0,0,1],.l [1,1,1,1,1,1,0,1,0,0],.b 0,.c [1,1,1,1,1,1,1]] ⟨[1,2,5,6,9,50,51,52],⟨[.i .i64,.own 0 0,.own 1 0,.own 2 0,.sl Qc,.sl Qc,.i .i64,.i .i64],[.segs [.sl Qf,.sl (.int .i64),.i .i64],.segs [.sl Qf,.sl (.int .i64),.i .i64],.segs [.sl Qf,.sl (.int .i64),.i .i64]]⟩⟩ (fun m p=>epairsl_l1 N m p.1.1 p.1.2.2.2.2.1 p.1.2.2.2.2.2.1 p.1.2.2.2.2.2.2.1 p.1.2.2.2.2.2.2.2.1 p.2.1.1 p.2.1.2.1 p.2.1.2.2.1 p.2.2.1.1 p.2.2.1.2.1 p.2.2.1.2.2.1 p.2.2.2.1.1 p.2.2.2.1.2.1 p.2.2.2.1.2.2.1) [⟨[.c [1,1,1,1,1,1,0,1,0,0,1,1,0,0,1,1,0,0],.c [1,1,1,1,1,1,0,1,0,0,1,1,0,0,1,1,0,1],.b 1,.c [1,1,1,1,1,1,0,1,0,0,1,1,1],.l [1,1,1,1,1,1,0,1,0,0],.b 0,.c [1,1,1,1,1,1,1]],⟨[],⟨[],[]⟩⟩,fun p=>some (.inl ())⟩,⟨[.c [1,1,1,1,1,1,1,0],.c [1,1,1,1,1,1,1,1]],⟨[1,2,5,6],⟨[.i .i64,.own 0 0,.own 1 0,.own 2 0],[.segs [.sl Qf,.sl (.int .i64),.i .i64],.segs [.sl Qf,.sl (.int .i64),.i .i64],.segs [.sl Qf,.sl (.int .i64),.i .i64]]⟩⟩,fun p=>some (.inr (p.1.1,p.2.1.1,p.2.1.2.1,p.2.1.2.2.1,p.2.2.1.1,p.2.2.1.2.1,p.2.2.1.2.2.1,p.2.2.2.1.1,p.2.2.2.1.2.1,p.2.2.2.1.2.2.1))⟩] (fun _=>[]) (fun k e=>match e with | .inl x=>k (.inl ((),())) | .inr x=>k (.inr (.inl ((x.1,(),(),(),()),((x.2.1,x.2.2.1,x.2.2.2.1,()),(x.2.2.2.2.1,x.2.2.2.2.2.1,x.2.2.2.2.2.2.1,()),(x.2.2.2.2.2.2.2.1,x.2.2.2.2.2.2.2.2.1,x.2.2.2.2.2.2.2.2.2,()),()))))) N (fun m p=>by kernel_rfl) (hg:=(by rintro _ _ (_ | _)<;>rfl))
noncomputable def Aav(N:Nat):Spec:=mkS 11 ⟨[.agg [.sl Qf,.sl (.int .i64),.i .i64],.i .i64],[]⟩ A14 (fun p=>epairsl_S N p.1.1.1 p.1.1.2.1 p.1.1.2.2.1 p.1.2.1) (fun k r=>k ((r,()),()))
theorem A0e(N:Nat):A2 Tryz.prog (Aav N):=mkF (R:=Bool) (m0:=0) (Yw N) [A4i N] (fun r=>some r.1.1) [] Tryz.func11 (fun p=>by kernel_rfl) (by kernel_rfl) (fun _=>by kernel_rfl)

end Go.Proofs.YtfcnhnbnjdccfaaGreat

namespace Go.Proofs.YtfcnhnbnjdccfaaGreat
set_option linter.all false
open Go

def I3(N:Nat)(u:Int)(d:Qa)(u2:Ql)(u3:Qa)(g_ g2_ g3_:Int)(g4_:List (Ql×Qd))(g5_:List Qd):Option Qo:=
 some ((u,d,g_,g2_,g3_,g4_,g5_))
def Db(N:Nat)(rec:Int→Int→Int→Qg→Qh→Option Qo)(u:Int)(d:Qa)(u2:Ql)(u3:Qa)(u' x' x2' x3':Int)(rests':List (Ql×Qd))(out':List Qd)(q' q2' y' y2' y3':Int):Option Qo:=
 br (!decide (q'=3))
  (chk ((((rests'.find? fun(y:Ql×Qd)=>Ty.beq Qk y.1 (y',y2',y3')).map (·.2)).getD (Ty.dflt Qc)).1+1)<|
  br (decide (((((rests'.find? fun(y:Ql×Qd)=>Ty.beq Qk y.1 (y',y2',y3')).map (·.2)).getD (Ty.dflt Qc)).1+1)=(((rests'.find? fun(y:Ql×Qd)=>Ty.beq Qk y.1 (x',x2',x3')).map (·.2)).getD (Ty.dflt Qc)).1))
   (lim (out'.length+[(q',q2')].length)<|
   some ((u,d,y',y2',y3',rests',(out'++[(q',q2')]))))
   (rec x' x2' x3' rests' out'))
  (br (decide ((((rests'.find? fun(y:Ql×Qd)=>Ty.beq Qk y.1 (y',y2',y3')).map (·.2)).getD (Ty.dflt Qc)).1=(((rests'.find? fun(y:Ql×Qd)=>Ty.beq Qk y.1 (x',x2',x3')).map (·.2)).getD (Ty.dflt Qc)).1))
   (lim (out'.length+[(q',q2')].length)<|
   some ((u,d,y',y2',y3',rests',(out'++[(q',q2')]))))
   (rec x' x2' x3' rests' out'))
def reading_l2(N:Nat):List Move→Int→(Qa)→(Ql)→(Qa)→Int→Int→Int→Qg→Qh→Option Qo
 | [],u,d,u2,u3,x,x2,x3,rests,out=>
  some ((u,d,x,x2,x3,rests,out))
 | e::es,u,d,u2,u3,x,x2,x3,rests,out=>
  Db N (fun x_ x2_ x3_ rests_ out_=>reading_l2 N es u d u2 u3 x_ x2_ x3_ rests_ out_) u d u2 u3 u x x2 x3 rests out e.1.1 e.1.2.1 e.2.1.1 e.2.1.2.1 e.2.1.2.2.1
def reading_l1(N:Nat):Nat→Int→(Qa)→Int→Int→Int→Qg→Qh→Option Qh
 | 0,_,_,_,_,_,_,_=>none
 | n_+1,u,d,x,x2,x3,rests,out=>
  br (decide (x<(d.2.1.length:Int)))
   ((Gk N d x x2 x3).bind fun(x_4,y_5)=>
   ((D3 x_4 y_5).bind fun es=>reading_l2 N es u d x_4 y_5 x x2 x3 rests out).bind fun(u_6,d_7,x_8,x2_9,x3_10,rests_11,out_12)=>
   reading_l1 N n_ u_6 d_7 x_8 x2_9 x3_10 rests_11 out_12)
   (some (out))
def reading_S(N:Nat)(e:List Qe)(e2:List Int)(e3 p p2:Int):Option (Qh×Int):=
 ((B5 N e e2 e3 p p2).bind fun e=>match e with
 | .inl (x_1,y_2)=>
  (br (!decide (y_2=0))
   (some ([],y_2))
   ((Eu N).bind fun _=>
   (Gm N x_1).bind fun x_3=>
   (reading_l1 N N 0 x_1 0 0 0 x_3 []).bind fun out_13=>
   some (out_13,0)))
 | .inr x_14=>
  (br (!decide (x_14=0))
   (some ([],x_14))
   ((Eu N).bind fun _=>
   none)))
noncomputable def Jh(N:Nat):Oks:=[⟨_,Ax N⟩,⟨_,H9 N⟩,⟨_,G0 N⟩,⟨_,Jn N⟩]
abbrev S4:List StSh:=[⟨[.sl Qc,.i .i64],[]⟩]
noncomputable abbrev B7:Body:=mkB Tryz.f5 S4 0
noncomputable def F7(N:Nat):List Spec:=(Jh N).map (·.1)
theorem Hp(N:Nat):AllP (A2 Tryz.prog) (F7 N):=allP_map (Jh N)
noncomputable def A0y:Code:=B7.c
abbrev Bv:Sta:=⟨[4,5,6,8,9,10,38],⟨[.nils,.i .i64,.fe Qb,.own 0 0,.own 1 0,.own 2 0,.fn 65 [] [.fe Qk,.fe (.ptr Qb)]],[.segs [.mp 3],.segs [.ols 4],.segs [.i .i64,.i .i64,.i .i64],.map Qk Qc,.lst Qc]⟩⟩
abbrev D8:Sta:=⟨[4,5,8,9,10,11,12],⟨[.nils,.i .i64,.own 0 0,.own 1 0,.own 2 0,.own 5 0,.own 6 0],[.segs [.mp 3],.segs [.ols 4],.segs [.i .i64,.i .i64,.i .i64],.map Qk Qc,.lst Qc,.segs [.i .i64,.i .i64],.segs [.i .i64,.i .i64,.i .i64]]⟩⟩
abbrev En:Leaf Qo:=⟨[.c [1,1,1,1,1,1,0,0,0,0,0],.c [1,1,1,1,1,1,0,0,0,0,1],.c [1,1,1,1,1,1,0,0,0,1],.l [1,1,1,1,1,1,0,0,0],.b 0,.c [1,1,1,1,1,1,1]],⟨[4,5,6,8,9,10],⟨[.nils,.i .i64,.fe Qb,.own 0 0,.own 1 0,.own 2 0],[.segs [.mp 3],.segs [.ols 4],.segs [.i .i64,.i .i64,.i .i64],.map Qk Qc,.lst Qc]⟩⟩,fun p=>some ((p.1.2.1,p.1.2.2.1,p.2.2.2.1.1,p.2.2.2.1.2.1,p.2.2.2.1.2.2.1,p.2.2.2.2.1,p.2.2.2.2.2.1))⟩
noncomputable def Fv(N:Nat):Hs:={ at_:=[.c [1,1,1,1,1,1,0,0,0,1,0,0,1,1,0],.b 2,.s [1,1,1,1,1,1,0,0,0,1,0,0],.b 1,.l [1,1,1,1,1,1,0,0,0],.b 0,.c [1,1,1,1,1,1,1]],sta:=Bv,exits:=[([.c [1,1,1,1,1,1,0,0,0,0,0],.c [1,1,1,1,1,1,0,0,0,0,1],.c [1,1,1,1,1,1,0,0,0,1],.l [1,1,1,1,1,1,0,0,0],.b 0,.c [1,1,1,1,1,1,1]],⟨[4,5,6,8,9,10],⟨[.nils,.i .i64,.fe Qb,.own 0 0,.own 1 0,.own 2 0],[.segs [.mp 3],.segs [.ols 4],.segs [.i .i64,.i .i64,.i .i64],.map Qk Qc,.lst Qc]⟩⟩)],run:=fun p k=>((D3 p.1.2.2.2.2.2.2.1.2.1 p.1.2.2.2.2.2.2.1.2.2.1).bind fun es=>reading_l2 N es p.1.2.1 p.1.2.2.1 p.1.2.2.2.2.2.2.1.2.1 p.1.2.2.2.2.2.2.1.2.2.1 p.2.2.2.1.1 p.2.2.2.1.2.1 p.2.2.2.1.2.2.1 p.2.2.2.2.1 p.2.2.2.2.2.1).bind fun e=>k (.inl (((),e.1,e.2.1,(),(),(),()),(((),()),((),()),(e.2.2.1,e.2.2.2.1,e.2.2.2.2.1,()),e.2.2.2.2.2.1,e.2.2.2.2.2.2,()))) }
noncomputable abbrev Ek:Body:=mkB Tryz.f5 S4 5
theorem Z6(N:Nat)(u:Int)(d:Qa)(u2:Ql)(u3:Qa)(x:Int)(x2:Int)(x3:Int)(rests:List (Ql×Qd))(out:List Qd):ev (Z:=Int×Qa×Int×Int×Int×Qg×Qh) Tryz.prog (F7 N) B7 [] [En] none 400 false (nrm B7.c 99 [.b 2,.s [1,1,1,1,1,1,0,0,0,1,0,0],.b 1,.l [1,1,1,1,1,1,0,0,0],.b 0,.c [1,1,1,1,1,1,1]]) (stL Bv (((),u,d,(),(),(),((),(u2,u3,())),()),(((),()),((),()),(x,x2,x3,()),rests,out,()))) (stH Bv (((),u,d,(),(),(),((),(u2,u3,())),()),(((),()),((),()),(x,x2,x3,()),rests,out,())))=reading_l2 N [] u d u2 u3 x x2 x3 rests out:=by kernel_rfl
theorem Ws(N:Nat)(e:Move)(es:List Move)(u:Int)(d:Qa)(u2:Ql)(u3:Qa)(x:Int)(x2:Int)(x3:Int)(rests:List (Ql×Qd))(out:List Qd):ev (Z:=Int×Qa×Int×Int×Int×Qg×Qh) Tryz.prog (F7 N) Ek [] [⟨[.r,.c [1,1,1,1,1,1,0,0,0,1,0,0,1,1,0,1]],D8,fun p=>Db N (fun x_ x2_ x3_ rests_ out_=>reading_l2 N es u d u2 u3 x_ x2_ x3_ rests_ out_) u d u2 u3 p.1.2.1 p.2.2.2.1.1 p.2.2.2.1.2.1 p.2.2.2.1.2.2.1 p.2.2.2.2.1 p.2.2.2.2.2.1 p.2.2.2.2.2.2.1.1 p.2.2.2.2.2.2.1.2.1 p.2.2.2.2.2.2.2.1.1 p.2.2.2.2.2.2.2.1.2.1 p.2.2.2.2.2.2.2.1.2.2.1⟩] none 400 false (nrm B7.c 99 [.c [1,1,1,1,1,1,0,0,0,1,0,0,1,1,0,0],.r,.c [1,1,1,1,1,1,0,0,0,1,0,0,1,1,0,1]]) (pars [39,40] (encs id Dq.elem e) (stL Bv (((),u,d,(),(),(),((),(u2,u3,())),()),(((),()),((),()),(x,x2,x3,()),rests,out,())))) (stH Bv (((),u,d,(),(),(),((),(u2,u3,())),()),(((),()),((),()),(x,x2,x3,()),rests,out,())))=reading_l2 N (e::es) u d u2 u3 x x2 x3 rests out:=by kernel_rfl
theorem Yl(N:Nat)(rec:Int→Int→Int→Qg→Qh→Option Qo)(u:Int)(d:Qa)(u2:Ql)(u3:Qa)(u':Int)(x':Int)(x2':Int)(x3':Int)(rests':List (Ql×Qd))(out':List Qd)(q':Int)(q2':Int)(y':Int)(y2':Int)(y3':Int):ev (Z:=Int×Qa×Int×Int×Int×Qg×Qh) Tryz.prog (F7 N) Ek [] [⟨[],⟨[],⟨[],[.segs [.mp 3],.segs [.ols 4],.segs [.i .i64,.i .i64,.i .i64],.map Qk Qc,.lst Qc]⟩⟩,fun p=>rec p.2.2.2.1.1 p.2.2.2.1.2.1 p.2.2.2.1.2.2.1 p.2.2.2.2.1 p.2.2.2.2.2.1⟩,⟨[.c [1,1,1,1,1,1,0,0,0,1,0,0,1,1,0,1,0,1,1,1,0,1],.b 3],⟨[],⟨[],[.segs [.mp 3],.segs [.ols 5],.segs [.i .i64,.i .i64,.i .i64],.map Qk Qc,.dead,.lst Qc]⟩⟩,fun p=>I3 N u d u2 u3 p.2.2.2.1.1 p.2.2.2.1.2.1 p.2.2.2.1.2.2.1 p.2.2.2.2.1 p.2.2.2.2.2.2.1⟩] none 400 false (nrm B7.c 99 [.c [1,1,1,1,1,1,0,0,0,1,0,0,1,1,0,1]]) (stL D8 (((),u',(),(),(),(),(),()),(((),()),((),()),(x',x2',x3',()),rests',out',(q',q2',()),(y',y2',y3',()),()))) (stH D8 (((),u',(),(),(),(),(),()),(((),()),((),()),(x',x2',x3',()),rests',out',(q',q2',()),(y',y2',y3',()),())))=Db N rec u d u2 u3 u' x' x2' x3' rests' out' q' q2' y' y2' y3':=by kernel_rfl
theorem Vd(N:Nat)(u:Int)(d:Qa)(u2:Ql)(u3:Qa)(g_:Int)(g2_:Int)(g3_:Int)(g4_:List (Ql×Qd))(g5_:List Qd):ev (Z:=Int×Qa×Int×Int×Int×Qg×Qh) Tryz.prog (F7 N) B7 [] [En] none 400 false (nrm B7.c 99 (.c [1,1,1,1,1,1,0,0,0,1,0,0,1,1,0,1,0,1,1,1,0,1]::[.b 2,.s [1,1,1,1,1,1,0,0,0,1,0,0],.b 1,.l [1,1,1,1,1,1,0,0,0],.b 0,.c [1,1,1,1,1,1,1]])) (Bv.tmps.zip (encs id Bv.sh.avs ((),u,d,(),(),(),((),(u2,u3,())),()))) (encBs id [.segs [.mp 3],.segs [.ols 5],.segs [.i .i64,.i .i64,.i .i64],.map Qk Qc,.dead,.lst Qc] (((),()),((),()),(g_,g2_,g3_,()),g4_,(),g5_,()))=I3 N u d u2 u3 g_ g2_ g3_ g4_ g5_:=by kernel_rfl
theorem Na(N:Nat):Gg Tryz.prog B7.c B7.n B7.m0 true (Fv N):=by
 refine Ld (B:=B7) (is:=Dq) (g:=.tmp 38) (ps:=#[39,40]) (assign:=sub A0y [1,1,1,1,1,1,0,0,0,1,0,0,1,1,0,0]) (body:=sub A0y [1,1,1,1,1,1,0,0,0,1,0,0,1,1,0,1]) (Z:=Int×Qa×Int×Int×Int×Qg×Qh) (x:=Fv N) (fun p=>(p.1.2.2.2.2.2.2.1.2.1,p.1.2.2.2.2.2.2.1.2.2.1,())) (fun es p=>reading_l2 N es p.1.2.1 p.1.2.2.1 p.1.2.2.2.2.2.2.1.2.1 p.1.2.2.2.2.2.2.1.2.2.1 p.2.2.2.1.1 p.2.2.2.1.2.1 p.2.2.2.1.2.2.1 p.2.2.2.2.1 p.2.2.2.2.2.1) (staA:=D8) (fun es q p=>Db N (fun x_ x2_ x3_ rests_ out_=>reading_l2 N es q.2.1 q.2.2.1 q.2.2.2.2.2.2.1.2.1 q.2.2.2.2.2.2.1.2.2.1 x_ x2_ x3_ rests_ out_) q.2.1 q.2.2.1 q.2.2.2.2.2.2.1.2.1 q.2.2.2.2.2.2.1.2.2.1 p.1.2.1 p.2.2.2.1.1 p.2.2.2.1.2.1 p.2.2.2.1.2.2.1 p.2.2.2.2.1 p.2.2.2.2.2.1 p.2.2.2.2.2.2.1.1 p.2.2.2.2.2.2.1.2.1 p.2.2.2.2.2.2.2.1.1 p.2.2.2.2.2.2.2.1.2.1 p.2.2.2.2.2.2.2.1.2.2.1) [⟨[1,1,1,1,1,1,0,0,0,1,0,0,1,1,0,1,0,1,1,1,0,1],[.b 3],[.segs [.mp 3],.segs [.ols 5],.segs [.i .i64,.i .i64,.i .i64],.map Qk Qc,.dead,.lst Qc],fun q b=>I3 N q.2.1 q.2.2.1 q.2.2.2.2.2.2.1.2.1 q.2.2.2.2.2.2.1.2.2.1 ((),b).2.2.2.1.1 ((),b).2.2.2.1.2.1 ((),b).2.2.2.1.2.2.1 ((),b).2.2.2.2.1 ((),b).2.2.2.2.2.2.1⟩] (fun e=>.inl (((),e.1,e.2.1,(),(),(),()),(((),()),((),()),(e.2.2.1,e.2.2.2.1,e.2.2.2.2.1,()),e.2.2.2.2.2.1,e.2.2.2.2.2.2,()))) (fun _ _ _=>rfl) rfl (by kernel_rfl) (fun _=>by kernel_rfl) (by kernel_rfl) H7 (Nat.le_of_ble_eq_true (by kernel_rfl)) (by kernel_rfl) ?_ ?_ ?_ ?_
 ·exact fun z E Xc hE hX hx p hp a w hS=>ev_sound (z:=z) (B:=B7) (loops:=[]) (leaves:=[En]) (top:=true) (Hp N) mixed trivial hE hX ⟨(fun p hp=>by obtain rfl:=Option.some.inj hp;exact hx),trivial⟩ Bf.no 400 false _ _ _ ((Z6 N p.1.2.1 p.1.2.2.1 p.1.2.2.2.2.2.2.1.2.1 p.1.2.2.2.2.2.2.1.2.2.1 p.2.2.2.1.1 p.2.2.2.1.2.1 p.2.2.2.1.2.2.1 p.2.2.2.2.1 p.2.2.2.2.2.1).trans hp) a w hS
 ·intro z E Xc hE hX hx e he q b hb a w hS
  simp only[List.mem_cons,List.not_mem_nil,or_false]at he
  rcases he with rfl
  ·exact ev_sound (z:=z) (B:=B7) (loops:=[]) (leaves:=[En]) (top:=true) (Hp N) mixed trivial hE hX ⟨(fun p hp=>by obtain rfl:=Option.some.inj hp;exact hx),trivial⟩ Bf.no 400 false _ _ _ ((Vd N q.2.1 q.2.2.1 q.2.2.2.2.2.2.1.2.1 q.2.2.2.2.2.2.1.2.2.1 ((),b).2.2.2.1.1 ((),b).2.2.2.1.2.1 ((),b).2.2.2.1.2.2.1 ((),b).2.2.2.2.1 ((),b).2.2.2.2.2.2.1).trans hb) a w hS
 ·exact fun z E Xc hE hX e es p hl hp a w hS=>ev_sound (z:=z) (B:=Ek) (loops:=[]) (leaves:=[_]) (top:=false) (Hp N) mixed trivial hE hX ⟨hl,trivial⟩ Bf.no 400 false _ _ _ ((Ws N e es p.1.2.1 p.1.2.2.1 p.1.2.2.2.2.2.2.1.2.1 p.1.2.2.2.2.2.2.1.2.2.1 p.2.2.2.1.1 p.2.2.2.1.2.1 p.2.2.2.1.2.2.1 p.2.2.2.2.1 p.2.2.2.2.2.1).trans hp) a w hS
 ·exact fun z E Xc hE hX es q he hs p hp a w hS=>ev_sound (z:=z) (B:=Ek) (loops:=[]) (leaves:=[_,_]) (top:=false) (Hp N) mixed trivial hE hX ⟨he,hs _ List.mem_cons_self,trivial⟩ Bf.no 400 false _ _ _ ((Yl N (fun x_ x2_ x3_ rests_ out_=>reading_l2 N es q.2.1 q.2.2.1 q.2.2.2.2.2.2.1.2.1 q.2.2.2.2.2.2.1.2.2.1 x_ x2_ x3_ rests_ out_) q.2.1 q.2.2.1 q.2.2.2.2.2.2.1.2.1 q.2.2.2.2.2.2.1.2.2.1 p.1.2.1 p.2.2.2.1.1 p.2.2.2.1.2.1 p.2.2.2.1.2.2.1 p.2.2.2.2.1 p.2.2.2.2.2.1 p.2.2.2.2.2.2.1.1 p.2.2.2.2.2.2.1.2.1 p.2.2.2.2.2.2.2.1.1 p.2.2.2.2.2.2.2.1.2.1 p.2.2.2.2.2.2.2.1.2.2.1).trans hp) a w hS
noncomputable def A3e(N:Nat):LpQ B7 true:=mkL (Z:=Qh) (Jh N) [⟨Fv N,Na N⟩] [.c [1,1,1,1,1,1,0,0,0,0,0],.c [1,1,1,1,1,1,0,0,0,0,1],.c [1,1,1,1,1,1,0,0,0,1],.l [1,1,1,1,1,1,0,0,0],.b 0,.c [1,1,1,1,1,1,1]] ⟨[4,5,6,8,9,10],⟨[.nils,.i .i64,.fe Qb,.own 0 0,.own 1 0,.own 2 0],[.segs [.mp 3],.segs [.ols 4],.segs [.i .i64,.i .i64,.i .i64],.map Qk Qc,.lst Qc]⟩⟩ (fun m p=>reading_l1 N m p.1.2.1 p.1.2.2.1 p.2.2.2.1.1 p.2.2.2.1.2.1 p.2.2.2.1.2.2.1 p.2.2.2.2.1 p.2.2.2.2.2.1) [⟨[.c [1,1,1,1,1,1,1,0],.c [1,1,1,1,1,1,1,1]],⟨[9],⟨[.own 0 0],[.segs [.ols 1],.lst Qc]⟩⟩,fun p=>some (p.2.2.1)⟩] (fun _=>[]) (fun k e=>k (.inl (((),()),(((),()),e,())))) N (fun m p=>by kernel_rfl)
noncomputable def Ad3(N:Nat):Spec:=mkS 5 ⟨[.agg [.sl Qf,.sl (.int .i64),.i .i64],.agg [.i .i64,.i .i64]],[]⟩ S4 (fun p=>reading_S N p.1.1.1 p.1.1.2.1 p.1.1.2.2.1 p.1.2.1.1 p.1.2.1.2.1) (fun k r=>k ((r.1,r.2,()),()))
theorem A0f(N:Nat):A2 Tryz.prog (Ad3 N):=mkF (R:=Qh×Int) (m0:=0) (Jh N) [⟨Fv N,Na N⟩,A3e N] (fun r=>some (r.1.1,r.1.2.1)) [] Tryz.func5 (fun p=>by kernel_rfl) (by kernel_rfl) (fun _=>by kernel_rfl)

def ereads_l1(N:Nat):Nat→Qh→Qe→Int→Qe→Int→Int→Qj→Qe→Int→Int→Int→Qj→Qe→Int→Qj→Qe→Int→Option ((Unit)⊕(Qh×Int×List Qe×List Int×Int×Int×Int×List Qe×List Int×Int×List Qe×List Int×Int))
 | 0,_,_,_,_,_,_,_,_,_,_,_,_,_,_,_,_,_=>none
 | n_+1,l,sure,least,u,u2,u3,x,x2,x3,p,p2,own,own2,own3,y,y2,y3=>
  br (decide (u3<u2))
   (idx u u3 fun x_27=>
   idx sure u3 fun x_28=>
   br (!decide (x_28=x_27))
    (some (.inl ()))
    (chk (u3+1)<|
    ereads_l1 N n_ l sure least u u2 (u3+1) x x2 x3 p p2 own own2 own3 y y2 y3))
   (some (.inr (l,least,x,x2,x3,p,p2,own,own2,own3,y,y2,y3)))
def ereads_S(N:Nat)(x:List Qe)(x2:List Int)(x3 p p2:Int):Option Bool:=
 (great_S N x x2 x3).bind fun x_1=>
 br x_1
  ((B0 N).bind fun x_2=>
  some x_2)
  ((S8 N x x2 x3 5 4).bind fun x_3=>
  br x_3
   ((B0 N).bind fun x_4=>
   some x_4)
   ((C9 N x x2 x3).bind fun(x_5,y_6,y_7)=>
   (C9 N x x2 x3).bind fun(x_8,y_9,y_10)=>
   (D7 N x_5 y_6 y_7).bind fun x_11=>
   (rcheck_S N x_8 y_9 y_10).bind fun x_12=>
   br (!decide (x_11=x_12))
    (some false)
    ((least_S N x_5 y_6 y_7 p p2).bind fun(x_13,y_14)=>
    (reading_S N x_5 y_6 y_7 p p2).bind fun(x_15,y_16)=>
    (Jl N x_5 y_6 y_7 p p2).bind fun(x_17,y_18)=>
    (Nu N x_5 y_6 y_7 p p2).bind fun(x_19,y_20)=>
    (Jj N x_8 y_9 y_10 p p2).bind fun x_21=>
    br (!decide (x_21=0))
     (br (decide (y_14=x_21))
      (br (decide (y_16=x_21))
       (br (decide (y_18=x_21))
        (br (decide (y_20=x_21))
         (chk (x_13+(x_15.length:Int))<|
         chk ((x_13+(x_15.length:Int))+x_17)<|
         chk (((x_13+(x_15.length:Int))+x_17)+(x_19.length:Int))<|
         br (decide ((((x_13+(x_15.length:Int))+x_17)+(x_19.length:Int))=0))
          ((Hy N x_5 y_6 y_7 x x2 x3).bind fun x_22=>
          br x_22
           ((B0 N).bind fun x_23=>
           some x_23)
           (some false))
          (some false))
         (some false))
        (some false))
       (some false))
      (some false))
     ((Lp N x_8 y_9 y_10 p p2).bind fun(x_24,y_25)=>
     br (!decide (y_14=0))
      (some false)
      (br (!decide (y_16=0))
       (some false)
       (br (!decide (y_18=0))
        (some false)
        (br (!decide (y_20=0))
         (some false)
         (br (!decide (x_13=y_25))
          (some false)
          (br (!decide (x_17=(x_24.length:Int)))
           (some false)
           (br (!decide ((x_19.length:Int)=(x2.length:Int)))
            (some false)
            ((Vh N x_8 y_9 y_10 x_24).bind fun x_26=>
            (ereads_l1 N N x_15 x_19 y_25 x_26 (x_26.length:Int) 0 x x2 x3 p p2 x_5 y_6 y_7 x_8 y_9 y_10).bind fun e=>match e with
            | .inl _=>
             some false
            | .inr (l_29,least_30,x_31,x2_32,x3_33,p_34,p2_35,own_36,own2_37,own3_38,y_39,y2_40,y3_41)=>
             (Lg N l_29).bind fun x_42=>
             (It N y_39 y2_40 y3_41 p_34 p2_35 x_42).bind fun(x_43,y_44)=>
             br (decide (y_44=0))
              (br (decide (x_43=least_30))
               ((Hy N own_36 own2_37 own3_38 x_31 x2_32 x3_33).bind fun x_45=>
               br x_45
                ((B0 N).bind fun x_46=>
                some x_46)
                (some false))
               (some false))
              (some false))))))))))))
noncomputable def A1f(N:Nat):Oks:=[⟨_,C0 N⟩,⟨_,La N⟩,⟨_,Tl N⟩,⟨_,Yd N⟩,⟨_,D2 N⟩,⟨_,F5 N⟩,⟨_,Dl N⟩,⟨_,Dy N⟩,⟨_,N0 N⟩,⟨_,Ex N⟩,⟨_,Wu N⟩,⟨_,P2 N⟩,⟨_,Gj N⟩,⟨_,J9 N⟩,⟨_,A7r N⟩,⟨_,A0f N⟩]
abbrev A9j:List StSh:=[⟨[.b],[]⟩]
noncomputable abbrev Alc:Body:=mkB Tryz.f8 A9j 0
noncomputable def A5b(N:Nat){top:Bool}:LpQ Alc top:=mkL (Z:=(Unit)⊕(Qh×Int×List Qe×List Int×Int×Int×Int×List Qe×List Int×Int×List Qe×List Int×Int)) (A1f N) [] [.c [1,1,1,1,1,1,1,1,1,1,1,0,1,0,0,0],.c [1,1,1,1,1,1,1,1,1,1,1,0,1,0,0,1],.l [1,1,1,1,1,1,1,1,1,1,1,0,1,0,0],.b 0,.c [1,1,1,1,1,1,1,1,1,1,1,1]] ⟨[2,3,5,6,9,13,17,146,147,148],⟨[.own 0 0,.own 1 0,.own 2 0,.own 3 0,.sl Qc,.sl (.int .i64),.i .i64,.sl (.int .i64),.i .i64,.i .i64],[.segs [.sl Qf,.sl (.int .i64),.i .i64],.segs [.i .i64,.i .i64],.segs [.sl Qf,.sl (.int .i64),.i .i64],.segs [.sl Qf,.sl (.int .i64),.i .i64]]⟩⟩ (fun m p=>ereads_l1 N m p.1.2.2.2.2.1 p.1.2.2.2.2.2.1 p.1.2.2.2.2.2.2.1 p.1.2.2.2.2.2.2.2.1 p.1.2.2.2.2.2.2.2.2.1 p.1.2.2.2.2.2.2.2.2.2.1 p.2.1.1 p.2.1.2.1 p.2.1.2.2.1 p.2.2.1.1 p.2.2.1.2.1 p.2.2.2.1.1 p.2.2.2.1.2.1 p.2.2.2.1.2.2.1 p.2.2.2.2.1.1 p.2.2.2.2.1.2.1 p.2.2.2.2.1.2.2.1) [⟨[.c [1,1,1,1,1,1,1,1,1,1,1,0,1,0,0,1,1,0,0,1,1,0,0],.c [1,1,1,1,1,1,1,1,1,1,1,0,1,0,0,1,1,0,0,1,1,0,1],.b 1,.c [1,1,1,1,1,1,1,1,1,1,1,0,1,0,0,1,1,1],.l [1,1,1,1,1,1,1,1,1,1,1,0,1,0,0],.b 0,.c [1,1,1,1,1,1,1,1,1,1,1,1]],⟨[],⟨[],[]⟩⟩,fun p=>some (.inl ())⟩,⟨[.c [1,1,1,1,1,1,1,1,1,1,1,1,0],.c [1,1,1,1,1,1,1,1,1,1,1,1,1]],⟨[2,3,5,6,9,17],⟨[.own 0 0,.own 1 0,.own 2 0,.own 3 0,.sl Qc,.i .i64],[.segs [.sl Qf,.sl (.int .i64),.i .i64],.segs [.i .i64,.i .i64],.segs [.sl Qf,.sl (.int .i64),.i .i64],.segs [.sl Qf,.sl (.int .i64),.i .i64]]⟩⟩,fun p=>some (.inr (p.1.2.2.2.2.1,p.1.2.2.2.2.2.1,p.2.1.1,p.2.1.2.1,p.2.1.2.2.1,p.2.2.1.1,p.2.2.1.2.1,p.2.2.2.1.1,p.2.2.2.1.2.1,p.2.2.2.1.2.2.1,p.2.2.2.2.1.1,p.2.2.2.2.1.2.1,p.2.2.2.2.1.2.2.1))⟩] (fun _=>[]) (fun k e=>match e with | .inl x=>k (.inl ((),())) | .inr x=>k (.inr (.inl (((),(),(),(),x.1,x.2.1,()),((x.2.2.1,x.2.2.2.1,x.2.2.2.2.1,()),(x.2.2.2.2.2.1,x.2.2.2.2.2.2.1,()),(x.2.2.2.2.2.2.2.1,x.2.2.2.2.2.2.2.2.1,x.2.2.2.2.2.2.2.2.2.1,()),(x.2.2.2.2.2.2.2.2.2.2.1,x.2.2.2.2.2.2.2.2.2.2.2.1,x.2.2.2.2.2.2.2.2.2.2.2.2,()),()))))) N (fun m p=>by kernel_rfl) (hg:=(by rintro _ _ (_ | _)<;>rfl))
noncomputable def Aet(N:Nat):Spec:=mkS 8 ⟨[.agg [.sl Qf,.sl (.int .i64),.i .i64],.agg [.i .i64,.i .i64]],[]⟩ A9j (fun p=>ereads_S N p.1.1.1 p.1.1.2.1 p.1.1.2.2.1 p.1.2.1.1 p.1.2.1.2.1) (fun k r=>k ((r,()),()))
theorem A39(N:Nat):A2 Tryz.prog (Aet N):=mkF (R:=Bool) (m0:=0) (A1f N) [A5b N] (fun r=>some r.1.1) [] Tryz.func8 (fun p=>by kernel_rfl) (by kernel_rfl) (fun _=>by kernel_rfl)

end Go.Proofs.YtfcnhnbnjdccfaaGreat

namespace Go.Proofs.YtfcnhnbnjdccfaaGreat
set_option linter.all false
open Go
def frzM(M:Nat→Option Obj)(S:List Nat)(n:Nat)(w:World):Nat→Option Obj:=fun b=>match M b with
 | some o=>some o
 | none=>if b∈S∨n≤b then(match w.heap[b]? with | some o=>if isCel o then some o else none | none=>none)else none
theorem A2k{M:Nat→Option Obj}{S:List Nat}{n:Nat}{w:World}(b:Nat)(o:Obj)(h:M b=some o):frzM M S n w b=some o:=by
 unfold frzM;rw[h]
theorem Ri{M:Nat→Option Obj}{S:List Nat}{n:Nat}{w:World}{b:Nat}{cs:Array Value}{ty:TypeId}{z:Nat×Nat}(h:M b=none)(hb:b∈S∨n≤b)(hw:w.heap[b]?=some (.cells cs ty z)):frzM M S n w b=some (.cells cs ty z):=by
 unfold frzM;rw[h];simp only[if_pos hb,hw,isCel];rfl
theorem L5{M:Nat→Option Obj}{S:List Nat}{n:Nat}{w:World}{b:Nat}{o:Obj}(h:frzM M S n w b=some o):M b=some o∨(M b=none∧(b∈S∨n≤b)∧w.heap[b]?=some o∧isCel o=true):=by
 unfold frzM at h
 cases e:M b with
 | some o'=>rw[e]at h;exact .inl h
 | none=>
  rw[e]at h
  dsimp only at h
  split at h
  ·rename_i hb
   split at h
   ·rename_i o' hw
    split at h
    ·rename_i hc
     cases h
     exact .inr ⟨rfl,hb,hw,hc⟩
    ·cases h
   ·cases h
  ·cases h
theorem A53{tm:Array Value}:∀(L:Tms),(∀p∈L,tm.getD p.1 undef=p.2)→∀t v,L.lookup t=some v→tm.getD t undef=v
 | [],_,t,v,h=>by simp at h
 | p::L,hL,t,v,h=>by
  rw[List.lookup_cons]at h
  split at h
  ·rename_i e
   have:=hL p (by simp)
   simp only[beq_iff_eq]at e
   rw[e]
   simp only[Option.some.injEq]at h
   rw[←h];exact this
  ·exact A53 L (fun q hq=>hL q (by simp[hq])) t v h
end Go.Proofs.YtfcnhnbnjdccfaaGreat
namespace Go.Proofs.YtfcnhnbnjdccfaaGreat
set_option linter.all false
open Go

theorem Upd.trans_old{S T:List Nat}{a b c:World}(h:Upd S a b)(k:Upd T b c)(hT:∀x∈T,a.heap.size≤x):Upd S a c:=
 ⟨k.os.trans h.os,k.tape.trans h.tape,k.output.trans h.output,Nat.le_trans h.size k.size,fun i hi hs=>(k.same i (Nat.lt_of_lt_of_le hi h.size) (fun hk=>by have:=hT i hk;omega)).trans (h.same i hi hs)⟩
end Go.Proofs.YtfcnhnbnjdccfaaGreat
namespace Go.Proofs.YtfcnhnbnjdccfaaGreat
set_option linter.all false
open Go
def Aj(w:World):Nat→Nat→List Value→List (List Int)→Prop
 | lo,hi,[],[]=>lo≤hi
 | lo,hi,v::vs,r::F=>∃b ty,v=.slice (some ⟨b,0,none⟩) r.length r.length∧lo≤b∧(∀x∈r,inR .i64 x)∧r.length≤1000∧Blk w b (r.map (.int .i64)) ty∧Aj w (b+1) hi vs F
 | _,_,_,_=>False
theorem Aj.le{w:World}:∀ {vs:List Value} {F:List (List Int)} {lo hi:Nat},Aj w lo hi vs F→lo≤hi
 | [],[],_,_,h=>h
 | [],_::_,_,_,h=>h.elim
 | _::_,[],_,_,h=>h.elim
 | v::vs,r::F,lo,hi,⟨b,ty,_,h1,_,_,_,h⟩=>by have:=Aj.le h;omega
theorem Aj.len{w:World}:∀ {vs:List Value} {F:List (List Int)} {lo hi:Nat},Aj w lo hi vs F→vs.length=F.length
 | [],[],_,_,_=>rfl
 | [],_::_,_,_,h=>h.elim
 | _::_,[],_,_,h=>h.elim
 | v::vs,r::F,lo,hi,⟨b,ty,_,h1,_,_,_,h⟩=>by simp[Aj.len h]
theorem Aj.upd{w w':World}{T:List Nat}(hu:Upd T w w'):∀ {vs:List Value} {F:List (List Int)} {lo hi:Nat},Aj w lo hi vs F→(∀k∈T,k<lo∨hi≤k)→Aj w' lo hi vs F
 | [],[],_,_,h,_=>h
 | [],_::_,_,_,h,_=>h.elim
 | _::_,[],_,_,h,_=>h.elim
 | v::vs,r::F,lo,hi,⟨b,ty,e,h1,h2,h3,h4,h⟩,hT=>by
  have hle:=Aj.le h
  exact⟨b,ty,e,h1,h2,h3,hu.blk h4 (fun hb=>by have:=hT b hb;omega),Aj.upd hu h (fun k hk=>by have:=hT k hk;omega)⟩
theorem Aj.hi{w:World}:∀ {vs:List Value} {F:List (List Int)} {lo hi hi':Nat},Aj w lo hi vs F→hi≤hi'→Aj w lo hi' vs F
 | [],[],_,_,_,h,h'=>Nat.le_trans h h'
 | [],_::_,_,_,_,h,_=>h.elim
 | _::_,[],_,_,_,h,_=>h.elim
 | v::vs,r::F,lo,hi,hi',⟨b,ty,e,h1,h2,h3,h4,h⟩,h'=>⟨b,ty,e,h1,h2,h3,h4,Aj.hi h h'⟩
theorem Aj.snoc{w:World}{b:Nat}{ty:TypeId}{r:List Int}(hi2:∀x∈r,inR .i64 x)(hr:r.length≤1000)(hB:Blk w b (r.map (.int .i64)) ty):∀ {vs:List Value} {F:List (List Int)} {lo hi:Nat},Aj w lo hi vs F→hi≤b→Aj w lo (b+1) (vs++[.slice (some ⟨b,0,none⟩) r.length r.length]) (F++[r])
 | [],[],lo,hi,h,hb=>⟨b,ty,rfl,Nat.le_trans h hb,hi2,hr,hB,Nat.le_refl _⟩
 | [],_::_,_,_,h,_=>h.elim
 | _::_,[],_,_,h,_=>h.elim
 | v::vs,q::F,lo,hi,⟨b',ty',e,h1,h2,h3,h4,h⟩,hb=>⟨b',ty',e,h1,h2,h3,h4,Aj.snoc hi2 hr hB h hb⟩
theorem Aj.at{w:World}:∀ {vs:List Value} {F:List (List Int)} {lo hi a:Nat},Aj w lo hi vs F→a<F.length→∃b ty,vs[a]?=some (.slice (some ⟨b,0,none⟩) (F.getD a []).length (F.getD a []).length)∧(lo≤b∧b<hi)∧(∀x∈F.getD a [],inR .i64 x)∧(F.getD a []).length≤1000∧Blk w b ((F.getD a []).map (.int .i64)) ty ∧
  ∀w' r',r'.length=(F.getD a []).length→(∀x∈r',inR .i64 x)→Upd [b] w w'→Blk w' b (r'.map (.int .i64)) ty→Aj w' lo hi vs (F.set a r')
 | [],[],_,_,_,_,h=>by simp at h
 | [],_::_,_,_,_,h,_=>h.elim
 | _::_,[],_,_,_,h,_=>h.elim
 | v::vs,r::F,lo,hi,0,⟨b,ty,e,h1,h2,h3,h4,h⟩,_=>by
  have hle:=Aj.le h
  refine⟨b,ty,by rw[e];rfl,⟨h1,by omega⟩,h2,h3,h4,fun w' r' hr hi' hu hB=>?_⟩
  have hr:r'.length=r.length:=hr
  exact⟨b,ty,by rw[e,hr],h1,hi',by omega,hB,Aj.upd hu h (fun k hk=>by simp at hk;omega)⟩
 | v::vs,r::F,lo,hi,a+1,⟨b,ty,e,h1,h2,h3,h4,h⟩,ha=>by
  obtain⟨b',ty',g1,g2,g3,g4,g5,g6⟩:=Aj.at h (by simpa using ha:a<F.length)
  refine⟨b',ty',g1,⟨by omega,g2.2⟩,g3,g4,g5,fun w' r' hr hi' hu hB=>?_⟩
  exact⟨b,ty,e,h1,h2,h3,hu.blk h4 (by simp;omega),g6 w' r' hr hi' hu hB⟩
def Ar(w:World):Nat→Nat→List Value→List (List (List Int))→Prop
 | lo,hi,[],[]=>lo≤hi
 | lo,hi,u::us,F::X=>∃m vs mid ty,u=.slice (some ⟨m,0,none⟩) F.length F.length∧lo≤m∧F.length≤1000∧Blk w m vs ty∧Aj w (m+1) mid vs F∧Ar w mid hi us X
 | _,_,_,_=>False
theorem Ar.le{w:World}:∀ {us:List Value} {X:List (List (List Int))} {lo hi:Nat},Ar w lo hi us X→lo≤hi
 | [],[],_,_,h=>h
 | [],_::_,_,_,h=>h.elim
 | _::_,[],_,_,h=>h.elim
 | u::us,F::X,lo,hi,⟨m,vs,mid,ty,_,h1,_,_,h2,h⟩=>by have:=Aj.le h2;have:=Ar.le h;omega
theorem Ar.len{w:World}:∀ {us:List Value} {X:List (List (List Int))} {lo hi:Nat},Ar w lo hi us X→us.length=X.length
 | [],[],_,_,_=>rfl
 | [],_::_,_,_,h=>h.elim
 | _::_,[],_,_,h=>h.elim
 | u::us,F::X,lo,hi,⟨m,vs,mid,ty,_,h1,_,_,h2,h⟩=>by simp[Ar.len h]
theorem Ar.upd{w w':World}{T:List Nat}(hu:Upd T w w'):∀ {us:List Value} {X:List (List (List Int))} {lo hi:Nat},Ar w lo hi us X→(∀k∈T,k<lo∨hi≤k)→Ar w' lo hi us X
 | [],[],_,_,h,_=>h
 | [],_::_,_,_,h,_=>h.elim
 | _::_,[],_,_,h,_=>h.elim
 | u::us,F::X,lo,hi,⟨m,vs,mid,ty,e,h1,h2,h3,h4,h⟩,hT=>by
  have l1:=Aj.le h4
  have l2:=Ar.le h
  exact⟨m,vs,mid,ty,e,h1,h2,hu.blk h3 (fun hb=>by have:=hT m hb;omega),Aj.upd hu h4 (fun k hk=>by have:=hT k hk;omega),Ar.upd hu h (fun k hk=>by have:=hT k hk;omega)⟩
theorem Ar.snoc{w:World}{m hi2:Nat}{vs:List Value}{ty:TypeId}{F:List (List Int)}(hF:F.length≤1000)(hB:Blk w m vs ty)(hR:Aj w (m+1) hi2 vs F):∀ {us:List Value} {X:List (List (List Int))} {lo hi:Nat},Ar w lo hi us X→hi≤m→Ar w lo hi2 (us++[.slice (some ⟨m,0,none⟩) F.length F.length]) (X++[F])
 | [],[],lo,hi,h,hb=>⟨m,vs,hi2,ty,rfl,Nat.le_trans h hb,hF,hB,hR,Nat.le_refl _⟩
 | [],_::_,_,_,h,_=>h.elim
 | _::_,[],_,_,h,_=>h.elim
 | u::us,F'::X,lo,hi,⟨m',vs',mid,ty',e,h1,h2,h3,h4,h⟩,hb=>⟨m',vs',mid,ty',e,h1,h2,h3,h4,Ar.snoc hF hB hR h hb⟩
theorem Ar.at{w:World}:∀ {us:List Value} {X:List (List (List Int))} {lo hi i:Nat},Ar w lo hi us X→i<X.length→∃m vs mid ty,us[i]?=some (.slice (some ⟨m,0,none⟩) (X.getD i []).length (X.getD i []).length)∧(lo≤m∧mid≤hi)∧(X.getD i []).length≤1000∧Blk w m vs ty∧Aj w (m+1) mid vs (X.getD i []) ∧
  ∀w' F' T,F'.length=(X.getD i []).length→Upd T w w'→(∀k∈T,m<k∧k<mid)→Aj w' (m+1) mid vs F'→Ar w' lo hi us (X.set i F')
 | [],[],_,_,_,_,h=>by simp at h
 | [],_::_,_,_,_,h,_=>h.elim
 | _::_,[],_,_,_,h,_=>h.elim
 | u::us,F::X,lo,hi,0,⟨m,vs,mid,ty,e,h1,h2,h3,h4,h⟩,_=>by
  have l1:=Aj.le h4
  have l2:=Ar.le h
  refine⟨m,vs,mid,ty,by rw[e];rfl,⟨h1,l2⟩,h2,h3,h4,fun w' F' T hF hu hT hR=>?_⟩
  have hF:F'.length=F.length:=hF
  exact⟨m,vs,mid,ty,by rw[e,hF],h1,by omega,hu.blk h3 (fun hb=>by have:=hT m hb;omega),hR,Ar.upd hu h (fun k hk=>by have:=hT k hk;omega)⟩
 | u::us,F::X,lo,hi,i+1,⟨m,vs,mid,ty,e,h1,h2,h3,h4,h⟩,hi2=>by
  obtain⟨m',vs',mid',ty',g1,g2,g3,g4,g5,g6⟩:=Ar.at h (by simpa using hi2:i<X.length)
  have l1:=Aj.le h4
  refine⟨m',vs',mid',ty',g1,⟨by omega,g2.2⟩,g3,g4,g5,fun w' F' T hF hu hT hR=>?_⟩
  exact⟨m,vs,mid,ty,e,h1,h2,hu.blk h3 (fun hb=>by have:=hT m hb;omega),Aj.upd hu h4 (fun k hk=>by have:=hT k hk;omega),g6 w' F' T hF hu hT hR⟩
theorem Aj.rep{M:Nat→Option Obj}{n:Nat}{w:World}{F:List (List Int)}{vs:List Value}{m lo hi:Nat}{ty:TypeId}(h:Aj w lo hi vs F)(hB:Blk w m vs ty)(hM:∀b o,M b=some o→b<n)(hn:n≤lo)(hm:n≤m)(hF:F.length≤1000) :
  RepS (frzM M [] n w) 1 (RepC (frzM M [] n w) (.sl (.int .i64))) F (.slice (some ⟨m,0,none⟩) F.length F.length):=by
 have nn:∀b,n≤b→M b=none:=fun b hb=>by
  cases e:M b with
  | none=>rfl
  | some o=>have:=hM b o e;omega
 refine⟨by omega,_,_,rfl,Nat.le_refl _,.inr ⟨m,0,vs,(ty,(0,0)),rfl,Ri (nn m hm) (.inr hm) hB,fun i x hx=>?_⟩⟩
 obtain⟨hi',rfl⟩:=List.getElem?_eq_some_iff.1 hx
 obtain⟨b,ty',g1,g2,g3,g4,g5,-⟩:=h.at hi'
 have e:F.getD i []=F[i]:=by simp[List.getD_eq_getElem?_getD,List.getElem?_eq_getElem hi']
 rw[e]at g1 g3 g4 g5
 refine⟨[.slice (some ⟨b,0,none⟩) F[i].length F[i].length],fun j u hj=>?_,_,rfl,?_⟩
 ·cases j with
  | zero=>
   simp only[List.getElem?_cons_zero,Option.some.injEq]at hj
   subst hj
   simpa using g1
  | succ j=>simp at hj
 ·refine⟨by omega,_,_,rfl,Nat.le_refl _,.inr ⟨b,0,_,(ty',(0,0)),rfl,Ri (nn b (by omega)) (.inr (by omega)) g5,fun k x hk=>?_⟩⟩
  refine⟨[.int .i64 x],fun j u hj=>?_,rfl,g3 x (List.mem_of_getElem? hk)⟩
  cases j with
  | zero=>
   simp only[List.getElem?_cons_zero,Option.some.injEq]at hj
   subst hj
   simp[Ty.cells,hk]
  | succ j=>simp at hj
theorem Ar.rep{M:Nat→Option Obj}{n:Nat}{w:World}{X:List (List (List Int))}{us:List Value}{bo lo hi:Nat}{ty:TypeId}(h:Ar w lo hi us X)(hB:Blk w bo us ty)(hM:∀b o,M b=some o→b<n)(hn:n≤lo)(hm:n≤bo)(hX:X.length≤1000) :
  RepS (frzM M [] n w) 1 (RepC (frzM M [] n w) (.sl (.sl (.int .i64)))) X (.slice (some ⟨bo,0,none⟩) X.length X.length):=by
 have nn:∀b,n≤b→M b=none:=fun b hb=>by
  cases e:M b with
  | none=>rfl
  | some o=>have:=hM b o e;omega
 refine⟨by omega,_,_,rfl,Nat.le_refl _,.inr ⟨bo,0,us,(ty,(0,0)),rfl,Ri (nn bo hm) (.inr hm) hB,fun i x hx=>?_⟩⟩
 obtain⟨hi',rfl⟩:=List.getElem?_eq_some_iff.1 hx
 obtain⟨m,vs,mid,ty',g1,g2,g3,g4,g5,-⟩:=h.at hi'
 have e:X.getD i []=X[i]:=by simp[List.getD_eq_getElem?_getD,List.getElem?_eq_getElem hi']
 rw[e]at g1 g3 g5
 refine⟨[.slice (some ⟨m,0,none⟩) X[i].length X[i].length],fun j u hj=>?_,_,rfl,g5.rep g4 hM (by omega) (by omega) g3⟩
 cases j with
 | zero=>
  simp only[List.getElem?_cons_zero,Option.some.injEq]at hj
  subst hj
  simpa using g1
 | succ j=>simp at hj
end Go.Proofs.YtfcnhnbnjdccfaaGreat

namespace Go.Proofs.YtfcnhnbnjdccfaaGreat
set_option linter.all false
open Go

noncomputable def c111:Code:=(Tryz.f18.body).getD .skip
noncomputable def Aof:List Item:=[.code (sub c111 [0]),.code (sub c111 [1])]
noncomputable def Aoz:List Item:=[.code (sub c111 [1,0]),.code (sub c111 [1,1])]
noncomputable def Aps:List Item:=[.code (sub c111 [1,1,0,0]),.code (sub c111 [1,1,0,1]),.code (sub c111 [1,1,1])]
noncomputable def A3n:List Item:=[.code (sub c111 [1,1,0,1,0,0,0]),.code (sub c111 [1,1,0,1,0,0,1]),.inLoop (sub c111 [1,1,0,1,0,0]),.inBlock 0,.code (sub c111 [1,1,1])]
noncomputable def Ap8:List Item:=[.code (sub c111 [1,1,0,1,0,0,1,0]),.code (sub c111 [1,1,0,1,0,0,1,1]),.inLoop (sub c111 [1,1,0,1,0,0]),.inBlock 0,.code (sub c111 [1,1,1])]
noncomputable def Aoj:List Item:=[.code (sub c111 [1,1,0,1,0,0,1,1,0,0,0]),.code (sub c111 [1,1,0,1,0,0,1,1,0,0,1]),.inBlock 1,.code (sub c111 [1,1,0,1,0,0,1,1,1]),.inLoop (sub c111 [1,1,0,1,0,0]),.inBlock 0,.code (sub c111 [1,1,1])]
noncomputable def Aj6:List Item:=[.code (sub c111 [1,1,1,0]),.code (sub c111 [1,1,1,1])]
noncomputable def Aoi:List Item:=[.code (sub c111 [1,1,0,1,0,0,1,1,0,0,1,0]),.code (sub c111 [1,1,0,1,0,0,1,1,0,0,1,1]),.inBlock 1,.code (sub c111 [1,1,0,1,0,0,1,1,1]),.inLoop (sub c111 [1,1,0,1,0,0]),.inBlock 0,.code (sub c111 [1,1,1])]
noncomputable def Ap1:List Item:=[.code (sub c111 [1,1,1,1])]
noncomputable def Apk:List Item:=[.code (sub c111 [1,1,0,1,0,0,1,1,0,0,1,1,0]),.code (sub c111 [1,1,0,1,0,0,1,1,0,0,1,1,1]),.inBlock 1,.code (sub c111 [1,1,0,1,0,0,1,1,1]),.inLoop (sub c111 [1,1,0,1,0,0]),.inBlock 0,.code (sub c111 [1,1,1])]
noncomputable def Vs:List Item:=[.code (sub c111 [1,1,0,1,0,0,1,1,0,0,1,1,1,0,0,0]),.code (sub c111 [1,1,0,1,0,0,1,1,0,0,1,1,1,0,0,1]),.inLoop (sub c111 [1,1,0,1,0,0,1,1,0,0,1,1,1,0,0]),.inBlock 2,.inBlock 1,.code (sub c111 [1,1,0,1,0,0,1,1,1]),.inLoop (sub c111 [1,1,0,1,0,0]),.inBlock 0,.code (sub c111 [1,1,1])]
noncomputable def Amn:List Item:=[.code (sub c111 [1,1,0,1,0,0,1,1,0,0,1,1,1,0,0,1,0]),.code (sub c111 [1,1,0,1,0,0,1,1,0,0,1,1,1,0,0,1,1]),.inLoop (sub c111 [1,1,0,1,0,0,1,1,0,0,1,1,1,0,0]),.inBlock 2,.inBlock 1,.code (sub c111 [1,1,0,1,0,0,1,1,1]),.inLoop (sub c111 [1,1,0,1,0,0]),.inBlock 0,.code (sub c111 [1,1,1])]
noncomputable def Amo:List Item:=[.code (sub c111 [1,1,0,1,0,0,1,1,0,0,1,1,1,0,0,1,1,0,0,0]),.code (sub c111 [1,1,0,1,0,0,1,1,0,0,1,1,1,0,0,1,1,0,0,1]),.inBlock 3,.code (sub c111 [1,1,0,1,0,0,1,1,0,0,1,1,1,0,0,1,1,1]),.inLoop (sub c111 [1,1,0,1,0,0,1,1,0,0,1,1,1,0,0]),.inBlock 2,.inBlock 1,.code (sub c111 [1,1,0,1,0,0,1,1,1]),.inLoop (sub c111 [1,1,0,1,0,0]),.inBlock 0,.code (sub c111 [1,1,1])]
noncomputable def Ae8:List Item:=[.code (sub c111 [1,1,0,1,0,0,1,1,1]),.inLoop (sub c111 [1,1,0,1,0,0]),.inBlock 0,.code (sub c111 [1,1,1])]
noncomputable def An9:List Item:=[.code (sub c111 [1,1,0,1,0,0,1,1,0,0,1,1,1,0,0,1,1,0,0,1]),.inBlock 3,.code (sub c111 [1,1,0,1,0,0,1,1,0,0,1,1,1,0,0,1,1,1]),.inLoop (sub c111 [1,1,0,1,0,0,1,1,0,0,1,1,1,0,0]),.inBlock 2,.inBlock 1,.code (sub c111 [1,1,0,1,0,0,1,1,1]),.inLoop (sub c111 [1,1,0,1,0,0]),.inBlock 0,.code (sub c111 [1,1,1])]
noncomputable def Anc:List Item:=[.code (sub c111 [1,1,0,1,0,0,1,1,0,0,1,1,1,0,0,1,1,1]),.inLoop (sub c111 [1,1,0,1,0,0,1,1,0,0,1,1,1,0,0]),.inBlock 2,.inBlock 1,.code (sub c111 [1,1,0,1,0,0,1,1,1]),.inLoop (sub c111 [1,1,0,1,0,0]),.inBlock 0,.code (sub c111 [1,1,1])]

def Cv(A B:Nat):List (List Int):=List.replicate A (List.replicate B 0)
def Ck(I A B:Nat):List (List (List Int)):=List.replicate I (Cv A B)
theorem Al8(B:Nat):∀x∈List.replicate B (0:Int),inR .i64 x:=fun x hx=>by
 rw[(List.mem_replicate.1 hx).2];constructor<;>decide
theorem addI{n:Nat}(h:n≤900):Value.int .i64 (IntKind.i64.wrap ((n:Int)+1))=.int .i64 ((n+1:Nat):Int):=by
 have:=int64 (z:=(n:Int)+1) (by omega)
 rw[this];congr 1
theorem Xw{v:Value}(hv:v.cells.toList=[v])(n:Nat):(List.replicate n v.cells.toList).flatten=List.replicate n v:=by
 rw[hv]
 induction n with
 | zero=>rfl
 | succ k ih=>rw[List.replicate_succ,List.flatten_cons,ih];rfl
set_option maxHeartbeats 1000000 in
theorem Al1{X:Ctx}{df:List Deferred}(bd od m bo nH nA nB cB i:Nat)(aB:Option Addr)(us:List Value)(tyM tyO:TypeId)(w0:World)(hnB:nB≤900)(hnA:nA≤900)(hi:i<nH+1)(hdm:bd≠m)(hom:bo≠m)(hcB:w0.cell? ⟨bd,od+4,none⟩=some (.slice aB nB cB))(hO:Blk w0 bo us tyO)(hui:us[i]?=some (.slice (some ⟨m,0,none⟩) (nA+1) (nA+1)))(hM:Blk w0 m (List.replicate (nA+1) (.slice none 0 0)) tyM)(hsz:w0.heap.size=m+1)
  (hk:∀vs w,Upd [m] w0 w→Blk w m vs tyM→Aj w (m+1) w.heap.size vs (Cv (nA+1) (nB+1))→St Tryz.prog X 58 Ae8 [(0,(.pointer (some ⟨bd,od,none⟩))),(3,(.slice (some ⟨bo,0,none⟩) (nH+1) (nH+1))),(20,(.int .i64 ((nH+1:Nat):Int))),(21,(.int .i64 (i:Int)))] df w) :
  St Tryz.prog X 58 Vs [(39,.int .i64 0),(38,(.int .i64 ((nA+1:Nat):Int))),(0,(.pointer (some ⟨bd,od,none⟩))),(3,(.slice (some ⟨bo,0,none⟩) (nH+1) (nH+1))),(20,(.int .i64 ((nH+1:Nat):Int))),(21,(.int .i64 (i:Int))),(4,(.int .i64 (i:Int)))] df w0:=by
 obtain⟨-,-,by1,zv,hT,-⟩:=Cq (P:=Tryz.prog) (t:=22) (e:=3) (y:=.int .i64) (by kernel_rfl)
 have hT:N6 Tryz.prog 22 3 1 by1 zv:=hT
 have hz:zv=.int .i64 0:=by
  have h1:=hT.zero
  have h2:Sem.pv Tryz.prog (zeroValue 3)=some (.int .i64 0):=by kernel_rfl
  rw[h2]at h1
  exact(Option.some.inj h1).symm
 subst hz
 have hbdl:bo<w0.heap.size:=A8 hO
 have loop:∀(N a:Nat) (vs:List Value) (w:World),a≤nA+1→N=nA+1-a→Upd [m] w0 w→Blk w m (vs++List.replicate (nA+1-a) (.slice none 0 0)) tyM→Aj w (m+1) w.heap.size vs (Cv a (nB+1)) →
   St Tryz.prog X 58 Vs [(39,(.int .i64 (a:Int))),(38,(.int .i64 ((nA+1:Nat):Int))),(0,(.pointer (some ⟨bd,od,none⟩))),(3,(.slice (some ⟨bo,0,none⟩) (nH+1) (nH+1))),(20,(.int .i64 ((nH+1:Nat):Int))),(21,(.int .i64 (i:Int))),(4,(.int .i64 (i:Int)))] df w:=by
  intro N
  induction N using Nat.strongRecOn with
  | ind N ih=>?_
  intro a vs w ha hN hu hb hR
  have hlen:vs.length=a:=by rw[hR.len];simp[Cv]
  refine St.reg Amn [(0,true)] (by kernel_rfl) (by kernel_rfl) ?_
  refine RX.q 1 [] [(40,.bool (decide ((a:Int)<((nA+1:Nat):Int)))),(39,(.int .i64 (a:Int))),(38,(.int .i64 ((nA+1:Nat):Int))),(0,(.pointer (some ⟨bd,od,none⟩))),(3,(.slice (some ⟨bo,0,none⟩) (nH+1) (nH+1))),(20,(.int .i64 ((nH+1:Nat):Int))),(21,(.int .i64 (i:Int))),(4,(.int .i64 (i:Int)))] [] (by kernel_rfl) trivial ?_
  refine RX.done [(40,.bool (decide ((a:Int)<((nA+1:Nat):Int)))),(39,(.int .i64 (a:Int))),(38,(.int .i64 ((nA+1:Nat):Int))),(0,(.pointer (some ⟨bd,od,none⟩))),(3,(.slice (some ⟨bo,0,none⟩) (nH+1) (nH+1))),(20,(.int .i64 ((nH+1:Nat):Int))),(21,(.int .i64 (i:Int))),(4,(.int .i64 (i:Int)))] (by kernel_rfl) (by kernel_rfl) ?_
  refine St.cond (k1:=Amo) (k2:=Ae8) (decide ((a:Int)<((nA+1:Nat):Int))) (by kernel_rfl) (fun hc=>?_) (fun hc=>?_)
  rotate_left
  ·have hh:((nA+1:Nat):Int)≤(a:Int):=by simpa using hc
   clear hc
   obtain rfl:a=nA+1:=by omega
   exact St.weak (L':=[(0,(.pointer (some ⟨bd,od,none⟩))),(3,(.slice (some ⟨bo,0,none⟩) (nH+1) (nH+1))),(20,(.int .i64 ((nH+1:Nat):Int))),(21,(.int .i64 (i:Int)))]) (by kernel_rfl) (hk vs w hu (by simpa using hb) hR)
  have hh:(a:Int)<((nA+1:Nat):Int):=by simpa using hc
  clear hc
  have hal:a<nA+1:=by omega
  refine St.weak (L':=[(39,(.int .i64 (a:Int))),(38,(.int .i64 ((nA+1:Nat):Int))),(0,(.pointer (some ⟨bd,od,none⟩))),(3,(.slice (some ⟨bo,0,none⟩) (nH+1) (nH+1))),(20,(.int .i64 ((nH+1:Nat):Int))),(21,(.int .i64 (i:Int))),(4,(.int .i64 (i:Int)))]) (by kernel_rfl) ?_
  refine St.reg An9 [(0,true),(1,true)] (by kernel_rfl) (by kernel_rfl) ?_
  refine RX.q 2 [] [(5,(.int .i64 (a:Int))),(39,(.int .i64 (a:Int))),(38,(.int .i64 ((nA+1:Nat):Int))),(0,(.pointer (some ⟨bd,od,none⟩))),(3,(.slice (some ⟨bo,0,none⟩) (nH+1) (nH+1))),(20,(.int .i64 ((nH+1:Nat):Int))),(21,(.int .i64 (i:Int))),(4,(.int .i64 (i:Int)))] [] (by kernel_rfl) trivial ?_
  refine RX.done [(5,(.int .i64 (a:Int))),(39,(.int .i64 (a:Int))),(38,(.int .i64 ((nA+1:Nat):Int))),(0,(.pointer (some ⟨bd,od,none⟩))),(3,(.slice (some ⟨bo,0,none⟩) (nH+1) (nH+1))),(20,(.int .i64 ((nH+1:Nat):Int))),(21,(.int .i64 (i:Int))),(4,(.int .i64 (i:Int)))] (by kernel_rfl) (by kernel_rfl) ?_
  refine St.drw Anc [] [(0,true),(1,true),(2,true),(3,true),(4,true),(5,true),(6,true),(7,true),(8,true),(9,true),(10,true),(11,false),(12,true),(13,false)] mixed (by kernel_rfl) (by kernel_rfl) ?_
  intro w1 hd hds
  have hu1:Upd [m] w0 w1:=Upd.ext hu hd
  have hixI:∀w',(Instr.indexAt 33 (.slice (some ⟨bo,0,none⟩) (nH+1) (nH+1)) (.int .i64 (i:Int))).run Tryz.prog w'=.ok (.pointer (some ⟨bo,0+i*1,none⟩)) w':=fun w'=>Jm (e:=23) (sz:=1) (by kernel_rfl) (by kernel_rfl) bo 0 (nH+1) (nH+1) i hi _
  have hixA:∀w',(Instr.indexAt 23 (.slice (some ⟨m,0,none⟩) (nA+1) (nA+1)) (.int .i64 (a:Int))).run Tryz.prog w'=.ok (.pointer (some ⟨m,0+a*1,none⟩)) w':=fun w'=>Jm (e:=22) (sz:=1) (by kernel_rfl) (by kernel_rfl) m 0 (nA+1) (nA+1) a hal _
  have hcI:w1.cell? ⟨bo,0+i*1,none⟩=some (.slice (some ⟨m,0,none⟩) (nA+1) (nA+1)):=by
   rw[show 0+i*1=i by omega]
   exact Blk.cell (hu1.blk hO (by simp[hom])) hui
  have hcB1:w1.cell? ⟨bd,od+4,none⟩=some (.slice aB nB cB):=hu1.cell hcB (by simp[hdm])
  refine RX.qd 11 [(2,true,(.pointer (some ⟨bo,0+i*1,none⟩))),(3,true,(.slice (some ⟨m,0,none⟩) (nA+1) (nA+1))),(8,true,(.slice aB nB cB)),(10,false,(.int .i64 ((nB+1:Nat):Int)))] [(52,(.int .i64 ((nB+1:Nat):Int))),(45,(.slice (some ⟨m,0,none⟩) (nA+1) (nA+1))),(46,(.int .i64 (a:Int))),(39,(.int .i64 (a:Int))),(38,(.int .i64 ((nA+1:Nat):Int))),(0,(.pointer (some ⟨bd,od,none⟩))),(3,(.slice (some ⟨bo,0,none⟩) (nH+1) (nH+1))),(20,(.int .i64 ((nH+1:Nat):Int))),(21,(.int .i64 (i:Int))),(4,(.int .i64 (i:Int)))] [.raw (Instr.indexAt 33 (.slice (some ⟨bo,0,none⟩) (nH+1) (nH+1)) (.int .i64 (i:Int))) (.pointer (some ⟨bo,0+i*1,none⟩)),.cell ⟨bo,0+i*1,none⟩ (.slice (some ⟨m,0,none⟩) (nA+1) (nA+1)),.cell ⟨bd,od+4,none⟩ (.slice aB nB cB),.eq (.int .i64 (IntKind.i64.wrap ((nB:Int)+1))) (.int .i64 ((nB+1:Nat):Int))] (by kernel_rfl) ⟨hixI _,hcI,hcB1,addI hnB⟩ ⟨fun w' _=>hixI w',List.not_mem_nil,List.not_mem_nil,trivial⟩ ?_
  obtain⟨b,w2,hr2,hn2⟩:=Cr hT (nB+1) (by omega) w1
  have hs2:=hn2.size;have ha2:=hn2.at_
  have hx2:Ext w w2:=hd.trans hn2.ext
  refine RX.runD 53 (Instr.makeSlice 22 (.int .i64 ((nB+1:Nat):Int)) (.int .i64 ((nB+1:Nat):Int))) [(52,(.int .i64 ((nB+1:Nat):Int))),(45,(.slice (some ⟨m,0,none⟩) (nA+1) (nA+1))),(46,(.int .i64 (a:Int))),(39,(.int .i64 (a:Int))),(38,(.int .i64 ((nA+1:Nat):Int))),(0,(.pointer (some ⟨bd,od,none⟩))),(3,(.slice (some ⟨bo,0,none⟩) (nH+1) (nH+1))),(20,(.int .i64 ((nH+1:Nat):Int))),(21,(.int .i64 (i:Int))),(4,(.int .i64 (i:Int)))] (by kernel_rfl) hr2 hn2.ext ?_
  refine RX.qd 1 [(12,true,(.pointer (some ⟨m,0+a*1,none⟩)))] [(54,(.pointer (some ⟨m,0+a*1,none⟩))),(53,(.slice (some ⟨b,0,none⟩) (nB+1) (nB+1))),(39,(.int .i64 (a:Int))),(38,(.int .i64 ((nA+1:Nat):Int))),(0,(.pointer (some ⟨bd,od,none⟩))),(3,(.slice (some ⟨bo,0,none⟩) (nH+1) (nH+1))),(20,(.int .i64 ((nH+1:Nat):Int))),(21,(.int .i64 (i:Int))),(4,(.int .i64 (i:Int)))] [.raw (Instr.indexAt 23 (.slice (some ⟨m,0,none⟩) (nA+1) (nA+1)) (.int .i64 (a:Int))) (.pointer (some ⟨m,0+a*1,none⟩))] (by kernel_rfl) (hixA _) (fun w' _=>hixA w') ?_
  rw[show 0+a*1=a by omega]
  have hb2:Blk w2 m (vs++List.replicate (nA+1-a) (.slice none 0 0)) tyM:=Ext.blk hx2 hb
  have hml:=A8 hb
  refine RX.store1L m a (.slice (some ⟨b,0,none⟩) (nB+1) (nB+1)) (vs++List.replicate (nA+1-a) (.slice none 0 0)) tyM (by kernel_rfl) rfl hb2 (by simp;omega) (by kernel_rfl) ?_
  intro w3 hp
  have hs3:=hp.size
  refine RX.done [(39,(.int .i64 (a:Int))),(38,(.int .i64 ((nA+1:Nat):Int))),(0,(.pointer (some ⟨bd,od,none⟩))),(3,(.slice (some ⟨bo,0,none⟩) (nH+1) (nH+1))),(20,(.int .i64 ((nH+1:Nat):Int))),(21,(.int .i64 (i:Int))),(4,(.int .i64 (i:Int)))] (by kernel_rfl) (by kernel_rfl) ?_
  refine St.reg Vs [(0,true),(1,true)] (by kernel_rfl) (by kernel_rfl) ?_
  refine RX.q 2 [(0,false,.int .i64 ((a:Int)+1))] [(39,.int .i64 ((a:Int)+1)),(38,(.int .i64 ((nA+1:Nat):Int))),(0,(.pointer (some ⟨bd,od,none⟩))),(3,(.slice (some ⟨bo,0,none⟩) (nH+1) (nH+1))),(20,(.int .i64 ((nH+1:Nat):Int))),(21,(.int .i64 (i:Int))),(4,(.int .i64 (i:Int)))] [.eq (.int .i64 (IntKind.i64.wrap ((a:Int)+1))) (.int .i64 ((a:Int)+1))] (by kernel_rfl) (int64 (by omega)) ?_
  refine RX.done [(39,.int .i64 ((a:Int)+1)),(38,(.int .i64 ((nA+1:Nat):Int))),(0,(.pointer (some ⟨bd,od,none⟩))),(3,(.slice (some ⟨bo,0,none⟩) (nH+1) (nH+1))),(20,(.int .i64 ((nH+1:Nat):Int))),(21,(.int .i64 (i:Int))),(4,(.int .i64 (i:Int)))] (by kernel_rfl) (by kernel_rfl) ?_
  have hds1:=hd.size
  have hR2:Aj w2 (m+1) w.heap.size vs (Cv a (nB+1)):=Aj.upd hx2 hR (fun k hk=>by cases hk)
  have hBb:Blk w2 b ((List.replicate (nB+1) (0:Int)).map (.int .i64)) 3:=by
   have h:=hn2.blk
   rw[Xw rfl,←List.map_replicate (f:=Value.int .i64)]at h
   exact h
  have hR3:=Aj.snoc (Al8 (nB+1)) (by simp;omega) hBb hR2 (by omega)
  have hR4:Aj w3 (m+1) w3.heap.size (vs++[(.slice (some ⟨b,0,none⟩) (nB+1) (nB+1))]) (Cv (a+1) (nB+1)):=by
   have h:=Aj.upd hp.upd hR3 (fun k hk=>by simp at hk;omega)
   rw[List.length_replicate]at h
   have e:Cv a (nB+1)++[List.replicate (nB+1) 0]=Cv (a+1) (nB+1):=List.replicate_succ'.symm
   rw[e]at h
   exact h.hi (by omega)
  have hb3:Blk w3 m ((vs++[(.slice (some ⟨b,0,none⟩) (nB+1) (nB+1))])++List.replicate (nA+1-(a+1)) (.slice none 0 0)) tyM:=by
   have h:=hp.blk
   rw[show(vs++List.replicate (nA+1-a) (Value.slice none 0 0)).set a (.slice (some ⟨b,0,none⟩) (nB+1) (nB+1))=(vs++[(.slice (some ⟨b,0,none⟩) (nB+1) (nB+1))])++List.replicate (nA+1-(a+1)) (.slice none 0 0)from by
    rw[show nA+1-a=(nA+1-(a+1))+1 by omega,List.replicate_succ,List.set_append_right _ _ (by omega),hlen,Nat.sub_self]
    simp]at h
   exact h
  exact St.weak (by kernel_rfl) (ih _ (by omega) (a+1) (vs++[(.slice (some ⟨b,0,none⟩) (nB+1) (nB+1))]) w3 (by omega) rfl ((Upd.ext hu hx2).trans hp.upd) hb3 hR4)
 exact St.weak (by kernel_rfl) (loop _ 0 [] w0 (by omega) rfl (Upd.refl _ _) (by simpa using hM) (by rw[hsz];exact Nat.le_refl _))
set_option maxHeartbeats 1000000 in
theorem Af5{X:Ctx}{df:List Deferred}(bd od bo nH nA nB cA cB:Nat)(aA aB:Option Addr)(tyO:TypeId)(w0:World)(hnB:nB≤900)(hnA:nA≤900)(hnH:nH≤900)(hdb:bd<bo)(hcA:w0.cell? ⟨bd,od+3,none⟩=some (.slice aA nA cA))(hcB:w0.cell? ⟨bd,od+4,none⟩=some (.slice aB nB cB))(hO:Blk w0 bo (List.replicate (nH+1) (.slice none 0 0)) tyO)(hsz:w0.heap.size=bo+1)
  (hk:∀us w,Upd [bo] w0 w→Blk w bo us tyO→Ar w (bo+1) w.heap.size us (Ck (nH+1) (nA+1) (nB+1))→St Tryz.prog X 58 Aj6 [(3,(.slice (some ⟨bo,0,none⟩) (nH+1) (nH+1)))] df w) :
  St Tryz.prog X 58 A3n [(21,.int .i64 0),(0,(.pointer (some ⟨bd,od,none⟩))),(3,(.slice (some ⟨bo,0,none⟩) (nH+1) (nH+1))),(20,(.int .i64 ((nH+1:Nat):Int)))] df w0:=by
 obtain⟨-,-,by1,zv,hT,-⟩:=Cq (P:=Tryz.prog) (t:=23) (e:=22) (y:=.sl (.int .i64)) (by kernel_rfl)
 have hT:N6 Tryz.prog 23 22 1 by1 zv:=hT
 have hz:zv=.slice none 0 0:=by
  have h1:=hT.zero
  have h2:Sem.pv Tryz.prog (zeroValue 22)=some (.slice none 0 0):=by kernel_rfl
  rw[h2]at h1
  exact(Option.some.inj h1).symm
 subst hz
 have loop:∀(N i:Nat) (us:List Value) (w:World),i≤nH+1→N=nH+1-i→Upd [bo] w0 w→Blk w bo (us++List.replicate (nH+1-i) (.slice none 0 0)) tyO→Ar w (bo+1) w.heap.size us (Ck i (nA+1) (nB+1)) →
   St Tryz.prog X 58 A3n [(21,(.int .i64 (i:Int))),(0,(.pointer (some ⟨bd,od,none⟩))),(3,(.slice (some ⟨bo,0,none⟩) (nH+1) (nH+1))),(20,(.int .i64 ((nH+1:Nat):Int)))] df w:=by
  intro N
  induction N using Nat.strongRecOn with
  | ind N ih=>?_
  intro i us w hi hN hu hb hR
  have hlen:us.length=i:=by rw[hR.len];simp[Ck]
  have hws:=hu.size
  refine St.reg Ap8 [(0,true)] (by kernel_rfl) (by kernel_rfl) ?_
  refine RX.q 1 [] [(22,.bool (decide ((i:Int)<((nH+1:Nat):Int)))),(21,(.int .i64 (i:Int))),(0,(.pointer (some ⟨bd,od,none⟩))),(3,(.slice (some ⟨bo,0,none⟩) (nH+1) (nH+1))),(20,(.int .i64 ((nH+1:Nat):Int)))] [] (by kernel_rfl) trivial ?_
  refine RX.done [(22,.bool (decide ((i:Int)<((nH+1:Nat):Int)))),(21,(.int .i64 (i:Int))),(0,(.pointer (some ⟨bd,od,none⟩))),(3,(.slice (some ⟨bo,0,none⟩) (nH+1) (nH+1))),(20,(.int .i64 ((nH+1:Nat):Int)))] (by kernel_rfl) (by kernel_rfl) ?_
  refine St.cond (k1:=Aoj) (k2:=Aj6) (decide ((i:Int)<((nH+1:Nat):Int))) (by kernel_rfl) (fun hc=>?_) (fun hc=>?_)
  rotate_left
  ·have hh:((nH+1:Nat):Int)≤(i:Int):=by simpa using hc
   clear hc
   obtain rfl:i=nH+1:=by omega
   exact St.weak (L':=[(3,(.slice (some ⟨bo,0,none⟩) (nH+1) (nH+1)))]) (by kernel_rfl) (hk us w hu (by simpa using hb) hR)
  have hh:(i:Int)<((nH+1:Nat):Int):=by simpa using hc
  clear hc
  have hil:i<nH+1:=by omega
  refine St.weak (L':=[(21,(.int .i64 (i:Int))),(0,(.pointer (some ⟨bd,od,none⟩))),(3,(.slice (some ⟨bo,0,none⟩) (nH+1) (nH+1))),(20,(.int .i64 ((nH+1:Nat):Int)))]) (by kernel_rfl) ?_
  refine St.reg Aoi [(0,true),(1,true)] (by kernel_rfl) (by kernel_rfl) ?_
  refine RX.q 2 [] [(4,(.int .i64 (i:Int))),(21,(.int .i64 (i:Int))),(0,(.pointer (some ⟨bd,od,none⟩))),(3,(.slice (some ⟨bo,0,none⟩) (nH+1) (nH+1))),(20,(.int .i64 ((nH+1:Nat):Int)))] [] (by kernel_rfl) trivial ?_
  refine RX.done [(4,(.int .i64 (i:Int))),(21,(.int .i64 (i:Int))),(0,(.pointer (some ⟨bd,od,none⟩))),(3,(.slice (some ⟨bo,0,none⟩) (nH+1) (nH+1))),(20,(.int .i64 ((nH+1:Nat):Int)))] (by kernel_rfl) (by kernel_rfl) ?_
  have hcA1:w.cell? ⟨bd,od+3,none⟩=some (.slice aA nA cA):=hu.cell hcA (by simp;omega)
  have hcB1:w.cell? ⟨bd,od+4,none⟩=some (.slice aB nB cB):=hu.cell hcB (by simp;omega)
  have hixI:∀w',(Instr.indexAt 33 (.slice (some ⟨bo,0,none⟩) (nH+1) (nH+1)) (.int .i64 (i:Int))).run Tryz.prog w'=.ok (.pointer (some ⟨bo,0+i*1,none⟩)) w':=fun w'=>Jm (e:=23) (sz:=1) (by kernel_rfl) (by kernel_rfl) bo 0 (nH+1) (nH+1) i hil _
  refine St.reg Apk [(0,true),(1,true),(2,true),(3,true),(4,true),(5,true),(6,true),(7,true),(8,false),(9,true),(10,false)] (by kernel_rfl) (by kernel_rfl) ?_
  refine RX.q 8 [(5,true,(.slice aA nA cA)),(7,false,(.int .i64 ((nA+1:Nat):Int)))] [(31,(.int .i64 ((nA+1:Nat):Int))),(24,(.slice (some ⟨bo,0,none⟩) (nH+1) (nH+1))),(25,(.int .i64 (i:Int))),(4,(.int .i64 (i:Int))),(21,(.int .i64 (i:Int))),(0,(.pointer (some ⟨bd,od,none⟩))),(3,(.slice (some ⟨bo,0,none⟩) (nH+1) (nH+1))),(20,(.int .i64 ((nH+1:Nat):Int)))] [.cell ⟨bd,od+3,none⟩ (.slice aA nA cA),.eq (.int .i64 (IntKind.i64.wrap ((nA:Int)+1))) (.int .i64 ((nA+1:Nat):Int))] (by kernel_rfl) ⟨hcA1,addI hnA⟩ ?_
  obtain⟨m,w2,hr2,hn2⟩:=Cr hT (nA+1) (by omega) w
  have hs2:=hn2.size;have ha2:=hn2.at_
  refine RX.run 32 (Instr.makeSlice 23 (.int .i64 ((nA+1:Nat):Int)) (.int .i64 ((nA+1:Nat):Int))) [(31,(.int .i64 ((nA+1:Nat):Int))),(24,(.slice (some ⟨bo,0,none⟩) (nH+1) (nH+1))),(25,(.int .i64 (i:Int))),(4,(.int .i64 (i:Int))),(21,(.int .i64 (i:Int))),(0,(.pointer (some ⟨bd,od,none⟩))),(3,(.slice (some ⟨bo,0,none⟩) (nH+1) (nH+1))),(20,(.int .i64 ((nH+1:Nat):Int)))] (by kernel_rfl) hr2 ?_
  refine RX.q 1 [(9,true,(.pointer (some ⟨bo,0+i*1,none⟩)))] [(33,(.pointer (some ⟨bo,0+i*1,none⟩))),(32,(.slice (some ⟨m,0,none⟩) (nA+1) (nA+1))),(4,(.int .i64 (i:Int))),(21,(.int .i64 (i:Int))),(0,(.pointer (some ⟨bd,od,none⟩))),(3,(.slice (some ⟨bo,0,none⟩) (nH+1) (nH+1))),(20,(.int .i64 ((nH+1:Nat):Int)))] [.raw (Instr.indexAt 33 (.slice (some ⟨bo,0,none⟩) (nH+1) (nH+1)) (.int .i64 (i:Int))) (.pointer (some ⟨bo,0+i*1,none⟩))] (by kernel_rfl) (hixI _) ?_
  rw[show 0+i*1=i by omega]
  have hb2:Blk w2 bo (us++List.replicate (nH+1-i) (.slice none 0 0)) tyO:=Ext.blk hn2.ext hb
  have hbl:=A8 hb
  refine RX.store1 bo i (.slice (some ⟨m,0,none⟩) (nA+1) (nA+1)) (us++List.replicate (nH+1-i) (.slice none 0 0)) tyO (by kernel_rfl) rfl hb2 (by simp;omega) ?_
  intro w3 hp
  have hs3:=hp.size
  refine RX.done [(4,(.int .i64 (i:Int))),(21,(.int .i64 (i:Int))),(0,(.pointer (some ⟨bd,od,none⟩))),(3,(.slice (some ⟨bo,0,none⟩) (nH+1) (nH+1))),(20,(.int .i64 ((nH+1:Nat):Int)))] (by kernel_rfl) (by kernel_rfl) ?_
  have hb3:Blk w3 bo ((us++[(.slice (some ⟨m,0,none⟩) (nA+1) (nA+1))])++List.replicate (nH+1-(i+1)) (.slice none 0 0)) tyO:=by
   have h:=hp.blk
   rw[show(us++List.replicate (nH+1-i) (Value.slice none 0 0)).set i (.slice (some ⟨m,0,none⟩) (nA+1) (nA+1))=(us++[(.slice (some ⟨m,0,none⟩) (nA+1) (nA+1))])++List.replicate (nH+1-(i+1)) (.slice none 0 0)from by
    rw[show nH+1-i=(nH+1-(i+1))+1 by omega,List.replicate_succ,List.set_append_right _ _ (by omega),hlen,Nat.sub_self]
    simp]at h
   exact h
  have hui:((us++[(.slice (some ⟨m,0,none⟩) (nA+1) (nA+1))])++List.replicate (nH+1-(i+1)) (Value.slice none 0 0))[i]?=some (.slice (some ⟨m,0,none⟩) (nA+1) (nA+1)):=by
   rw[List.append_assoc,List.getElem?_append_right (by omega),hlen,Nat.sub_self];rfl
  have hMb:Blk w3 m (List.replicate (nA+1) (.slice none 0 0)) 22:=by
   have h:=hn2.blk
   rw[Xw rfl]at h
   exact hp.upd.blk h (by simp;omega)
  refine St.reg Vs [(0,true),(1,true),(2,true),(3,true),(4,true),(5,true)] (by kernel_rfl) (by kernel_rfl) ?_
  refine RX.q 6 [(2,true,(.pointer (some ⟨bo,0+i*1,none⟩))),(3,true,(.slice (some ⟨m,0,none⟩) (nA+1) (nA+1)))] [(39,.int .i64 0),(38,(.int .i64 ((nA+1:Nat):Int))),(0,(.pointer (some ⟨bd,od,none⟩))),(3,(.slice (some ⟨bo,0,none⟩) (nH+1) (nH+1))),(20,(.int .i64 ((nH+1:Nat):Int))),(21,(.int .i64 (i:Int))),(4,(.int .i64 (i:Int)))] [.raw (Instr.indexAt 33 (.slice (some ⟨bo,0,none⟩) (nH+1) (nH+1)) (.int .i64 (i:Int))) (.pointer (some ⟨bo,0+i*1,none⟩)),.cell ⟨bo,0+i*1,none⟩ (.slice (some ⟨m,0,none⟩) (nA+1) (nA+1))] (by kernel_rfl) ⟨hixI _,by rw[show 0+i*1=i by omega];exact Blk.cell hb3 hui⟩ ?_
  refine RX.done [(39,.int .i64 0),(38,(.int .i64 ((nA+1:Nat):Int))),(0,(.pointer (some ⟨bd,od,none⟩))),(3,(.slice (some ⟨bo,0,none⟩) (nH+1) (nH+1))),(20,(.int .i64 ((nH+1:Nat):Int))),(21,(.int .i64 (i:Int))),(4,(.int .i64 (i:Int)))] (by kernel_rfl) (by kernel_rfl) ?_
  refine Al1 bd od m bo nH nA nB cB i aB _ 22 tyO w3 hnB hnA hil (by omega) (by omega) (hp.upd.cell (Upd.cell hn2.ext hcB1 (by simp)) (by simp;omega)) hb3 hui hMb (by omega) ?_
  intro vs w4 hu4 hM4 hR4
  have hs4:=hu4.size
  refine St.reg A3n [(0,true),(1,true)] (by kernel_rfl) (by kernel_rfl) ?_
  refine RX.q 2 [(0,false,.int .i64 ((i:Int)+1))] [(21,.int .i64 ((i:Int)+1)),(0,(.pointer (some ⟨bd,od,none⟩))),(3,(.slice (some ⟨bo,0,none⟩) (nH+1) (nH+1))),(20,(.int .i64 ((nH+1:Nat):Int)))] [.eq (.int .i64 (IntKind.i64.wrap ((i:Int)+1))) (.int .i64 ((i:Int)+1))] (by kernel_rfl) (int64 (by omega)) ?_
  refine RX.done [(21,.int .i64 ((i:Int)+1)),(0,(.pointer (some ⟨bd,od,none⟩))),(3,(.slice (some ⟨bo,0,none⟩) (nH+1) (nH+1))),(20,(.int .i64 ((nH+1:Nat):Int)))] (by kernel_rfl) (by kernel_rfl) ?_
  have hR2:Ar w4 (bo+1) w.heap.size us (Ck i (nA+1) (nB+1)):=Ar.upd hu4 (Ar.upd hp.upd (Ar.upd hn2.ext hR (fun k hk=>by cases hk)) (fun k hk=>by simp at hk;omega)) (fun k hk=>by simp at hk;omega)
  have hF:(Cv (nA+1) (nB+1)).length=nA+1:=by simp[Cv]
  have hR5:=Ar.snoc (by omega) hM4 hR4 hR2 (by omega)
  rw[hF,show Ck i (nA+1) (nB+1)++[Cv (nA+1) (nB+1)]=Ck (i+1) (nA+1) (nB+1)from List.replicate_succ'.symm]at hR5
  exact St.weak (by kernel_rfl) (ih _ (by omega) (i+1) _ w4 (by omega) rfl (((Upd.ext hu hn2.ext).trans hp.upd).trans_old hu4 (fun k hk=>by simp at hk;omega)) (hu4.blk hb3 (by simp;omega)) hR5)
 exact St.weak (by kernel_rfl) (loop _ 0 [] w0 (by omega) rfl (Upd.refl _ _) (by simpa using hO) (by rw[hsz];exact Nat.le_refl _))
set_option maxHeartbeats 1000000 in
theorem Aji(bd od nH nA nB cH cA cB:Nat)(aH aA aB:Option Addr)(w:World)(hnB:nB≤900)(hnA:nA≤900)(hnH:nH≤900)(hbd:bd<w.heap.size)(hcH:w.cell? ⟨bd,od+1,none⟩=some (.slice aH nH cH))(hcA:w.cell? ⟨bd,od+3,none⟩=some (.slice aA nA cA))(hcB:w.cell? ⟨bd,od+4,none⟩=some (.slice aB nB cB)) :
  Fn Tryz.prog 18 #[(.pointer (some ⟨bd,od,none⟩))] w (fun v w'=>Ext w w'∧∃bo us ty,v=(.slice (some ⟨bo,0,none⟩) (nH+1) (nH+1))∧w.heap.size≤bo∧Blk w' bo us ty∧Ar w' (bo+1) w'.heap.size us (Ck (nH+1) (nA+1) (nB+1))):=by
 obtain⟨-,-,by1,zv,hT,-⟩:=Cq (P:=Tryz.prog) (t:=33) (e:=23) (y:=.sl (.sl (.int .i64))) (by kernel_rfl)
 have hT:N6 Tryz.prog 33 23 1 by1 zv:=hT
 have hz:zv=.slice none 0 0:=by
  have h1:=hT.zero
  have h2:Sem.pv Tryz.prog (zeroValue 23)=some (.slice none 0 0):=by kernel_rfl
  rw[h2]at h1
  exact(Option.some.inj h1).symm
 subst hz
 refine Fn.ofSt (c:=c111) 58 Aof [(0,(.pointer (some ⟨bd,od,none⟩)))] Tryz.func18 (by kernel_rfl) ⟨⟨rfl,by kernel_rfl⟩,by kernel_rfl⟩ (by kernel_rfl) ?_
 intro cs
 refine St.reg Aoz [(0,true)] (by kernel_rfl) (by kernel_rfl) ?_
 refine RX.q 1 [] [(0,(.pointer (some ⟨bd,od,none⟩)))] [] (by kernel_rfl) trivial ?_
 refine RX.done [(0,(.pointer (some ⟨bd,od,none⟩)))] (by kernel_rfl) (by kernel_rfl) ?_
 refine St.reg Aps [(0,true),(1,true),(2,true),(3,true),(4,true),(5,true),(6,true),(7,false),(8,true)] (by kernel_rfl) (by kernel_rfl) ?_
 refine RX.q 7 [(4,true,(.slice aH nH cH)),(6,false,(.int .i64 ((nH+1:Nat):Int)))] [(12,(.int .i64 ((nH+1:Nat):Int))),(0,(.pointer (some ⟨bd,od,none⟩)))] [.cell ⟨bd,od+1,none⟩ (.slice aH nH cH),.eq (.int .i64 (IntKind.i64.wrap ((nH:Int)+1))) (.int .i64 ((nH+1:Nat):Int))] (by kernel_rfl) ⟨hcH,addI hnH⟩ ?_
 obtain⟨bo,w2,hr2,hn2⟩:=Cr hT (nH+1) (by omega) w
 have hs2:=hn2.size;have ha2:=hn2.at_
 refine RX.run 13 (Instr.makeSlice 33 (.int .i64 ((nH+1:Nat):Int)) (.int .i64 ((nH+1:Nat):Int))) [(12,(.int .i64 ((nH+1:Nat):Int))),(0,(.pointer (some ⟨bd,od,none⟩)))] (by kernel_rfl) hr2 ?_
 refine RX.q 1 [] [(0,(.pointer (some ⟨bd,od,none⟩))),(3,(.slice (some ⟨bo,0,none⟩) (nH+1) (nH+1)))] [] (by kernel_rfl) trivial ?_
 refine RX.done [(0,(.pointer (some ⟨bd,od,none⟩))),(3,(.slice (some ⟨bo,0,none⟩) (nH+1) (nH+1)))] (by kernel_rfl) (by kernel_rfl) ?_
 refine St.reg A3n [(0,true),(1,true),(2,true),(3,true),(4,true),(5,true),(6,true),(7,true)] (by kernel_rfl) (by kernel_rfl) ?_
 refine RX.q 8 [(4,true,(.slice aH nH cH)),(6,false,(.int .i64 ((nH+1:Nat):Int)))] [(21,.int .i64 0),(0,(.pointer (some ⟨bd,od,none⟩))),(3,(.slice (some ⟨bo,0,none⟩) (nH+1) (nH+1))),(20,(.int .i64 ((nH+1:Nat):Int)))] [.cell ⟨bd,od+1,none⟩ (.slice aH nH cH),.eq (.int .i64 (IntKind.i64.wrap ((nH:Int)+1))) (.int .i64 ((nH+1:Nat):Int))] (by kernel_rfl) ⟨Upd.cell hn2.ext hcH (by simp),addI hnH⟩ ?_
 refine RX.done [(21,.int .i64 0),(0,(.pointer (some ⟨bd,od,none⟩))),(3,(.slice (some ⟨bo,0,none⟩) (nH+1) (nH+1))),(20,(.int .i64 ((nH+1:Nat):Int)))] (by kernel_rfl) (by kernel_rfl) ?_
 refine Af5 bd od bo nH nA nB cA cB aA aB 23 w2 hnB hnA hnH (by omega) (Upd.cell hn2.ext hcA (by simp)) (Upd.cell hn2.ext hcB (by simp)) (by have h:=hn2.blk;rw[Xw rfl]at h;exact h) (by omega) ?_
 intro us w3 hu3 hb3 hR3
 refine St.reg Ap1 [(0,true),(1,true)] (by kernel_rfl) (by kernel_rfl) ?_
 refine RX.q 2 [] [(2,(.slice (some ⟨bo,0,none⟩) (nH+1) (nH+1)))] [] (by kernel_rfl) trivial ?_
 refine RX.done [(2,(.slice (some ⟨bo,0,none⟩) (nH+1) (nH+1)))] (by kernel_rfl) (by kernel_rfl) ?_
 refine St.ret [.tmp 2] [(.slice (some ⟨bo,0,none⟩) (nH+1) (nH+1))] (by kernel_rfl) Tryz.func18 (by kernel_rfl) (.cons (.tmp rfl) .nil) ?_
 refine⟨?_,bo,us,23,rfl,by omega,hb3,hR3⟩
 exact(Upd.trans_old hn2.ext hu3 (fun k hk=>by simp at hk;omega))
end Go.Proofs.YtfcnhnbnjdccfaaGreat

namespace Go.Proofs.YtfcnhnbnjdccfaaGreat
set_option linter.all false
open Go

def H8(N:Nat)(d:Qa)(i a b n:Int)(g:List Int):Option (Int×List Int):=
 br (decide (0<i))
  (br (decide (0<b))
   (chk (i-1)<|
   idx d.2.1 (i-1) fun x_7=>
   chk (b-1)<|
   idx d.2.2.2.2 (b-1) fun x_8=>
   br (decide (x_7=x_8))
    (chk (i-1)<|
    chk (b-1)<|
    rng (i-1) 11<|
    rng a 7<|
    rng (b-1) 7<|
    get g ((((i-1).toNat*49)+a.toNat*7)+(b-1).toNat) fun x_9=>
    some ((min n x_9),g))
    (some (n,g)))
   (some (n,g)))
  (some (n,g))
def Lj(N:Nat)(d:Qa)(i a b n:Int)(g:List Int):Option (Int×List Int):=
 br (decide (0<i))
  (br (decide (0<a))
   (chk (i-1)<|
   idx d.2.1 (i-1) fun x_4=>
   chk (a-1)<|
   idx d.2.2.2.1 (a-1) fun x_5=>
   br (decide (x_4=x_5))
    (chk (i-1)<|
    chk (a-1)<|
    rng (i-1) 11<|
    rng (a-1) 7<|
    rng b 7<|
    get g ((((i-1).toNat*49)+(a-1).toNat*7)+b.toNat) fun x_6=>
    H8 N d i a b (min n x_6) g)
    (H8 N d i a b n g))
   (H8 N d i a b n g))
  (H8 N d i a b n g)
def Ke(N:Nat)(d:Qa)(i a b n:Int)(g:List Int):Option (Int×List Int):=
 br (decide (0<b))
  (chk (b-1)<|
  rng i 11<|
  rng a 7<|
  rng (b-1) 7<|
  get g (((i.toNat*49)+a.toNat*7)+(b-1).toNat) fun x_3=>
  chk (x_3+1)<|
  Lj N d i a b (min n (x_3+1)) g)
  (Lj N d i a b n g)
def Ks(N:Nat)(d:Qa)(i a b n:Int)(g:List Int):Option (Int×List Int):=
 br (decide (0<a))
  (chk (a-1)<|
  rng i 11<|
  rng (a-1) 7<|
  rng b 7<|
  get g (((i.toNat*49)+(a-1).toNat*7)+b.toNat) fun x_2=>
  chk (x_2+1)<|
  Ke N d i a b (min n (x_2+1)) g)
  (Ke N d i a b n g)
def Jo(N:Nat)(d:Qa)(i a b:Int)(g:List Int):Option (Int×List Int):=
 chk (i+a)<|
 chk ((i+a)+b)<|
 br (decide (((i+a)+b)=0))
  (some (0,g))
  (br (decide (0<i))
   (chk (i-1)<|
   rng (i-1) 11<|
   rng a 7<|
   rng b 7<|
   get g ((((i-1).toNat*49)+a.toNat*7)+b.toNat) fun x_1=>
   chk (x_1+1)<|
   Ks N d i a b (min 99 (x_1+1)) g)
   (Ks N d i a b 99 g))
noncomputable def Kx(N:Nat):Oks:=[]
abbrev A41:List StSh:=[⟨[.i .i64],[.segs [.arr (.int .i64) 539]]⟩]
noncomputable abbrev Vt:Body:=mkB Tryz.f19 A41 1
abbrev K5:altD A41→Option (Int×List Int):=fun r=>some (r.1.1,r.2.1.1)
noncomputable def Jt(N:Nat):JnQ (Z:=Int×List Int) Vt true (some K5) []:=mkJ (Kx N) [] [] ⟨[.c [1,1,1,1,1,1,1,0,0],.c [1,1,1,1,1,1,1,0,1],.c [1,1,1,1,1,1,1,1]],⟨[0,1,2,3,4,11],⟨[.fe Qb,.own 0 0,.i .i64,.i .i64,.i .i64,.i .i64],[.segs [.arr (.int .i64) 539]]⟩⟩,fun p=>H8 N p.1.1 p.1.2.2.1 p.1.2.2.2.1 p.1.2.2.2.2.1 p.1.2.2.2.2.2.1 p.2.1.1⟩ (fun p=>by kernel_rfl)
noncomputable def Nd(N:Nat):JnQ (Z:=Int×List Int) Vt true (some K5) []:=mkJ (Kx N) [] [Jt N] ⟨[.c [1,1,1,1,1,1,0,0],.c [1,1,1,1,1,1,0,1],.c [1,1,1,1,1,1,1]],⟨[0,1,2,3,4,11],⟨[.fe Qb,.own 0 0,.i .i64,.i .i64,.i .i64,.i .i64],[.segs [.arr (.int .i64) 539]]⟩⟩,fun p=>Lj N p.1.1 p.1.2.2.1 p.1.2.2.2.1 p.1.2.2.2.2.1 p.1.2.2.2.2.2.1 p.2.1.1⟩ (fun p=>by kernel_rfl)
noncomputable def Z7(N:Nat):JnQ (Z:=Int×List Int) Vt true (some K5) []:=mkJ (Kx N) [] [Jt N,Nd N] ⟨[.c [1,1,1,1,1,0,0],.c [1,1,1,1,1,0,1],.c [1,1,1,1,1,1]],⟨[0,1,2,3,4,11],⟨[.fe Qb,.own 0 0,.i .i64,.i .i64,.i .i64,.i .i64],[.segs [.arr (.int .i64) 539]]⟩⟩,fun p=>Ke N p.1.1 p.1.2.2.1 p.1.2.2.2.1 p.1.2.2.2.2.1 p.1.2.2.2.2.2.1 p.2.1.1⟩ (fun p=>by kernel_rfl)
noncomputable def Aag(N:Nat):JnQ (Z:=Int×List Int) Vt true (some K5) []:=mkJ (Kx N) [] [Jt N,Nd N,Z7 N] ⟨[.c [1,1,1,1,0,0],.c [1,1,1,1,0,1],.c [1,1,1,1,1]],⟨[0,1,2,3,4,11],⟨[.fe Qb,.own 0 0,.i .i64,.i .i64,.i .i64,.i .i64],[.segs [.arr (.int .i64) 539]]⟩⟩,fun p=>Ks N p.1.1 p.1.2.2.1 p.1.2.2.2.1 p.1.2.2.2.2.1 p.1.2.2.2.2.2.1 p.2.1.1⟩ (fun p=>by kernel_rfl)
noncomputable def Yb(N:Nat):Spec:=mkS 19 ⟨[.fe Qb,.own 0 0,.i .i64,.i .i64,.i .i64],[.segs [.arr (.int .i64) 539]]⟩ A41 (fun p=>Jo N p.1.1 p.1.2.2.1 p.1.2.2.2.1 p.1.2.2.2.2.1 p.2.1.1) (fun k r=>k ((r.1,()),((r.2,()),())))
theorem Ui(N:Nat):A2 Tryz.prog (Yb N):=mkF (R:=Int×List Int) (m0:=1) (Kx N) [] (K5) [Jt N,Nd N,Z7 N,Aag N] Tryz.func19 (fun p=>by kernel_rfl) (by kernel_rfl) (fun _=>by kernel_rfl)

def D1(N:Nat)(k:List Int)(u:Qa):Option Bool:=
 chk ((u.2.2.2.2.length:Int)+1)<|
 some (decide ((k.length:Int)=((u.2.2.2.2.length:Int)+1)))
noncomputable def Aar(N:Nat):Spec:=mkS 82 ⟨[.sl (.int .i64),.fe (.ptr Qb)],[]⟩ [⟨[.b],[]⟩] (fun p=>D1 N p.1.1 p.1.2.1) (fun k r=>k ((r,()),()))
theorem A0l(N:Nat):A2 Tryz.prog (Aar N):=mkF (R:=Bool) (m0:=0) [] [] (fun r=>some r.1.1) [] Tryz.func82 (fun p=>by kernel_rfl) (by kernel_rfl) (fun _=>by kernel_rfl)

def Ru(N:Nat)(x:List Int)(g:Qa):Option (Bool×Qa):=
 (D1 N x g).bind fun x_1=>
 some ((!x_1),g)
noncomputable def Abr(N:Nat):Spec:=mkS 95 ⟨[.sl (.int .i64),.own 0 0],[.segs [.fn 82 [] [.fe (.ptr Qb)]]]⟩ [⟨[.b],[.segs [.fn 82 [] [.fe (.ptr Qb)]]]⟩] (fun p=>Ru N p.1.1 p.2.1.1.2.1) (fun k r=>k ((r.1,()),((((),(r.2,())),()),())))
theorem A0d(N:Nat):A2 Tryz.prog (Abr N):=mkF (R:=Bool×Qa) (m0:=1) [⟨_,A0l N⟩] [] (fun r=>some (r.1.1,r.2.1.1.2.1)) [] Tryz.func95 (fun p=>by kernel_rfl) (by kernel_rfl) (fun _=>by kernel_rfl)

def ixfg_l1(N:Nat):Nat→Qj→Int→Int→(Qa)→Option ((Int×Qa)⊕(Qa))
 | 0,_,_,_,_=>none
 | n_+1,s,u,u2,f=>
  br (decide (u2<u))
   (idx s u2 fun x_1=>
   (Ru N x_1 f).bind fun(x_2,y_3)=>
   br x_2
    (some (.inl (u2,y_3)))
    (chk (u2+1)<|
    ixfg_l1 N n_ s u (u2+1) y_3))
   (some (.inr f))
def ixfg_S(N:Nat)(s:List Qe)(f:Qa):Option (Int×Qa):=
 (ixfg_l1 N N s (s.length:Int) 0 f).bind fun e=>match e with
 | .inl (i_4,g_5)=>
  some (i_4,g_5)
 | .inr g_6=>
  some (-1,g_6)
noncomputable def Adf(N:Nat):Oks:=[⟨_,A0d N⟩]
abbrev Ald:List StSh:=[⟨[.i .i64],[.segs [.fn 82 [] [.fe (.ptr Qb)]]]⟩]
noncomputable abbrev Aon:Body:=mkB Tryz.f107 Ald 1
noncomputable def Ah4(N:Nat){top:Bool}:LpQ Aon top:=mkL (Z:=(Int×Qa)⊕(Qa)) (Adf N) [] [.c [1,0,1,0,0,0],.c [1,0,1,0,0,1],.l [1,0,1,0,0],.b 0,.c [1,1]] ⟨[0,1,7,8],⟨[.sl Qf,.fn 95 [] [.own 0 0],.i .i64,.i .i64],[.segs [.fn 82 [] [.fe (.ptr Qb)]]]⟩⟩ (fun m p=>ixfg_l1 N m p.1.1 p.1.2.2.1 p.1.2.2.2.1 p.2.1.1.2.1) [⟨[.c [1,0,1,0,0,1,1,0,0,1,1,0,0],.c [1,0,1,0,0,1,1,0,0,1,1,0,1],.b 1,.c [1,0,1,0,0,1,1,1],.l [1,0,1,0,0],.b 0,.c [1,1]],⟨[5],⟨[.i .i64],[.segs [.fn 82 [] [.fe (.ptr Qb)]]]⟩⟩,fun p=>some (.inl (p.1.1,p.2.1.1.2.1))⟩,⟨[.c [1,1,0],.c [1,1,1]],⟨[],⟨[],[.segs [.fn 82 [] [.fe (.ptr Qb)]]]⟩⟩,fun p=>some (.inr p.2.1.1.2.1)⟩] (fun _=>[]) (fun k e=>match e with | .inl x=>k (.inl ((x.1,()),((((),(x.2,())),()),()))) | .inr x=>k (.inr (.inl ((),((((),(x,())),()),()))))) N (fun m p=>by kernel_rfl) (hg:=(by rintro _ _ (_ | _)<;>rfl))
noncomputable def Alr(N:Nat):Spec:=mkS 107 ⟨[.sl Qf,.fn 95 [] [.own 0 0]],[.segs [.fn 82 [] [.fe (.ptr Qb)]]]⟩ Ald (fun p=>ixfg_S N p.1.1 p.2.1.1.2.1) (fun k r=>k ((r.1,()),((((),(r.2,())),()),())))
theorem Aaf(N:Nat):A2 Tryz.prog (Alr N):=mkF (R:=Int×Qa) (m0:=1) (Adf N) [Ah4 N] (fun r=>some (r.1.1,r.2.1.1.2.1)) [] Tryz.func107 (fun p=>by kernel_rfl) (by kernel_rfl) (fun _=>by kernel_rfl)

def Aap(N:Nat)(s:List Qe)(f:Qa):Option (Bool×Qa):=
 (ixfg_S N s f).bind fun(x_1,y_2)=>
 some ((decide (0≤x_1)),y_2)
noncomputable def Amz(N:Nat):Spec:=mkS 94 ⟨[.sl Qf,.fn 95 [] [.own 0 0]],[.segs [.fn 82 [] [.fe (.ptr Qb)]]]⟩ [⟨[.b],[.segs [.fn 82 [] [.fe (.ptr Qb)]]]⟩] (fun p=>Aap N p.1.1 p.2.1.1.2.1) (fun k r=>k ((r.1,()),((((),(r.2,())),()),())))
theorem Ad0(N:Nat):A2 Tryz.prog (Amz N):=mkF (R:=Bool×Qa) (m0:=1) [⟨_,Aaf N⟩] [] (fun r=>some (r.1.1,r.2.1.1.2.1)) [] Tryz.func94 (fun p=>by kernel_rfl) (by kernel_rfl) (fun _=>by kernel_rfl)

def R0(N:Nat)(l:List Qe)(holds:Qa):Option Bool:=
 (Aap N l holds).bind fun(x_1,y_2)=>
 some (!x_1)
noncomputable def Af4(N:Nat):Spec:=mkS 58 ⟨[.sl Qf,.fn 82 [] [.fe (.ptr Qb)]],[]⟩ [⟨[.b],[]⟩] (fun p=>R0 N p.1.1 p.1.2.1.2.1) (fun k r=>k ((r,()),()))
theorem A3v(N:Nat):A2 Tryz.prog (Af4 N):=mkF (R:=Bool) (m0:=0) [⟨_,Ad0 N⟩] [] (fun r=>some r.1.1) [] Tryz.func58 (fun p=>by kernel_rfl) (by kernel_rfl) (fun _=>by kernel_rfl)

def Fa(N:Nat)(l:List Qe)(u:Qa):Option Bool:=
 chk ((u.2.2.2.1.length:Int)+1)<|
 br (decide ((l.length:Int)=((u.2.2.2.1.length:Int)+1)))
  ((R0 N l u).bind fun x_1=>
  some x_1)
  (some false)
noncomputable def Agm(N:Nat):Spec:=mkS 81 ⟨[.sl Qf,.fe (.ptr Qb)],[]⟩ [⟨[.b],[]⟩] (fun p=>Fa N p.1.1 p.1.2.1) (fun k r=>k ((r,()),()))
theorem A4p(N:Nat):A2 Tryz.prog (Agm N):=mkF (R:=Bool) (m0:=0) [⟨_,A3v N⟩] [] (fun r=>some r.1.1) [] Tryz.func81 (fun p=>by kernel_rfl) (by kernel_rfl) (fun _=>by kernel_rfl)

def Sv(N:Nat)(x:List Qe)(g:Qa):Option (Bool×Qa):=
 (Fa N x g).bind fun x_1=>
 some ((!x_1),g)
noncomputable def Aan(N:Nat):Spec:=mkS 103 ⟨[.sl Qf,.own 0 0],[.segs [.fn 81 [] [.fe (.ptr Qb)]]]⟩ [⟨[.b],[.segs [.fn 81 [] [.fe (.ptr Qb)]]]⟩] (fun p=>Sv N p.1.1 p.2.1.1.2.1) (fun k r=>k ((r.1,()),((((),(r.2,())),()),())))
theorem A0c(N:Nat):A2 Tryz.prog (Aan N):=mkF (R:=Bool×Qa) (m0:=1) [⟨_,A4p N⟩] [] (fun r=>some (r.1.1,r.2.1.1.2.1)) [] Tryz.func103 (fun p=>by kernel_rfl) (by kernel_rfl) (fun _=>by kernel_rfl)

def ixfh_l1(N:Nat):Nat→(List Qj)→Int→Int→(Qa)→Option ((Int×Qa)⊕(Qa))
 | 0,_,_,_,_=>none
 | n_+1,s,u,u2,f=>
  br (decide (u2<u))
   (idx s u2 fun x_1=>
   (Sv N x_1 f).bind fun(x_2,y_3)=>
   br x_2
    (some (.inl (u2,y_3)))
    (chk (u2+1)<|
    ixfh_l1 N n_ s u (u2+1) y_3))
   (some (.inr f))
def Acf(N:Nat)(s:List Qj)(f:Qa):Option (Int×Qa):=
 (ixfh_l1 N N s (s.length:Int) 0 f).bind fun e=>match e with
 | .inl (i_4,g_5)=>
  some (i_4,g_5)
 | .inr g_6=>
  some (-1,g_6)
noncomputable def Ae9(N:Nat):Oks:=[⟨_,A0c N⟩]
abbrev Alb:List StSh:=[⟨[.i .i64],[.segs [.fn 81 [] [.fe (.ptr Qb)]]]⟩]
noncomputable abbrev Aoh:Body:=mkB Tryz.f108 Alb 1
noncomputable def Ag3(N:Nat){top:Bool}:LpQ Aoh top:=mkL (Z:=(Int×Qa)⊕(Qa)) (Ae9 N) [] [.c [1,0,1,0,0,0],.c [1,0,1,0,0,1],.l [1,0,1,0,0],.b 0,.c [1,1]] ⟨[0,1,7,8],⟨[.sl Qw,.fn 103 [] [.own 0 0],.i .i64,.i .i64],[.segs [.fn 81 [] [.fe (.ptr Qb)]]]⟩⟩ (fun m p=>ixfh_l1 N m p.1.1 p.1.2.2.1 p.1.2.2.2.1 p.2.1.1.2.1) [⟨[.c [1,0,1,0,0,1,1,0,0,1,1,0,0],.c [1,0,1,0,0,1,1,0,0,1,1,0,1],.b 1,.c [1,0,1,0,0,1,1,1],.l [1,0,1,0,0],.b 0,.c [1,1]],⟨[5],⟨[.i .i64],[.segs [.fn 81 [] [.fe (.ptr Qb)]]]⟩⟩,fun p=>some (.inl (p.1.1,p.2.1.1.2.1))⟩,⟨[.c [1,1,0],.c [1,1,1]],⟨[],⟨[],[.segs [.fn 81 [] [.fe (.ptr Qb)]]]⟩⟩,fun p=>some (.inr p.2.1.1.2.1)⟩] (fun _=>[]) (fun k e=>match e with | .inl x=>k (.inl ((x.1,()),((((),(x.2,())),()),()))) | .inr x=>k (.inr (.inl ((),((((),(x,())),()),()))))) N (fun m p=>by kernel_rfl) (hg:=(by rintro _ _ (_ | _)<;>rfl))
noncomputable def Amc(N:Nat):Spec:=mkS 108 ⟨[.sl Qw,.fn 103 [] [.own 0 0]],[.segs [.fn 81 [] [.fe (.ptr Qb)]]]⟩ Alb (fun p=>Acf N p.1.1 p.2.1.1.2.1) (fun k r=>k ((r.1,()),((((),(r.2,())),()),())))
theorem Aa0(N:Nat):A2 Tryz.prog (Amc N):=mkF (R:=Int×Qa) (m0:=1) (Ae9 N) [Ag3 N] (fun r=>some (r.1.1,r.2.1.1.2.1)) [] Tryz.func108 (fun p=>by kernel_rfl) (by kernel_rfl) (fun _=>by kernel_rfl)

def Aa7(N:Nat)(s:List Qj)(f:Qa):Option (Bool×Qa):=
 (Acf N s f).bind fun(x_1,y_2)=>
 some ((decide (0≤x_1)),y_2)
noncomputable def An1(N:Nat):Spec:=mkS 102 ⟨[.sl Qw,.fn 103 [] [.own 0 0]],[.segs [.fn 81 [] [.fe (.ptr Qb)]]]⟩ [⟨[.b],[.segs [.fn 81 [] [.fe (.ptr Qb)]]]⟩] (fun p=>Aa7 N p.1.1 p.2.1.1.2.1) (fun k r=>k ((r.1,()),((((),(r.2,())),()),())))
theorem A9u(N:Nat):A2 Tryz.prog (An1 N):=mkF (R:=Bool×Qa) (m0:=1) [⟨_,Aa0 N⟩] [] (fun r=>some (r.1.1,r.2.1.1.2.1)) [] Tryz.func102 (fun p=>by kernel_rfl) (by kernel_rfl) (fun _=>by kernel_rfl)

def Re(N:Nat)(l:List Qj)(holds:Qa):Option Bool:=
 (Aa7 N l holds).bind fun(x_1,y_2)=>
 some (!x_1)
noncomputable def Ahg(N:Nat):Spec:=mkS 80 ⟨[.sl Qw,.fn 81 [] [.fe (.ptr Qb)]],[]⟩ [⟨[.b],[]⟩] (fun p=>Re N p.1.1 p.1.2.1.2.1) (fun k r=>k ((r,()),()))
theorem A3r(N:Nat):A2 Tryz.prog (Ahg N):=mkF (R:=Bool) (m0:=0) [⟨_,A9u N⟩] [] (fun r=>some r.1.1) [] Tryz.func80 (fun p=>by kernel_rfl) (by kernel_rfl) (fun _=>by kernel_rfl)

def No(N:Nat)(n:Int):Option Bool:=
 (Pv N n 0 99).bind fun x_1=>
 some x_1
noncomputable def A8b(N:Nat):Spec:=mkS 85 ⟨[.i .i64],[]⟩ [⟨[.b],[]⟩] (fun p=>No N p.1.1) (fun k r=>k ((r,()),()))
theorem Z4(N:Nat):A2 Tryz.prog (A8b N):=mkF (R:=Bool) (m0:=0) [⟨_,I7 N⟩] [] (fun r=>some r.1.1) [] Tryz.func85 (fun p=>by kernel_rfl) (by kernel_rfl) (fun _=>by kernel_rfl)

def Ec(N:Nat)(x:Int):Option Bool:=
 (No N x).bind fun x_1=>
 some (!x_1)
noncomputable def Abb(N:Nat):Spec:=mkS 93 ⟨[.i .i64,.own 0 0],[.segs [.fn 85 [] []]]⟩ [⟨[.b],[.segs [.fn 85 [] []]]⟩] (fun p=>Ec N p.1.1) (fun k r=>k ((r,()),((((),()),()),())))
theorem Zt(N:Nat):A2 Tryz.prog (Abb N):=mkF (R:=Bool) (m0:=1) [⟨_,Z4 N⟩] [] (fun r=>some r.1.1) [] Tryz.func93 (fun p=>by kernel_rfl) (by kernel_rfl) (fun _=>by kernel_rfl)

def ixfj_l1(N:Nat):Nat→Qe→Int→Int→Option ((Int)⊕(Unit))
 | 0,_,_,_=>none
 | n_+1,s,u,u2=>
  br (decide (u2<u))
   (idx s u2 fun x_1=>
   (Ec N x_1).bind fun x_2=>
   br x_2
    (some (.inl u2))
    (chk (u2+1)<|
    ixfj_l1 N n_ s u (u2+1)))
   (some (.inr ()))
def A40(N:Nat)(s:List Int):Option Int:=
 (ixfj_l1 N N s (s.length:Int) 0).bind fun e=>match e with
 | .inl i_3=>
  some i_3
 | .inr _=>
  some (-1)
noncomputable def Adp(N:Nat):Oks:=[⟨_,Zt N⟩]
abbrev Ahl:List StSh:=[⟨[.i .i64],[.segs [.fn 85 [] []]]⟩]
noncomputable abbrev Ao5:Body:=mkB Tryz.f106 Ahl 1
noncomputable def Ah1(N:Nat){top:Bool}:LpQ Ao5 top:=mkL (Z:=(Int)⊕(Unit)) (Adp N) [] [.c [1,0,1,0,0,0],.c [1,0,1,0,0,1],.l [1,0,1,0,0],.b 0,.c [1,1]] ⟨[0,1,7,8],⟨[.sl (.int .i64),.fn 93 [] [.own 0 0],.i .i64,.i .i64],[.segs [.fn 85 [] []]]⟩⟩ (fun m p=>ixfj_l1 N m p.1.1 p.1.2.2.1 p.1.2.2.2.1) [⟨[.c [1,0,1,0,0,1,1,0,0,1,1,0,0],.c [1,0,1,0,0,1,1,0,0,1,1,0,1],.b 1,.c [1,0,1,0,0,1,1,1],.l [1,0,1,0,0],.b 0,.c [1,1]],⟨[5],⟨[.i .i64],[.segs [.fn 85 [] []]]⟩⟩,fun p=>some (.inl p.1.1)⟩,⟨[.c [1,1,0],.c [1,1,1]],⟨[],⟨[],[.segs [.fn 85 [] []]]⟩⟩,fun p=>some (.inr ())⟩] (fun _=>[]) (fun k e=>match e with | .inl x=>k (.inl ((x,()),((((),()),()),()))) | .inr x=>k (.inr (.inl ((),((((),()),()),()))))) N (fun m p=>by kernel_rfl) (hg:=(by rintro _ _ (_ | _)<;>rfl))
noncomputable def Anq(N:Nat):Spec:=mkS 106 ⟨[.sl (.int .i64),.fn 93 [] [.own 0 0]],[.segs [.fn 85 [] []]]⟩ Ahl (fun p=>A40 N p.1.1) (fun k r=>k ((r,()),((((),()),()),())))
theorem Aci(N:Nat):A2 Tryz.prog (Anq N):=mkF (R:=Int) (m0:=1) (Adp N) [Ah1 N] (fun r=>some r.1.1) [] Tryz.func106 (fun p=>by kernel_rfl) (by kernel_rfl) (fun _=>by kernel_rfl)

def Ac8(N:Nat)(s:List Int):Option Bool:=
 (A40 N s).bind fun x_1=>
 some (decide (0≤x_1))
noncomputable def Alx(N:Nat):Spec:=mkS 92 ⟨[.sl (.int .i64),.fn 93 [] [.own 0 0]],[.segs [.fn 85 [] []]]⟩ [⟨[.b],[.segs [.fn 85 [] []]]⟩] (fun p=>Ac8 N p.1.1) (fun k r=>k ((r,()),((((),()),()),())))
theorem Abm(N:Nat):A2 Tryz.prog (Alx N):=mkF (R:=Bool) (m0:=1) [⟨_,Aci N⟩] [] (fun r=>some r.1.1) [] Tryz.func92 (fun p=>by kernel_rfl) (by kernel_rfl) (fun _=>by kernel_rfl)

def O6(N:Nat)(l:List Int):Option Bool:=
 (Ac8 N l).bind fun x_1=>
 some (!x_1)
noncomputable def Aez(N:Nat):Spec:=mkS 55 ⟨[.sl (.int .i64),.fn 85 [] []],[]⟩ [⟨[.b],[]⟩] (fun p=>O6 N p.1.1) (fun k r=>k ((r,()),()))
theorem A56(N:Nat):A2 Tryz.prog (Aez N):=mkF (R:=Bool) (m0:=0) [⟨_,Abm N⟩] [] (fun r=>some r.1.1) [] Tryz.func55 (fun p=>by kernel_rfl) (by kernel_rfl) (fun _=>by kernel_rfl)

def Sy(N:Nat)(k:List Int):Option Bool:=
 (O6 N k).bind fun x_1=>
 some x_1
noncomputable def Ab0(N:Nat):Spec:=mkS 84 ⟨[.sl (.int .i64)],[]⟩ [⟨[.b],[]⟩] (fun p=>Sy N p.1.1) (fun k r=>k ((r,()),()))
theorem Zr(N:Nat):A2 Tryz.prog (Ab0 N):=mkF (R:=Bool) (m0:=0) [⟨_,A56 N⟩] [] (fun r=>some r.1.1) [] Tryz.func84 (fun p=>by kernel_rfl) (by kernel_rfl) (fun _=>by kernel_rfl)

def Ee(N:Nat)(x:List Int):Option Bool:=
 (Sy N x).bind fun x_1=>
 some (!x_1)
noncomputable def Aa2(N:Nat):Spec:=mkS 95 ⟨[.sl (.int .i64),.own 0 0],[.segs [.fn 84 [] []]]⟩ [⟨[.b],[.segs [.fn 84 [] []]]⟩] (fun p=>Ee N p.1.1) (fun k r=>k ((r,()),((((),()),()),())))
theorem A01(N:Nat):A2 Tryz.prog (Aa2 N):=mkF (R:=Bool) (m0:=1) [⟨_,Zr N⟩] [] (fun r=>some r.1.1) [] Tryz.func95 (fun p=>by kernel_rfl) (by kernel_rfl) (fun _=>by kernel_rfl)

def ixfk_l1(N:Nat):Nat→Qj→Int→Int→Option ((Int)⊕(Unit))
 | 0,_,_,_=>none
 | n_+1,s,u,u2=>
  br (decide (u2<u))
   (idx s u2 fun x_1=>
   (Ee N x_1).bind fun x_2=>
   br x_2
    (some (.inl u2))
    (chk (u2+1)<|
    ixfk_l1 N n_ s u (u2+1)))
   (some (.inr ()))
def A4e(N:Nat)(s:List Qe):Option Int:=
 (ixfk_l1 N N s (s.length:Int) 0).bind fun e=>match e with
 | .inl i_3=>
  some i_3
 | .inr _=>
  some (-1)
noncomputable def Adr(N:Nat):Oks:=[⟨_,A01 N⟩]
abbrev Ahr:List StSh:=[⟨[.i .i64],[.segs [.fn 84 [] []]]⟩]
noncomputable abbrev Ao2:Body:=mkB Tryz.f107 Ahr 1
noncomputable def Agh(N:Nat){top:Bool}:LpQ Ao2 top:=mkL (Z:=(Int)⊕(Unit)) (Adr N) [] [.c [1,0,1,0,0,0],.c [1,0,1,0,0,1],.l [1,0,1,0,0],.b 0,.c [1,1]] ⟨[0,1,7,8],⟨[.sl Qf,.fn 95 [] [.own 0 0],.i .i64,.i .i64],[.segs [.fn 84 [] []]]⟩⟩ (fun m p=>ixfk_l1 N m p.1.1 p.1.2.2.1 p.1.2.2.2.1) [⟨[.c [1,0,1,0,0,1,1,0,0,1,1,0,0],.c [1,0,1,0,0,1,1,0,0,1,1,0,1],.b 1,.c [1,0,1,0,0,1,1,1],.l [1,0,1,0,0],.b 0,.c [1,1]],⟨[5],⟨[.i .i64],[.segs [.fn 84 [] []]]⟩⟩,fun p=>some (.inl p.1.1)⟩,⟨[.c [1,1,0],.c [1,1,1]],⟨[],⟨[],[.segs [.fn 84 [] []]]⟩⟩,fun p=>some (.inr ())⟩] (fun _=>[]) (fun k e=>match e with | .inl x=>k (.inl ((x,()),((((),()),()),()))) | .inr x=>k (.inr (.inl ((),((((),()),()),()))))) N (fun m p=>by kernel_rfl) (hg:=(by rintro _ _ (_ | _)<;>rfl))
noncomputable def Ang(N:Nat):Spec:=mkS 107 ⟨[.sl Qf,.fn 95 [] [.own 0 0]],[.segs [.fn 84 [] []]]⟩ Ahr (fun p=>A4e N p.1.1) (fun k r=>k ((r,()),((((),()),()),())))
theorem Acq(N:Nat):A2 Tryz.prog (Ang N):=mkF (R:=Int) (m0:=1) (Adr N) [Agh N] (fun r=>some r.1.1) [] Tryz.func107 (fun p=>by kernel_rfl) (by kernel_rfl) (fun _=>by kernel_rfl)

def Acx(N:Nat)(s:List Qe):Option Bool:=
 (A4e N s).bind fun x_1=>
 some (decide (0≤x_1))
noncomputable def An7(N:Nat):Spec:=mkS 94 ⟨[.sl Qf,.fn 95 [] [.own 0 0]],[.segs [.fn 84 [] []]]⟩ [⟨[.b],[.segs [.fn 84 [] []]]⟩] (fun p=>Acx N p.1.1) (fun k r=>k ((r,()),((((),()),()),())))
theorem Acn(N:Nat):A2 Tryz.prog (An7 N):=mkF (R:=Bool) (m0:=1) [⟨_,Acq N⟩] [] (fun r=>some r.1.1) [] Tryz.func94 (fun p=>by kernel_rfl) (by kernel_rfl) (fun _=>by kernel_rfl)

def Pj(N:Nat)(l:List Qe):Option Bool:=
 (Acx N l).bind fun x_1=>
 some (!x_1)
noncomputable def Ahc(N:Nat):Spec:=mkS 58 ⟨[.sl Qf,.fn 84 [] []],[]⟩ [⟨[.b],[]⟩] (fun p=>Pj N p.1.1) (fun k r=>k ((r,()),()))
theorem A4x(N:Nat):A2 Tryz.prog (Ahc N):=mkF (R:=Bool) (m0:=0) [⟨_,Acn N⟩] [] (fun r=>some r.1.1) [] Tryz.func58 (fun p=>by kernel_rfl) (by kernel_rfl) (fun _=>by kernel_rfl)

def Oe(N:Nat)(l:List Qe):Option Bool:=
 (Pj N l).bind fun x_1=>
 some x_1
noncomputable def Ag9(N:Nat):Spec:=mkS 83 ⟨[.sl Qf],[]⟩ [⟨[.b],[]⟩] (fun p=>Oe N p.1.1) (fun k r=>k ((r,()),()))
theorem A3k(N:Nat):A2 Tryz.prog (Ag9 N):=mkF (R:=Bool) (m0:=0) [⟨_,A4x N⟩] [] (fun r=>some r.1.1) [] Tryz.func83 (fun p=>by kernel_rfl) (by kernel_rfl) (fun _=>by kernel_rfl)

def Dz(N:Nat)(x:List Qe):Option Bool:=
 (Oe N x).bind fun x_1=>
 some (!x_1)
noncomputable def Ab4(N:Nat):Spec:=mkS 103 ⟨[.sl Qf,.own 0 0],[.segs [.fn 83 [] []]]⟩ [⟨[.b],[.segs [.fn 83 [] []]]⟩] (fun p=>Dz N p.1.1) (fun k r=>k ((r,()),((((),()),()),())))
theorem Zx(N:Nat):A2 Tryz.prog (Ab4 N):=mkF (R:=Bool) (m0:=1) [⟨_,A3k N⟩] [] (fun r=>some r.1.1) [] Tryz.func103 (fun p=>by kernel_rfl) (by kernel_rfl) (fun _=>by kernel_rfl)

def ixfl_l1(N:Nat):Nat→(List Qj)→Int→Int→Option ((Int)⊕(Unit))
 | 0,_,_,_=>none
 | n_+1,s,u,u2=>
  br (decide (u2<u))
   (idx s u2 fun x_1=>
   (Dz N x_1).bind fun x_2=>
   br x_2
    (some (.inl u2))
    (chk (u2+1)<|
    ixfl_l1 N n_ s u (u2+1)))
   (some (.inr ()))
def A38(N:Nat)(s:List Qj):Option Int:=
 (ixfl_l1 N N s (s.length:Int) 0).bind fun e=>match e with
 | .inl i_3=>
  some i_3
 | .inr _=>
  some (-1)
noncomputable def Ae3(N:Nat):Oks:=[⟨_,Zx N⟩]
abbrev Aky:List StSh:=[⟨[.i .i64],[.segs [.fn 83 [] []]]⟩]
noncomputable abbrev Ap6:Body:=mkB Tryz.f108 Aky 1
noncomputable def Agi(N:Nat){top:Bool}:LpQ Ap6 top:=mkL (Z:=(Int)⊕(Unit)) (Ae3 N) [] [.c [1,0,1,0,0,0],.c [1,0,1,0,0,1],.l [1,0,1,0,0],.b 0,.c [1,1]] ⟨[0,1,7,8],⟨[.sl Qw,.fn 103 [] [.own 0 0],.i .i64,.i .i64],[.segs [.fn 83 [] []]]⟩⟩ (fun m p=>ixfl_l1 N m p.1.1 p.1.2.2.1 p.1.2.2.2.1) [⟨[.c [1,0,1,0,0,1,1,0,0,1,1,0,0],.c [1,0,1,0,0,1,1,0,0,1,1,0,1],.b 1,.c [1,0,1,0,0,1,1,1],.l [1,0,1,0,0],.b 0,.c [1,1]],⟨[5],⟨[.i .i64],[.segs [.fn 83 [] []]]⟩⟩,fun p=>some (.inl p.1.1)⟩,⟨[.c [1,1,0],.c [1,1,1]],⟨[],⟨[],[.segs [.fn 83 [] []]]⟩⟩,fun p=>some (.inr ())⟩] (fun _=>[]) (fun k e=>match e with | .inl x=>k (.inl ((x,()),((((),()),()),()))) | .inr x=>k (.inr (.inl ((),((((),()),()),()))))) N (fun m p=>by kernel_rfl) (hg:=(by rintro _ _ (_ | _)<;>rfl))
noncomputable def An3(N:Nat):Spec:=mkS 108 ⟨[.sl Qw,.fn 103 [] [.own 0 0]],[.segs [.fn 83 [] []]]⟩ Aky (fun p=>A38 N p.1.1) (fun k r=>k ((r,()),((((),()),()),())))
theorem Ac9(N:Nat):A2 Tryz.prog (An3 N):=mkF (R:=Int) (m0:=1) (Ae3 N) [Agi N] (fun r=>some r.1.1) [] Tryz.func108 (fun p=>by kernel_rfl) (by kernel_rfl) (fun _=>by kernel_rfl)

def Aai(N:Nat)(s:List Qj):Option Bool:=
 (A38 N s).bind fun x_1=>
 some (decide (0≤x_1))
noncomputable def Alm(N:Nat):Spec:=mkS 102 ⟨[.sl Qw,.fn 103 [] [.own 0 0]],[.segs [.fn 83 [] []]]⟩ [⟨[.b],[.segs [.fn 83 [] []]]⟩] (fun p=>Aai N p.1.1) (fun k r=>k ((r,()),((((),()),()),())))
theorem Acp(N:Nat):A2 Tryz.prog (Alm N):=mkF (R:=Bool) (m0:=1) [⟨_,Ac9 N⟩] [] (fun r=>some r.1.1) [] Tryz.func102 (fun p=>by kernel_rfl) (by kernel_rfl) (fun _=>by kernel_rfl)

def Ra(N:Nat)(l:List Qj):Option Bool:=
 (Aai N l).bind fun x_1=>
 some (!x_1)
noncomputable def Ahb(N:Nat):Spec:=mkS 80 ⟨[.sl Qw,.fn 83 [] []],[]⟩ [⟨[.b],[]⟩] (fun p=>Ra N p.1.1) (fun k r=>k ((r,()),()))
theorem A3l(N:Nat):A2 Tryz.prog (Ahb N):=mkF (R:=Bool) (m0:=0) [⟨_,Acp N⟩] [] (fun r=>some r.1.1) [] Tryz.func80 (fun p=>by kernel_rfl) (by kernel_rfl) (fun _=>by kernel_rfl)

def shows_l3(N:Nat):Nat→Int→Int→(List Qj)→Int→Int→Qj→Int→Int→Qe→Int→Int→(Qa)→Qe→Option ((Unit)⊕(Int×List Qj×Int×Int×List Qe×Int×Int×Qa×List Int))
 | 0,_,_,_,_,_,_,_,_,_,_,_,_,_=>none
 | n_+1,i,a,u,u2,u3,u4,u5,u6,u7,u8,u9,d,g=>
  br (decide (u9<u8))
   (idx u7 u9 fun x_7=>
   rng i 11<|
   rng a 7<|
   rng u9 7<|
   get g (((i.toNat*49)+a.toNat*7)+u9.toNat) fun _=>
   (Jo N d i a u9 (g.set (((i.toNat*49)+a.toNat*7)+u9.toNat) x_7)).bind fun(x_9,y_10)=>
   br (decide (x_9<x_7))
    (some (.inl ()))
    (chk (u9+1)<|
    shows_l3 N n_ i a u u2 u3 u4 u5 u6 u7 u8 (u9+1) d y_10))
   (some (.inr (i,u,u2,u3,u4,u5,u6,d,g)))
def shows_l2(N:Nat):Nat→Int→(List Qj)→Int→Int→Qj→Int→Int→(Qa)→Qe→Option ((Unit)⊕(List Qj×Int×Int×Qa×List Int))
 | 0,_,_,_,_,_,_,_,_,_=>none
 | n_+1,i,u,u2,u3,u4,u5,u6,d,g=>
  br (decide (u6<u5))
   (idx u4 u6 fun x_6=>
   (shows_l3 N N i u6 u u2 u3 u4 u5 u6 x_6 (x_6.length:Int) 0 d g).bind fun e=>match e with
   | .inl _=>
    some (.inl ())
   | .inr (i_11,u_12,u2_13,u3_14,u4_15,u5_16,u6_17,d_18,g_19)=>
    chk (u6_17+1)<|
    shows_l2 N n_ i_11 u_12 u2_13 u3_14 u4_15 u5_16 (u6_17+1) d_18 g_19)
   (some (.inr (u,u2,u3,d,g)))
def shows_l1(N:Nat):Nat→(List Qj)→Int→Int→(Qa)→Qe→Option ((Unit)⊕(Qa×List Int))
 | 0,_,_,_,_,_=>none
 | n_+1,u,u2,u3,d,g=>
  br (decide (u3<u2))
   (idx u u3 fun x_5=>
   (shows_l2 N N u3 u u2 u3 x_5 (x_5.length:Int) 0 d g).bind fun e=>match e with
   | .inl _=>
    some (.inl ())
   | .inr (u_20,u2_21,u3_22,d_23,g_24)=>
    chk (u3_22+1)<|
    shows_l1 N n_ u_20 u2_21 (u3_22+1) d_23 g_24)
   (some (.inr (d,g)))
def shows_S(N:Nat)(e:List Qe)(e2:List Int)(e3 p p2:Int)(marks:List Qj):Option Qd:=
 ((B5 N e e2 e3 p p2).bind fun e=>match e with
 | .inl (x_1,y_2)=>
  (br (!decide (y_2=0))
   (some (0,y_2))
   (chk ((x_1.2.1.length:Int)+1)<|
   br (!decide ((marks.length:Int)=((x_1.2.1.length:Int)+1)))
    (some (0,2))
    ((Re N marks x_1).bind fun x_3=>
    br (!x_3)
     (some (0,2))
     ((Ra N marks).bind fun x_4=>
     br (!x_4)
      (some (0,3))
      ((shows_l1 N N marks (marks.length:Int) 0 x_1 (List.replicate 539 (0:Int))).bind fun e=>match e with
      | .inl _=>
       some (0,8)
      | .inr (d_25,g_26)=>
       rng (d_25.2.1.length:Int) 11<|
       rng (d_25.2.2.2.1.length:Int) 7<|
       rng (d_25.2.2.2.2.length:Int) 7<|
       get g_26 ((((d_25.2.1.length:Int).toNat*49)+(d_25.2.2.2.1.length:Int).toNat*7)+(d_25.2.2.2.2.length:Int).toNat) fun x_27=>
       some (x_27,0))))))
 | .inr x_28=>
  (br (!decide (x_28=0))
   (some (0,x_28))
   (none)))
noncomputable def Pd(N:Nat):Oks:=[⟨_,Ax N⟩,⟨_,Ui N⟩,⟨_,A3r N⟩,⟨_,A3l N⟩]
abbrev Ae2:List StSh:=[⟨[.i .i64,.i .i64],[]⟩]
noncomputable abbrev A3s:Body:=mkB Tryz.f42 Ae2 0
noncomputable def Nr(N:Nat){top:Bool}:LpQ A3s top:=mkL (Z:=(Unit)⊕(Int×List Qj×Int×Int×List Qe×Int×Int×Qa×List Int)) (Pd N) [] [.c [1,1,1,1,0,1,0,0,1,1,0,0,1,1,0,0,1,1,0,0,1,1,0,0,0],.c [1,1,1,1,0,1,0,0,1,1,0,0,1,1,0,0,1,1,0,0,1,1,0,0,1],.l [1,1,1,1,0,1,0,0,1,1,0,0,1,1,0,0,1,1,0,0,1,1,0,0],.b 5,.b 4,.c [1,1,1,1,0,1,0,0,1,1,0,0,1,1,0,0,1,1,1],.l [1,1,1,1,0,1,0,0,1,1,0,0,1,1,0,0],.b 3,.b 2,.c [1,1,1,1,0,1,0,0,1,1,1],.l [1,1,1,1,0,1,0,0],.b 1,.c [1,1,1,1,1]] ⟨[8,10,11,13,48,49,50,55,56,57,62,63,64],⟨[.own 0 0,.own 1 0,.i .i64,.i .i64,.sl Qw,.i .i64,.i .i64,.sl Qf,.i .i64,.i .i64,.sl (.int .i64),.i .i64,.i .i64],[.segs [.fe Qb],.segs [.arr (.int .i64) 539]]⟩⟩ (fun m p=>shows_l3 N m p.1.2.2.1 p.1.2.2.2.1 p.1.2.2.2.2.1 p.1.2.2.2.2.2.1 p.1.2.2.2.2.2.2.1 p.1.2.2.2.2.2.2.2.1 p.1.2.2.2.2.2.2.2.2.1 p.1.2.2.2.2.2.2.2.2.2.1 p.1.2.2.2.2.2.2.2.2.2.2.1 p.1.2.2.2.2.2.2.2.2.2.2.2.1 p.1.2.2.2.2.2.2.2.2.2.2.2.2.1 p.2.1.1 p.2.2.1.1) [⟨[.c [1,1,1,1,0,1,0,0,1,1,0,0,1,1,0,0,1,1,0,0,1,1,0,0,1,1,0,0,1,1,1,0,0],.c [1,1,1,1,0,1,0,0,1,1,0,0,1,1,0,0,1,1,0,0,1,1,0,0,1,1,0,0,1,1,1,0,1],.b 6,.c [1,1,1,1,0,1,0,0,1,1,0,0,1,1,0,0,1,1,0,0,1,1,0,0,1,1,1],.l [1,1,1,1,0,1,0,0,1,1,0,0,1,1,0,0,1,1,0,0,1,1,0,0],.b 5,.b 4,.c [1,1,1,1,0,1,0,0,1,1,0,0,1,1,0,0,1,1,1],.l [1,1,1,1,0,1,0,0,1,1,0,0,1,1,0,0],.b 3,.b 2,.c [1,1,1,1,0,1,0,0,1,1,1],.l [1,1,1,1,0,1,0,0],.b 1,.c [1,1,1,1,1]],⟨[],⟨[],[]⟩⟩,fun p=>some (.inl ())⟩,⟨[.c [1,1,1,1,0,1,0,0,1,1,0,0,1,1,0,0,1,1,1],.l [1,1,1,1,0,1,0,0,1,1,0,0,1,1,0,0],.b 3,.b 2,.c [1,1,1,1,0,1,0,0,1,1,1],.l [1,1,1,1,0,1,0,0],.b 1,.c [1,1,1,1,1]],⟨[8,10,11,48,49,50,55,56,57],⟨[.own 0 0,.own 1 0,.i .i64,.sl Qw,.i .i64,.i .i64,.sl Qf,.i .i64,.i .i64],[.segs [.fe Qb],.segs [.arr (.int .i64) 539]]⟩⟩,fun p=>some (.inr (p.1.2.2.1,p.1.2.2.2.1,p.1.2.2.2.2.1,p.1.2.2.2.2.2.1,p.1.2.2.2.2.2.2.1,p.1.2.2.2.2.2.2.2.1,p.1.2.2.2.2.2.2.2.2.1,p.2.1.1,p.2.2.1.1))⟩] (fun _=>[]) (fun k e=>match e with | .inl x=>k (.inl ((),())) | .inr x=>k (.inr (.inl (((),(),x.1,x.2.1,x.2.2.1,x.2.2.2.1,x.2.2.2.2.1,x.2.2.2.2.2.1,x.2.2.2.2.2.2.1,()),((x.2.2.2.2.2.2.2.1,()),(x.2.2.2.2.2.2.2.2,()),()))))) N (fun m p=>by kernel_rfl) (hg:=(by rintro _ _ (_ | _)<;>rfl))
noncomputable def Yf(N:Nat){top:Bool}:LpQ A3s top:=mkL (Z:=(Unit)⊕(List Qj×Int×Int×Qa×List Int)) (Pd N) [Nr N] [.c [1,1,1,1,0,1,0,0,1,1,0,0,1,1,0,0,0],.c [1,1,1,1,0,1,0,0,1,1,0,0,1,1,0,0,1],.l [1,1,1,1,0,1,0,0,1,1,0,0,1,1,0,0],.b 3,.b 2,.c [1,1,1,1,0,1,0,0,1,1,1],.l [1,1,1,1,0,1,0,0],.b 1,.c [1,1,1,1,1]] ⟨[8,10,11,48,49,50,55,56,57],⟨[.own 0 0,.own 1 0,.i .i64,.sl Qw,.i .i64,.i .i64,.sl Qf,.i .i64,.i .i64],[.segs [.fe Qb],.segs [.arr (.int .i64) 539]]⟩⟩ (fun m p=>shows_l2 N m p.1.2.2.1 p.1.2.2.2.1 p.1.2.2.2.2.1 p.1.2.2.2.2.2.1 p.1.2.2.2.2.2.2.1 p.1.2.2.2.2.2.2.2.1 p.1.2.2.2.2.2.2.2.2.1 p.2.1.1 p.2.2.1.1) [⟨[.c [1,1,1,1,0,1,0,0,1,1,0,0,1,1,0,0,1,1,0,0,1,1,0,0,1,1,0,0,1,1,1,0,0],.c [1,1,1,1,0,1,0,0,1,1,0,0,1,1,0,0,1,1,0,0,1,1,0,0,1,1,0,0,1,1,1,0,1],.b 6,.c [1,1,1,1,0,1,0,0,1,1,0,0,1,1,0,0,1,1,0,0,1,1,0,0,1,1,1],.l [1,1,1,1,0,1,0,0,1,1,0,0,1,1,0,0,1,1,0,0,1,1,0,0],.b 5,.b 4,.c [1,1,1,1,0,1,0,0,1,1,0,0,1,1,0,0,1,1,1],.l [1,1,1,1,0,1,0,0,1,1,0,0,1,1,0,0],.b 3,.b 2,.c [1,1,1,1,0,1,0,0,1,1,1],.l [1,1,1,1,0,1,0,0],.b 1,.c [1,1,1,1,1]],⟨[],⟨[],[]⟩⟩,fun p=>some (.inl ())⟩,⟨[.c [1,1,1,1,0,1,0,0,1,1,1],.l [1,1,1,1,0,1,0,0],.b 1,.c [1,1,1,1,1]],⟨[8,10,48,49,50],⟨[.own 0 0,.own 1 0,.sl Qw,.i .i64,.i .i64],[.segs [.fe Qb],.segs [.arr (.int .i64) 539]]⟩⟩,fun p=>some (.inr (p.1.2.2.1,p.1.2.2.2.1,p.1.2.2.2.2.1,p.2.1.1,p.2.2.1.1))⟩] (fun _=>[]) (fun k e=>match e with | .inl x=>k (.inl ((),())) | .inr x=>k (.inr (.inl (((),(),x.1,x.2.1,x.2.2.1,()),((x.2.2.2.1,()),(x.2.2.2.2,()),()))))) N (fun m p=>by kernel_rfl) (hg:=(by rintro _ _ (_ | _)<;>rfl))
noncomputable def Aaw(N:Nat){top:Bool}:LpQ A3s top:=mkL (Z:=(Unit)⊕(Qa×List Int)) (Pd N) [Nr N,Yf N] [.c [1,1,1,1,0,1,0,0,0],.c [1,1,1,1,0,1,0,0,1],.l [1,1,1,1,0,1,0,0],.b 1,.c [1,1,1,1,1]] ⟨[8,10,48,49,50],⟨[.own 0 0,.own 1 0,.sl Qw,.i .i64,.i .i64],[.segs [.fe Qb],.segs [.arr (.int .i64) 539]]⟩⟩ (fun m p=>shows_l1 N m p.1.2.2.1 p.1.2.2.2.1 p.1.2.2.2.2.1 p.2.1.1 p.2.2.1.1) [⟨[.c [1,1,1,1,0,1,0,0,1,1,0,0,1,1,0,0,1,1,0,0,1,1,0,0,1,1,0,0,1,1,1,0,0],.c [1,1,1,1,0,1,0,0,1,1,0,0,1,1,0,0,1,1,0,0,1,1,0,0,1,1,0,0,1,1,1,0,1],.b 6,.c [1,1,1,1,0,1,0,0,1,1,0,0,1,1,0,0,1,1,0,0,1,1,0,0,1,1,1],.l [1,1,1,1,0,1,0,0,1,1,0,0,1,1,0,0,1,1,0,0,1,1,0,0],.b 5,.b 4,.c [1,1,1,1,0,1,0,0,1,1,0,0,1,1,0,0,1,1,1],.l [1,1,1,1,0,1,0,0,1,1,0,0,1,1,0,0],.b 3,.b 2,.c [1,1,1,1,0,1,0,0,1,1,1],.l [1,1,1,1,0,1,0,0],.b 1,.c [1,1,1,1,1]],⟨[],⟨[],[]⟩⟩,fun p=>some (.inl ())⟩,⟨[.c [1,1,1,1,1,0],.c [1,1,1,1,1,1]],⟨[8,10],⟨[.own 0 0,.own 1 0],[.segs [.fe Qb],.segs [.arr (.int .i64) 539]]⟩⟩,fun p=>some (.inr (p.2.1.1,p.2.2.1.1))⟩] (fun _=>[]) (fun k e=>match e with | .inl x=>k (.inl ((),())) | .inr x=>k (.inr (.inl (((),(),()),((x.1,()),(x.2,()),()))))) N (fun m p=>by kernel_rfl) (hg:=(by rintro _ _ (_ | _)<;>rfl))
noncomputable def Ak1(N:Nat):Spec:=mkS 42 ⟨[.agg [.sl Qf,.sl (.int .i64),.i .i64],.agg [.i .i64,.i .i64],.sl Qw],[]⟩ Ae2 (fun p=>shows_S N p.1.1.1 p.1.1.2.1 p.1.1.2.2.1 p.1.2.1.1 p.1.2.1.2.1 p.1.2.2.1) (fun k r=>k ((r.1,r.2,()),()))
theorem A76(N:Nat):A2 Tryz.prog (Ak1 N):=mkF (R:=Int×Int) (m0:=0) (Pd N) [Nr N,Yf N,Aaw N] (fun r=>some (r.1.1,r.1.2.1)) [] Tryz.func42 (fun p=>by kernel_rfl) (by kernel_rfl) (fun _=>by kernel_rfl)
noncomputable def Agz(_:Nat):Spec:={ f:=71,ins:=⟨[],[]⟩,outs:=[],run:=fun _ _=>none }
theorem A2w(N:Nat):A2 Tryz.prog (Agz N):=⟨fun _ _ _=>rfl,(Ge N).call,fun _ _ h=>by cases h⟩
def rshows_l2(N:Nat):Nat→(List Qj)→Qe→Qe→Int→Int→Qj→Qe→Int→Option ((Unit)⊕(List Qj×List Int×List Int×Int×List Qe×List Int×Int))
 | 0,_,_,_,_,_,_,_,_=>none
 | n_+1,m,a,b,i,k,e,e2,e3=>
  idx m i fun x_5=>
  br (decide (k<(x_5.length:Int)))
   (idx m i fun x_6=>
   idx x_6 k fun x_7=>
   chk ((b.length:Int)+1)<|
   br (!decide ((x_7.length:Int)=((b.length:Int)+1)))
    (some (.inl ()))
    (chk (k+1)<|
    rshows_l2 N n_ m a b i (k+1) e e2 e3))
   (some (.inr (m,a,b,i,e,e2,e3)))
def rshows_l1(N:Nat):Nat→(List Qj)→Qe→Qe→Int→Qj→Qe→Int→Option ((Unit)⊕((Unit)⊕(List Qj×List Int×List Int×List Qe×List Int×Int)))
 | 0,_,_,_,_,_,_,_=>none
 | n_+1,m,a,b,i,e,e2,e3=>
  br (decide (i<(m.length:Int)))
   (idx m i fun x_4=>
   chk ((a.length:Int)+1)<|
   br (!decide ((x_4.length:Int)=((a.length:Int)+1)))
    (some (.inl ()))
    ((rshows_l2 N N m a b i 0 e e2 e3).bind fun e=>match e with
    | .inl _=>
     some (.inr (.inl ()))
    | .inr (m_8,a_9,b_10,i_11,e_12,e2_13,e3_14)=>
     chk (i_11+1)<|
     rshows_l1 N n_ m_8 a_9 b_10 (i_11+1) e_12 e2_13 e3_14))
   (some (.inr (.inr (m,a,b,e,e2,e3))))
def D5(N:Nat)(rec:(List Qj)→Qe→Qe→Bool→Bool→Int→Int→Int→Qj→Qe→Int→Option Qi)(m:List Qj)(a b:List Int)(allowed holds:Bool)(i k n:Int)(e:List Qe)(e2:List Int)(e3:Int):Option Qi:=
 chk (n+1)<|
 rec m a b allowed holds i k (n+1) e e2 e3
def Ch(N:Nat)(rec:(List Qj)→Qe→Qe→Bool→Bool→Int→Int→Int→Qj→Qe→Int→Option Qi)(m:List Qj)(a b:List Int)(allowed holds:Bool)(i k n now:Int)(e:List Qe)(e2:List Int)(e3:Int):Option Qi:=
 br (decide (0<i))
  (br (decide (0<n))
   (idx e2 (IntKind.i64.wrap (i-1)) fun x_36=>
   idx b (IntKind.i64.wrap (n-1)) fun x_37=>
   br (decide (x_36=x_37))
    (idx m (IntKind.i64.wrap (i-1)) fun x_38=>
    idx x_38 k fun x_39=>
    idx x_39 (IntKind.i64.wrap (n-1)) fun x_40=>
    br (decide (x_40<now))
     (D5 N (rec) m a b allowed false i k n e e2 e3)
     (D5 N (rec) m a b allowed holds i k n e e2 e3))
    (D5 N (rec) m a b allowed holds i k n e e2 e3))
   (D5 N (rec) m a b allowed holds i k n e e2 e3))
  (D5 N (rec) m a b allowed holds i k n e e2 e3)
def Ae(N:Nat)(rec:(List Qj)→Qe→Qe→Bool→Bool→Int→Int→Int→Qj→Qe→Int→Option Qi)(m:List Qj)(a b:List Int)(allowed holds:Bool)(i k n now:Int)(e:List Qe)(e2:List Int)(e3:Int):Option Qi:=
 br (decide (0<i))
  (br (decide (0<k))
   (idx e2 (IntKind.i64.wrap (i-1)) fun x_31=>
   idx a (IntKind.i64.wrap (k-1)) fun x_32=>
   br (decide (x_31=x_32))
    (idx m (IntKind.i64.wrap (i-1)) fun x_33=>
    idx x_33 (IntKind.i64.wrap (k-1)) fun x_34=>
    idx x_34 n fun x_35=>
    br (decide (x_35<now))
     (Ch N (rec) m a b allowed false i k n now e e2 e3)
     (Ch N (rec) m a b allowed holds i k n now e e2 e3))
    (Ch N (rec) m a b allowed holds i k n now e e2 e3))
   (Ch N (rec) m a b allowed holds i k n now e e2 e3))
  (Ch N (rec) m a b allowed holds i k n now e e2 e3)
def G6(N:Nat)(rec:(List Qj)→Qe→Qe→Bool→Bool→Int→Int→Int→Qj→Qe→Int→Option Qi)(m:List Qj)(a b:List Int)(allowed holds:Bool)(i k n now:Int)(e:List Qe)(e2:List Int)(e3:Int):Option Qi:=
 br (decide (0<i))
  (idx m (IntKind.i64.wrap (i-1)) fun x_28=>
  idx x_28 k fun x_29=>
  idx x_29 n fun x_30=>
  br (decide (x_30<(IntKind.i64.wrap (now-1))))
   (Ae N (rec) m a b allowed false i k n now e e2 e3)
   (br (decide (0<k))
    (idx m i fun x_41=>
    idx x_41 (IntKind.i64.wrap (k-1)) fun x_42=>
    idx x_42 n fun x_43=>
    br (decide (x_43<(IntKind.i64.wrap (now-1))))
     (Ae N (rec) m a b allowed false i k n now e e2 e3)
     (br (decide (0<n))
      (idx m i fun x_44=>
      idx x_44 k fun x_45=>
      idx x_45 (IntKind.i64.wrap (n-1)) fun x_46=>
      br (decide (x_46<(IntKind.i64.wrap (now-1))))
       (Ae N (rec) m a b allowed false i k n now e e2 e3)
       (Ae N (rec) m a b allowed holds i k n now e e2 e3))
      (Ae N (rec) m a b allowed holds i k n now e e2 e3)))
    (br (decide (0<n))
     (idx m i fun x_47=>
     idx x_47 k fun x_48=>
     idx x_48 (IntKind.i64.wrap (n-1)) fun x_49=>
     br (decide (x_49<(IntKind.i64.wrap (now-1))))
      (Ae N (rec) m a b allowed false i k n now e e2 e3)
      (Ae N (rec) m a b allowed holds i k n now e e2 e3))
     (Ae N (rec) m a b allowed holds i k n now e e2 e3))))
  (br (decide (0<k))
   (idx m i fun x_50=>
   idx x_50 (IntKind.i64.wrap (k-1)) fun x_51=>
   idx x_51 n fun x_52=>
   br (decide (x_52<(IntKind.i64.wrap (now-1))))
    (Ae N (rec) m a b allowed false i k n now e e2 e3)
    (br (decide (0<n))
     (idx m i fun x_53=>
     idx x_53 k fun x_54=>
     idx x_54 (IntKind.i64.wrap (n-1)) fun x_55=>
     br (decide (x_55<(IntKind.i64.wrap (now-1))))
      (Ae N (rec) m a b allowed false i k n now e e2 e3)
      (Ae N (rec) m a b allowed holds i k n now e e2 e3))
     (Ae N (rec) m a b allowed holds i k n now e e2 e3)))
   (br (decide (0<n))
    (idx m i fun x_56=>
    idx x_56 k fun x_57=>
    idx x_57 (IntKind.i64.wrap (n-1)) fun x_58=>
    br (decide (x_58<(IntKind.i64.wrap (now-1))))
     (Ae N (rec) m a b allowed false i k n now e e2 e3)
     (Ae N (rec) m a b allowed holds i k n now e e2 e3))
    (Ae N (rec) m a b allowed holds i k n now e e2 e3)))
def rshows_l5(N:Nat):Nat→(List Qj)→Qe→Qe→Bool→Bool→Int→Int→Int→Qj→Qe→Int→Option Qi
 | 0,_,_,_,_,_,_,_,_,_,_,_=>none
 | n_+1,m,a,b,allowed,holds,i,k,n,e,e2,e3=>
  br (decide (n≤(b.length:Int)))
   (idx m i fun x_24=>
   idx x_24 k fun x_25=>
   idx x_25 n fun x_26=>
   (Lo N x_26 0 99).bind fun x_27=>
   br x_27
    (G6 N (rshows_l5 N n_) m a b false holds i k n x_26 e e2 e3)
    (G6 N (rshows_l5 N n_) m a b allowed holds i k n x_26 e e2 e3))
   (some ((m,a,b,allowed,holds,i,k,e,e2,e3)))
def rshows_l4(N:Nat):Nat→(List Qj)→Qe→Qe→Bool→Bool→Int→Int→Qj→Qe→Int→Option (List Qj×List Int×List Int×Bool×Bool×Int×List Qe×List Int×Int)
 | 0,_,_,_,_,_,_,_,_,_,_=>none
 | n_+1,m,a,b,allowed,holds,i,k,e,e2,e3=>
  br (decide (k≤(a.length:Int)))
   ((rshows_l5 N N m a b allowed holds i k 0 e e2 e3).bind fun(m_59,a_60,b_61,allowed_62,holds_63,i_64,k_65,e_66,e2_67,e3_68)=>
   chk (k_65+1)<|
   rshows_l4 N n_ m_59 a_60 b_61 allowed_62 holds_63 i_64 (k_65+1) e_66 e2_67 e3_68)
   (some ((m,a,b,allowed,holds,i,e,e2,e3)))
def rshows_l3(N:Nat):Nat→(List Qj)→Qe→Qe→Bool→Bool→Int→Qj→Qe→Int→Option (List Qj×List Int×List Int×Bool×Bool×List Qe×List Int×Int)
 | 0,_,_,_,_,_,_,_,_,_=>none
 | n_+1,m,a,b,allowed,holds,i,e,e2,e3=>
  br (decide (i≤(e2.length:Int)))
   ((rshows_l4 N N m a b allowed holds i 0 e e2 e3).bind fun(m_69,a_70,b_71,allowed_72,holds_73,i_74,e_75,e2_76,e3_77)=>
   chk (i_74+1)<|
   rshows_l3 N n_ m_69 a_70 b_71 allowed_72 holds_73 (i_74+1) e_75 e2_76 e3_77)
   (some ((m,a,b,allowed,holds,e,e2,e3)))
def rshows_S(N:Nat)(e:List Qe)(e2:List Int)(e3 p p2:Int)(m:List Qj):Option Qd:=
 (Jj N e e2 e3 p p2).bind fun x_1=>
 br (!decide (x_1=0))
  (some (0,x_1))
  (idx e p fun x_2=>
  idx e p2 fun x_3=>
  chk ((e2.length:Int)+1)<|
  br (!decide ((m.length:Int)=((e2.length:Int)+1)))
   (some (0,2))
   ((rshows_l1 N N m x_2 x_3 0 e e2 e3).bind fun e=>match e with
   | .inl _=>
    some (0,2)
   | .inr (.inl _)=>
    some (0,2)
   | .inr (.inr (m_15,a_16,b_17,e_18,e2_19,e3_20))=>
    idx m_15 0 fun x_21=>
    idx x_21 0 fun x_22=>
    idx x_22 0 fun x_23=>
    (rshows_l3 N N m_15 a_16 b_17 true (decide (x_23=0)) 0 e_18 e2_19 e3_20).bind fun(m_78,a_79,b_80,allowed_81,holds_82,e_83,e2_84,e3_85)=>
    br (!allowed_81)
     (some (0,3))
     (br (!holds_82)
      (some (0,8))
      (idx m_78 (e2_84.length:Int) fun x_86=>
      idx x_86 (a_79.length:Int) fun x_87=>
      idx x_87 (b_80.length:Int) fun x_88=>
      some (x_88,0)))))
noncomputable def C7(N:Nat):Oks:=[⟨_,A2w N⟩,⟨_,Ge N⟩,⟨_,Dy N⟩]
abbrev A5x:List StSh:=[⟨[.i .i64,.i .i64],[]⟩]
noncomputable abbrev Df:Body:=mkB Tryz.f43 A5x 0
noncomputable def Bn(N:Nat){top:Bool}:LpQ Df top:=mkL (Z:=(Unit)⊕(List Qj×List Int×List Int×Int×List Qe×List Int×Int)) (C7 N) [] [.c [1,1,1,1,0,1,0,0,1,0,0,1,1,0,0,0,0],.c [1,1,1,1,0,1,0,0,1,0,0,1,1,0,0,0,1],.c [1,1,1,1,0,1,0,0,1,0,0,1,1,0,0,1],.l [1,1,1,1,0,1,0,0,1,0,0,1,1,0,0],.b 2,.b 1,.c [1,1,1,1,0,1,0,0,1,1],.l [1,1,1,1,0,1,0,0],.b 0,.c [1,1,1,1,1]] ⟨[2,3,9,10,11,12],⟨[.sl Qw,.own 0 0,.sl (.int .i64),.sl (.int .i64),.i .i64,.i .i64],[.segs [.sl Qf,.sl (.int .i64),.i .i64]]⟩⟩ (fun m p=>rshows_l2 N m p.1.1 p.1.2.2.1 p.1.2.2.2.1 p.1.2.2.2.2.1 p.1.2.2.2.2.2.1 p.2.1.1 p.2.1.2.1 p.2.1.2.2.1) [⟨[.c [1,1,1,1,0,1,0,0,1,0,0,1,1,0,0,1,0,0,1,0,0],.c [1,1,1,1,0,1,0,0,1,0,0,1,1,0,0,1,0,0,1,0,1],.b 3,.c [1,1,1,1,0,1,0,0,1,0,0,1,1,0,0,1,1],.l [1,1,1,1,0,1,0,0,1,0,0,1,1,0,0],.b 2,.b 1,.c [1,1,1,1,0,1,0,0,1,1],.l [1,1,1,1,0,1,0,0],.b 0,.c [1,1,1,1,1]],⟨[],⟨[],[]⟩⟩,fun p=>some (.inl ())⟩,⟨[.c [1,1,1,1,0,1,0,0,1,1],.l [1,1,1,1,0,1,0,0],.b 0,.c [1,1,1,1,1]],⟨[2,3,9,10,11],⟨[.sl Qw,.own 0 0,.sl (.int .i64),.sl (.int .i64),.i .i64],[.segs [.sl Qf,.sl (.int .i64),.i .i64]]⟩⟩,fun p=>some (.inr (p.1.1,p.1.2.2.1,p.1.2.2.2.1,p.1.2.2.2.2.1,p.2.1.1,p.2.1.2.1,p.2.1.2.2.1))⟩] (fun _=>[]) (fun k e=>match e with | .inl x=>k (.inl ((),())) | .inr x=>k (.inr (.inl ((x.1,(),x.2.1,x.2.2.1,x.2.2.2.1,()),((x.2.2.2.2.1,x.2.2.2.2.2.1,x.2.2.2.2.2.2,()),()))))) N (fun m p=>by kernel_rfl) (hg:=(by rintro _ _ (_ | _)<;>rfl))
noncomputable def Bz(N:Nat){top:Bool}:LpQ Df top:=mkL (Z:=(Unit)⊕((Unit)⊕(List Qj×List Int×List Int×List Qe×List Int×Int))) (C7 N) [Bn N] [.c [1,1,1,1,0,1,0,0,0,0],.c [1,1,1,1,0,1,0,0,0,1],.c [1,1,1,1,0,1,0,0,1],.l [1,1,1,1,0,1,0,0],.b 0,.c [1,1,1,1,1]] ⟨[2,3,9,10,11],⟨[.sl Qw,.own 0 0,.sl (.int .i64),.sl (.int .i64),.i .i64],[.segs [.sl Qf,.sl (.int .i64),.i .i64]]⟩⟩ (fun m p=>rshows_l1 N m p.1.1 p.1.2.2.1 p.1.2.2.2.1 p.1.2.2.2.2.1 p.2.1.1 p.2.1.2.1 p.2.1.2.2.1) [⟨[.c [1,1,1,1,0,1,0,0,1,0,0,0,1,0,0],.c [1,1,1,1,0,1,0,0,1,0,0,0,1,0,1],.c [1,1,1,1,0,1,0,0,1,0,0,1],.b 1,.c [1,1,1,1,0,1,0,0,1,1],.l [1,1,1,1,0,1,0,0],.b 0,.c [1,1,1,1,1]],⟨[],⟨[],[]⟩⟩,fun p=>some (.inl ())⟩,⟨[.c [1,1,1,1,0,1,0,0,1,0,0,1,1,0,0,1,0,0,1,0,0],.c [1,1,1,1,0,1,0,0,1,0,0,1,1,0,0,1,0,0,1,0,1],.b 3,.c [1,1,1,1,0,1,0,0,1,0,0,1,1,0,0,1,1],.l [1,1,1,1,0,1,0,0,1,0,0,1,1,0,0],.b 2,.b 1,.c [1,1,1,1,0,1,0,0,1,1],.l [1,1,1,1,0,1,0,0],.b 0,.c [1,1,1,1,1]],⟨[],⟨[],[]⟩⟩,fun p=>some (.inr (.inl ()))⟩,⟨[.c [1,1,1,1,1,0],.c [1,1,1,1,1,1]],⟨[2,3,9,10],⟨[.sl Qw,.own 0 0,.sl (.int .i64),.sl (.int .i64)],[.segs [.sl Qf,.sl (.int .i64),.i .i64]]⟩⟩,fun p=>some (.inr (.inr (p.1.1,p.1.2.2.1,p.1.2.2.2.1,p.2.1.1,p.2.1.2.1,p.2.1.2.2.1)))⟩] (fun _=>[]) (fun k e=>match e with | .inl x=>k (.inl ((),())) | .inr (.inl x)=>k (.inr (.inl ((),()))) | .inr (.inr x)=>k (.inr (.inr (.inl ((x.1,(),x.2.1,x.2.2.1,()),((x.2.2.2.1,x.2.2.2.2.1,x.2.2.2.2.2,()),())))))) N (fun m p=>by kernel_rfl) (hg:=(by rintro _ _ (_ | _ | _)<;>rfl))
abbrev Qy:List PI:=[.c [1,1,1,1,1,1,0,1,0,0,1,0,0,1,0,0,1,0,0,1,0,0,0,0],.c [1,1,1,1,1,1,0,1,0,0,1,0,0,1,0,0,1,0,0,1,0,0,0,1],.c [1,1,1,1,1,1,0,1,0,0,1,0,0,1,0,0,1,0,0,1,0,0,1],.l [1,1,1,1,1,1,0,1,0,0,1,0,0,1,0,0,1,0,0,1,0,0],.b 8,.b 7,.c [1,1,1,1,1,1,0,1,0,0,1,0,0,1,0,0,1,1],.l [1,1,1,1,1,1,0,1,0,0,1,0,0,1,0,0],.b 6,.b 5,.c [1,1,1,1,1,1,0,1,0,0,1,1],.l [1,1,1,1,1,1,0,1,0,0],.b 4,.c [1,1,1,1,1,1,1]]
abbrev P8:Sta:=⟨[2,3,9,10,13,14,15,16,17],⟨[.sl Qw,.own 0 0,.sl (.int .i64),.sl (.int .i64),.b,.b,.i .i64,.i .i64,.i .i64],[.segs [.sl Qf,.sl (.int .i64),.i .i64]]⟩⟩
abbrev Hu(rec:(List Qj)→Qe→Qe→Bool→Bool→Int→Int→Int→Qj→Qe→Int→Option Qi):Leaf Qi:=⟨Qy,P8,fun p=>rec p.1.1 p.1.2.2.1 p.1.2.2.2.1 p.1.2.2.2.2.1 p.1.2.2.2.2.2.1 p.1.2.2.2.2.2.2.1 p.1.2.2.2.2.2.2.2.1 p.1.2.2.2.2.2.2.2.2.1 p.2.1.1 p.2.1.2.1 p.2.1.2.2.1⟩
abbrev Dg:Leaf Qi:=⟨[.c [1,1,1,1,1,1,0,1,0,0,1,0,0,1,0,0,1,1],.l [1,1,1,1,1,1,0,1,0,0,1,0,0,1,0,0],.b 6,.b 5,.c [1,1,1,1,1,1,0,1,0,0,1,1],.l [1,1,1,1,1,1,0,1,0,0],.b 4,.c [1,1,1,1,1,1,1]],⟨[2,3,9,10,13,14,15,16],⟨[.sl Qw,.own 0 0,.sl (.int .i64),.sl (.int .i64),.b,.b,.i .i64,.i .i64],[.segs [.sl Qf,.sl (.int .i64),.i .i64]]⟩⟩,fun p=>some ((p.1.1,p.1.2.2.1,p.1.2.2.2.1,p.1.2.2.2.2.1,p.1.2.2.2.2.2.1,p.1.2.2.2.2.2.2.1,p.1.2.2.2.2.2.2.2.1,p.2.1.1,p.2.1.2.1,p.2.1.2.2.1))⟩
noncomputable def Hl(N:Nat)(rec:(List Qj)→Qe→Qe→Bool→Bool→Int→Int→Int→Qj→Qe→Int→Option Qi){top:Bool}:JnQ (Z:=List Qj×List Int×List Int×Bool×Bool×Int×Int×List Qe×List Int×Int) Df top none [Hu rec,Dg]:=mkJ (C7 N) [Bn N,Bz N] [] ⟨[.c [1,1,1,1,1,1,0,1,0,0,1,0,0,1,0,0,1,0,0,1,0,0,1,1],.l [1,1,1,1,1,1,0,1,0,0,1,0,0,1,0,0,1,0,0,1,0,0],.b 8,.b 7,.c [1,1,1,1,1,1,0,1,0,0,1,0,0,1,0,0,1,1],.l [1,1,1,1,1,1,0,1,0,0,1,0,0,1,0,0],.b 6,.b 5,.c [1,1,1,1,1,1,0,1,0,0,1,1],.l [1,1,1,1,1,1,0,1,0,0],.b 4,.c [1,1,1,1,1,1,1]],⟨[2,3,9,10,13,14,15,16,17],⟨[.sl Qw,.own 0 0,.sl (.int .i64),.sl (.int .i64),.b,.b,.i .i64,.i .i64,.i .i64],[.segs [.sl Qf,.sl (.int .i64),.i .i64]]⟩⟩,fun p=>D5 N rec p.1.1 p.1.2.2.1 p.1.2.2.2.1 p.1.2.2.2.2.1 p.1.2.2.2.2.2.1 p.1.2.2.2.2.2.2.1 p.1.2.2.2.2.2.2.2.1 p.1.2.2.2.2.2.2.2.2.1 p.2.1.1 p.2.1.2.1 p.2.1.2.2.1⟩ (fun p=>by kernel_rfl)
noncomputable def Lm(N:Nat)(rec:(List Qj)→Qe→Qe→Bool→Bool→Int→Int→Int→Qj→Qe→Int→Option Qi){top:Bool}:JnQ (Z:=List Qj×List Int×List Int×Bool×Bool×Int×Int×List Qe×List Int×Int) Df top none [Hu rec,Dg]:=mkJ (C7 N) [Bn N,Bz N] [Hl N rec] ⟨[.c [1,1,1,1,1,1,0,1,0,0,1,0,0,1,0,0,1,0,0,1,0,0,1,0,0,1,1,1,1,0],.c [1,1,1,1,1,1,0,1,0,0,1,0,0,1,0,0,1,0,0,1,0,0,1,0,0,1,1,1,1,1],.b 9,.c [1,1,1,1,1,1,0,1,0,0,1,0,0,1,0,0,1,0,0,1,0,0,1,1],.l [1,1,1,1,1,1,0,1,0,0,1,0,0,1,0,0,1,0,0,1,0,0],.b 8,.b 7,.c [1,1,1,1,1,1,0,1,0,0,1,0,0,1,0,0,1,1],.l [1,1,1,1,1,1,0,1,0,0,1,0,0,1,0,0],.b 6,.b 5,.c [1,1,1,1,1,1,0,1,0,0,1,1],.l [1,1,1,1,1,1,0,1,0,0],.b 4,.c [1,1,1,1,1,1,1]],⟨[2,3,9,10,13,14,15,16,17,18],⟨[.sl Qw,.own 0 0,.sl (.int .i64),.sl (.int .i64),.b,.b,.i .i64,.i .i64,.i .i64,.i .i64],[.segs [.sl Qf,.sl (.int .i64),.i .i64]]⟩⟩,fun p=>Ch N rec p.1.1 p.1.2.2.1 p.1.2.2.2.1 p.1.2.2.2.2.1 p.1.2.2.2.2.2.1 p.1.2.2.2.2.2.2.1 p.1.2.2.2.2.2.2.2.1 p.1.2.2.2.2.2.2.2.2.1 p.1.2.2.2.2.2.2.2.2.2.1 p.2.1.1 p.2.1.2.1 p.2.1.2.2.1⟩ (fun p=>by kernel_rfl)
noncomputable def Uu(N:Nat)(rec:(List Qj)→Qe→Qe→Bool→Bool→Int→Int→Int→Qj→Qe→Int→Option Qi){top:Bool}:JnQ (Z:=List Qj×List Int×List Int×Bool×Bool×Int×Int×List Qe×List Int×Int) Df top none [Hu rec,Dg]:=mkJ (C7 N) [Bn N,Bz N] [Hl N rec,Lm N rec] ⟨[.c [1,1,1,1,1,1,0,1,0,0,1,0,0,1,0,0,1,0,0,1,0,0,1,0,0,1,1,1,0,0],.c [1,1,1,1,1,1,0,1,0,0,1,0,0,1,0,0,1,0,0,1,0,0,1,0,0,1,1,1,0,1],.c [1,1,1,1,1,1,0,1,0,0,1,0,0,1,0,0,1,0,0,1,0,0,1,0,0,1,1,1,1],.b 9,.c [1,1,1,1,1,1,0,1,0,0,1,0,0,1,0,0,1,0,0,1,0,0,1,1],.l [1,1,1,1,1,1,0,1,0,0,1,0,0,1,0,0,1,0,0,1,0,0],.b 8,.b 7,.c [1,1,1,1,1,1,0,1,0,0,1,0,0,1,0,0,1,1],.l [1,1,1,1,1,1,0,1,0,0,1,0,0,1,0,0],.b 6,.b 5,.c [1,1,1,1,1,1,0,1,0,0,1,1],.l [1,1,1,1,1,1,0,1,0,0],.b 4,.c [1,1,1,1,1,1,1]],⟨[2,3,9,10,13,14,15,16,17,18],⟨[.sl Qw,.own 0 0,.sl (.int .i64),.sl (.int .i64),.b,.b,.i .i64,.i .i64,.i .i64,.i .i64],[.segs [.sl Qf,.sl (.int .i64),.i .i64]]⟩⟩,fun p=>Ae N rec p.1.1 p.1.2.2.1 p.1.2.2.2.1 p.1.2.2.2.2.1 p.1.2.2.2.2.2.1 p.1.2.2.2.2.2.2.1 p.1.2.2.2.2.2.2.2.1 p.1.2.2.2.2.2.2.2.2.1 p.1.2.2.2.2.2.2.2.2.2.1 p.2.1.1 p.2.1.2.1 p.2.1.2.2.1⟩ (fun p=>by kernel_rfl)
noncomputable def A94(N:Nat)(rec:(List Qj)→Qe→Qe→Bool→Bool→Int→Int→Int→Qj→Qe→Int→Option Qi){top:Bool}:JnQ (Z:=List Qj×List Int×List Int×Bool×Bool×Int×Int×List Qe×List Int×Int) Df top none [Hu rec,Dg]:=mkJ (C7 N) [Bn N,Bz N] [Hl N rec,Lm N rec,Uu N rec] ⟨[.c [1,1,1,1,1,1,0,1,0,0,1,0,0,1,0,0,1,0,0,1,0,0,1,0,0,1,1,0,0],.c [1,1,1,1,1,1,0,1,0,0,1,0,0,1,0,0,1,0,0,1,0,0,1,0,0,1,1,0,1],.c [1,1,1,1,1,1,0,1,0,0,1,0,0,1,0,0,1,0,0,1,0,0,1,0,0,1,1,1],.b 9,.c [1,1,1,1,1,1,0,1,0,0,1,0,0,1,0,0,1,0,0,1,0,0,1,1],.l [1,1,1,1,1,1,0,1,0,0,1,0,0,1,0,0,1,0,0,1,0,0],.b 8,.b 7,.c [1,1,1,1,1,1,0,1,0,0,1,0,0,1,0,0,1,1],.l [1,1,1,1,1,1,0,1,0,0,1,0,0,1,0,0],.b 6,.b 5,.c [1,1,1,1,1,1,0,1,0,0,1,1],.l [1,1,1,1,1,1,0,1,0,0],.b 4,.c [1,1,1,1,1,1,1]],⟨[2,3,9,10,13,14,15,16,17,18],⟨[.sl Qw,.own 0 0,.sl (.int .i64),.sl (.int .i64),.b,.b,.i .i64,.i .i64,.i .i64,.i .i64],[.segs [.sl Qf,.sl (.int .i64),.i .i64]]⟩⟩,fun p=>G6 N rec p.1.1 p.1.2.2.1 p.1.2.2.2.1 p.1.2.2.2.2.1 p.1.2.2.2.2.2.1 p.1.2.2.2.2.2.2.1 p.1.2.2.2.2.2.2.2.1 p.1.2.2.2.2.2.2.2.2.1 p.1.2.2.2.2.2.2.2.2.2.1 p.2.1.1 p.2.1.2.1 p.2.1.2.2.1⟩ (fun p=>by kernel_rfl)
noncomputable def Km(N:Nat){top:Bool}:LpQ Df top:=mkL (Z:=List Qj×List Int×List Int×Bool×Bool×Int×Int×List Qe×List Int×Int) (C7 N) [Bn N,Bz N] Qy P8 (fun m p=>rshows_l5 N m p.1.1 p.1.2.2.1 p.1.2.2.2.1 p.1.2.2.2.2.1 p.1.2.2.2.2.2.1 p.1.2.2.2.2.2.2.1 p.1.2.2.2.2.2.2.2.1 p.1.2.2.2.2.2.2.2.2.1 p.2.1.1 p.2.1.2.1 p.2.1.2.2.1) [Dg] (fun m=>[Hl N (rshows_l5 N m),Lm N (rshows_l5 N m),Uu N (rshows_l5 N m),A94 N (rshows_l5 N m)]) (fun k e=>k (.inl ((e.1,(),e.2.1,e.2.2.1,e.2.2.2.1,e.2.2.2.2.1,e.2.2.2.2.2.1,e.2.2.2.2.2.2.1,()),((e.2.2.2.2.2.2.2.1,e.2.2.2.2.2.2.2.2.1,e.2.2.2.2.2.2.2.2.2,()),())))) N (fun m p=>by kernel_rfl)
noncomputable def Tg(N:Nat){top:Bool}:LpQ Df top:=mkL (Z:=List Qj×List Int×List Int×Bool×Bool×Int×List Qe×List Int×Int) (C7 N) [Bn N,Bz N,Km N] [.c [1,1,1,1,1,1,0,1,0,0,1,0,0,1,0,0,0,0],.c [1,1,1,1,1,1,0,1,0,0,1,0,0,1,0,0,0,1],.c [1,1,1,1,1,1,0,1,0,0,1,0,0,1,0,0,1],.l [1,1,1,1,1,1,0,1,0,0,1,0,0,1,0,0],.b 6,.b 5,.c [1,1,1,1,1,1,0,1,0,0,1,1],.l [1,1,1,1,1,1,0,1,0,0],.b 4,.c [1,1,1,1,1,1,1]] ⟨[2,3,9,10,13,14,15,16],⟨[.sl Qw,.own 0 0,.sl (.int .i64),.sl (.int .i64),.b,.b,.i .i64,.i .i64],[.segs [.sl Qf,.sl (.int .i64),.i .i64]]⟩⟩ (fun m p=>rshows_l4 N m p.1.1 p.1.2.2.1 p.1.2.2.2.1 p.1.2.2.2.2.1 p.1.2.2.2.2.2.1 p.1.2.2.2.2.2.2.1 p.1.2.2.2.2.2.2.2.1 p.2.1.1 p.2.1.2.1 p.2.1.2.2.1) [⟨[.c [1,1,1,1,1,1,0,1,0,0,1,1],.l [1,1,1,1,1,1,0,1,0,0],.b 4,.c [1,1,1,1,1,1,1]],⟨[2,3,9,10,13,14,15],⟨[.sl Qw,.own 0 0,.sl (.int .i64),.sl (.int .i64),.b,.b,.i .i64],[.segs [.sl Qf,.sl (.int .i64),.i .i64]]⟩⟩,fun p=>some ((p.1.1,p.1.2.2.1,p.1.2.2.2.1,p.1.2.2.2.2.1,p.1.2.2.2.2.2.1,p.1.2.2.2.2.2.2.1,p.2.1.1,p.2.1.2.1,p.2.1.2.2.1))⟩] (fun _=>[]) (fun k e=>k (.inl ((e.1,(),e.2.1,e.2.2.1,e.2.2.2.1,e.2.2.2.2.1,e.2.2.2.2.2.1,()),((e.2.2.2.2.2.2.1,e.2.2.2.2.2.2.2.1,e.2.2.2.2.2.2.2.2,()),())))) N (fun m p=>by kernel_rfl)
noncomputable def A5f(N:Nat){top:Bool}:LpQ Df top:=mkL (Z:=List Qj×List Int×List Int×Bool×Bool×List Qe×List Int×Int) (C7 N) [Bn N,Bz N,Km N,Tg N] [.c [1,1,1,1,1,1,0,1,0,0,0,0],.c [1,1,1,1,1,1,0,1,0,0,0,1],.c [1,1,1,1,1,1,0,1,0,0,1],.l [1,1,1,1,1,1,0,1,0,0],.b 4,.c [1,1,1,1,1,1,1]] ⟨[2,3,9,10,13,14,15],⟨[.sl Qw,.own 0 0,.sl (.int .i64),.sl (.int .i64),.b,.b,.i .i64],[.segs [.sl Qf,.sl (.int .i64),.i .i64]]⟩⟩ (fun m p=>rshows_l3 N m p.1.1 p.1.2.2.1 p.1.2.2.2.1 p.1.2.2.2.2.1 p.1.2.2.2.2.2.1 p.1.2.2.2.2.2.2.1 p.2.1.1 p.2.1.2.1 p.2.1.2.2.1) [⟨[.c [1,1,1,1,1,1,1,0,0],.c [1,1,1,1,1,1,1,0,1],.c [1,1,1,1,1,1,1,1]],⟨[2,3,9,10,13,14],⟨[.sl Qw,.own 0 0,.sl (.int .i64),.sl (.int .i64),.b,.b],[.segs [.sl Qf,.sl (.int .i64),.i .i64]]⟩⟩,fun p=>some ((p.1.1,p.1.2.2.1,p.1.2.2.2.1,p.1.2.2.2.2.1,p.1.2.2.2.2.2.1,p.2.1.1,p.2.1.2.1,p.2.1.2.2.1))⟩] (fun _=>[]) (fun k e=>k (.inl ((e.1,(),e.2.1,e.2.2.1,e.2.2.2.1,e.2.2.2.2.1,()),((e.2.2.2.2.2.1,e.2.2.2.2.2.2.1,e.2.2.2.2.2.2.2,()),())))) N (fun m p=>by kernel_rfl)
noncomputable def Agn(N:Nat):Spec:=mkS 43 ⟨[.agg [.sl Qf,.sl (.int .i64),.i .i64],.agg [.i .i64,.i .i64],.sl Qw],[]⟩ A5x (fun p=>rshows_S N p.1.1.1 p.1.1.2.1 p.1.1.2.2.1 p.1.2.1.1 p.1.2.1.2.1 p.1.2.2.1) (fun k r=>k ((r.1,r.2,()),()))
theorem A35(N:Nat):A2 Tryz.prog (Agn N):=mkF (R:=Int×Int) (m0:=0) (C7 N) [Bn N,Bz N,Km N,Tg N,A5f N] (fun r=>some (r.1.1,r.1.2.1)) [] Tryz.func43 (fun p=>by kernel_rfl) (by kernel_rfl) (fun _=>by kernel_rfl)

end Go.Proofs.YtfcnhnbnjdccfaaGreat

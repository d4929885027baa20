/-
  Parts of a proof, put together: F3, F4, FCo, F6, FW1, F7, FWr, FW2, F8, FW3.
  Conditions: none.
-/
import Derived.Test.YthncjilcflilcaaGreatZd
import Derived.Test.YthncjilcflilcaaGreatZe
namespace Go.Proofs.YthncjilcflilcaaGreat
set_option linter.all false
open Go

def E8(N:Nat)(l:Li):Option Li:=
 grd (lmI (l.length:Int))<|
 some (l.take (min l.length (List.replicate (l.length:Int).toNat (0:Int)).length)++(List.replicate (l.length:Int).toNat (0:Int)).drop (min l.length (List.replicate (l.length:Int).toNat (0:Int)).length))
noncomputable def Anh(N:Nat):Spec:=mkS 52 ⟨[shL],[]⟩ [⟨[shL],[]⟩] (fun p=>E8 N p.1.1) (fun k r=>k ((r,()),()))
theorem Hr(N:Nat):A0 Tryz.prog (Anh N):=mkF (R:=Li) (m0:=0) [] [] (fun r=>some r.1.1) [] Tryz.func52 (fun p=>by kernel_rfl) (by kernel_rfl) (fun _=>by kernel_rfl)

def copyr_l1(N:Nat):Nat→Ll→Int→Int→Ll→Option Ll
 | 0,_,_,_,_=>none
 | n_+1,u,u2,u3,out=>
  br (decide (u3<u2))
   (idx u u3 fun x_1=>
   (E8 N x_1).bind fun x_2=>
   rng u3 out.length<|
   get out u3.toNat fun _=>
   chk (u3+1)<|
   copyr_l1 N n_ u u2 (u3+1) (out.set u3.toNat x_2))
   (some (out))
def Rx(N:Nat)(l:Ll):Option Ll:=
 grd (lmI (l.length:Int))<|
 (copyr_l1 N N l (l.length:Int) 0 (List.replicate (l.length:Int).toNat ([]:Li))).bind fun out_4=>
 some out_4
noncomputable def A93(N:Nat):Oks:=[⟨_,Hr N⟩]
abbrev Agc:List StSh:=[⟨[shQ],[]⟩]
noncomputable abbrev Ap1:Body:=mkB Tryz.f61 Agc 0
noncomputable def Aet(N:Nat){top:Bool}:LpQ Ap1 top:=mkL (Z:=Ll) (A93 N) [] [.c [1,1,0,1,0,0,0],.c [1,1,0,1,0,0,1],.l [1,1,0,1,0,0],.b 0,.c [1,1,1]] ⟨[3,9,10,11],⟨[.ols 0,shQ,shI,shI],[.lst (.sl (.int .i64))]⟩⟩ (fun m p=>copyr_l1 N m p.1.2.1 p.1.2.2.1 p.1.2.2.2.1 p.2.1) [⟨[.c [1,1,1,0],.c [1,1,1,1]],⟨[3],⟨[.ols 0],[.lst (.sl (.int .i64))]⟩⟩,fun p=>some (p.2.1)⟩] (fun _=>[]) (fun k e=>k (.inl (((),()),(e,())))) N (fun m p=>by kernel_rfl)
noncomputable def Amg(N:Nat):Spec:=mkS 61 ⟨[shQ],[]⟩ Agc (fun p=>Rx N p.1.1) (fun k r=>k ((r,()),()))
theorem A9c(N:Nat):A0 Tryz.prog (Amg N):=mkF (R:=Ll) (m0:=0) (A93 N) [Aet N] (fun r=>some r.1.1) [] Tryz.func61 (fun p=>by kernel_rfl) (by kernel_rfl) (fun _=>by kernel_rfl)

def Bx(N:Nat)(d:Li)(d2:Int)(d3 d4:Ll)(d5:Li):Option (Li×Int×Ll×Ll×Li):=
 (E8 N d).bind fun x_1=>
 (Rx N d3).bind fun x_2=>
 (Rx N d4).bind fun x_3=>
 (E8 N d5).bind fun x_4=>
 some (x_1,d2,x_2,x_3,x_4)
noncomputable def A9b(N:Nat):Spec:=mkS 16 ⟨[shG],[]⟩ [⟨[shG],[]⟩] (fun p=>Bx N p.1.1.1 p.1.1.2.1 p.1.1.2.2.1 p.1.1.2.2.2.1 p.1.1.2.2.2.2.1) (fun k r=>k (((r.1,r.2.1,r.2.2.1,r.2.2.2.1,r.2.2.2.2,()),()),()))
theorem D1(N:Nat):A0 Tryz.prog (A9b N):=mkF (R:=Li×Int×Ll×Ll×Li) (m0:=0) [⟨_,Hr N⟩,⟨_,A9c N⟩] [] (fun r=>some (r.1.1.1,r.1.1.2.1,r.1.1.2.2.1,r.1.1.2.2.2.1,r.1.1.2.2.2.2.1)) [] Tryz.func16 (fun p=>by kernel_rfl) (by kernel_rfl) (fun _=>by kernel_rfl)

def equalf_l1(N:Nat):Nat→Ll→Ll→Int→Int→Option ((Unit)⊕(Unit))
 | 0,_,_,_,_=>none
 | n_+1,s2,u,u2,u3=>
  br (decide (u3<u2))
   (idx u u3 fun x_1=>
   idx s2 u3 fun x_2=>
   (Ix N x_1 x_2).bind fun x_3=>
   br (!x_3)
    (some (.inl ()))
    (chk (u3+1)<|
    equalf_l1 N n_ s2 u u2 (u3+1)))
   (some (.inr ()))
def equalf_S(N:Nat)(s1 s2:Ll):Option Bool:=
 br (!decide ((s1.length:Int)=(s2.length:Int)))
  (some false)
  ((equalf_l1 N N s2 s1 (s1.length:Int) 0).bind fun e=>match e with
  | .inl _=>
   some false
  | .inr _=>
   some true)
noncomputable def A2p(N:Nat):Oks:=[⟨_,R2 N⟩]
abbrev A9j:List StSh:=[⟨[.b],[]⟩]
noncomputable abbrev Ajw:Body:=mkB Tryz.f94 A9j 0
noncomputable def A9h(N:Nat){top:Bool}:LpQ Ajw top:=mkL (Z:=(Unit)⊕(Unit)) (A2p N) [] [.c [1,1,0,1,0,0,0],.c [1,1,0,1,0,0,1],.l [1,1,0,1,0,0],.b 0,.c [1,1,1]] ⟨[1,2,15,16,17],⟨[shQ,.fn 75 [] [],shQ,shI,shI],[]⟩⟩ (fun m p=>equalf_l1 N m p.1.1 p.1.2.2.1 p.1.2.2.2.1 p.1.2.2.2.2.1) [⟨[.c [1,1,0,1,0,0,1,1,0,0,1,1,1,0,0],.c [1,1,0,1,0,0,1,1,0,0,1,1,1,0,1],.b 1,.c [1,1,0,1,0,0,1,1,1],.l [1,1,0,1,0,0],.b 0,.c [1,1,1]],⟨[],⟨[],[]⟩⟩,fun p=>some (.inl ())⟩,⟨[.c [1,1,1,0],.c [1,1,1,1]],⟨[],⟨[],[]⟩⟩,fun p=>some (.inr ())⟩] (fun _=>[]) (fun k e=>match e with | .inl x=>k (.inl ((),())) | .inr x=>k (.inr (.inl ((),())))) N (fun m p=>by kernel_rfl) (hg:=(by rintro _ _ (_ | _)<;>rfl))
noncomputable def Ahr(N:Nat):Spec:=mkS 94 ⟨[shQ,shQ,.fn 75 [] []],[]⟩ A9j (fun p=>equalf_S N p.1.1 p.1.2.1) (fun k r=>k ((r,()),()))
theorem A4n(N:Nat):A0 Tryz.prog (Ahr N):=mkF (R:=Bool) (m0:=0) (A2p N) [A9h N] (fun r=>some r.1.1) [] Tryz.func94 (fun p=>by kernel_rfl) (by kernel_rfl) (fun _=>by kernel_rfl)

def Qt(N:Nat)(a b:Ll):Option Bool:=
 (equalf_S N a b).bind fun x_1=>
 some x_1
noncomputable def Alj(N:Nat):Spec:=mkS 65 ⟨[shQ,shQ],[]⟩ [⟨[.b],[]⟩] (fun p=>Qt N p.1.1 p.1.2.1) (fun k r=>k ((r,()),()))
theorem Abh(N:Nat):A0 Tryz.prog (Alj N):=mkF (R:=Bool) (m0:=0) [⟨_,A4n N⟩] [] (fun r=>some r.1.1) [] Tryz.func65 (fun p=>by kernel_rfl) (by kernel_rfl) (fun _=>by kernel_rfl)

def Dq(N:Nat)(a:Li)(a2:Int)(a3 a4:Ll)(a5 b:Li)(b2:Int)(b3 b4:Ll)(b5:Li):Option Bool:=
 (Bl N a b).bind fun x_1=>
 br x_1
  (br (decide (a2=b2))
   ((Qt N a3 b3).bind fun x_2=>
   br x_2
    ((Qt N a4 b4).bind fun x_3=>
    br x_3
     ((Bl N a5 b5).bind fun x_4=>
     some x_4)
     (some false))
    (some false))
   (some false))
  (some false)
noncomputable def Afq(N:Nat):Spec:=mkS 19 ⟨[shG,shG],[]⟩ [⟨[.b],[]⟩] (fun p=>Dq N p.1.1.1 p.1.1.2.1 p.1.1.2.2.1 p.1.1.2.2.2.1 p.1.1.2.2.2.2.1 p.1.2.1.1 p.1.2.1.2.1 p.1.2.1.2.2.1 p.1.2.1.2.2.2.1 p.1.2.1.2.2.2.2.1) (fun k r=>k ((r,()),()))
theorem Cx(N:Nat):A0 Tryz.prog (Afq N):=mkF (R:=Bool) (m0:=0) [⟨_,Em N⟩,⟨_,Abh N⟩] [] (fun r=>some r.1.1) [] Tryz.func19 (fun p=>by kernel_rfl) (by kernel_rfl) (fun _=>by kernel_rfl)

def great_l2(N:Nat):Nat→Int→Int→Ll→Int→Int→(List Ll)→Option ((Unit)⊕(Int×Int×List Ll))
 | 0,_,_,_,_,_,_=>none
 | n_+1,u,u2,u3,u4,u5,g=>
  br (decide (u5<u4))
   (idx u3 u5 fun x_2=>
   br (decide (12<(x_2.length:Int)))
    (some (.inl ()))
    (chk (u5+1)<|
    great_l2 N n_ u u2 u3 u4 (u5+1) g))
   (some (.inr (u,u2,g)))
def great_l1(N:Nat):Nat→Int→Int→(List Ll)→Option ((Unit)⊕(Unit))
 | 0,_,_,_=>none
 | n_+1,u,u2,g=>
  br (decide (u2<u))
   (rng u2 g.length<|
   get g u2.toNat fun x_1=>
   (great_l2 N N u u2 x_1 (x_1.length:Int) 0 g).bind fun e=>match e with
   | .inl _=>
    some (.inl ())
   | .inr (u_3,u2_4,g_5)=>
    chk (u2_4+1)<|
    great_l1 N n_ u_3 (u2_4+1) g_5)
   (some (.inr ()))
def E6(N:Nat)(d:Li)(d2:Int)(d3 d4:Ll)(d5:Li):Option Bool:=
 br (decide (10<(d.length:Int)))
  (some true)
  (br (decide (10<(d3.length:Int)))
   (some true)
   (br (decide (10<(d4.length:Int)))
    (some true)
    (br (decide (12<(d5.length:Int)))
     (some true)
     ((great_l1 N N ([d3,d4].length:Int) 0 [d3,d4]).bind fun e=>match e with
     | .inl _=>
      some true
     | .inr _=>
      some false))))
noncomputable def Yl(N:Nat):Oks:=[]
abbrev Ah0:List StSh:=[⟨[.b],[]⟩]
noncomputable abbrev Agg:Body:=mkB Tryz.f14 Ah0 0
noncomputable def Yb(N:Nat){top:Bool}:LpQ Agg top:=mkL (Z:=(Unit)⊕(Int×Int×List Ll)) (Yl N) [] [.c [1,1,0,1,0,0,1,1,0,0,1,1,0,0,0],.c [1,1,0,1,0,0,1,1,0,0,1,1,0,0,1],.l [1,1,0,1,0,0,1,1,0,0,1,1,0,0],.b 2,.b 1,.c [1,1,0,1,0,0,1,1,1],.l [1,1,0,1,0,0],.b 0,.c [1,1,1]] ⟨[33,34,35,39,40,41],⟨[.ols 0,shI,shI,shQ,shI,shI],[.lst (.sl (.sl (.int .i64)))]⟩⟩ (fun m p=>great_l2 N m p.1.2.1 p.1.2.2.1 p.1.2.2.2.1 p.1.2.2.2.2.1 p.1.2.2.2.2.2.1 p.2.1) [⟨[.c [1,1,0,1,0,0,1,1,0,0,1,1,0,0,1,1,0,0,1,1,0,0],.c [1,1,0,1,0,0,1,1,0,0,1,1,0,0,1,1,0,0,1,1,0,1],.b 3,.c [1,1,0,1,0,0,1,1,0,0,1,1,0,0,1,1,1],.l [1,1,0,1,0,0,1,1,0,0,1,1,0,0],.b 2,.b 1,.c [1,1,0,1,0,0,1,1,1],.l [1,1,0,1,0,0],.b 0,.c [1,1,1]],⟨[],⟨[],[]⟩⟩,fun p=>some (.inl ())⟩,⟨[.c [1,1,0,1,0,0,1,1,1],.l [1,1,0,1,0,0],.b 0,.c [1,1,1]],⟨[33,34,35],⟨[.ols 0,shI,shI],[.lst (.sl (.sl (.int .i64)))]⟩⟩,fun p=>some (.inr (p.1.2.1,p.1.2.2.1,p.2.1))⟩] (fun _=>[]) (fun k e=>match e with | .inl x=>k (.inl ((),())) | .inr x=>k (.inr (.inl (((),x.1,x.2.1,()),(x.2.2,()))))) N (fun m p=>by kernel_rfl) (hg:=(by rintro _ _ (_ | _)<;>rfl))
noncomputable def Aci(N:Nat){top:Bool}:LpQ Agg top:=mkL (Z:=(Unit)⊕(Unit)) (Yl N) [Yb N] [.c [1,1,0,1,0,0,0],.c [1,1,0,1,0,0,1],.l [1,1,0,1,0,0],.b 0,.c [1,1,1]] ⟨[33,34,35],⟨[.ols 0,shI,shI],[.lst (.sl (.sl (.int .i64)))]⟩⟩ (fun m p=>great_l1 N m p.1.2.1 p.1.2.2.1 p.2.1) [⟨[.c [1,1,0,1,0,0,1,1,0,0,1,1,0,0,1,1,0,0,1,1,0,0],.c [1,1,0,1,0,0,1,1,0,0,1,1,0,0,1,1,0,0,1,1,0,1],.b 3,.c [1,1,0,1,0,0,1,1,0,0,1,1,0,0,1,1,1],.l [1,1,0,1,0,0,1,1,0,0,1,1,0,0],.b 2,.b 1,.c [1,1,0,1,0,0,1,1,1],.l [1,1,0,1,0,0],.b 0,.c [1,1,1]],⟨[],⟨[],[]⟩⟩,fun p=>some (.inl ())⟩,⟨[.c [1,1,1,0],.c [1,1,1,1]],⟨[],⟨[],[]⟩⟩,fun p=>some (.inr ())⟩] (fun _=>[]) (fun k e=>match e with | .inl x=>k (.inl ((),())) | .inr x=>k (.inr (.inl ((),())))) N (fun m p=>by kernel_rfl) (hg:=(by rintro _ _ (_ | _)<;>rfl))
noncomputable def A8k(N:Nat):Spec:=mkS 14 ⟨[shG],[]⟩ Ah0 (fun p=>E6 N p.1.1.1 p.1.1.2.1 p.1.1.2.2.1 p.1.1.2.2.2.1 p.1.1.2.2.2.2.1) (fun k r=>k ((r,()),()))
theorem D0(N:Nat):A0 Tryz.prog (A8k N):=mkF (R:=Bool) (m0:=0) (Yl N) [Yb N,Aci N] (fun r=>some r.1.1) [] Tryz.func14 (fun p=>by kernel_rfl) (by kernel_rfl) (fun _=>by kernel_rfl)

def Ou(N:Nat)(d:Li)(d2:Int)(d3 d4:Ll)(d5:Li)(things:Int):Option Bool:=
 br (decide (things<(d3.length:Int)))
  (br (decide ((d3.length:Int)≤6))
   (some true)
   (br (decide (things<(d4.length:Int)))
    (some (decide ((d4.length:Int)≤6)))
    (some false)))
  (br (decide (things<(d4.length:Int)))
   (some (decide ((d4.length:Int)≤6)))
   (some false))
noncomputable def Ap0(N:Nat):Spec:=mkS 15 ⟨[shG,shI],[]⟩ [⟨[.b],[]⟩] (fun p=>Ou N p.1.1.1 p.1.1.2.1 p.1.1.2.2.1 p.1.1.2.2.2.1 p.1.1.2.2.2.2.1 p.1.2.1) (fun k r=>k ((r,()),()))
theorem Og(N:Nat):A0 Tryz.prog (Ap0 N):=mkF (R:=Bool) (m0:=0) [] [] (fun r=>some r.1.1) [] Tryz.func15 (fun p=>by kernel_rfl) (by kernel_rfl) (fun _=>by kernel_rfl)

def Fg(N:Nat)(n lo hi:Int):Option Bool:=
 br (decide (n<lo))
  (some true)
  (some (decide (hi<n)))
noncomputable def Ake(N:Nat):Spec:=mkS 66 ⟨[shI,shI,shI],[]⟩ [⟨[.b],[]⟩] (fun p=>Fg N p.1.1 p.1.2.1 p.1.2.2.1) (fun k r=>k ((r,()),()))
theorem D6(N:Nat):A0 Tryz.prog (Ake N):=mkF (R:=Bool) (m0:=0) [] [] (fun r=>some r.1.1) [] Tryz.func66 (fun p=>by kernel_rfl) (by kernel_rfl) (fun _=>by kernel_rfl)

def described_l1(N:Nat):Nat→Ll→Int→Li→Int→Ll→Ll→Li→Option ((Unit)⊕(Unit))
 | 0,_,_,_,_,_,_,_=>none
 | n_+1,l,i,d,d2,d3,d4,d5=>
  br (decide (i<(l.length:Int)))
   (idx l i fun x_1=>
   br (!decide ((x_1.length:Int)=(d.length:Int)))
    (some (.inl ()))
    (chk (i+1)<|
    described_l1 N n_ l (i+1) d d2 d3 d4 d5))
   (some (.inr ()))
def F5(N:Nat)(d:Li)(d2:Int)(d3 d4:Ll)(d5:Li)(l:Ll):Option Bool:=
 (described_l1 N N l 0 d d2 d3 d4 d5).bind fun e=>match e with
 | .inl _=>
  some false
 | .inr _=>
  some true
noncomputable def R1(N:Nat):Oks:=[]
abbrev Vj:List StSh:=[⟨[.b],[]⟩]
noncomputable abbrev A82:Body:=mkB Tryz.f67 Vj 0
noncomputable def Y5(N:Nat){top:Bool}:LpQ A82 top:=mkL (Z:=(Unit)⊕(Unit)) (R1 N) [] [.c [1,0,1,0,0,0,0],.c [1,0,1,0,0,0,1],.c [1,0,1,0,0,1],.l [1,0,1,0,0],.b 0,.c [1,1]] ⟨[1,2,5],⟨[shQ,.own 0 0,shI],[.segs [shL,shI,shQ,shQ,shL]]⟩⟩ (fun m p=>described_l1 N m p.1.1 p.1.2.2.1 p.2.1.1 p.2.1.2.1 p.2.1.2.2.1 p.2.1.2.2.2.1 p.2.1.2.2.2.2.1) [⟨[.c [1,0,1,0,0,1,0,0,1,0,0],.c [1,0,1,0,0,1,0,0,1,0,1],.b 1,.c [1,0,1,0,0,1,1],.l [1,0,1,0,0],.b 0,.c [1,1]],⟨[],⟨[],[]⟩⟩,fun p=>some (.inl ())⟩,⟨[.c [1,1,0],.c [1,1,1]],⟨[],⟨[],[]⟩⟩,fun p=>some (.inr ())⟩] (fun _=>[]) (fun k e=>match e with | .inl x=>k (.inl ((),())) | .inr x=>k (.inr (.inl ((),())))) N (fun m p=>by kernel_rfl) (hg:=(by rintro _ _ (_ | _)<;>rfl))
noncomputable def A4x(N:Nat):Spec:=mkS 67 ⟨[shG,shQ],[]⟩ Vj (fun p=>F5 N p.1.1.1 p.1.1.2.1 p.1.1.2.2.1 p.1.1.2.2.2.1 p.1.1.2.2.2.2.1 p.1.2.1) (fun k r=>k ((r,()),()))
theorem W6(N:Nat):A0 Tryz.prog (A4x N):=mkF (R:=Bool) (m0:=0) (R1 N) [Y5 N] (fun r=>some r.1.1) [] Tryz.func67 (fun p=>by kernel_rfl) (by kernel_rfl) (fun _=>by kernel_rfl)

def valued_l2(N:Nat):Nat→Ll→Int→Int→Option ((Unit)⊕(Ll×Int))
 | 0,_,_,_=>none
 | n_+1,l,i,t=>
  idx l i fun x_1=>
  br (decide (t<(x_1.length:Int)))
   (idx l i fun x_2=>
   idx x_2 t fun x_3=>
   (Fg N x_3 (-1) 5).bind fun x_4=>
   br x_4
    (some (.inl ()))
    (chk (t+1)<|
    valued_l2 N n_ l i (t+1)))
   (some (.inr (l,i)))
def valued_l1(N:Nat):Nat→Ll→Int→Option ((Unit)⊕(Unit))
 | 0,_,_=>none
 | n_+1,l,i=>
  br (decide (i<(l.length:Int)))
   ((valued_l2 N N l i 0).bind fun e=>match e with
   | .inl _=>
    some (.inl ())
   | .inr (l_5,i_6)=>
    chk (i_6+1)<|
    valued_l1 N n_ l_5 (i_6+1))
   (some (.inr ()))
def Ki(N:Nat)(l:Ll):Option Bool:=
 (valued_l1 N N l 0).bind fun e=>match e with
 | .inl _=>
  some false
 | .inr _=>
  some true
noncomputable def Sq(N:Nat):Oks:=[⟨_,D6 N⟩]
abbrev A7m:List StSh:=[⟨[.b],[]⟩]
noncomputable abbrev Aab:Body:=mkB Tryz.f68 A7m 0
noncomputable def Vp(N:Nat){top:Bool}:LpQ Aab top:=mkL (Z:=(Unit)⊕(Ll×Int)) (Sq N) [] [.c [1,0,1,0,0,1,0,0,1,0,0,0,0],.c [1,0,1,0,0,1,0,0,1,0,0,0,1],.c [1,0,1,0,0,1,0,0,1,0,0,1],.l [1,0,1,0,0,1,0,0,1,0,0],.b 2,.b 1,.c [1,0,1,0,0,1,1],.l [1,0,1,0,0],.b 0,.c [1,1]] ⟨[0,3,4],⟨[shQ,shI,shI],[]⟩⟩ (fun m p=>valued_l2 N m p.1.1 p.1.2.1 p.1.2.2.1) [⟨[.c [1,0,1,0,0,1,0,0,1,0,0,1,0,0,1,0,0],.c [1,0,1,0,0,1,0,0,1,0,0,1,0,0,1,0,1],.b 3,.c [1,0,1,0,0,1,0,0,1,0,0,1,1],.l [1,0,1,0,0,1,0,0,1,0,0],.b 2,.b 1,.c [1,0,1,0,0,1,1],.l [1,0,1,0,0],.b 0,.c [1,1]],⟨[],⟨[],[]⟩⟩,fun p=>some (.inl ())⟩,⟨[.c [1,0,1,0,0,1,1],.l [1,0,1,0,0],.b 0,.c [1,1]],⟨[0,3],⟨[shQ,shI],[]⟩⟩,fun p=>some (.inr (p.1.1,p.1.2.1))⟩] (fun _=>[]) (fun k e=>match e with | .inl x=>k (.inl ((),())) | .inr x=>k (.inr (.inl ((x.1,x.2,()),())))) N (fun m p=>by kernel_rfl) (hg:=(by rintro _ _ (_ | _)<;>rfl))
noncomputable def Abg(N:Nat){top:Bool}:LpQ Aab top:=mkL (Z:=(Unit)⊕(Unit)) (Sq N) [Vp N] [.c [1,0,1,0,0,0,0],.c [1,0,1,0,0,0,1],.c [1,0,1,0,0,1],.l [1,0,1,0,0],.b 0,.c [1,1]] ⟨[0,3],⟨[shQ,shI],[]⟩⟩ (fun m p=>valued_l1 N m p.1.1 p.1.2.1) [⟨[.c [1,0,1,0,0,1,0,0,1,0,0,1,0,0,1,0,0],.c [1,0,1,0,0,1,0,0,1,0,0,1,0,0,1,0,1],.b 3,.c [1,0,1,0,0,1,0,0,1,0,0,1,1],.l [1,0,1,0,0,1,0,0,1,0,0],.b 2,.b 1,.c [1,0,1,0,0,1,1],.l [1,0,1,0,0],.b 0,.c [1,1]],⟨[],⟨[],[]⟩⟩,fun p=>some (.inl ())⟩,⟨[.c [1,1,0],.c [1,1,1]],⟨[],⟨[],[]⟩⟩,fun p=>some (.inr ())⟩] (fun _=>[]) (fun k e=>match e with | .inl x=>k (.inl ((),())) | .inr x=>k (.inr (.inl ((),())))) N (fun m p=>by kernel_rfl) (hg:=(by rintro _ _ (_ | _)<;>rfl))
noncomputable def Aj5(N:Nat):Spec:=mkS 68 ⟨[shQ],[]⟩ A7m (fun p=>Ki N p.1.1) (fun k r=>k ((r,()),()))
theorem A54(N:Nat):A0 Tryz.prog (Aj5 N):=mkF (R:=Bool) (m0:=0) (Sq N) [Vp N,Abg N] (fun r=>some r.1.1) [] Tryz.func68 (fun p=>by kernel_rfl) (by kernel_rfl) (fun _=>by kernel_rfl)

def rcheck_l1(N:Nat):Nat→Int→Li→Int→Ll→Ll→Li→Option ((Unit)⊕(Li×Int×Ll×Ll×Li))
 | 0,_,_,_,_,_,_=>none
 | n_+1,t,d,d2,d3,d4,d5=>
  br (decide (t<(d.length:Int)))
   (idx d t fun x_4=>
   (Fg N x_4 1 9).bind fun x_5=>
   br x_5
    (some (.inl ()))
    (chk (t+1)<|
    rcheck_l1 N n_ (t+1) d d2 d3 d4 d5))
   (some (.inr (d,d2,d3,d4,d5)))
def Ic(N:Nat):Nat→Int→Li→Int→Ll→Ll→Li→Option ((Unit)⊕(Li×Int×Ll×Ll×Li))
 | 0,_,_,_,_,_,_=>none
 | n_+1,i,d,d2,d3,d4,d5=>
  br (decide (i<(d5.length:Int)))
   (idx d5 i fun x_11=>
   (Fg N x_11 0 99).bind fun x_12=>
   br x_12
    (some (.inl ()))
    (chk (i+1)<|
    Ic N n_ (i+1) d d2 d3 d4 d5))
   (some (.inr (d,d2,d3,d4,d5)))
def rcheck_S(N:Nat)(d:Li)(d2:Int)(d3 d4:Ll)(d5:Li):Option Int:=
 (Fg N (d.length:Int) 1 5).bind fun x_1=>
 br x_1
  (some 2)
  (br (decide (6<(d3.length:Int)))
   (some 2)
   (br (decide (6<(d4.length:Int)))
    (some 2)
    ((F5 N d d2 d3 d4 d5 d3).bind fun x_2=>
    br (!x_2)
     (some 2)
     ((F5 N d d2 d3 d4 d5 d4).bind fun x_3=>
     br (!x_3)
      (some 2)
      (br (!decide ((d5.length:Int)=(d3.length:Int)))
       (some 2)
       ((rcheck_l1 N N 0 d d2 d3 d4 d5).bind fun e=>match e with
       | .inl _=>
        some 3
       | .inr (d_6,d2_7,d3_8,d4_9,d5_10)=>
        (Ic N N 0 d_6 d2_7 d3_8 d4_9 d5_10).bind fun e=>match e with
        | .inl _=>
         some 3
        | .inr (d_13,d2_14,d3_15,d4_16,d5_17)=>
         (Fg N d2_14 0 3).bind fun x_18=>
         br x_18
          (some 3)
          ((Ki N d3_15).bind fun x_19=>
          br (!x_19)
           (some 3)
           ((Ki N d4_16).bind fun x_20=>
           br (!x_20)
            (some 3)
            (some 0)))))))))
noncomputable def Te(N:Nat):Oks:=[⟨_,D6 N⟩,⟨_,W6 N⟩,⟨_,A54 N⟩]
abbrev A6m:List StSh:=[⟨[shI],[]⟩]
noncomputable abbrev A7d:Body:=mkB Tryz.f20 A6m 0
noncomputable def Vk(N:Nat){top:Bool}:LpQ A7d top:=mkL (Z:=(Unit)⊕(Li×Int×Ll×Ll×Li)) (Te N) [] [.c [1,1,1,0,1,0,0,0,0],.c [1,1,1,0,1,0,0,0,1],.c [1,1,1,0,1,0,0,1],.l [1,1,1,0,1,0,0],.b 0,.c [1,1,1,1]] ⟨[1,3],⟨[.own 0 0,shI],[.segs [shL,shI,shQ,shQ,shL]]⟩⟩ (fun m p=>rcheck_l1 N m p.1.2.1 p.2.1.1 p.2.1.2.1 p.2.1.2.2.1 p.2.1.2.2.2.1 p.2.1.2.2.2.2.1) [⟨[.c [1,1,1,0,1,0,0,1,0,0,1,0,0],.c [1,1,1,0,1,0,0,1,0,0,1,0,1],.b 1,.c [1,1,1,0,1,0,0,1,1],.l [1,1,1,0,1,0,0],.b 0,.c [1,1,1,1]],⟨[],⟨[],[]⟩⟩,fun p=>some (.inl ())⟩,⟨[.c [1,1,1,1,0,0],.c [1,1,1,1,0,1],.c [1,1,1,1,1]],⟨[1],⟨[.own 0 0],[.segs [shL,shI,shQ,shQ,shL]]⟩⟩,fun p=>some (.inr (p.2.1.1,p.2.1.2.1,p.2.1.2.2.1,p.2.1.2.2.2.1,p.2.1.2.2.2.2.1))⟩] (fun _=>[]) (fun k e=>match e with | .inl x=>k (.inl ((),())) | .inr x=>k (.inr (.inl (((),()),((x.1,x.2.1,x.2.2.1,x.2.2.2.1,x.2.2.2.2,()),()))))) N (fun m p=>by kernel_rfl) (hg:=(by rintro _ _ (_ | _)<;>rfl))
noncomputable def Abe(N:Nat){top:Bool}:LpQ A7d top:=mkL (Z:=(Unit)⊕(Li×Int×Ll×Ll×Li)) (Te N) [Vk N] [.c [1,1,1,1,0,1,0,0,0,0],.c [1,1,1,1,0,1,0,0,0,1],.c [1,1,1,1,0,1,0,0,1],.l [1,1,1,1,0,1,0,0],.b 2,.c [1,1,1,1,1]] ⟨[1,4],⟨[.own 0 0,shI],[.segs [shL,shI,shQ,shQ,shL]]⟩⟩ (fun m p=>Ic N m p.1.2.1 p.2.1.1 p.2.1.2.1 p.2.1.2.2.1 p.2.1.2.2.2.1 p.2.1.2.2.2.2.1) [⟨[.c [1,1,1,1,0,1,0,0,1,0,0,1,0,0],.c [1,1,1,1,0,1,0,0,1,0,0,1,0,1],.b 3,.c [1,1,1,1,0,1,0,0,1,1],.l [1,1,1,1,0,1,0,0],.b 2,.c [1,1,1,1,1]],⟨[],⟨[],[]⟩⟩,fun p=>some (.inl ())⟩,⟨[.c [1,1,1,1,1,0,0],.c [1,1,1,1,1,0,1],.c [1,1,1,1,1,1]],⟨[1],⟨[.own 0 0],[.segs [shL,shI,shQ,shQ,shL]]⟩⟩,fun p=>some (.inr (p.2.1.1,p.2.1.2.1,p.2.1.2.2.1,p.2.1.2.2.2.1,p.2.1.2.2.2.2.1))⟩] (fun _=>[]) (fun k e=>match e with | .inl x=>k (.inl ((),())) | .inr x=>k (.inr (.inl (((),()),((x.1,x.2.1,x.2.2.1,x.2.2.2.1,x.2.2.2.2,()),()))))) N (fun m p=>by kernel_rfl) (hg:=(by rintro _ _ (_ | _)<;>rfl))
noncomputable def A1y(N:Nat):Spec:=mkS 20 ⟨[shG],[]⟩ A6m (fun p=>rcheck_S N p.1.1.1 p.1.1.2.1 p.1.1.2.2.1 p.1.1.2.2.2.1 p.1.1.2.2.2.2.1) (fun k r=>k ((r,()),()))
theorem Ax(N:Nat):A0 Tryz.prog (A1y N):=mkF (R:=Int) (m0:=0) (Te N) [Vk N,Abe N] (fun r=>some r.1.1) [] Tryz.func20 (fun p=>by kernel_rfl) (by kernel_rfl) (fun _=>by kernel_rfl)

def Gt(N:Nat)(rec:Int→Int→Int→Int→Int→Li→Int→Ll→Ll→Li→Option (Int×Int×Li×Int×Ll×Ll×Li))(lost found n slips t:Int)(d:Li)(d2:Int)(d3 d4:Ll)(d5:Li):Option (Int×Int×Li×Int×Ll×Ll×Li):=
 chk (t+1)<|
 rec lost found n slips (t+1) d d2 d3 d4 d5
def Iw(N:Nat)(rec:Int→Int→Int→Int→Int→Li→Int→Ll→Ll→Li→Option (Int×Int×Li×Int×Ll×Ll×Li))(lost found n slips t a b:Int)(d:Li)(d2:Int)(d3 d4:Ll)(d5:Li):Option (Int×Int×Li×Int×Ll×Ll×Li):=
 br (decide (0≤a))
  (br (decide (0≤b))
   (br (!decide (a=b))
    (chk (slips+1)<|
    Gt N (rec) lost found n (slips+1) t d d2 d3 d4 d5)
    (Gt N (rec) lost found n slips t d d2 d3 d4 d5))
   (Gt N (rec) lost found n slips t d d2 d3 d4 d5))
  (Gt N (rec) lost found n slips t d d2 d3 d4 d5)
def rpair_l1(N:Nat):Nat→Int→Int→Int→Int→Int→Li→Int→Ll→Ll→Li→Option (Int×Int×Li×Int×Ll×Ll×Li)
 | 0,_,_,_,_,_,_,_,_,_,_=>none
 | n_+1,lost,found,n,slips,t,d,d2,d3,d4,d5=>
  br (decide (t<(d.length:Int)))
   (idx d3 lost fun x_1=>
   idx x_1 t fun x_2=>
   idx d4 found fun x_3=>
   idx x_3 t fun x_4=>
   br (decide (0≤x_2))
    (br (decide (0≤x_4))
     (br (decide (x_2=x_4))
      (idx d t fun x_5=>
      chk (n+x_5)<|
      Iw N (rpair_l1 N n_) lost found (n+x_5) slips t x_2 x_4 d d2 d3 d4 d5)
      (Iw N (rpair_l1 N n_) lost found n slips t x_2 x_4 d d2 d3 d4 d5))
     (Iw N (rpair_l1 N n_) lost found n slips t x_2 x_4 d d2 d3 d4 d5))
    (Iw N (rpair_l1 N n_) lost found n slips t x_2 x_4 d d2 d3 d4 d5))
   (some ((n,slips,d,d2,d3,d4,d5)))
def Ec(N:Nat)(d:Li)(d2:Int)(d3 d4:Ll)(d5:Li)(lost found:Int):Option (Int×Int×Bool):=
 (rpair_l1 N N lost found 0 0 0 d d2 d3 d4 d5).bind fun(n_6,slips_7,d_8,d2_9,d3_10,d4_11,d5_12)=>
 br (decide (0<n_6))
  (some (n_6,slips_7,(decide (slips_7≤d2_9))))
  (some (n_6,slips_7,false))
noncomputable def Rz(N:Nat):Oks:=[]
abbrev Agw:List StSh:=[⟨[shI,shI,.b],[]⟩]
noncomputable abbrev A52:Body:=mkB Tryz.f72 Agw 0
abbrev V7:List PI:=[.c [1,1,0,1,0,0,0,0],.c [1,1,0,1,0,0,0,1],.c [1,1,0,1,0,0,1],.l [1,1,0,1,0,0],.b 0,.c [1,1,1]]
abbrev Uk:Sta:=⟨[1,2,3,9,10,11],⟨[shI,shI,.own 0 0,shI,shI,shI],[.segs [shL,shI,shQ,shQ,shL]]⟩⟩
abbrev Y0(rec:Int→Int→Int→Int→Int→Li→Int→Ll→Ll→Li→Option (Int×Int×Li×Int×Ll×Ll×Li)):Leaf (Int×Int×Li×Int×Ll×Ll×Li):=⟨V7,Uk,fun p=>rec p.1.1 p.1.2.1 p.1.2.2.2.1 p.1.2.2.2.2.1 p.1.2.2.2.2.2.1 p.2.1.1 p.2.1.2.1 p.2.1.2.2.1 p.2.1.2.2.2.1 p.2.1.2.2.2.2.1⟩
abbrev L7:Leaf (Int×Int×Li×Int×Ll×Ll×Li):=⟨[.c [1,1,1,0],.c [1,1,1,1]],⟨[3,9,10],⟨[.own 0 0,shI,shI],[.segs [shL,shI,shQ,shQ,shL]]⟩⟩,fun p=>some ((p.1.2.1,p.1.2.2.1,p.2.1.1,p.2.1.2.1,p.2.1.2.2.1,p.2.1.2.2.2.1,p.2.1.2.2.2.2.1))⟩
noncomputable def Zj(N:Nat)(rec:Int→Int→Int→Int→Int→Li→Int→Ll→Ll→Li→Option (Int×Int×Li×Int×Ll×Ll×Li)){top:Bool}:JnQ (Z:=Int×Int×Li×Int×Ll×Ll×Li) A52 top none [Y0 rec,L7]:=mkJ (Rz N) [] [] ⟨[.c [1,1,0,1,0,0,1,1],.l [1,1,0,1,0,0],.b 0,.c [1,1,1]],⟨[1,2,3,9,10,11],⟨[shI,shI,.own 0 0,shI,shI,shI],[.segs [shL,shI,shQ,shQ,shL]]⟩⟩,fun p=>Gt N rec p.1.1 p.1.2.1 p.1.2.2.2.1 p.1.2.2.2.2.1 p.1.2.2.2.2.2.1 p.2.1.1 p.2.1.2.1 p.2.1.2.2.1 p.2.1.2.2.2.1 p.2.1.2.2.2.2.1⟩ (fun p=>by kernel_rfl)
noncomputable def Af2(N:Nat)(rec:Int→Int→Int→Int→Int→Li→Int→Ll→Ll→Li→Option (Int×Int×Li×Int×Ll×Ll×Li)){top:Bool}:JnQ (Z:=Int×Int×Li×Int×Ll×Ll×Li) A52 top none [Y0 rec,L7]:=mkJ (Rz N) [] [Zj N rec] ⟨[.c [1,1,0,1,0,0,1,0,0,1,1,0],.c [1,1,0,1,0,0,1,0,0,1,1,1],.b 1,.c [1,1,0,1,0,0,1,1],.l [1,1,0,1,0,0],.b 0,.c [1,1,1]],⟨[1,2,3,9,10,11,12,13],⟨[shI,shI,.own 0 0,shI,shI,shI,shI,shI],[.segs [shL,shI,shQ,shQ,shL]]⟩⟩,fun p=>Iw N rec p.1.1 p.1.2.1 p.1.2.2.2.1 p.1.2.2.2.2.1 p.1.2.2.2.2.2.1 p.1.2.2.2.2.2.2.1 p.1.2.2.2.2.2.2.2.1 p.2.1.1 p.2.1.2.1 p.2.1.2.2.1 p.2.1.2.2.2.1 p.2.1.2.2.2.2.1⟩ (fun p=>by kernel_rfl)
noncomputable def Ac6(N:Nat){top:Bool}:LpQ A52 top:=mkL (Z:=Int×Int×Li×Int×Ll×Ll×Li) (Rz N) [] V7 Uk (fun m p=>rpair_l1 N m p.1.1 p.1.2.1 p.1.2.2.2.1 p.1.2.2.2.2.1 p.1.2.2.2.2.2.1 p.2.1.1 p.2.1.2.1 p.2.1.2.2.1 p.2.1.2.2.2.1 p.2.1.2.2.2.2.1) [L7] (fun m=>[Zj N (rpair_l1 N m),Af2 N (rpair_l1 N m)]) (fun k e=>k (.inl (((),e.1,e.2.1,()),((e.2.2.1,e.2.2.2.1,e.2.2.2.2.1,e.2.2.2.2.2.1,e.2.2.2.2.2.2,()),())))) N (fun m p=>by kernel_rfl)
noncomputable def Aky(N:Nat):Spec:=mkS 72 ⟨[shG,shI,shI],[]⟩ Agw (fun p=>Ec N p.1.1.1 p.1.1.2.1 p.1.1.2.2.1 p.1.1.2.2.2.1 p.1.1.2.2.2.2.1 p.1.2.1 p.1.2.2.1) (fun k r=>k ((r.1,r.2.1,r.2.2,()),()))
theorem Cz(N:Nat):A0 Tryz.prog (Aky N):=mkF (R:=Int×Int×Bool) (m0:=0) (Rz N) [Ac6 N] (fun r=>some (r.1.1,r.1.2.1,r.1.2.2.1)) [] Tryz.func72 (fun p=>by kernel_rfl) (by kernel_rfl) (fun _=>by kernel_rfl)

def ragree_S(N:Nat)(d:Li)(d2:Int)(d3 d4:Ll)(d5:Li)(lost found:Int):Option (Int×Int×Bool×Int):=
 (rcheck_S N d d2 d3 d4 d5).bind fun x_1=>
 br (!decide (x_1=0))
  (some (0,0,false,x_1))
  (chk ((d3.length:Int)-1)<|
  (Fg N lost 0 ((d3.length:Int)-1)).bind fun x_2=>
  br x_2
   (some (0,0,false,1))
   (chk ((d4.length:Int)-1)<|
   (Fg N found 0 ((d4.length:Int)-1)).bind fun x_3=>
   br x_3
    (some (0,0,false,1))
    ((Ec N d d2 d3 d4 d5 lost found).bind fun(x_4,y_5,y_6)=>
    some (x_4,y_5,y_6,0))))
noncomputable def Aja(N:Nat):Spec:=mkS 22 ⟨[shG,shI,shI],[]⟩ [⟨[shI,shI,.b,shI],[]⟩] (fun p=>ragree_S N p.1.1.1 p.1.1.2.1 p.1.1.2.2.1 p.1.1.2.2.2.1 p.1.1.2.2.2.2.1 p.1.2.1 p.1.2.2.1) (fun k r=>k ((r.1,r.2.1,r.2.2.1,r.2.2.2,()),()))
theorem R5(N:Nat):A0 Tryz.prog (Aja N):=mkF (R:=Int×Int×Bool×Int) (m0:=0) [⟨_,D6 N⟩,⟨_,Ax N⟩,⟨_,Cz N⟩] [] (fun r=>some (r.1.1,r.1.2.1,r.1.2.2.1,r.1.2.2.2.1)) [] Tryz.func22 (fun p=>by kernel_rfl) (by kernel_rfl) (fun _=>by kernel_rfl)

def Wi(N:Nat)(rec:Int→Int→Li→Int→Ll→Ll→Li→Li→Option Li)(lost k:Int)(d:Li)(d2:Int)(d3 d4:Ll)(d5 out:Li):Option Li:=
 chk (k+1)<|
 rec lost (k+1) d d2 d3 d4 d5 out
def rmay_l1(N:Nat):Nat→Int→Int→Li→Int→Ll→Ll→Li→Li→Option Li
 | 0,_,_,_,_,_,_,_,_=>none
 | n_+1,lost,k,d,d2,d3,d4,d5,out=>
  br (decide (k<(d4.length:Int)))
   ((Ec N d d2 d3 d4 d5 lost k).bind fun(x_3,y_4,y_5)=>
   br y_5
    (lim (out.length+[k].length)<|
    Wi N (rmay_l1 N n_) lost k d d2 d3 d4 d5 (out++[k]))
    (Wi N (rmay_l1 N n_) lost k d d2 d3 d4 d5 out))
   (some (out))
def A3x(N:Nat)(d:Li)(d2:Int)(d3 d4:Ll)(d5:Li)(lost:Int):Option (Li×Int):=
 (rcheck_S N d d2 d3 d4 d5).bind fun x_1=>
 br (!decide (x_1=0))
  (some ([],x_1))
  (chk ((d3.length:Int)-1)<|
  (Fg N lost 0 ((d3.length:Int)-1)).bind fun x_2=>
  br x_2
   (some ([],1))
   ((rmay_l1 N N lost 0 d d2 d3 d4 d5 []).bind fun out_6=>
   some (out_6,0)))
noncomputable def A3q(N:Nat):Oks:=[⟨_,D6 N⟩,⟨_,Ax N⟩,⟨_,Cz N⟩]
abbrev An5:List StSh:=[⟨[shL,shI],[]⟩]
noncomputable abbrev Al3:Body:=mkB Tryz.f24 An5 0
abbrev Yj:List PI:=[.c [1,1,1,1,0,1,0,0,0,0],.c [1,1,1,1,0,1,0,0,0,1],.c [1,1,1,1,0,1,0,0,1],.l [1,1,1,1,0,1,0,0],.b 0,.c [1,1,1,1,1]]
abbrev Zz:Sta:=⟨[1,2,7,8],⟨[shI,.own 0 0,.ols 1,shI],[.segs [shL,shI,shQ,shQ,shL],.lst (.int .i64)]⟩⟩
abbrev Ajh(rec:Int→Int→Li→Int→Ll→Ll→Li→Li→Option Li):Leaf Li:=⟨Yj,Zz,fun p=>rec p.1.1 p.1.2.2.2.1 p.2.1.1 p.2.1.2.1 p.2.1.2.2.1 p.2.1.2.2.2.1 p.2.1.2.2.2.2.1 p.2.2.1⟩
abbrev Xm:Leaf Li:=⟨[.c [1,1,1,1,1,0],.c [1,1,1,1,1,1]],⟨[7],⟨[.ols 0],[.lst (.int .i64)]⟩⟩,fun p=>some (p.2.1)⟩
noncomputable def Ah4(N:Nat)(rec:Int→Int→Li→Int→Ll→Ll→Li→Li→Option Li){top:Bool}:JnQ (Z:=Li) Al3 top none [Ajh rec,Xm]:=mkJ (A3q N) [] [] ⟨[.c [1,1,1,1,0,1,0,0,1,1],.l [1,1,1,1,0,1,0,0],.b 0,.c [1,1,1,1,1]],⟨[1,2,7,8],⟨[shI,.own 0 0,.ols 1,shI],[.segs [shL,shI,shQ,shQ,shL],.lst (.int .i64)]⟩⟩,fun p=>Wi N rec p.1.1 p.1.2.2.2.1 p.2.1.1 p.2.1.2.1 p.2.1.2.2.1 p.2.1.2.2.2.1 p.2.1.2.2.2.2.1 p.2.2.1⟩ (fun p=>by kernel_rfl)
noncomputable def Aic(N:Nat){top:Bool}:LpQ Al3 top:=mkL (Z:=Li) (A3q N) [] Yj Zz (fun m p=>rmay_l1 N m p.1.1 p.1.2.2.2.1 p.2.1.1 p.2.1.2.1 p.2.1.2.2.1 p.2.1.2.2.2.1 p.2.1.2.2.2.2.1 p.2.2.1) [Xm] (fun m=>[Ah4 N (rmay_l1 N m)]) (fun k e=>k (.inl (((),()),(e,())))) N (fun m p=>by kernel_rfl)
noncomputable def Apf(N:Nat):Spec:=mkS 24 ⟨[shG,shI],[]⟩ An5 (fun p=>A3x N p.1.1.1 p.1.1.2.1 p.1.1.2.2.1 p.1.1.2.2.2.1 p.1.1.2.2.2.2.1 p.1.2.1) (fun k r=>k ((r.1,r.2,()),()))
theorem Ac8(N:Nat):A0 Tryz.prog (Apf N):=mkF (R:=Li×Int) (m0:=0) (A3q N) [Aic N] (fun r=>some (r.1.1,r.1.2.1)) [] Tryz.func24 (fun p=>by kernel_rfl) (by kernel_rfl) (fun _=>by kernel_rfl)

def Es(N:Nat)(rec:Int→Int→Int→Bool→Int→Li→Int→Ll→Ll→Li→Li→Option (Int×Int×Bool×Li×Int×Ll×Ll×Li×Li))(found i n:Int)(is:Bool)(k:Int)(d:Li)(d2:Int)(d3 d4:Ll)(d5 out:Li):Option (Int×Int×Bool×Li×Int×Ll×Ll×Li×Li):=
 chk (k+1)<|
 rec found i n is (k+1) d d2 d3 d4 d5 out
def rclaims1_l2(N:Nat):Nat→Int→Int→Int→Bool→Int→Li→Int→Ll→Ll→Li→Li→Option (Int×Int×Bool×Li×Int×Ll×Ll×Li×Li)
 | 0,_,_,_,_,_,_,_,_,_,_,_=>none
 | n_+1,found,i,n,is,k,d,d2,d3,d4,d5,out=>
  br (decide (k<(d4.length:Int)))
   ((Ec N d d2 d3 d4 d5 i k).bind fun(x_4,y_5,y_6)=>
   br y_6
    (br (decide (n<x_4))
     (Es N (rclaims1_l2 N n_) found i n false k d d2 d3 d4 d5 out)
     (Es N (rclaims1_l2 N n_) found i n is k d d2 d3 d4 d5 out))
    (Es N (rclaims1_l2 N n_) found i n is k d d2 d3 d4 d5 out))
   (some ((found,i,is,d,d2,d3,d4,d5,out)))
def Hv(N:Nat)(rec:Int→Int→Li→Int→Ll→Ll→Li→Li→Option Li)(found i:Int)(d:Li)(d2:Int)(d3 d4:Ll)(d5 out:Li):Option Li:=
 chk (i+1)<|
 rec found (i+1) d d2 d3 d4 d5 out
def rclaims1_l1(N:Nat):Nat→Int→Int→Li→Int→Ll→Ll→Li→Li→Option Li
 | 0,_,_,_,_,_,_,_,_=>none
 | n_+1,found,i,d,d2,d3,d4,d5,out=>
  br (decide (i<(d3.length:Int)))
   ((Ec N d d2 d3 d4 d5 i found).bind fun(x_1,y_2,y_3)=>
   (rclaims1_l2 N N found i x_1 y_3 0 d d2 d3 d4 d5 out).bind fun(found_7,i_8,is_9,d_10,d2_11,d3_12,d4_13,d5_14,out_15)=>
   br is_9
    (lim (out_15.length+[i_8].length)<|
    Hv N (rclaims1_l1 N n_) found_7 i_8 d_10 d2_11 d3_12 d4_13 d5_14 (out_15++[i_8]))
    (Hv N (rclaims1_l1 N n_) found_7 i_8 d_10 d2_11 d3_12 d4_13 d5_14 out_15))
   (some (out))
def H3(N:Nat)(d:Li)(d2:Int)(d3 d4:Ll)(d5:Li)(found:Int):Option Li:=
 (rclaims1_l1 N N found 0 d d2 d3 d4 d5 []).bind fun out_16=>
 some out_16
noncomputable def F0(N:Nat):Oks:=[⟨_,Cz N⟩]
abbrev Z9:List StSh:=[⟨[shL],[]⟩]
noncomputable abbrev Ka:Body:=mkB Tryz.f77 Z9 0
abbrev Le:List PI:=[.c [1,1,0,1,0,0,1,0,0,1,0,1,0,0,0,0],.c [1,1,0,1,0,0,1,0,0,1,0,1,0,0,0,1],.c [1,1,0,1,0,0,1,0,0,1,0,1,0,0,1],.l [1,1,0,1,0,0,1,0,0,1,0,1,0,0],.b 2,.c [1,1,0,1,0,0,1,0,0,1,1],.b 1,.c [1,1,0,1,0,0,1,1],.l [1,1,0,1,0,0],.b 0,.c [1,1,1]]
abbrev Lt:Sta:=⟨[1,2,5,6,7,9,10],⟨[shI,.own 0 0,.ols 1,shI,shI,.b,shI],[.segs [shL,shI,shQ,shQ,shL],.lst (.int .i64)]⟩⟩
abbrev A0w(rec:Int→Int→Int→Bool→Int→Li→Int→Ll→Ll→Li→Li→Option (Int×Int×Bool×Li×Int×Ll×Ll×Li×Li)):Leaf (Int×Int×Bool×Li×Int×Ll×Ll×Li×Li):=⟨Le,Lt,fun p=>rec p.1.1 p.1.2.2.2.1 p.1.2.2.2.2.1 p.1.2.2.2.2.2.1 p.1.2.2.2.2.2.2.1 p.2.1.1 p.2.1.2.1 p.2.1.2.2.1 p.2.1.2.2.2.1 p.2.1.2.2.2.2.1 p.2.2.1⟩
abbrev Ld:Leaf (Int×Int×Bool×Li×Int×Ll×Ll×Li×Li):=⟨[.c [1,1,0,1,0,0,1,0,0,1,1,0],.c [1,1,0,1,0,0,1,0,0,1,1,1],.b 1,.c [1,1,0,1,0,0,1,1],.l [1,1,0,1,0,0],.b 0,.c [1,1,1]],⟨[1,2,5,6,9],⟨[shI,.own 0 0,.ols 1,shI,.b],[.segs [shL,shI,shQ,shQ,shL],.lst (.int .i64)]⟩⟩,fun p=>some ((p.1.1,p.1.2.2.2.1,p.1.2.2.2.2.1,p.2.1.1,p.2.1.2.1,p.2.1.2.2.1,p.2.1.2.2.2.1,p.2.1.2.2.2.2.1,p.2.2.1))⟩
noncomputable def A0k(N:Nat)(rec:Int→Int→Int→Bool→Int→Li→Int→Ll→Ll→Li→Li→Option (Int×Int×Bool×Li×Int×Ll×Ll×Li×Li)){top:Bool}:JnQ (Z:=Int×Int×Bool×Li×Int×Ll×Ll×Li×Li) Ka top none [A0w rec,Ld]:=mkJ (F0 N) [] [] ⟨[.c [1,1,0,1,0,0,1,0,0,1,0,1,0,0,1,1],.l [1,1,0,1,0,0,1,0,0,1,0,1,0,0],.b 2,.c [1,1,0,1,0,0,1,0,0,1,1],.b 1,.c [1,1,0,1,0,0,1,1],.l [1,1,0,1,0,0],.b 0,.c [1,1,1]],⟨[1,2,5,6,7,9,10],⟨[shI,.own 0 0,.ols 1,shI,shI,.b,shI],[.segs [shL,shI,shQ,shQ,shL],.lst (.int .i64)]⟩⟩,fun p=>Es N rec p.1.1 p.1.2.2.2.1 p.1.2.2.2.2.1 p.1.2.2.2.2.2.1 p.1.2.2.2.2.2.2.1 p.2.1.1 p.2.1.2.1 p.2.1.2.2.1 p.2.1.2.2.2.1 p.2.1.2.2.2.2.1 p.2.2.1⟩ (fun p=>by kernel_rfl)
noncomputable def I6(N:Nat){top:Bool}:LpQ Ka top:=mkL (Z:=Int×Int×Bool×Li×Int×Ll×Ll×Li×Li) (F0 N) [] Le Lt (fun m p=>rclaims1_l2 N m p.1.1 p.1.2.2.2.1 p.1.2.2.2.2.1 p.1.2.2.2.2.2.1 p.1.2.2.2.2.2.2.1 p.2.1.1 p.2.1.2.1 p.2.1.2.2.1 p.2.1.2.2.2.1 p.2.1.2.2.2.2.1 p.2.2.1) [Ld] (fun m=>[A0k N (rclaims1_l2 N m)]) (fun k e=>k (.inl ((e.1,(),(),e.2.1,e.2.2.1,()),((e.2.2.2.1,e.2.2.2.2.1,e.2.2.2.2.2.1,e.2.2.2.2.2.2.1,e.2.2.2.2.2.2.2.1,()),e.2.2.2.2.2.2.2.2,())))) N (fun m p=>by kernel_rfl)
abbrev Kt:List PI:=[.c [1,1,0,1,0,0,0,0],.c [1,1,0,1,0,0,0,1],.c [1,1,0,1,0,0,1],.l [1,1,0,1,0,0],.b 0,.c [1,1,1]]
abbrev M0:Sta:=⟨[1,2,5,6],⟨[shI,.own 0 0,.ols 1,shI],[.segs [shL,shI,shQ,shQ,shL],.lst (.int .i64)]⟩⟩
abbrev A0g(rec:Int→Int→Li→Int→Ll→Ll→Li→Li→Option Li):Leaf Li:=⟨Kt,M0,fun p=>rec p.1.1 p.1.2.2.2.1 p.2.1.1 p.2.1.2.1 p.2.1.2.2.1 p.2.1.2.2.2.1 p.2.1.2.2.2.2.1 p.2.2.1⟩
abbrev Lg:Leaf Li:=⟨[.c [1,1,1,0],.c [1,1,1,1]],⟨[5],⟨[.ols 0],[.lst (.int .i64)]⟩⟩,fun p=>some (p.2.1)⟩
noncomputable def A0p(N:Nat)(rec:Int→Int→Li→Int→Ll→Ll→Li→Li→Option Li){top:Bool}:JnQ (Z:=Li) Ka top none [A0g rec,Lg]:=mkJ (F0 N) [I6 N] [] ⟨[.c [1,1,0,1,0,0,1,1],.l [1,1,0,1,0,0],.b 0,.c [1,1,1]],⟨[1,2,5,6],⟨[shI,.own 0 0,.ols 1,shI],[.segs [shL,shI,shQ,shQ,shL],.lst (.int .i64)]⟩⟩,fun p=>Hv N rec p.1.1 p.1.2.2.2.1 p.2.1.1 p.2.1.2.1 p.2.1.2.2.1 p.2.1.2.2.2.1 p.2.1.2.2.2.2.1 p.2.2.1⟩ (fun p=>by kernel_rfl)
noncomputable def A18(N:Nat){top:Bool}:LpQ Ka top:=mkL (Z:=Li) (F0 N) [I6 N] Kt M0 (fun m p=>rclaims1_l1 N m p.1.1 p.1.2.2.2.1 p.2.1.1 p.2.1.2.1 p.2.1.2.2.1 p.2.1.2.2.2.1 p.2.1.2.2.2.2.1 p.2.2.1) [Lg] (fun m=>[A0p N (rclaims1_l1 N m)]) (fun k e=>k (.inl (((),()),(e,())))) N (fun m p=>by kernel_rfl)
noncomputable def A8z(N:Nat):Spec:=mkS 77 ⟨[shG,shI],[]⟩ Z9 (fun p=>H3 N p.1.1.1 p.1.1.2.1 p.1.1.2.2.1 p.1.1.2.2.2.1 p.1.1.2.2.2.2.1 p.1.2.1) (fun k r=>k ((r,()),()))
theorem Lc(N:Nat):A0 Tryz.prog (A8z N):=mkF (R:=Li) (m0:=0) (F0 N) [I6 N,A18 N] (fun r=>some r.1.1) [] Tryz.func77 (fun p=>by kernel_rfl) (by kernel_rfl) (fun _=>by kernel_rfl)

def N9(N:Nat)(d:Li)(d2:Int)(d3 d4:Ll)(d5:Li)(found:Int):Option (Li×Int):=
 (rcheck_S N d d2 d3 d4 d5).bind fun x_1=>
 br (!decide (x_1=0))
  (some ([],x_1))
  (chk ((d4.length:Int)-1)<|
  (Fg N found 0 ((d4.length:Int)-1)).bind fun x_2=>
  br x_2
   (some ([],1))
   ((H3 N d d2 d3 d4 d5 found).bind fun x_3=>
   some (x_3,0)))
noncomputable def Adv(N:Nat):Spec:=mkS 27 ⟨[shG,shI],[]⟩ [⟨[shL,shI],[]⟩] (fun p=>N9 N p.1.1.1 p.1.1.2.1 p.1.1.2.2.1 p.1.1.2.2.2.1 p.1.1.2.2.2.2.1 p.1.2.1) (fun k r=>k ((r.1,r.2,()),()))
theorem A10(N:Nat):A0 Tryz.prog (Adv N):=mkF (R:=Li×Int) (m0:=0) [⟨_,D6 N⟩,⟨_,Ax N⟩,⟨_,Lc N⟩] [] (fun r=>some (r.1.1,r.1.2.1)) [] Tryz.func27 (fun p=>by kernel_rfl) (by kernel_rfl) (fun _=>by kernel_rfl)

def Ft(N:Nat)(rec:Int→Li→Int→Ll→Ll→Li→Li→Option Li)(k:Int)(d:Li)(d2:Int)(d3 d4:Ll)(d5 out:Li):Option Li:=
 chk (k+1)<|
 rec (k+1) d d2 d3 d4 d5 out
def rcontests_l1(N:Nat):Nat→Int→Li→Int→Ll→Ll→Li→Li→Option Li
 | 0,_,_,_,_,_,_,_=>none
 | n_+1,k,d,d2,d3,d4,d5,out=>
  br (decide (k<(d4.length:Int)))
   ((H3 N d d2 d3 d4 d5 k).bind fun x_2=>
   br (decide (2≤(x_2.length:Int)))
    (lim (out.length+[k].length)<|
    Ft N (rcontests_l1 N n_) k d d2 d3 d4 d5 (out++[k]))
    (Ft N (rcontests_l1 N n_) k d d2 d3 d4 d5 out))
   (some (out))
def H8(N:Nat)(d:Li)(d2:Int)(d3 d4:Ll)(d5:Li):Option (Li×Int):=
 (rcheck_S N d d2 d3 d4 d5).bind fun x_1=>
 br (!decide (x_1=0))
  (some ([],x_1))
  ((rcontests_l1 N N 0 d d2 d3 d4 d5 []).bind fun out_3=>
  some (out_3,0))
noncomputable def Jz(N:Nat):Oks:=[⟨_,Ax N⟩,⟨_,Lc N⟩]
abbrev Uv:List StSh:=[⟨[shL,shI],[]⟩]
noncomputable abbrev U6:Body:=mkB Tryz.f29 Uv 0
abbrev Kb:List PI:=[.c [1,1,1,0,1,0,0,0,0],.c [1,1,1,0,1,0,0,0,1],.c [1,1,1,0,1,0,0,1],.l [1,1,1,0,1,0,0],.b 0,.c [1,1,1,1]]
abbrev Kc:Sta:=⟨[1,5,6],⟨[.own 0 0,.ols 1,shI],[.segs [shL,shI,shQ,shQ,shL],.lst (.int .i64)]⟩⟩
abbrev Ya(rec:Int→Li→Int→Ll→Ll→Li→Li→Option Li):Leaf Li:=⟨Kb,Kc,fun p=>rec p.1.2.2.1 p.2.1.1 p.2.1.2.1 p.2.1.2.2.1 p.2.1.2.2.2.1 p.2.1.2.2.2.2.1 p.2.2.1⟩
abbrev Ke:Leaf Li:=⟨[.c [1,1,1,1,0],.c [1,1,1,1,1]],⟨[5],⟨[.ols 0],[.lst (.int .i64)]⟩⟩,fun p=>some (p.2.1)⟩
noncomputable def Z0(N:Nat)(rec:Int→Li→Int→Ll→Ll→Li→Li→Option Li){top:Bool}:JnQ (Z:=Li) U6 top none [Ya rec,Ke]:=mkJ (Jz N) [] [] ⟨[.c [1,1,1,0,1,0,0,1,1],.l [1,1,1,0,1,0,0],.b 0,.c [1,1,1,1]],⟨[1,5,6],⟨[.own 0 0,.ols 1,shI],[.segs [shL,shI,shQ,shQ,shL],.lst (.int .i64)]⟩⟩,fun p=>Ft N rec p.1.2.2.1 p.2.1.1 p.2.1.2.1 p.2.1.2.2.1 p.2.1.2.2.2.1 p.2.1.2.2.2.2.1 p.2.2.1⟩ (fun p=>by kernel_rfl)
noncomputable def Wo(N:Nat){top:Bool}:LpQ U6 top:=mkL (Z:=Li) (Jz N) [] Kb Kc (fun m p=>rcontests_l1 N m p.1.2.2.1 p.2.1.1 p.2.1.2.1 p.2.1.2.2.1 p.2.1.2.2.2.1 p.2.1.2.2.2.2.1 p.2.2.1) [Ke] (fun m=>[Z0 N (rcontests_l1 N m)]) (fun k e=>k (.inl (((),()),(e,())))) N (fun m p=>by kernel_rfl)
noncomputable def A3w(N:Nat):Spec:=mkS 29 ⟨[shG],[]⟩ Uv (fun p=>H8 N p.1.1.1 p.1.1.2.1 p.1.1.2.2.1 p.1.1.2.2.2.1 p.1.1.2.2.2.2.1) (fun k r=>k ((r.1,r.2,()),()))
theorem W7(N:Nat):A0 Tryz.prog (A3w N):=mkF (R:=Li×Int) (m0:=0) (Jz N) [Wo N] (fun r=>some (r.1.1,r.1.2.1)) [] Tryz.func29 (fun p=>by kernel_rfl) (by kernel_rfl) (fun _=>by kernel_rfl)

def rjoins_l1(N:Nat):Nat→Li→Int→Li→Int→Ll→Ll→Li→Option ((Unit)⊕(Li×Li×Int×Ll×Ll×Li))
 | 0,_,_,_,_,_,_,_=>none
 | n_+1,l,i,d,d2,d3,d4,d5=>
  br (decide (i<(l.length:Int)))
   (idx l i fun x_2=>
   chk ((d4.length:Int)-1)<|
   (Fg N x_2 (-1) ((d4.length:Int)-1)).bind fun x_3=>
   br x_3
    (some (.inl ()))
    (chk (i+1)<|
    rjoins_l1 N n_ l (i+1) d d2 d3 d4 d5))
   (some (.inr (l,d,d2,d3,d4,d5)))
def rjoins_l3(N:Nat):Nat→Li→Int→Int→Li→Int→Ll→Ll→Li→Option ((Unit)⊕(Li×Int×Li×Int×Ll×Ll×Li))
 | 0,_,_,_,_,_,_,_,_=>none
 | n_+1,l,i,k,d,d2,d3,d4,d5=>
  br (decide (k<i))
   (idx l i fun x_10=>
   br (decide (0≤x_10))
    (idx l i fun x_11=>
    idx l k fun x_12=>
    br (decide (x_11=x_12))
     (some (.inl ()))
     (chk (k+1)<|
     rjoins_l3 N n_ l i (k+1) d d2 d3 d4 d5))
    (chk (k+1)<|
    rjoins_l3 N n_ l i (k+1) d d2 d3 d4 d5))
   (some (.inr (l,i,d,d2,d3,d4,d5)))
def rjoins_l2(N:Nat):Nat→Li→Int→Li→Int→Ll→Ll→Li→Option ((Unit)⊕(Li×Li×Int×Ll×Ll×Li))
 | 0,_,_,_,_,_,_,_=>none
 | n_+1,l,i,d,d2,d3,d4,d5=>
  br (decide (i<(l.length:Int)))
   ((rjoins_l3 N N l i 0 d d2 d3 d4 d5).bind fun e=>match e with
   | .inl _=>
    some (.inl ())
   | .inr (l_13,i_14,d_15,d2_16,d3_17,d4_18,d5_19)=>
    chk (i_14+1)<|
    rjoins_l2 N n_ l_13 (i_14+1) d_15 d2_16 d3_17 d4_18 d5_19)
   (some (.inr (l,d,d2,d3,d4,d5)))
def J1(N:Nat)(rec:Li→Int→Li→Int→Ll→Ll→Li→Option ((Unit)⊕(Unit)))(l:Li)(i:Int)(d:Li)(d2:Int)(d3 d4:Ll)(d5:Li):Option ((Unit)⊕(Unit)):=
 chk (i+1)<|
 rec l (i+1) d d2 d3 d4 d5
def D5(N:Nat):Nat→Li→Int→Li→Int→Ll→Ll→Li→Option ((Unit)⊕(Unit))
 | 0,_,_,_,_,_,_,_=>none
 | n_+1,l,i,d,d2,d3,d4,d5=>
  br (decide (i<(l.length:Int)))
   (idx l i fun x_26=>
   br (decide (x_26<0))
    (J1 N (D5 N n_) l i d d2 d3 d4 d5)
    (idx l i fun x_27=>
    (Ec N d d2 d3 d4 d5 i x_27).bind fun(x_28,y_29,y_30)=>
    br (!y_30)
     (some (.inl ()))
     (J1 N (D5 N n_) l i d d2 d3 d4 d5)))
   (some (.inr ()))
def rjoins_S(N:Nat)(d:Li)(d2:Int)(d3 d4:Ll)(d5 l:Li):Option Int:=
 (rcheck_S N d d2 d3 d4 d5).bind fun x_1=>
 br (!decide (x_1=0))
  (some x_1)
  (br (!decide ((l.length:Int)=(d3.length:Int)))
   (some 2)
   ((rjoins_l1 N N l 0 d d2 d3 d4 d5).bind fun e=>match e with
   | .inl _=>
    some 1
   | .inr (l_4,d_5,d2_6,d3_7,d4_8,d5_9)=>
    (rjoins_l2 N N l_4 0 d_5 d2_6 d3_7 d4_8 d5_9).bind fun e=>match e with
    | .inl _=>
     some 5
    | .inr (l_20,d_21,d2_22,d3_23,d4_24,d5_25)=>
     (D5 N N l_20 0 d_21 d2_22 d3_23 d4_24 d5_25).bind fun e=>match e with
     | .inl _=>
      some 8
     | .inr _=>
      some 0))
noncomputable def G3(N:Nat):Oks:=[⟨_,D6 N⟩,⟨_,Ax N⟩,⟨_,Cz N⟩]
abbrev Ab1:List StSh:=[⟨[shI],[]⟩]
noncomputable abbrev Kl:Body:=mkB Tryz.f36 Ab1 0
noncomputable def Eu(N:Nat){top:Bool}:LpQ Kl top:=mkL (Z:=(Unit)⊕(Li×Li×Int×Ll×Ll×Li)) (G3 N) [] [.c [1,1,1,0,1,0,0,0,0],.c [1,1,1,0,1,0,0,0,1],.c [1,1,1,0,1,0,0,1],.l [1,1,1,0,1,0,0],.b 0,.c [1,1,1,1]] ⟨[1,2,6],⟨[shL,.own 0 0,shI],[.segs [shL,shI,shQ,shQ,shL]]⟩⟩ (fun m p=>rjoins_l1 N m p.1.1 p.1.2.2.1 p.2.1.1 p.2.1.2.1 p.2.1.2.2.1 p.2.1.2.2.2.1 p.2.1.2.2.2.2.1) [⟨[.c [1,1,1,0,1,0,0,1,0,0,1,0,0],.c [1,1,1,0,1,0,0,1,0,0,1,0,1],.b 1,.c [1,1,1,0,1,0,0,1,1],.l [1,1,1,0,1,0,0],.b 0,.c [1,1,1,1]],⟨[],⟨[],[]⟩⟩,fun p=>some (.inl ())⟩,⟨[.c [1,1,1,1,0,0],.c [1,1,1,1,0,1],.c [1,1,1,1,1]],⟨[1,2],⟨[shL,.own 0 0],[.segs [shL,shI,shQ,shQ,shL]]⟩⟩,fun p=>some (.inr (p.1.1,p.2.1.1,p.2.1.2.1,p.2.1.2.2.1,p.2.1.2.2.2.1,p.2.1.2.2.2.2.1))⟩] (fun _=>[]) (fun k e=>match e with | .inl x=>k (.inl ((),())) | .inr x=>k (.inr (.inl ((x.1,(),()),((x.2.1,x.2.2.1,x.2.2.2.1,x.2.2.2.2.1,x.2.2.2.2.2,()),()))))) N (fun m p=>by kernel_rfl) (hg:=(by rintro _ _ (_ | _)<;>rfl))
noncomputable def Hn(N:Nat){top:Bool}:LpQ Kl top:=mkL (Z:=(Unit)⊕(Li×Int×Li×Int×Ll×Ll×Li)) (G3 N) [Eu N] [.c [1,1,1,1,0,1,0,0,1,0,0,1,0,0,0,0],.c [1,1,1,1,0,1,0,0,1,0,0,1,0,0,0,1],.c [1,1,1,1,0,1,0,0,1,0,0,1,0,0,1],.l [1,1,1,1,0,1,0,0,1,0,0,1,0,0],.b 4,.b 3,.c [1,1,1,1,0,1,0,0,1,1],.l [1,1,1,1,0,1,0,0],.b 2,.c [1,1,1,1,1]] ⟨[1,2,7,8],⟨[shL,.own 0 0,shI,shI],[.segs [shL,shI,shQ,shQ,shL]]⟩⟩ (fun m p=>rjoins_l3 N m p.1.1 p.1.2.2.1 p.1.2.2.2.1 p.2.1.1 p.2.1.2.1 p.2.1.2.2.1 p.2.1.2.2.2.1 p.2.1.2.2.2.2.1) [⟨[.c [1,1,1,1,0,1,0,0,1,0,0,1,0,0,1,0,0,1,0,0],.c [1,1,1,1,0,1,0,0,1,0,0,1,0,0,1,0,0,1,0,1],.b 5,.c [1,1,1,1,0,1,0,0,1,0,0,1,0,0,1,1],.l [1,1,1,1,0,1,0,0,1,0,0,1,0,0],.b 4,.b 3,.c [1,1,1,1,0,1,0,0,1,1],.l [1,1,1,1,0,1,0,0],.b 2,.c [1,1,1,1,1]],⟨[],⟨[],[]⟩⟩,fun p=>some (.inl ())⟩,⟨[.c [1,1,1,1,0,1,0,0,1,1],.l [1,1,1,1,0,1,0,0],.b 2,.c [1,1,1,1,1]],⟨[1,2,7],⟨[shL,.own 0 0,shI],[.segs [shL,shI,shQ,shQ,shL]]⟩⟩,fun p=>some (.inr (p.1.1,p.1.2.2.1,p.2.1.1,p.2.1.2.1,p.2.1.2.2.1,p.2.1.2.2.2.1,p.2.1.2.2.2.2.1))⟩] (fun _=>[]) (fun k e=>match e with | .inl x=>k (.inl ((),())) | .inr x=>k (.inr (.inl ((x.1,(),x.2.1,()),((x.2.2.1,x.2.2.2.1,x.2.2.2.2.1,x.2.2.2.2.2.1,x.2.2.2.2.2.2,()),()))))) N (fun m p=>by kernel_rfl) (hg:=(by rintro _ _ (_ | _)<;>rfl))
noncomputable def Lz(N:Nat){top:Bool}:LpQ Kl top:=mkL (Z:=(Unit)⊕(Li×Li×Int×Ll×Ll×Li)) (G3 N) [Eu N,Hn N] [.c [1,1,1,1,0,1,0,0,0,0],.c [1,1,1,1,0,1,0,0,0,1],.c [1,1,1,1,0,1,0,0,1],.l [1,1,1,1,0,1,0,0],.b 2,.c [1,1,1,1,1]] ⟨[1,2,7],⟨[shL,.own 0 0,shI],[.segs [shL,shI,shQ,shQ,shL]]⟩⟩ (fun m p=>rjoins_l2 N m p.1.1 p.1.2.2.1 p.2.1.1 p.2.1.2.1 p.2.1.2.2.1 p.2.1.2.2.2.1 p.2.1.2.2.2.2.1) [⟨[.c [1,1,1,1,0,1,0,0,1,0,0,1,0,0,1,0,0,1,0,0],.c [1,1,1,1,0,1,0,0,1,0,0,1,0,0,1,0,0,1,0,1],.b 5,.c [1,1,1,1,0,1,0,0,1,0,0,1,0,0,1,1],.l [1,1,1,1,0,1,0,0,1,0,0,1,0,0],.b 4,.b 3,.c [1,1,1,1,0,1,0,0,1,1],.l [1,1,1,1,0,1,0,0],.b 2,.c [1,1,1,1,1]],⟨[],⟨[],[]⟩⟩,fun p=>some (.inl ())⟩,⟨[.c [1,1,1,1,1,0,0],.c [1,1,1,1,1,0,1],.c [1,1,1,1,1,1]],⟨[1,2],⟨[shL,.own 0 0],[.segs [shL,shI,shQ,shQ,shL]]⟩⟩,fun p=>some (.inr (p.1.1,p.2.1.1,p.2.1.2.1,p.2.1.2.2.1,p.2.1.2.2.2.1,p.2.1.2.2.2.2.1))⟩] (fun _=>[]) (fun k e=>match e with | .inl x=>k (.inl ((),())) | .inr x=>k (.inr (.inl ((x.1,(),()),((x.2.1,x.2.2.1,x.2.2.2.1,x.2.2.2.2.1,x.2.2.2.2.2,()),()))))) N (fun m p=>by kernel_rfl) (hg:=(by rintro _ _ (_ | _)<;>rfl))
abbrev Rv:List PI:=[.c [1,1,1,1,1,0,1,0,0,0,0],.c [1,1,1,1,1,0,1,0,0,0,1],.c [1,1,1,1,1,0,1,0,0,1],.l [1,1,1,1,1,0,1,0,0],.b 6,.c [1,1,1,1,1,1]]
abbrev Qh:Sta:=⟨[1,2,9],⟨[shL,.own 0 0,shI],[.segs [shL,shI,shQ,shQ,shL]]⟩⟩
abbrev A92(rec:Li→Int→Li→Int→Ll→Ll→Li→Option ((Unit)⊕(Unit))):Leaf ((Unit)⊕(Unit)):=⟨Rv,Qh,fun p=>rec p.1.1 p.1.2.2.1 p.2.1.1 p.2.1.2.1 p.2.1.2.2.1 p.2.1.2.2.2.1 p.2.1.2.2.2.2.1⟩
abbrev Pv:Leaf ((Unit)⊕(Unit)):=⟨[.c [1,1,1,1,1,0,1,0,0,1,0,0,1,1,1,0,0],.c [1,1,1,1,1,0,1,0,0,1,0,0,1,1,1,0,1],.b 7,.c [1,1,1,1,1,0,1,0,0,1,1],.l [1,1,1,1,1,0,1,0,0],.b 6,.c [1,1,1,1,1,1]],⟨[],⟨[],[]⟩⟩,fun p=>some (.inl ())⟩
abbrev Qo:Leaf ((Unit)⊕(Unit)):=⟨[.c [1,1,1,1,1,1,0],.c [1,1,1,1,1,1,1]],⟨[],⟨[],[]⟩⟩,fun p=>some (.inr ())⟩
noncomputable def A8o(N:Nat)(rec:Li→Int→Li→Int→Ll→Ll→Li→Option ((Unit)⊕(Unit))){top:Bool}:JnQ (Z:=(Unit)⊕(Unit)) Kl top none [A92 rec,Pv,Qo]:=mkJ (G3 N) [Eu N,Hn N,Lz N] [] ⟨[.c [1,1,1,1,1,0,1,0,0,1,1],.l [1,1,1,1,1,0,1,0,0],.b 6,.c [1,1,1,1,1,1]],⟨[1,2,9],⟨[shL,.own 0 0,shI],[.segs [shL,shI,shQ,shQ,shL]]⟩⟩,fun p=>J1 N rec p.1.1 p.1.2.2.1 p.2.1.1 p.2.1.2.1 p.2.1.2.2.1 p.2.1.2.2.2.1 p.2.1.2.2.2.2.1⟩ (fun p=>by kernel_rfl)
noncomputable def A6p(N:Nat){top:Bool}:LpQ Kl top:=mkL (Z:=(Unit)⊕(Unit)) (G3 N) [Eu N,Hn N,Lz N] Rv Qh (fun m p=>D5 N m p.1.1 p.1.2.2.1 p.2.1.1 p.2.1.2.1 p.2.1.2.2.1 p.2.1.2.2.2.1 p.2.1.2.2.2.2.1) [Pv,Qo] (fun m=>[A8o N (D5 N m)]) (fun k e=>match e with | .inl x=>k (.inl ((),())) | .inr x=>k (.inr (.inl ((),())))) N (fun m p=>by kernel_rfl) (hg:=(by rintro _ _ (_ | _)<;>rfl))
noncomputable def Aji(N:Nat):Spec:=mkS 36 ⟨[shG,shL],[]⟩ Ab1 (fun p=>rjoins_S N p.1.1.1 p.1.1.2.1 p.1.1.2.2.1 p.1.1.2.2.2.1 p.1.1.2.2.2.2.1 p.1.2.1) (fun k r=>k ((r,()),()))
theorem Dh(N:Nat):A0 Tryz.prog (Aji N):=mkF (R:=Int) (m0:=0) (G3 N) [Eu N,Hn N,Lz N,A6p N] (fun r=>some r.1.1) [] Tryz.func36 (fun p=>by kernel_rfl) (by kernel_rfl) (fun _=>by kernel_rfl)

def Ir(N:Nat)(rec:Li→Int→Int→Li→Int→Ll→Ll→Li→Option Int)(l:Li)(sum i:Int)(d:Li)(d2:Int)(d3 d4:Ll)(d5:Li):Option Int:=
 chk (i+1)<|
 rec l sum (i+1) d d2 d3 d4 d5
def Da(N:Nat):Nat→Li→Int→Int→Li→Int→Ll→Ll→Li→Option Int
 | 0,_,_,_,_,_,_,_,_=>none
 | n_+1,l,sum,i,d,d2,d3,d4,d5=>
  br (decide (i<(l.length:Int)))
   (idx l i fun x_1=>
   br (decide (0≤x_1))
    (idx l i fun x_2=>
    (Ec N d d2 d3 d4 d5 i x_2).bind fun(x_3,y_4,y_5)=>
    chk (sum+x_3)<|
    Ir N (Da N n_) l (sum+x_3) i d d2 d3 d4 d5)
    (Ir N (Da N n_) l sum i d d2 d3 d4 d5))
   (some (sum))
def B2(N:Nat)(d:Li)(d2:Int)(d3 d4:Ll)(d5 l:Li):Option Int:=
 (Da N N l 0 0 d d2 d3 d4 d5).bind fun sum_6=>
 some sum_6
noncomputable def Sf(N:Nat):Oks:=[⟨_,Cz N⟩]
abbrev Ac2:List StSh:=[⟨[shI],[]⟩]
noncomputable abbrev Abj:Body:=mkB Tryz.f37 Ac2 0
abbrev Px:List PI:=[.c [1,1,0,1,0,0,0,0],.c [1,1,0,1,0,0,0,1],.c [1,1,0,1,0,0,1],.l [1,1,0,1,0,0],.b 0,.c [1,1,1]]
abbrev Pj:Sta:=⟨[1,2,5,6],⟨[shL,.own 0 0,shI,shI],[.segs [shL,shI,shQ,shQ,shL]]⟩⟩
abbrev Aar(rec:Li→Int→Int→Li→Int→Ll→Ll→Li→Option Int):Leaf Int:=⟨Px,Pj,fun p=>rec p.1.1 p.1.2.2.1 p.1.2.2.2.1 p.2.1.1 p.2.1.2.1 p.2.1.2.2.1 p.2.1.2.2.2.1 p.2.1.2.2.2.2.1⟩
abbrev P7:Leaf Int:=⟨[.c [1,1,1,0],.c [1,1,1,1]],⟨[5],⟨[shI],[]⟩⟩,fun p=>some (p.1.1)⟩
noncomputable def A8g(N:Nat)(rec:Li→Int→Int→Li→Int→Ll→Ll→Li→Option Int){top:Bool}:JnQ (Z:=Int) Abj top none [Aar rec,P7]:=mkJ (Sf N) [] [] ⟨[.c [1,1,0,1,0,0,1,1],.l [1,1,0,1,0,0],.b 0,.c [1,1,1]],⟨[1,2,5,6],⟨[shL,.own 0 0,shI,shI],[.segs [shL,shI,shQ,shQ,shL]]⟩⟩,fun p=>Ir N rec p.1.1 p.1.2.2.1 p.1.2.2.2.1 p.2.1.1 p.2.1.2.1 p.2.1.2.2.1 p.2.1.2.2.2.1 p.2.1.2.2.2.2.1⟩ (fun p=>by kernel_rfl)
noncomputable def A9n(N:Nat){top:Bool}:LpQ Abj top:=mkL (Z:=Int) (Sf N) [] Px Pj (fun m p=>Da N m p.1.1 p.1.2.2.1 p.1.2.2.2.1 p.2.1.1 p.2.1.2.1 p.2.1.2.2.1 p.2.1.2.2.2.1 p.2.1.2.2.2.2.1) [P7] (fun m=>[A8g N (Da N m)]) (fun k e=>k (.inl ((e,()),()))) N (fun m p=>by kernel_rfl)
noncomputable def Ahw(N:Nat):Spec:=mkS 37 ⟨[shG,shL],[]⟩ Ac2 (fun p=>B2 N p.1.1.1 p.1.1.2.1 p.1.1.2.2.1 p.1.1.2.2.2.1 p.1.1.2.2.2.2.1 p.1.2.1) (fun k r=>k ((r,()),()))
theorem Dp(N:Nat):A0 Tryz.prog (Ahw N):=mkF (R:=Int) (m0:=0) (Sf N) [A9n N] (fun r=>some r.1.1) [] Tryz.func37 (fun p=>by kernel_rfl) (by kernel_rfl) (fun _=>by kernel_rfl)

def Gf(N:Nat)(rec:Li→Int→Int→Li→Int→Ll→Ll→Li→Option Int)(l:Li)(sum i:Int)(d:Li)(d2:Int)(d3 d4:Ll)(d5:Li):Option Int:=
 chk (i+1)<|
 rec l sum (i+1) d d2 d3 d4 d5
def Ce(N:Nat):Nat→Li→Int→Int→Li→Int→Ll→Ll→Li→Option Int
 | 0,_,_,_,_,_,_,_,_=>none
 | n_+1,l,sum,i,d,d2,d3,d4,d5=>
  br (decide (i<(l.length:Int)))
   (idx l i fun x_1=>
   br (decide (0≤x_1))
    (idx d5 i fun x_2=>
    chk (sum+x_2)<|
    Gf N (Ce N n_) l (sum+x_2) i d d2 d3 d4 d5)
    (Gf N (Ce N n_) l sum i d d2 d3 d4 d5))
   (some (sum))
def Dx(N:Nat)(d:Li)(d2:Int)(d3 d4:Ll)(d5 l:Li):Option Int:=
 (Ce N N l 0 0 d d2 d3 d4 d5).bind fun sum_3=>
 some sum_3
noncomputable def O7(N:Nat):Oks:=[]
abbrev A33:List StSh:=[⟨[shI],[]⟩]
noncomputable abbrev A3l:Body:=mkB Tryz.f38 A33 0
abbrev Nm:List PI:=[.c [1,1,0,1,0,0,0,0],.c [1,1,0,1,0,0,0,1],.c [1,1,0,1,0,0,1],.l [1,1,0,1,0,0],.b 0,.c [1,1,1]]
abbrev Nr:Sta:=⟨[1,2,5,6],⟨[shL,.own 0 0,shI,shI],[.segs [shL,shI,shQ,shQ,shL]]⟩⟩
abbrev A58(rec:Li→Int→Int→Li→Int→Ll→Ll→Li→Option Int):Leaf Int:=⟨Nm,Nr,fun p=>rec p.1.1 p.1.2.2.1 p.1.2.2.2.1 p.2.1.1 p.2.1.2.1 p.2.1.2.2.1 p.2.1.2.2.2.1 p.2.1.2.2.2.2.1⟩
abbrev Nz:Leaf Int:=⟨[.c [1,1,1,0],.c [1,1,1,1]],⟨[5],⟨[shI],[]⟩⟩,fun p=>some (p.1.1)⟩
noncomputable def A65(N:Nat)(rec:Li→Int→Int→Li→Int→Ll→Ll→Li→Option Int){top:Bool}:JnQ (Z:=Int) A3l top none [A58 rec,Nz]:=mkJ (O7 N) [] [] ⟨[.c [1,1,0,1,0,0,1,1],.l [1,1,0,1,0,0],.b 0,.c [1,1,1]],⟨[1,2,5,6],⟨[shL,.own 0 0,shI,shI],[.segs [shL,shI,shQ,shQ,shL]]⟩⟩,fun p=>Gf N rec p.1.1 p.1.2.2.1 p.1.2.2.2.1 p.2.1.1 p.2.1.2.1 p.2.1.2.2.1 p.2.1.2.2.2.1 p.2.1.2.2.2.2.1⟩ (fun p=>by kernel_rfl)
noncomputable def A53(N:Nat){top:Bool}:LpQ A3l top:=mkL (Z:=Int) (O7 N) [] Nm Nr (fun m p=>Ce N m p.1.1 p.1.2.2.1 p.1.2.2.2.1 p.2.1.1 p.2.1.2.1 p.2.1.2.2.1 p.2.1.2.2.2.1 p.2.1.2.2.2.2.1) [Nz] (fun m=>[A65 N (Ce N m)]) (fun k e=>k (.inl ((e,()),()))) N (fun m p=>by kernel_rfl)
noncomputable def Aef(N:Nat):Spec:=mkS 38 ⟨[shG,shL],[]⟩ A33 (fun p=>Dx N p.1.1.1 p.1.1.2.1 p.1.1.2.2.1 p.1.1.2.2.2.1 p.1.1.2.2.2.2.1 p.1.2.1) (fun k r=>k ((r,()),()))
theorem I7(N:Nat):A0 Tryz.prog (Aef N):=mkF (R:=Int) (m0:=0) (O7 N) [A53 N] (fun r=>some r.1.1) [] Tryz.func38 (fun p=>by kernel_rfl) (by kernel_rfl) (fun _=>by kernel_rfl)

abbrev Afi:List StSh:=[⟨[.ols 0],[.lst (.sl (.int .i64))]⟩]
noncomputable abbrev Cv(self:Int→Int→Option Ll):Spec:=mkS 99 ⟨[shI,shI],[]⟩ Afi (fun p=>self p.1.1 p.1.2.1) (fun k r=>k (((),()),(r,())))
def lists_l2(N:Nat)(self:Int→Int→Option Ll):Nat→Int→Int→Int→Ll→Ll→Option (Int×Int×Ll×Ll)
 | 0,_,_,_,_,_=>none
 | n_+1,many,i,k,out,rest=>
  br (decide (k<many))
   (rng i rest.length<|
   get rest i.toNat fun x_2=>
   lim (([]:Li).length+x_2.length)<|
   lim ((([]:Li)++x_2).length+[k].length)<|
   lim (out.length+([((([]:Li)++x_2)++[k])]).length)<|
   chk (k+1)<|
   lists_l2 N self n_ many i (k+1) (out++[((([]:Li)++x_2)++[k])]) rest)
   (some ((many,i,out,rest)))
def lists_l1(N:Nat)(self:Int→Int→Option Ll):Nat→Int→Int→Ll→Ll→Option Ll
 | 0,_,_,_,_=>none
 | n_+1,many,i,out,rest=>
  br (decide (i<(rest.length:Int)))
   ((lists_l2 N self N many i (-1) out rest).bind fun(many_3,i_4,out_5,rest_6)=>
   chk (i_4+1)<|
   lists_l1 N self n_ many_3 (i_4+1) out_5 rest_6)
   (some (out))
def Wh(N:Nat)(self:Int→Int→Option Ll)(long many:Int):Option Ll:=
 br (decide (long=0))
  (some ([[]]))
  (chk (long-1)<|
  (self (long-1) many).bind fun x_1=>
  (lists_l1 N self N many 0 [] x_1).bind fun out_7=>
  some out_7)
noncomputable def Xl(N:Nat)(self:Int→Int→Option Ll)(hself:A0 Tryz.prog (Cv self)):Oks:=[⟨_,hself⟩]
noncomputable abbrev Agv:Body:=mkB Tryz.f99 Afi 0
noncomputable def Y6(N:Nat)(self:Int→Int→Option Ll)(hself:A0 Tryz.prog (Cv self)){top:Bool}:LpQ Agv top:=mkL (Z:=Int×Int×Ll×Ll) (Xl N self hself) [] [.c [1,1,1,1,0,1,0,0,1,0,0,1,0,0,0,0],.c [1,1,1,1,0,1,0,0,1,0,0,1,0,0,0,1],.c [1,1,1,1,0,1,0,0,1,0,0,1,0,0,1],.l [1,1,1,1,0,1,0,0,1,0,0,1,0,0],.b 2,.b 1,.c [1,1,1,1,0,1,0,0,1,1],.l [1,1,1,1,0,1,0,0],.b 0,.c [1,1,1,1,1]] ⟨[1,5,6,7,8],⟨[shI,.ols 0,.ols 1,shI,shI],[.lst (.sl (.int .i64)),.lst (.sl (.int .i64))]⟩⟩ (fun m p=>lists_l2 N self m p.1.1 p.1.2.2.2.1 p.1.2.2.2.2.1 p.2.1 p.2.2.1) [⟨[.c [1,1,1,1,0,1,0,0,1,1],.l [1,1,1,1,0,1,0,0],.b 0,.c [1,1,1,1,1]],⟨[1,5,6,7],⟨[shI,.ols 0,.ols 1,shI],[.lst (.sl (.int .i64)),.lst (.sl (.int .i64))]⟩⟩,fun p=>some ((p.1.1,p.1.2.2.2.1,p.2.1,p.2.2.1))⟩] (fun _=>[]) (fun k e=>k (.inl ((e.1,(),(),e.2.1,()),(e.2.2.1,e.2.2.2,())))) N (fun m p=>by kernel_rfl)
noncomputable def Acr(N:Nat)(self:Int→Int→Option Ll)(hself:A0 Tryz.prog (Cv self)){top:Bool}:LpQ Agv top:=mkL (Z:=Ll) (Xl N self hself) [Y6 N self hself] [.c [1,1,1,1,0,1,0,0,0,0],.c [1,1,1,1,0,1,0,0,0,1],.c [1,1,1,1,0,1,0,0,1],.l [1,1,1,1,0,1,0,0],.b 0,.c [1,1,1,1,1]] ⟨[1,5,6,7],⟨[shI,.ols 0,.ols 1,shI],[.lst (.sl (.int .i64)),.lst (.sl (.int .i64))]⟩⟩ (fun m p=>lists_l1 N self m p.1.1 p.1.2.2.2.1 p.2.1 p.2.2.1) [⟨[.c [1,1,1,1,1,0],.c [1,1,1,1,1,1]],⟨[5],⟨[.ols 0],[.lst (.sl (.int .i64))]⟩⟩,fun p=>some (p.2.1)⟩] (fun _=>[]) (fun k e=>k (.inl (((),()),(e,())))) N (fun m p=>by kernel_rfl)
theorem A0x(N:Nat)(self:Int→Int→Option Ll)(hself:A0 Tryz.prog (Cv self)):A0 Tryz.prog (Cv (Wh N self)):=mkF (R:=Ll) (m0:=0) (Xl N self hself) [Y6 N self hself,Acr N self hself] (fun r=>some r.2.1) [] Tryz.func99 (fun p=>by kernel_rfl) (by kernel_rfl) (fun _=>by kernel_rfl)
def Hz(N:Nat):Nat→Int→Int→Option Ll
 | 0=>fun _ _=>none
 | n+1=>Wh N (Hz N n)
theorem Yc(N:Nat):∀n,A0 Tryz.prog (Cv (Hz N n))
 | 0=>A0.none (fun _ _ _=>rfl) (fun args w=>Sem.pv_run _ _ _ (by kernel_rfl) w)
 | n+1=>A0x N (Hz N n) (Yc N n)
noncomputable abbrev Aju(N:Nat):Spec:=Cv (Hz N N)
theorem A7q(N:Nat):A0 Tryz.prog (Aju N):=Yc N N

def Xn(N:Nat)(rec:Int→Li→Int→Ll→Ll→Li→Ll→Ll→Option Ll)(i:Int)(d:Li)(d2:Int)(d3 d4:Ll)(d5:Li)(out l:Ll):Option Ll:=
 chk (i+1)<|
 rec (i+1) d d2 d3 d4 d5 out l
def all_l1(N:Nat):Nat→Int→Li→Int→Ll→Ll→Li→Ll→Ll→Option Ll
 | 0,_,_,_,_,_,_,_,_=>none
 | n_+1,i,d,d2,d3,d4,d5,out,l=>
  br (decide (i<(l.length:Int)))
   (rng i l.length<|
   get l i.toNat fun x_2=>
   (rjoins_S N d d2 d3 d4 d5 x_2).bind fun x_3=>
   br (decide (x_3=0))
    (rng i l.length<|
    get l i.toNat fun x_4=>
    lim (out.length+[x_4].length)<|
    Xn N (all_l1 N n_) i d d2 d3 d4 d5 (out++[x_4]) l)
    (Xn N (all_l1 N n_) i d d2 d3 d4 d5 out l))
   (some (out))
def Aag(N:Nat)(d:Li)(d2:Int)(d3 d4:Ll)(d5:Li):Option Ll:=
 (Hz N N (d3.length:Int) (d4.length:Int)).bind fun x_1=>
 (all_l1 N N 0 d d2 d3 d4 d5 [] x_1).bind fun out_5=>
 some out_5
noncomputable def Acs(N:Nat):Oks:=[⟨_,Dh N⟩,⟨_,A7q N⟩]
abbrev Apy:List StSh:=[⟨[shQ],[]⟩]
noncomputable abbrev Aq0:Body:=mkB Tryz.f83 Apy 0
abbrev A3i:List PI:=[.c [1,1,1,0,1,0,0,0,0],.c [1,1,1,0,1,0,0,0,1],.c [1,1,1,0,1,0,0,1],.l [1,1,1,0,1,0,0],.b 0,.c [1,1,1,1]]
abbrev A39:Sta:=⟨[1,3,4,5],⟨[.own 0 0,.ols 1,.ols 2,shI],[.segs [shL,shI,shQ,shQ,shL],.lst (.sl (.int .i64)),.lst (.sl (.int .i64))]⟩⟩
abbrev Ano(rec:Int→Li→Int→Ll→Ll→Li→Ll→Ll→Option Ll):Leaf Ll:=⟨A3i,A39,fun p=>rec p.1.2.2.2.1 p.2.1.1 p.2.1.2.1 p.2.1.2.2.1 p.2.1.2.2.2.1 p.2.1.2.2.2.2.1 p.2.2.1 p.2.2.2.1⟩
abbrev A32:Leaf Ll:=⟨[.c [1,1,1,1,0],.c [1,1,1,1,1]],⟨[3],⟨[.ols 0],[.lst (.sl (.int .i64))]⟩⟩,fun p=>some (p.2.1)⟩
noncomputable def Alv(N:Nat)(rec:Int→Li→Int→Ll→Ll→Li→Ll→Ll→Option Ll){top:Bool}:JnQ (Z:=Ll) Aq0 top none [Ano rec,A32]:=mkJ (Acs N) [] [] ⟨[.c [1,1,1,0,1,0,0,1,1],.l [1,1,1,0,1,0,0],.b 0,.c [1,1,1,1]],⟨[1,3,4,5],⟨[.own 0 0,.ols 1,.ols 2,shI],[.segs [shL,shI,shQ,shQ,shL],.lst (.sl (.int .i64)),.lst (.sl (.int .i64))]⟩⟩,fun p=>Xn N rec p.1.2.2.2.1 p.2.1.1 p.2.1.2.1 p.2.1.2.2.1 p.2.1.2.2.2.1 p.2.1.2.2.2.2.1 p.2.2.1 p.2.2.2.1⟩ (fun p=>by kernel_rfl)
noncomputable def Ame(N:Nat){top:Bool}:LpQ Aq0 top:=mkL (Z:=Ll) (Acs N) [] A3i A39 (fun m p=>all_l1 N m p.1.2.2.2.1 p.2.1.1 p.2.1.2.1 p.2.1.2.2.1 p.2.1.2.2.2.1 p.2.1.2.2.2.2.1 p.2.2.1 p.2.2.2.1) [A32] (fun m=>[Alv N (all_l1 N m)]) (fun k e=>k (.inl (((),()),(e,())))) N (fun m p=>by kernel_rfl)
noncomputable def Aqq(N:Nat):Spec:=mkS 83 ⟨[shG],[]⟩ Apy (fun p=>Aag N p.1.1.1 p.1.1.2.1 p.1.1.2.2.1 p.1.1.2.2.2.1 p.1.1.2.2.2.2.1) (fun k r=>k ((r,()),()))
theorem A38(N:Nat):A0 Tryz.prog (Aqq N):=mkF (R:=Ll) (m0:=0) (Acs N) [Ame N] (fun r=>some r.1.1) [] Tryz.func83 (fun p=>by kernel_rfl) (by kernel_rfl) (fun _=>by kernel_rfl)

def rbest_l1(N:Nat):Nat→Ll→Int→Int→Li→Int→Ll→Ll→Li→Option (Ll×Int×Li×Int×Ll×Ll×Li)
 | 0,_,_,_,_,_,_,_,_=>none
 | n_+1,all,most,i,d,d2,d3,d4,d5=>
  br (decide (i<(all.length:Int)))
   (idx all i fun x_2=>
   (B2 N d d2 d3 d4 d5 x_2).bind fun x_3=>
   chk (i+1)<|
   rbest_l1 N n_ all (max most x_3) (i+1) d d2 d3 d4 d5)
   (some ((all,most,d,d2,d3,d4,d5)))
def Ln(N:Nat)(rec:Ll→Int→Int→Li→Int→Ll→Ll→Li→Ll→Option (Int×Ll))(all:Ll)(most i:Int)(d:Li)(d2:Int)(d3 d4:Ll)(d5:Li)(out:Ll):Option (Int×Ll):=
 chk (i+1)<|
 rec all most (i+1) d d2 d3 d4 d5 out
def rbest_l2(N:Nat):Nat→Ll→Int→Int→Li→Int→Ll→Ll→Li→Ll→Option (Int×Ll)
 | 0,_,_,_,_,_,_,_,_,_=>none
 | n_+1,all,most,i,d,d2,d3,d4,d5,out=>
  br (decide (i<(all.length:Int)))
   (idx all i fun x_11=>
   (B2 N d d2 d3 d4 d5 x_11).bind fun x_12=>
   br (decide (x_12=most))
    (idx all i fun x_13=>
    lim (out.length+[x_13].length)<|
    Ln N (rbest_l2 N n_) all most i d d2 d3 d4 d5 (out++[x_13]))
    (Ln N (rbest_l2 N n_) all most i d d2 d3 d4 d5 out))
   (some ((most,out)))
def By(N:Nat)(d:Li)(d2:Int)(d3 d4:Ll)(d5:Li):Option (Ll×Int):=
 (Aag N d d2 d3 d4 d5).bind fun x_1=>
 (rbest_l1 N N x_1 0 0 d d2 d3 d4 d5).bind fun(all_4,most_5,d_6,d2_7,d3_8,d4_9,d5_10)=>
 (rbest_l2 N N all_4 most_5 0 d_6 d2_7 d3_8 d4_9 d5_10 []).bind fun(most_14,out_15)=>
 some (out_15,most_14)
noncomputable def Pm(N:Nat):Oks:=[⟨_,Dp N⟩,⟨_,A38 N⟩]
abbrev Ag4:List StSh:=[⟨[shQ,shI],[]⟩]
noncomputable abbrev A3m:Body:=mkB Tryz.f34 Ag4 0
noncomputable def P2(N:Nat){top:Bool}:LpQ A3m top:=mkL (Z:=Ll×Int×Li×Int×Ll×Ll×Li) (Pm N) [] [.c [1,1,1,0,1,0,0,0,0],.c [1,1,1,0,1,0,0,0,1],.c [1,1,1,0,1,0,0,1],.l [1,1,1,0,1,0,0],.b 0,.c [1,1,1,1]] ⟨[1,4,5,6],⟨[.own 0 0,shQ,shI,shI],[.segs [shL,shI,shQ,shQ,shL]]⟩⟩ (fun m p=>rbest_l1 N m p.1.2.1 p.1.2.2.1 p.1.2.2.2.1 p.2.1.1 p.2.1.2.1 p.2.1.2.2.1 p.2.1.2.2.2.1 p.2.1.2.2.2.2.1) [⟨[.c [1,1,1,1,0],.c [1,1,1,1,1]],⟨[1,4,5],⟨[.own 0 0,shQ,shI],[.segs [shL,shI,shQ,shQ,shL]]⟩⟩,fun p=>some ((p.1.2.1,p.1.2.2.1,p.2.1.1,p.2.1.2.1,p.2.1.2.2.1,p.2.1.2.2.2.1,p.2.1.2.2.2.2.1))⟩] (fun _=>[]) (fun k e=>k (.inl (((),e.1,e.2.1,()),((e.2.2.1,e.2.2.2.1,e.2.2.2.2.1,e.2.2.2.2.2.1,e.2.2.2.2.2.2,()),())))) N (fun m p=>by kernel_rfl)
abbrev Tx:List PI:=[.c [1,1,1,1,1,0,1,0,0,0,0],.c [1,1,1,1,1,0,1,0,0,0,1],.c [1,1,1,1,1,0,1,0,0,1],.l [1,1,1,1,1,0,1,0,0],.b 2,.c [1,1,1,1,1,1]]
abbrev Uq:Sta:=⟨[1,4,5,7,8],⟨[.own 0 0,shQ,shI,.ols 1,shI],[.segs [shL,shI,shQ,shQ,shL],.lst (.sl (.int .i64))]⟩⟩
abbrev Ad7(rec:Ll→Int→Int→Li→Int→Ll→Ll→Li→Ll→Option (Int×Ll)):Leaf (Int×Ll):=⟨Tx,Uq,fun p=>rec p.1.2.1 p.1.2.2.1 p.1.2.2.2.2.1 p.2.1.1 p.2.1.2.1 p.2.1.2.2.1 p.2.1.2.2.2.1 p.2.1.2.2.2.2.1 p.2.2.1⟩
abbrev Uw:Leaf (Int×Ll):=⟨[.c [1,1,1,1,1,1,0],.c [1,1,1,1,1,1,1]],⟨[5,7],⟨[shI,.ols 0],[.lst (.sl (.int .i64))]⟩⟩,fun p=>some ((p.1.1,p.2.1))⟩
noncomputable def Acl(N:Nat)(rec:Ll→Int→Int→Li→Int→Ll→Ll→Li→Ll→Option (Int×Ll)){top:Bool}:JnQ (Z:=Int×Ll) A3m top none [Ad7 rec,Uw]:=mkJ (Pm N) [P2 N] [] ⟨[.c [1,1,1,1,1,0,1,0,0,1,1],.l [1,1,1,1,1,0,1,0,0],.b 2,.c [1,1,1,1,1,1]],⟨[1,4,5,7,8],⟨[.own 0 0,shQ,shI,.ols 1,shI],[.segs [shL,shI,shQ,shQ,shL],.lst (.sl (.int .i64))]⟩⟩,fun p=>Ln N rec p.1.2.1 p.1.2.2.1 p.1.2.2.2.2.1 p.2.1.1 p.2.1.2.1 p.2.1.2.2.1 p.2.1.2.2.2.1 p.2.1.2.2.2.2.1 p.2.2.1⟩ (fun p=>by kernel_rfl)
noncomputable def Aer(N:Nat){top:Bool}:LpQ A3m top:=mkL (Z:=Int×Ll) (Pm N) [P2 N] Tx Uq (fun m p=>rbest_l2 N m p.1.2.1 p.1.2.2.1 p.1.2.2.2.2.1 p.2.1.1 p.2.1.2.1 p.2.1.2.2.1 p.2.1.2.2.2.1 p.2.1.2.2.2.2.1 p.2.2.1) [Uw] (fun m=>[Acl N (rbest_l2 N m)]) (fun k e=>k (.inl ((e.1,(),()),(e.2,())))) N (fun m p=>by kernel_rfl)
noncomputable def Akz(N:Nat):Spec:=mkS 34 ⟨[shG],[]⟩ Ag4 (fun p=>By N p.1.1.1 p.1.1.2.1 p.1.1.2.2.1 p.1.1.2.2.2.1 p.1.1.2.2.2.2.1) (fun k r=>k ((r.1,r.2,()),()))
theorem Hj(N:Nat):A0 Tryz.prog (Akz N):=mkF (R:=Ll×Int) (m0:=0) (Pm N) [P2 N,Aer N] (fun r=>some (r.1.1,r.1.2.1)) [] Tryz.func34 (fun p=>by kernel_rfl) (by kernel_rfl) (fun _=>by kernel_rfl)

def Fb(N:Nat):Nat→Ll→Int→Int→Li→Int→Ll→Ll→Li→Option Int
 | 0,_,_,_,_,_,_,_,_=>none
 | n_+1,best,n,i,d,d2,d3,d4,d5=>
  br (decide (i<(best.length:Int)))
   (idx best i fun x_1=>
   (Dx N d d2 d3 d4 d5 x_1).bind fun x_2=>
   chk (i+1)<|
   Fb N n_ best (max n x_2) (i+1) d d2 d3 d4 d5)
   (some (n))
def Ju(N:Nat)(d:Li)(d2:Int)(d3 d4:Ll)(d5:Li)(best:Ll):Option Int:=
 (Fb N N best 0 0 d d2 d3 d4 d5).bind fun n_3=>
 some n_3
noncomputable def Ul(N:Nat):Oks:=[⟨_,I7 N⟩]
abbrev Ym:List StSh:=[⟨[shI],[]⟩]
noncomputable abbrev Aez:Body:=mkB Tryz.f35 Ym 0
noncomputable def A0f(N:Nat){top:Bool}:LpQ Aez top:=mkL (Z:=Int) (Ul N) [] [.c [1,1,0,1,0,0,0,0],.c [1,1,0,1,0,0,0,1],.c [1,1,0,1,0,0,1],.l [1,1,0,1,0,0],.b 0,.c [1,1,1]] ⟨[1,2,5,6],⟨[shQ,.own 0 0,shI,shI],[.segs [shL,shI,shQ,shQ,shL]]⟩⟩ (fun m p=>Fb N m p.1.1 p.1.2.2.1 p.1.2.2.2.1 p.2.1.1 p.2.1.2.1 p.2.1.2.2.1 p.2.1.2.2.2.1 p.2.1.2.2.2.2.1) [⟨[.c [1,1,1,0],.c [1,1,1,1]],⟨[5],⟨[shI],[]⟩⟩,fun p=>some (p.1.1)⟩] (fun _=>[]) (fun k e=>k (.inl ((e,()),()))) N (fun m p=>by kernel_rfl)
noncomputable def A9q(N:Nat):Spec:=mkS 35 ⟨[shG,shQ],[]⟩ Ym (fun p=>Ju N p.1.1.1 p.1.1.2.1 p.1.1.2.2.1 p.1.1.2.2.2.1 p.1.1.2.2.2.2.1 p.1.2.1) (fun k r=>k ((r,()),()))
theorem Wx(N:Nat):A0 Tryz.prog (A9q N):=mkF (R:=Int) (m0:=0) (Ul N) [A0f N] (fun r=>some r.1.1) [] Tryz.func35 (fun p=>by kernel_rfl) (by kernel_rfl) (fun _=>by kernel_rfl)

def rshows_l1(N:Nat):Nat→Li→Li→Int→Int→Li→Int→Ll→Ll→Li→Li→Option ((Unit)⊕(Li×Li×Int×Li×Int×Ll×Ll×Li))
 | 0,_,_,_,_,_,_,_,_,_,_=>none
 | n_+1,lost,found,sum,i,d,d2,d3,d4,d5,all=>
  br (decide (i<(all.length:Int)))
   (rng i all.length<|
   get all i.toNat fun x_2=>
   (Fg N x_2 0 999).bind fun x_3=>
   br x_3
    (some (.inl ()))
    (rng i all.length<|
    get all i.toNat fun x_4=>
    chk (sum+x_4)<|
    chk (i+1)<|
    rshows_l1 N n_ lost found (sum+x_4) (i+1) d d2 d3 d4 d5 all))
   (some (.inr (lost,found,sum,d,d2,d3,d4,d5)))
def rshows_l3(N:Nat):Nat→Li→Li→Int→Int→Int→Li→Int→Ll→Ll→Li→Option ((Unit)⊕(Li×Li×Int×Int×Li×Int×Ll×Ll×Li))
 | 0,_,_,_,_,_,_,_,_,_,_=>none
 | n_+1,lost,found,sum,i,k,d,d2,d3,d4,d5=>
  br (decide (k<(found.length:Int)))
   ((Ec N d d2 d3 d4 d5 i k).bind fun(x_13,y_14,y_15)=>
   br y_15
    (idx lost i fun x_16=>
    idx found k fun x_17=>
    chk (x_16+x_17)<|
    br (decide ((x_16+x_17)<x_13))
     (some (.inl ()))
     (chk (k+1)<|
     rshows_l3 N n_ lost found sum i (k+1) d d2 d3 d4 d5))
    (chk (k+1)<|
    rshows_l3 N n_ lost found sum i (k+1) d d2 d3 d4 d5))
   (some (.inr (lost,found,sum,i,d,d2,d3,d4,d5)))
def rshows_l2(N:Nat):Nat→Li→Li→Int→Int→Li→Int→Ll→Ll→Li→Option ((Unit)⊕(Int))
 | 0,_,_,_,_,_,_,_,_,_=>none
 | n_+1,lost,found,sum,i,d,d2,d3,d4,d5=>
  br (decide (i<(lost.length:Int)))
   ((rshows_l3 N N lost found sum i 0 d d2 d3 d4 d5).bind fun e=>match e with
   | .inl _=>
    some (.inl ())
   | .inr (lost_18,found_19,sum_20,i_21,d_22,d2_23,d3_24,d4_25,d5_26)=>
    chk (i_21+1)<|
    rshows_l2 N n_ lost_18 found_19 sum_20 (i_21+1) d_22 d2_23 d3_24 d4_25 d5_26)
   (some (.inr sum))
def rshows_S(N:Nat)(d:Li)(d2:Int)(d3 d4:Ll)(d5 lost found:Li):Option (Int×Int):=
 (rcheck_S N d d2 d3 d4 d5).bind fun x_1=>
 br (!decide (x_1=0))
  (some (0,x_1))
  (br (!decide ((lost.length:Int)=(d3.length:Int)))
   (some (0,2))
   (br (!decide ((found.length:Int)=(d4.length:Int)))
    (some (0,2))
    (lim (([]:Li).length+lost.length)<|
    lim ((([]:Li)++lost).length+found.length)<|
    (rshows_l1 N N lost found 0 0 d d2 d3 d4 d5 ((([]:Li)++lost)++found)).bind fun e=>match e with
    | .inl _=>
     some (0,3)
    | .inr (lost_5,found_6,sum_7,d_8,d2_9,d3_10,d4_11,d5_12)=>
     (rshows_l2 N N lost_5 found_6 sum_7 0 d_8 d2_9 d3_10 d4_11 d5_12).bind fun e=>match e with
     | .inl _=>
      some (0,8)
     | .inr sum_27=>
      some (sum_27,0))))
noncomputable def Mo(N:Nat):Oks:=[⟨_,D6 N⟩,⟨_,Ax N⟩,⟨_,Cz N⟩]
abbrev Aby:List StSh:=[⟨[shI,shI],[]⟩]
noncomputable abbrev Zx:Body:=mkB Tryz.f39 Aby 0
noncomputable def Kg(N:Nat){top:Bool}:LpQ Zx top:=mkL (Z:=(Unit)⊕(Li×Li×Int×Li×Int×Ll×Ll×Li)) (Mo N) [] [.c [1,1,1,1,1,0,1,0,0,0,0],.c [1,1,1,1,1,0,1,0,0,0,1],.c [1,1,1,1,1,0,1,0,0,1],.l [1,1,1,1,1,0,1,0,0],.b 0,.c [1,1,1,1,1,1]] ⟨[1,2,3,9,10,11],⟨[shL,shL,.own 0 0,shI,.ols 1,shI],[.segs [shL,shI,shQ,shQ,shL],.lst (.int .i64)]⟩⟩ (fun m p=>rshows_l1 N m p.1.1 p.1.2.1 p.1.2.2.2.1 p.1.2.2.2.2.2.1 p.2.1.1 p.2.1.2.1 p.2.1.2.2.1 p.2.1.2.2.2.1 p.2.1.2.2.2.2.1 p.2.2.1) [⟨[.c [1,1,1,1,1,0,1,0,0,1,0,0,0,1,0,0],.c [1,1,1,1,1,0,1,0,0,1,0,0,0,1,0,1],.c [1,1,1,1,1,0,1,0,0,1,0,0,1],.b 1,.c [1,1,1,1,1,0,1,0,0,1,1],.l [1,1,1,1,1,0,1,0,0],.b 0,.c [1,1,1,1,1,1]],⟨[],⟨[],[]⟩⟩,fun p=>some (.inl ())⟩,⟨[.c [1,1,1,1,1,1,0,0],.c [1,1,1,1,1,1,0,1],.c [1,1,1,1,1,1,1]],⟨[1,2,3,9],⟨[shL,shL,.own 0 0,shI],[.segs [shL,shI,shQ,shQ,shL]]⟩⟩,fun p=>some (.inr (p.1.1,p.1.2.1,p.1.2.2.2.1,p.2.1.1,p.2.1.2.1,p.2.1.2.2.1,p.2.1.2.2.2.1,p.2.1.2.2.2.2.1))⟩] (fun _=>[]) (fun k e=>match e with | .inl x=>k (.inl ((),())) | .inr x=>k (.inr (.inl ((x.1,x.2.1,(),x.2.2.1,()),((x.2.2.2.1,x.2.2.2.2.1,x.2.2.2.2.2.1,x.2.2.2.2.2.2.1,x.2.2.2.2.2.2.2,()),()))))) N (fun m p=>by kernel_rfl) (hg:=(by rintro _ _ (_ | _)<;>rfl))
noncomputable def Vu(N:Nat){top:Bool}:LpQ Zx top:=mkL (Z:=(Unit)⊕(Li×Li×Int×Int×Li×Int×Ll×Ll×Li)) (Mo N) [Kg N] [.c [1,1,1,1,1,1,0,1,0,0,1,0,0,1,0,0,0,0],.c [1,1,1,1,1,1,0,1,0,0,1,0,0,1,0,0,0,1],.c [1,1,1,1,1,1,0,1,0,0,1,0,0,1,0,0,1],.l [1,1,1,1,1,1,0,1,0,0,1,0,0,1,0,0],.b 4,.b 3,.c [1,1,1,1,1,1,0,1,0,0,1,1],.l [1,1,1,1,1,1,0,1,0,0],.b 2,.c [1,1,1,1,1,1,1]] ⟨[1,2,3,9,12,13],⟨[shL,shL,.own 0 0,shI,shI,shI],[.segs [shL,shI,shQ,shQ,shL]]⟩⟩ (fun m p=>rshows_l3 N m p.1.1 p.1.2.1 p.1.2.2.2.1 p.1.2.2.2.2.1 p.1.2.2.2.2.2.1 p.2.1.1 p.2.1.2.1 p.2.1.2.2.1 p.2.1.2.2.2.1 p.2.1.2.2.2.2.1) [⟨[.c [1,1,1,1,1,1,0,1,0,0,1,0,0,1,0,0,1,0,0,1,1,0,0],.c [1,1,1,1,1,1,0,1,0,0,1,0,0,1,0,0,1,0,0,1,1,0,1],.b 5,.c [1,1,1,1,1,1,0,1,0,0,1,0,0,1,0,0,1,1],.l [1,1,1,1,1,1,0,1,0,0,1,0,0,1,0,0],.b 4,.b 3,.c [1,1,1,1,1,1,0,1,0,0,1,1],.l [1,1,1,1,1,1,0,1,0,0],.b 2,.c [1,1,1,1,1,1,1]],⟨[],⟨[],[]⟩⟩,fun p=>some (.inl ())⟩,⟨[.c [1,1,1,1,1,1,0,1,0,0,1,1],.l [1,1,1,1,1,1,0,1,0,0],.b 2,.c [1,1,1,1,1,1,1]],⟨[1,2,3,9,12],⟨[shL,shL,.own 0 0,shI,shI],[.segs [shL,shI,shQ,shQ,shL]]⟩⟩,fun p=>some (.inr (p.1.1,p.1.2.1,p.1.2.2.2.1,p.1.2.2.2.2.1,p.2.1.1,p.2.1.2.1,p.2.1.2.2.1,p.2.1.2.2.2.1,p.2.1.2.2.2.2.1))⟩] (fun _=>[]) (fun k e=>match e with | .inl x=>k (.inl ((),())) | .inr x=>k (.inr (.inl ((x.1,x.2.1,(),x.2.2.1,x.2.2.2.1,()),((x.2.2.2.2.1,x.2.2.2.2.2.1,x.2.2.2.2.2.2.1,x.2.2.2.2.2.2.2.1,x.2.2.2.2.2.2.2.2,()),()))))) N (fun m p=>by kernel_rfl) (hg:=(by rintro _ _ (_ | _)<;>rfl))
noncomputable def A7e(N:Nat){top:Bool}:LpQ Zx top:=mkL (Z:=(Unit)⊕(Int)) (Mo N) [Kg N,Vu N] [.c [1,1,1,1,1,1,0,1,0,0,0,0],.c [1,1,1,1,1,1,0,1,0,0,0,1],.c [1,1,1,1,1,1,0,1,0,0,1],.l [1,1,1,1,1,1,0,1,0,0],.b 2,.c [1,1,1,1,1,1,1]] ⟨[1,2,3,9,12],⟨[shL,shL,.own 0 0,shI,shI],[.segs [shL,shI,shQ,shQ,shL]]⟩⟩ (fun m p=>rshows_l2 N m p.1.1 p.1.2.1 p.1.2.2.2.1 p.1.2.2.2.2.1 p.2.1.1 p.2.1.2.1 p.2.1.2.2.1 p.2.1.2.2.2.1 p.2.1.2.2.2.2.1) [⟨[.c [1,1,1,1,1,1,0,1,0,0,1,0,0,1,0,0,1,0,0,1,1,0,0],.c [1,1,1,1,1,1,0,1,0,0,1,0,0,1,0,0,1,0,0,1,1,0,1],.b 5,.c [1,1,1,1,1,1,0,1,0,0,1,0,0,1,0,0,1,1],.l [1,1,1,1,1,1,0,1,0,0,1,0,0,1,0,0],.b 4,.b 3,.c [1,1,1,1,1,1,0,1,0,0,1,1],.l [1,1,1,1,1,1,0,1,0,0],.b 2,.c [1,1,1,1,1,1,1]],⟨[],⟨[],[]⟩⟩,fun p=>some (.inl ())⟩,⟨[.c [1,1,1,1,1,1,1,0],.c [1,1,1,1,1,1,1,1]],⟨[9],⟨[shI],[]⟩⟩,fun p=>some (.inr p.1.1)⟩] (fun _=>[]) (fun k e=>match e with | .inl x=>k (.inl ((),())) | .inr x=>k (.inr (.inl ((x,()),())))) N (fun m p=>by kernel_rfl) (hg:=(by rintro _ _ (_ | _)<;>rfl))
noncomputable def Ah3(N:Nat):Spec:=mkS 39 ⟨[shG,shL,shL],[]⟩ Aby (fun p=>rshows_S N p.1.1.1 p.1.1.2.1 p.1.1.2.2.1 p.1.1.2.2.2.1 p.1.1.2.2.2.2.1 p.1.2.1 p.1.2.2.1) (fun k r=>k ((r.1,r.2,()),()))
theorem Qf(N:Nat):A0 Tryz.prog (Ah3 N):=mkF (R:=Int×Int) (m0:=0) (Mo N) [Kg N,Vu N,A7e N] (fun r=>some (r.1.1,r.1.2.1)) [] Tryz.func39 (fun p=>by kernel_rfl) (by kernel_rfl) (fun _=>by kernel_rfl)

def Lv(N:Nat)(rec:Li→Li→Int→Int→Option Int)(a b:Li)(n i:Int):Option Int:=
 chk (i+1)<|
 rec a b n (i+1)
def apart_l1(N:Nat):Nat→Li→Li→Int→Int→Option Int
 | 0,_,_,_,_=>none
 | n_+1,a,b,n,i=>
  br (decide (i<(a.length:Int)))
   (idx a i fun x_1=>
   idx b i fun x_2=>
   br (!decide (x_1=x_2))
    (chk (n+1)<|
    Lv N (apart_l1 N n_) a b (n+1) i)
    (Lv N (apart_l1 N n_) a b n i))
   (some (n))
def Me(N:Nat)(a b:Li):Option Int:=
 (apart_l1 N N a b 0 0).bind fun n_3=>
 some n_3
noncomputable def Y8(N:Nat):Oks:=[]
abbrev Afu:List StSh:=[⟨[shI],[]⟩]
noncomputable abbrev Agb:Body:=mkB Tryz.f56 Afu 0
abbrev Vr:List PI:=[.c [1,1,0,1,0,0,0,0],.c [1,1,0,1,0,0,0,1],.c [1,1,0,1,0,0,1],.l [1,1,0,1,0,0],.b 0,.c [1,1,1]]
abbrev Tv:Sta:=⟨[0,1,5,6],⟨[shL,shL,shI,shI],[]⟩⟩
abbrev Adc(rec:Li→Li→Int→Int→Option Int):Leaf Int:=⟨Vr,Tv,fun p=>rec p.1.1 p.1.2.1 p.1.2.2.1 p.1.2.2.2.1⟩
abbrev Tu:Leaf Int:=⟨[.c [1,1,1,0],.c [1,1,1,1]],⟨[5],⟨[shI],[]⟩⟩,fun p=>some (p.1.1)⟩
noncomputable def Aem(N:Nat)(rec:Li→Li→Int→Int→Option Int){top:Bool}:JnQ (Z:=Int) Agb top none [Adc rec,Tu]:=mkJ (Y8 N) [] [] ⟨[.c [1,1,0,1,0,0,1,1],.l [1,1,0,1,0,0],.b 0,.c [1,1,1]],⟨[0,1,5,6],⟨[shL,shL,shI,shI],[]⟩⟩,fun p=>Lv N rec p.1.1 p.1.2.1 p.1.2.2.1 p.1.2.2.2.1⟩ (fun p=>by kernel_rfl)
noncomputable def Acp(N:Nat){top:Bool}:LpQ Agb top:=mkL (Z:=Int) (Y8 N) [] Vr Tv (fun m p=>apart_l1 N m p.1.1 p.1.2.1 p.1.2.2.1 p.1.2.2.2.1) [Tu] (fun m=>[Aem N (apart_l1 N m)]) (fun k e=>k (.inl ((e,()),()))) N (fun m p=>by kernel_rfl)
noncomputable def Akk(N:Nat):Spec:=mkS 56 ⟨[shL,shL],[]⟩ Afu (fun p=>Me N p.1.1 p.1.2.1) (fun k r=>k ((r,()),()))
theorem U7(N:Nat):A0 Tryz.prog (Akk N):=mkF (R:=Int) (m0:=0) (Y8 N) [Acp N] (fun r=>some r.1.1) [] Tryz.func56 (fun p=>by kernel_rfl) (by kernel_rfl) (fun _=>by kernel_rfl)

def Cw(N:Nat)(rec:Li→Ll→Int→Int→Li→Int→Ll→Ll→Li→Option Int)(l:Li)(all:Ll)(few i:Int)(d:Li)(d2:Int)(d3 d4:Ll)(d5:Li):Option Int:=
 chk (i+1)<|
 rec l all few (i+1) d d2 d3 d4 d5
def rchange_l1(N:Nat):Nat→Li→Ll→Int→Int→Li→Int→Ll→Ll→Li→Option Int
 | 0,_,_,_,_,_,_,_,_,_=>none
 | n_+1,l,all,few,i,d,d2,d3,d4,d5=>
  br (decide (i<(all.length:Int)))
   (idx all i fun x_3=>
   (Me N l x_3).bind fun x_4=>
   idx all i fun x_5=>
   (B2 N d d2 d3 d4 d5 x_5).bind fun x_6=>
   (B2 N d d2 d3 d4 d5 l).bind fun x_7=>
   br (decide (x_7<x_6))
    (br (decide (few=0))
     (Cw N (rchange_l1 N n_) l all x_4 i d d2 d3 d4 d5)
     (br (decide (x_4<few))
      (Cw N (rchange_l1 N n_) l all x_4 i d d2 d3 d4 d5)
      (Cw N (rchange_l1 N n_) l all few i d d2 d3 d4 d5)))
    (Cw N (rchange_l1 N n_) l all few i d d2 d3 d4 d5))
   (some (few))
def N1(N:Nat)(d:Li)(d2:Int)(d3 d4:Ll)(d5 l:Li):Option (Int×Int):=
 (rjoins_S N d d2 d3 d4 d5 l).bind fun x_1=>
 br (!decide (x_1=0))
  (some (0,x_1))
  ((Aag N d d2 d3 d4 d5).bind fun x_2=>
  (rchange_l1 N N l x_2 0 0 d d2 d3 d4 d5).bind fun few_8=>
  br (decide (few_8=0))
   (some (0,6))
   (some (few_8,0)))
noncomputable def P0(N:Nat):Oks:=[⟨_,Dh N⟩,⟨_,Dp N⟩,⟨_,A38 N⟩,⟨_,U7 N⟩]
abbrev A2x:List StSh:=[⟨[shI,shI],[]⟩]
noncomputable abbrev A22:Body:=mkB Tryz.f55 A2x 0
abbrev O3:List PI:=[.c [1,1,1,1,0,1,0,0,0,0],.c [1,1,1,1,0,1,0,0,0,1],.c [1,1,1,1,0,1,0,0,1],.l [1,1,1,1,0,1,0,0],.b 0,.c [1,1,1,1,1]]
abbrev Nj:Sta:=⟨[1,2,7,8,9],⟨[shL,.own 0 0,shQ,shI,shI],[.segs [shL,shI,shQ,shQ,shL]]⟩⟩
abbrev A4q(rec:Li→Ll→Int→Int→Li→Int→Ll→Ll→Li→Option Int):Leaf Int:=⟨O3,Nj,fun p=>rec p.1.1 p.1.2.2.1 p.1.2.2.2.1 p.1.2.2.2.2.1 p.2.1.1 p.2.1.2.1 p.2.1.2.2.1 p.2.1.2.2.2.1 p.2.1.2.2.2.2.1⟩
abbrev Ny:Leaf Int:=⟨[.c [1,1,1,1,1,0,0],.c [1,1,1,1,1,0,1],.c [1,1,1,1,1,1]],⟨[8],⟨[shI],[]⟩⟩,fun p=>some (p.1.1)⟩
noncomputable def A3p(N:Nat)(rec:Li→Ll→Int→Int→Li→Int→Ll→Ll→Li→Option Int){top:Bool}:JnQ (Z:=Int) A22 top none [A4q rec,Ny]:=mkJ (P0 N) [] [] ⟨[.c [1,1,1,1,0,1,0,0,1,1],.l [1,1,1,1,0,1,0,0],.b 0,.c [1,1,1,1,1]],⟨[1,2,7,8,9],⟨[shL,.own 0 0,shQ,shI,shI],[.segs [shL,shI,shQ,shQ,shL]]⟩⟩,fun p=>Cw N rec p.1.1 p.1.2.2.1 p.1.2.2.2.1 p.1.2.2.2.2.1 p.2.1.1 p.2.1.2.1 p.2.1.2.2.1 p.2.1.2.2.2.1 p.2.1.2.2.2.2.1⟩ (fun p=>by kernel_rfl)
noncomputable def A5p(N:Nat){top:Bool}:LpQ A22 top:=mkL (Z:=Int) (P0 N) [] O3 Nj (fun m p=>rchange_l1 N m p.1.1 p.1.2.2.1 p.1.2.2.2.1 p.1.2.2.2.2.1 p.2.1.1 p.2.1.2.1 p.2.1.2.2.1 p.2.1.2.2.2.1 p.2.1.2.2.2.2.1) [Ny] (fun m=>[A3p N (rchange_l1 N m)]) (fun k e=>k (.inl ((e,()),()))) N (fun m p=>by kernel_rfl)
noncomputable def Acg(N:Nat):Spec:=mkS 55 ⟨[shG,shL],[]⟩ A2x (fun p=>N1 N p.1.1.1 p.1.1.2.1 p.1.1.2.2.1 p.1.1.2.2.2.1 p.1.1.2.2.2.2.1 p.1.2.1) (fun k r=>k ((r.1,r.2,()),()))
theorem A0l(N:Nat):A0 Tryz.prog (Acg N):=mkF (R:=Int×Int) (m0:=0) (P0 N) [A5p N] (fun r=>some (r.1.1,r.1.2.1)) [] Tryz.func55 (fun p=>by kernel_rfl) (by kernel_rfl) (fun _=>by kernel_rfl)

def N8(N:Nat)(rec:Ll→Int→Int→Int→Int→Option (Ll×Int))(best:Ll)(lost found with_ i:Int):Option (Ll×Int):=
 chk (i+1)<|
 rec best lost found with_ (i+1)
def rfates_l1(N:Nat):Nat→Ll→Int→Int→Int→Int→Option (Ll×Int)
 | 0,_,_,_,_,_=>none
 | n_+1,best,lost,found,with_,i=>
  br (decide (i<(best.length:Int)))
   (idx best i fun x_1=>
   idx x_1 lost fun x_2=>
   br (decide (x_2=found))
    (chk (with_+1)<|
    N8 N (rfates_l1 N n_) best lost found (with_+1) i)
    (N8 N (rfates_l1 N n_) best lost found with_ i))
   (some ((best,with_)))
def rfates_S(N:Nat)(best:Ll)(lost found:Int):Option Int:=
 (rfates_l1 N N best lost found 0 0).bind fun(best_3,with__4)=>
 br (decide (with__4=(best_3.length:Int)))
  (some 1)
  (br (decide (with__4=0))
   (some 2)
   (some 0))
noncomputable def Sy(N:Nat):Oks:=[]
abbrev A9l:List StSh:=[⟨[shI],[]⟩]
noncomputable abbrev A85:Body:=mkB Tryz.f58 A9l 0
abbrev Q2:List PI:=[.c [1,1,0,1,0,0,0,0],.c [1,1,0,1,0,0,0,1],.c [1,1,0,1,0,0,1],.l [1,1,0,1,0,0],.b 0,.c [1,1,1]]
abbrev Ro:Sta:=⟨[0,1,2,7,8],⟨[shQ,shI,shI,shI,shI],[]⟩⟩
abbrev Aau(rec:Ll→Int→Int→Int→Int→Option (Ll×Int)):Leaf (Ll×Int):=⟨Q2,Ro,fun p=>rec p.1.1 p.1.2.1 p.1.2.2.1 p.1.2.2.2.1 p.1.2.2.2.2.1⟩
abbrev Ri:Leaf (Ll×Int):=⟨[.c [1,1,1,0,0],.c [1,1,1,0,1],.c [1,1,1,1]],⟨[0,7],⟨[shQ,shI],[]⟩⟩,fun p=>some ((p.1.1,p.1.2.1))⟩
noncomputable def Abw(N:Nat)(rec:Ll→Int→Int→Int→Int→Option (Ll×Int)){top:Bool}:JnQ (Z:=Ll×Int) A85 top none [Aau rec,Ri]:=mkJ (Sy N) [] [] ⟨[.c [1,1,0,1,0,0,1,1],.l [1,1,0,1,0,0],.b 0,.c [1,1,1]],⟨[0,1,2,7,8],⟨[shQ,shI,shI,shI,shI],[]⟩⟩,fun p=>N8 N rec p.1.1 p.1.2.1 p.1.2.2.1 p.1.2.2.2.1 p.1.2.2.2.2.1⟩ (fun p=>by kernel_rfl)
noncomputable def A6n(N:Nat){top:Bool}:LpQ A85 top:=mkL (Z:=Ll×Int) (Sy N) [] Q2 Ro (fun m p=>rfates_l1 N m p.1.1 p.1.2.1 p.1.2.2.1 p.1.2.2.2.1 p.1.2.2.2.2.1) [Ri] (fun m=>[Abw N (rfates_l1 N m)]) (fun k e=>k (.inl ((e.1,e.2,()),()))) N (fun m p=>by kernel_rfl)
noncomputable def Aj8(N:Nat):Spec:=mkS 58 ⟨[shQ,shI,shI],[]⟩ A9l (fun p=>rfates_S N p.1.1 p.1.2.1 p.1.2.2.1) (fun k r=>k ((r,()),()))
theorem A5r(N:Nat):A0 Tryz.prog (Aj8 N):=mkF (R:=Int) (m0:=0) (Sy N) [A6n N] (fun r=>some r.1.1) [] Tryz.func58 (fun p=>by kernel_rfl) (by kernel_rfl) (fun _=>by kernel_rfl)

def Mc(N:Nat)(rec:Int→Int→Li→Int→Ll→Ll→Li→Li→Option Li)(most k:Int)(d:Li)(d2:Int)(d3 d4:Ll)(d5 out:Li):Option Li:=
 chk (k+1)<|
 rec most (k+1) d d2 d3 d4 d5 out
def Dz(N:Nat):Nat→Int→Int→Li→Int→Ll→Ll→Li→Li→Option Li
 | 0,_,_,_,_,_,_,_,_=>none
 | n_+1,most,k,d,d2,d3,d4,d5,out=>
  br (decide (k<(d4.length:Int)))
   (grd (decide ((0:Int)≤k∧k≤(d4.length:Int)))<|
   lim (([]:Ll).length+(d4.take k.toNat).length)<|
   chk (k+1)<|
   grd (decide ((0:Int)≤(k+1)∧(k+1)≤(d4.length:Int)))<|
   lim ((([]:Ll)++(d4.take k.toNat)).length+(d4.drop ((k+1).toNat)).length)<|
   (By N d d2 d3 ((([]:Ll)++(d4.take k.toNat))++(d4.drop ((k+1).toNat))) d5).bind fun(x_4,y_5)=>
   br (decide (y_5=most))
    (lim (out.length+[k].length)<|
    Mc N (Dz N n_) most k d d2 d3 d4 d5 (out++[k]))
    (Mc N (Dz N n_) most k d d2 d3 d4 d5 out))
   (some (out))
def Pk(N:Nat)(d:Li)(d2:Int)(d3 d4:Ll)(d5:Li):Option (Li×Int):=
 (rcheck_S N d d2 d3 d4 d5).bind fun x_1=>
 br (!decide (x_1=0))
  (some ([],x_1))
  ((By N d d2 d3 d4 d5).bind fun(x_2,y_3)=>
  (Dz N N y_3 0 d d2 d3 d4 d5 []).bind fun out_6=>
  some (out_6,0))
noncomputable def Sg(N:Nat):Oks:=[⟨_,Ax N⟩,⟨_,Hj N⟩]
abbrev Abn:List StSh:=[⟨[shL,shI],[]⟩]
noncomputable abbrev A7g:Body:=mkB Tryz.f60 Abn 0
abbrev Pw:List PI:=[.c [1,1,1,1,0,1,0,0,0,0],.c [1,1,1,1,0,1,0,0,0,1],.c [1,1,1,1,0,1,0,0,1],.l [1,1,1,1,0,1,0,0],.b 0,.c [1,1,1,1,1]]
abbrev Pz:Sta:=⟨[1,6,7,8],⟨[.own 0 0,shI,.ols 1,shI],[.segs [shL,shI,shQ,shQ,shL],.lst (.int .i64)]⟩⟩
abbrev Ab3(rec:Int→Int→Li→Int→Ll→Ll→Li→Li→Option Li):Leaf Li:=⟨Pw,Pz,fun p=>rec p.1.2.1 p.1.2.2.2.1 p.2.1.1 p.2.1.2.1 p.2.1.2.2.1 p.2.1.2.2.2.1 p.2.1.2.2.2.2.1 p.2.2.1⟩
abbrev Qx:Leaf Li:=⟨[.c [1,1,1,1,1,0],.c [1,1,1,1,1,1]],⟨[7],⟨[.ols 0],[.lst (.int .i64)]⟩⟩,fun p=>some (p.2.1)⟩
noncomputable def Aai(N:Nat)(rec:Int→Int→Li→Int→Ll→Ll→Li→Li→Option Li){top:Bool}:JnQ (Z:=Li) A7g top none [Ab3 rec,Qx]:=mkJ (Sg N) [] [] ⟨[.c [1,1,1,1,0,1,0,0,1,1],.l [1,1,1,1,0,1,0,0],.b 0,.c [1,1,1,1,1]],⟨[1,6,7,8],⟨[.own 0 0,shI,.ols 1,shI],[.segs [shL,shI,shQ,shQ,shL],.lst (.int .i64)]⟩⟩,fun p=>Mc N rec p.1.2.1 p.1.2.2.2.1 p.2.1.1 p.2.1.2.1 p.2.1.2.2.1 p.2.1.2.2.2.1 p.2.1.2.2.2.2.1 p.2.2.1⟩ (fun p=>by kernel_rfl)
noncomputable def Aaa(N:Nat){top:Bool}:LpQ A7g top:=mkL (Z:=Li) (Sg N) [] Pw Pz (fun m p=>Dz N m p.1.2.1 p.1.2.2.2.1 p.2.1.1 p.2.1.2.1 p.2.1.2.2.1 p.2.1.2.2.2.1 p.2.1.2.2.2.2.1 p.2.2.1) [Qx] (fun m=>[Aai N (Dz N m)]) (fun k e=>k (.inl (((),()),(e,())))) N (fun m p=>by kernel_rfl)
noncomputable def Aj6(N:Nat):Spec:=mkS 60 ⟨[shG],[]⟩ Abn (fun p=>Pk N p.1.1.1 p.1.1.2.1 p.1.1.2.2.1 p.1.1.2.2.2.1 p.1.1.2.2.2.2.1) (fun k r=>k ((r.1,r.2,()),()))
theorem A5i(N:Nat):A0 Tryz.prog (Aj6 N):=mkF (R:=Li×Int) (m0:=0) (Sg N) [Aaa N] (fun r=>some (r.1.1,r.1.2.1)) [] Tryz.func60 (fun p=>by kernel_rfl) (by kernel_rfl) (fun _=>by kernel_rfl)

def Iq(N:Nat)(joins lost found mine a b:Li)(w worth reward:Int)(d:Li)(d2:Int)(d3 d4:Ll)(d5 own:Li)(own2:Int)(own3 own4:Ll)(own5 x:Li)(x2:Int)(x3 x4:Ll)(x5:Li):Option Bool:=
 (Mh N own own2 own3 own4 own5 mine).bind fun(x_22,y_23)=>
 (Jl N own own2 own3 own4 own5 mine).bind fun(x_24,y_25)=>
 br (!decide (x_22=worth))
  (some false)
  (br (!decide (x_24=reward))
   (some false)
   (br (!decide (y_23=w))
    (some false)
    (br (!decide (y_25=w))
     (some false)
     ((shows_S N own own2 own3 own4 own5 a b).bind fun(x_26,y_27)=>
     (rshows_S N x x2 x3 x4 x5 lost found).bind fun(x_28,y_29)=>
     br (decide (x_26=x_28))
      (br (decide (y_27=y_29))
       ((Dq N own own2 own3 own4 own5 d d2 d3 d4 d5).bind fun x_30=>
       br x_30
        ((Bl N mine joins).bind fun x_31=>
        br x_31
         ((Bl N a lost).bind fun x_32=>
         br x_32
          ((Bl N b found).bind fun x_33=>
          br x_33
           ((Ao N).bind fun x_34=>
           some x_34)
           (some false))
          (some false))
         (some false))
        (some false))
       (some false))
      (some false)))))
def Y9(N:Nat)(d:Li)(d2:Int)(d3 d4:Ll)(d5 joins lost found:Li):Option Bool:=
 (E6 N d d2 d3 d4 d5).bind fun x_1=>
 br x_1
  ((Ao N).bind fun x_2=>
  some x_2)
  (br (decide (12<(joins.length:Int)))
   ((Ao N).bind fun x_3=>
   some x_3)
   (br (decide (12<(lost.length:Int)))
    ((Ao N).bind fun x_4=>
    some x_4)
    (br (decide (12<(found.length:Int)))
     ((Ao N).bind fun x_5=>
     some x_5)
     ((Bx N d d2 d3 d4 d5).bind fun(x_6,y_7,y_8,y_9,y_10)=>
     (Bx N d d2 d3 d4 d5).bind fun(x_11,y_12,y_13,y_14,y_15)=>
     (E8 N joins).bind fun x_16=>
     (E8 N lost).bind fun x_17=>
     (E8 N found).bind fun x_18=>
     (rjoins_S N x_11 y_12 y_13 y_14 y_15 joins).bind fun x_19=>
     br (decide (x_19=0))
      ((B2 N x_11 y_12 y_13 y_14 y_15 joins).bind fun x_20=>
      (Dx N x_11 y_12 y_13 y_14 y_15 joins).bind fun x_21=>
      Iq N joins lost found x_16 x_17 x_18 x_19 x_20 x_21 d d2 d3 d4 d5 x_6 y_7 y_8 y_9 y_10 x_11 y_12 y_13 y_14 y_15)
      (Iq N joins lost found x_16 x_17 x_18 x_19 0 0 d d2 d3 d4 d5 x_6 y_7 y_8 y_9 y_10 x_11 y_12 y_13 y_14 y_15)))))
noncomputable def A2y(N:Nat):Oks:=[⟨_,A04 N⟩,⟨_,Zo N⟩,⟨_,Tw N⟩,⟨_,Em N⟩,⟨_,Cc N⟩,⟨_,Hr N⟩,⟨_,D1 N⟩,⟨_,Cx N⟩,⟨_,D0 N⟩,⟨_,Dh N⟩,⟨_,Dp N⟩,⟨_,I7 N⟩,⟨_,Qf N⟩]
abbrev Z7:List StSh:=[⟨[.b],[]⟩]
noncomputable abbrev Aki:Body:=mkB Tryz.f12 Z7 0
abbrev A1i:altD Z7→Option Bool:=fun r=>some r.1.1
noncomputable def Aad(N:Nat):JnQ (Z:=Bool) Aki true (some A1i) []:=mkJ (A2y N) [] [] ⟨[.c [1,1,1,1,1,1,0],.c [1,1,1,1,1,1,1]],⟨[1,2,3,4,9,10,11,12,13,14,15,16],⟨[shL,shL,shL,.own 0 0,.own 1 0,.own 2 0,shL,shL,shL,shI,shI,shI],[.segs [shL,shI,shQ,shQ,shL],.segs [shL,shI,shQ,shQ,shL],.segs [shL,shI,shQ,shQ,shL]]⟩⟩,fun p=>Iq N p.1.1 p.1.2.1 p.1.2.2.1 p.1.2.2.2.2.2.2.1 p.1.2.2.2.2.2.2.2.1 p.1.2.2.2.2.2.2.2.2.1 p.1.2.2.2.2.2.2.2.2.2.1 p.1.2.2.2.2.2.2.2.2.2.2.1 p.1.2.2.2.2.2.2.2.2.2.2.2.1 p.2.1.1 p.2.1.2.1 p.2.1.2.2.1 p.2.1.2.2.2.1 p.2.1.2.2.2.2.1 p.2.2.1.1 p.2.2.1.2.1 p.2.2.1.2.2.1 p.2.2.1.2.2.2.1 p.2.2.1.2.2.2.2.1 p.2.2.2.1.1 p.2.2.2.1.2.1 p.2.2.2.1.2.2.1 p.2.2.2.1.2.2.2.1 p.2.2.2.1.2.2.2.2.1⟩ (fun p=>by kernel_rfl)
noncomputable def Aho(N:Nat):Spec:=mkS 12 ⟨[shG,shL,shL,shL],[]⟩ Z7 (fun p=>Y9 N p.1.1.1 p.1.1.2.1 p.1.1.2.2.1 p.1.1.2.2.2.1 p.1.1.2.2.2.2.1 p.1.2.1 p.1.2.2.1 p.1.2.2.2.1) (fun k r=>k ((r,()),()))
theorem A3v(N:Nat):A0 Tryz.prog (Aho N):=mkF (R:=Bool) (m0:=0) (A2y N) [] (A1i) [Aad N] Tryz.func12 (fun p=>by kernel_rfl) (by kernel_rfl) (fun _=>by kernel_rfl)

def A42(N:Nat)(d:Li)(d2:Int)(d3 d4:Ll)(d5:Li):Option Bool:=
 (E6 N d d2 d3 d4 d5).bind fun x_1=>
 br x_1
  ((Ao N).bind fun x_2=>
  some x_2)
  ((Ou N d d2 d3 d4 d5 4).bind fun x_3=>
  br x_3
   ((Ao N).bind fun x_4=>
   some x_4)
   ((Bx N d d2 d3 d4 d5).bind fun(x_5,y_6,y_7,y_8,y_9)=>
   (Bx N d d2 d3 d4 d5).bind fun(x_10,y_11,y_12,y_13,y_14)=>
   (X6 N x_5 y_6 y_7 y_8 y_9).bind fun(x_15,y_16,y_17)=>
   (Mr N x_5 y_6 y_7 y_8 y_9).bind fun(x_18,y_19,y_20)=>
   (count_S N x_5 y_6 y_7 y_8 y_9).bind fun(x_21,y_22)=>
   (Qp N x_5 y_6 y_7 y_8 y_9).bind fun(x_23,y_24,y_25)=>
   (rcheck_S N x_10 y_11 y_12 y_13 y_14).bind fun x_26=>
   br (!decide (x_26=0))
    (br (decide (y_17=x_26))
     (br (decide (y_20=x_26))
      (br (decide (y_22=x_26))
       (br (decide (y_25=x_26))
        (chk ((x_15.length:Int)+y_16)<|
        chk (((x_15.length:Int)+y_16)+(x_18.length:Int))<|
        chk ((((x_15.length:Int)+y_16)+(x_18.length:Int))+y_19)<|
        chk (((((x_15.length:Int)+y_16)+(x_18.length:Int))+y_19)+x_21)<|
        chk ((((((x_15.length:Int)+y_16)+(x_18.length:Int))+y_19)+x_21)+(x_23.length:Int))<|
        chk (((((((x_15.length:Int)+y_16)+(x_18.length:Int))+y_19)+x_21)+(x_23.length:Int))+(y_24.length:Int))<|
        br (decide ((((((((x_15.length:Int)+y_16)+(x_18.length:Int))+y_19)+x_21)+(x_23.length:Int))+(y_24.length:Int))=0))
         ((Dq N x_5 y_6 y_7 y_8 y_9 d d2 d3 d4 d5).bind fun x_27=>
         br x_27
          ((Ao N).bind fun x_28=>
          some x_28)
          (some false))
         (some false))
        (some false))
       (some false))
      (some false))
     (some false))
    ((By N x_10 y_11 y_12 y_13 y_14).bind fun(x_29,y_30)=>
    br (!decide (y_17=0))
     (some false)
     (br (!decide (y_20=0))
      (some false)
      (br (!decide (y_22=0))
       (some false)
       (br (!decide (y_25=0))
        (some false)
        (br (!decide (y_16=y_30))
         (some false)
         (br (!decide (x_21=(x_29.length:Int)))
          (some false)
          ((Ju N x_10 y_11 y_12 y_13 y_14 x_29).bind fun x_31=>
          br (!decide (y_19=x_31))
           (some false)
           ((rjoins_S N x_10 y_11 y_12 y_13 y_14 x_15).bind fun x_32=>
           br (!decide (x_32=0))
            (some false)
            ((B2 N x_10 y_11 y_12 y_13 y_14 x_15).bind fun x_33=>
            br (!decide (x_33=y_30))
             (some false)
             ((rjoins_S N x_10 y_11 y_12 y_13 y_14 x_18).bind fun x_34=>
             br (!decide (x_34=0))
              (some false)
              ((B2 N x_10 y_11 y_12 y_13 y_14 x_18).bind fun x_35=>
              br (!decide (x_35=y_30))
               (some false)
               ((Dx N x_10 y_11 y_12 y_13 y_14 x_18).bind fun x_36=>
               br (!decide (x_36=y_19))
                (some false)
                ((rshows_S N x_10 y_11 y_12 y_13 y_14 x_23 y_24).bind fun(x_37,y_38)=>
                br (decide (y_38=0))
                 (br (decide (x_37=y_30))
                  ((Dq N x_5 y_6 y_7 y_8 y_9 d d2 d3 d4 d5).bind fun x_39=>
                  br x_39
                   ((Ao N).bind fun x_40=>
                   some x_40)
                   (some false))
                  (some false))
                 (some false))))))))))))))))
noncomputable def Ajp(N:Nat):Spec:=mkS 8 ⟨[shG],[]⟩ [⟨[.b],[]⟩] (fun p=>A42 N p.1.1.1 p.1.1.2.1 p.1.1.2.2.1 p.1.1.2.2.2.1 p.1.1.2.2.2.2.1) (fun k r=>k ((r,()),()))
theorem A89(N:Nat):A0 Tryz.prog (Ajp N):=mkF (R:=Bool) (m0:=0) [⟨_,Zh N⟩,⟨_,A0v N⟩,⟨_,V9 N⟩,⟨_,A5x N⟩,⟨_,Cc N⟩,⟨_,D1 N⟩,⟨_,Cx N⟩,⟨_,D0 N⟩,⟨_,Og N⟩,⟨_,Ax N⟩,⟨_,Dh N⟩,⟨_,Dp N⟩,⟨_,I7 N⟩,⟨_,Hj N⟩,⟨_,Wx N⟩,⟨_,Qf N⟩] [] (fun r=>some r.1.1) [] Tryz.func8 (fun p=>by kernel_rfl) (by kernel_rfl) (fun _=>by kernel_rfl)

def Ak(N:Nat)(joins mine d:Li)(d2:Int)(d3 d4:Ll)(d5 own:Li)(own2:Int)(own3 own4:Ll)(own5 x:Li)(x2:Int)(x3 x4:Ll)(x5:Li):Option Bool:=
 (Wf N own own2 own3 own4 own5).bind fun(x_34,y_35)=>
 (Pk N x x2 x3 x4 x5).bind fun(x_36,y_37)=>
 br (decide (y_35=y_37))
  ((Bl N x_34 x_36).bind fun x_38=>
  br x_38
   ((Dq N own own2 own3 own4 own5 d d2 d3 d4 d5).bind fun x_39=>
   br x_39
    ((Bl N mine joins).bind fun x_40=>
    br x_40
     ((Ao N).bind fun x_41=>
     some x_41)
     (some false))
    (some false))
   (some false))
  (some false)
def Sk(N:Nat)(d:Li)(d2:Int)(d3 d4:Ll)(d5 joins:Li)(lost found:Int):Option Bool:=
 (E6 N d d2 d3 d4 d5).bind fun x_1=>
 br x_1
  ((Ao N).bind fun x_2=>
  some x_2)
  ((Ou N d d2 d3 d4 d5 4).bind fun x_3=>
  br x_3
   ((Ao N).bind fun x_4=>
   some x_4)
   (br (decide (12<(joins.length:Int)))
    ((Ao N).bind fun x_5=>
    some x_5)
    ((Bx N d d2 d3 d4 d5).bind fun(x_6,y_7,y_8,y_9,y_10)=>
    (Bx N d d2 d3 d4 d5).bind fun(x_11,y_12,y_13,y_14,y_15)=>
    (E8 N joins).bind fun x_16=>
    (Lq N x_6 y_7 y_8 y_9 y_10 x_16).bind fun(x_17,y_18)=>
    (N1 N x_11 y_12 y_13 y_14 y_15 joins).bind fun(x_19,y_20)=>
    br (!decide (y_18=y_20))
     (some false)
     (br (!decide (y_18=0))
      (br (decide (0<(x_17.length:Int)))
       (some false)
       (br (decide (y_18=0))
        ((rjoins_S N x_11 y_12 y_13 y_14 y_15 x_17).bind fun x_21=>
        br (!decide (x_21=0))
         (some false)
         ((B2 N x_11 y_12 y_13 y_14 y_15 x_17).bind fun x_22=>
         (B2 N x_11 y_12 y_13 y_14 y_15 joins).bind fun x_23=>
         br (decide (x_22≤x_23))
          (some false)
          ((Me N x_17 joins).bind fun x_24=>
          br (!decide (x_24=x_19))
           (some false)
           ((Jn N x_6 y_7 y_8 y_9 y_10 lost found).bind fun(x_25,y_26)=>
           (ragree_S N x_11 y_12 y_13 y_14 y_15 lost found).bind fun(x_27,y_28,y_29,y_30)=>
           br (!decide (y_26=y_30))
            (some false)
            (br (!decide (y_26=0))
             (br (!decide (x_25=0))
              (some false)
              (br (decide (y_26=0))
               ((By N x_11 y_12 y_13 y_14 y_15).bind fun(x_31,y_32)=>
               (rfates_S N x_31 lost found).bind fun x_33=>
               br (!decide (x_25=x_33))
                (some false)
                (Ak N joins x_16 d d2 d3 d4 d5 x_6 y_7 y_8 y_9 y_10 x_11 y_12 y_13 y_14 y_15))
               (Ak N joins x_16 d d2 d3 d4 d5 x_6 y_7 y_8 y_9 y_10 x_11 y_12 y_13 y_14 y_15)))
             (br (decide (y_26=0))
              ((By N x_11 y_12 y_13 y_14 y_15).bind fun(x_42,y_43)=>
              (rfates_S N x_42 lost found).bind fun x_44=>
              br (!decide (x_25=x_44))
               (some false)
               (Ak N joins x_16 d d2 d3 d4 d5 x_6 y_7 y_8 y_9 y_10 x_11 y_12 y_13 y_14 y_15))
              (Ak N joins x_16 d d2 d3 d4 d5 x_6 y_7 y_8 y_9 y_10 x_11 y_12 y_13 y_14 y_15)))))))
        ((Jn N x_6 y_7 y_8 y_9 y_10 lost found).bind fun(x_45,y_46)=>
        (ragree_S N x_11 y_12 y_13 y_14 y_15 lost found).bind fun(x_47,y_48,y_49,y_50)=>
        br (!decide (y_46=y_50))
         (some false)
         (br (!decide (y_46=0))
          (br (!decide (x_45=0))
           (some false)
           (br (decide (y_46=0))
            ((By N x_11 y_12 y_13 y_14 y_15).bind fun(x_51,y_52)=>
            (rfates_S N x_51 lost found).bind fun x_53=>
            br (!decide (x_45=x_53))
             (some false)
             (Ak N joins x_16 d d2 d3 d4 d5 x_6 y_7 y_8 y_9 y_10 x_11 y_12 y_13 y_14 y_15))
            (Ak N joins x_16 d d2 d3 d4 d5 x_6 y_7 y_8 y_9 y_10 x_11 y_12 y_13 y_14 y_15)))
          (br (decide (y_46=0))
           ((By N x_11 y_12 y_13 y_14 y_15).bind fun(x_54,y_55)=>
           (rfates_S N x_54 lost found).bind fun x_56=>
           br (!decide (x_45=x_56))
            (some false)
            (Ak N joins x_16 d d2 d3 d4 d5 x_6 y_7 y_8 y_9 y_10 x_11 y_12 y_13 y_14 y_15))
           (Ak N joins x_16 d d2 d3 d4 d5 x_6 y_7 y_8 y_9 y_10 x_11 y_12 y_13 y_14 y_15))))))
      (br (decide (y_18=0))
       ((rjoins_S N x_11 y_12 y_13 y_14 y_15 x_17).bind fun x_57=>
       br (!decide (x_57=0))
        (some false)
        ((B2 N x_11 y_12 y_13 y_14 y_15 x_17).bind fun x_58=>
        (B2 N x_11 y_12 y_13 y_14 y_15 joins).bind fun x_59=>
        br (decide (x_58≤x_59))
         (some false)
         ((Me N x_17 joins).bind fun x_60=>
         br (!decide (x_60=x_19))
          (some false)
          ((Jn N x_6 y_7 y_8 y_9 y_10 lost found).bind fun(x_61,y_62)=>
          (ragree_S N x_11 y_12 y_13 y_14 y_15 lost found).bind fun(x_63,y_64,y_65,y_66)=>
          br (!decide (y_62=y_66))
           (some false)
           (br (!decide (y_62=0))
            (br (!decide (x_61=0))
             (some false)
             (br (decide (y_62=0))
              ((By N x_11 y_12 y_13 y_14 y_15).bind fun(x_67,y_68)=>
              (rfates_S N x_67 lost found).bind fun x_69=>
              br (!decide (x_61=x_69))
               (some false)
               (Ak N joins x_16 d d2 d3 d4 d5 x_6 y_7 y_8 y_9 y_10 x_11 y_12 y_13 y_14 y_15))
              (Ak N joins x_16 d d2 d3 d4 d5 x_6 y_7 y_8 y_9 y_10 x_11 y_12 y_13 y_14 y_15)))
            (br (decide (y_62=0))
             ((By N x_11 y_12 y_13 y_14 y_15).bind fun(x_70,y_71)=>
             (rfates_S N x_70 lost found).bind fun x_72=>
             br (!decide (x_61=x_72))
              (some false)
              (Ak N joins x_16 d d2 d3 d4 d5 x_6 y_7 y_8 y_9 y_10 x_11 y_12 y_13 y_14 y_15))
             (Ak N joins x_16 d d2 d3 d4 d5 x_6 y_7 y_8 y_9 y_10 x_11 y_12 y_13 y_14 y_15)))))))
       ((Jn N x_6 y_7 y_8 y_9 y_10 lost found).bind fun(x_73,y_74)=>
       (ragree_S N x_11 y_12 y_13 y_14 y_15 lost found).bind fun(x_75,y_76,y_77,y_78)=>
       br (!decide (y_74=y_78))
        (some false)
        (br (!decide (y_74=0))
         (br (!decide (x_73=0))
          (some false)
          (br (decide (y_74=0))
           ((By N x_11 y_12 y_13 y_14 y_15).bind fun(x_79,y_80)=>
           (rfates_S N x_79 lost found).bind fun x_81=>
           br (!decide (x_73=x_81))
            (some false)
            (Ak N joins x_16 d d2 d3 d4 d5 x_6 y_7 y_8 y_9 y_10 x_11 y_12 y_13 y_14 y_15))
           (Ak N joins x_16 d d2 d3 d4 d5 x_6 y_7 y_8 y_9 y_10 x_11 y_12 y_13 y_14 y_15)))
         (br (decide (y_74=0))
          ((By N x_11 y_12 y_13 y_14 y_15).bind fun(x_82,y_83)=>
          (rfates_S N x_82 lost found).bind fun x_84=>
          br (!decide (x_73=x_84))
           (some false)
           (Ak N joins x_16 d d2 d3 d4 d5 x_6 y_7 y_8 y_9 y_10 x_11 y_12 y_13 y_14 y_15))
          (Ak N joins x_16 d d2 d3 d4 d5 x_6 y_7 y_8 y_9 y_10 x_11 y_12 y_13 y_14 y_15)))))))))
noncomputable def Ws(N:Nat):Oks:=[⟨_,P8 N⟩,⟨_,Aaz N⟩,⟨_,A76 N⟩,⟨_,Em N⟩,⟨_,Cc N⟩,⟨_,Hr N⟩,⟨_,D1 N⟩,⟨_,Cx N⟩,⟨_,D0 N⟩,⟨_,Og N⟩,⟨_,R5 N⟩,⟨_,Dh N⟩,⟨_,Dp N⟩,⟨_,Hj N⟩,⟨_,U7 N⟩,⟨_,A0l N⟩,⟨_,A5r N⟩,⟨_,A5i N⟩]
abbrev T0:List StSh:=[⟨[.b],[]⟩]
noncomputable abbrev Aid:Body:=mkB Tryz.f13 T0 0
abbrev Wp:altD T0→Option Bool:=fun r=>some r.1.1
noncomputable def A5w(N:Nat):JnQ (Z:=Bool) Aid true (some Wp) []:=mkJ (Ws N) [] [] ⟨[.c [1,1,1,1,1,1,1,1,1,1,1,0],.c [1,1,1,1,1,1,1,1,1,1,1,1]],⟨[1,4,9,10,11],⟨[shL,.own 0 0,.own 1 0,.own 2 0,shL],[.segs [shL,shI,shQ,shQ,shL],.segs [shL,shI,shQ,shQ,shL],.segs [shL,shI,shQ,shQ,shL]]⟩⟩,fun p=>Ak N p.1.1 p.1.2.2.2.2.1 p.2.1.1 p.2.1.2.1 p.2.1.2.2.1 p.2.1.2.2.2.1 p.2.1.2.2.2.2.1 p.2.2.1.1 p.2.2.1.2.1 p.2.2.1.2.2.1 p.2.2.1.2.2.2.1 p.2.2.1.2.2.2.2.1 p.2.2.2.1.1 p.2.2.2.1.2.1 p.2.2.2.1.2.2.1 p.2.2.2.1.2.2.2.1 p.2.2.2.1.2.2.2.2.1⟩ (fun p=>by kernel_rfl)
noncomputable def Adf(N:Nat):Spec:=mkS 13 ⟨[shG,shL,shI,shI],[]⟩ T0 (fun p=>Sk N p.1.1.1 p.1.1.2.1 p.1.1.2.2.1 p.1.1.2.2.2.1 p.1.1.2.2.2.2.1 p.1.2.1 p.1.2.2.1 p.1.2.2.2.1) (fun k r=>k ((r,()),()))
theorem A0j(N:Nat):A0 Tryz.prog (Adf N):=mkF (R:=Bool) (m0:=0) (Ws N) [] (Wp) [A5w N] Tryz.func13 (fun p=>by kernel_rfl) (by kernel_rfl) (fun _=>by kernel_rfl)

end Go.Proofs.YthncjilcflilcaaGreat

namespace Go.Proofs.YthncjilcflilcaaGreat
set_option linter.all false
open Go

end Go.Proofs.YthncjilcflilcaaGreat

namespace Go.Proofs.YthncjilcflilcaaGreat
set_option linter.all false
open Go

set_option maxHeartbeats 400000 in
theorem Aof(l bd od bc oc bl ol:Nat)(vd vd2:Addr)(lost:Int)(m:Nat)(fs:Option Addr)(fc:Nat)(R:Nat→Bool)(S:List Nat)(J:List Nat→World→Prop)(Q:World→Prop)(w:World)
  (hbd:∀w',Upd (l::S) w w'→Cl w' bd od [.pointer (some vd)]) (hbc:∀w',Upd (l::S) w w'→Cl w' bc oc [(.func (.func 71) #[.pointer (some vd2)] #[])]) (hbl:∀w',Upd (l::S) w w'→Cl w' bl ol [.int .i64 lost])
  (hfo:∀w',Upd (l::S) w w'→w'.cell? (vd.add 3)=some (.slice fs m fc))
  (hcan:∀(k:Nat) w',k<m→Upd (l::S) w w'→Fn Tryz.prog 71 #[.pointer (some vd2),.int .i64 lost,.int .i64 (↑k:Int)] w' (fun v w2=>Ext w' w2∧v=.bool (R k)))
  (hm:m≤1000000) (hJ:J (mayF R m 0) w) (hxJ:∀r,Hs w.heap.size (J r))
  (hy:∀k r w1,k∈mayF R m 0→J (k::r) w1→Upd (l::S) w w1→Fj Tryz.prog l #[.int .i64 ↑k] w1 (fun v w2=>Upd (l::S) w w2∧((v=.bool true∧J r w2)∨(v=.bool false∧Q w2)))) :
  Fn Tryz.prog 96 #[(.func (.yield l) #[] #[]),(.pointer (some ⟨bd,od,none⟩)),(.pointer (some ⟨bc,oc,none⟩)),(.pointer (some ⟨bl,ol,none⟩))] w (fun _ w'=>Upd (l::S) w w'∧(J [] w'∨Q w')):=by
 refine Fn.ofSt (c:=c123) 26 Amt [(0,(.func (.yield l) #[] #[])),(1,(.pointer (some ⟨bd,od,none⟩))),(2,(.pointer (some ⟨bc,oc,none⟩))),(3,(.pointer (some ⟨bl,ol,none⟩)))] Tryz.func96 (by kernel_rfl) ⟨⟨rfl,by kernel_rfl⟩,by kernel_rfl⟩ (by kernel_rfl) ?_
 intro cs
 refine St.reg Kp [(0,true),(1,true),(2,true),(3,true),(4,true),(5,true),(6,true)] (by kernel_rfl) (by kernel_rfl) ?_
 refine RX.q 7 [(0,true,(.pointer (some vd))),(4,true,(.slice fs m fc))] [(0,(.func (.yield l) #[] #[])),(1,(.pointer (some ⟨bd,od,none⟩))),(2,(.pointer (some ⟨bc,oc,none⟩))),(3,(.pointer (some ⟨bl,ol,none⟩))),(11,(.int .i64 (↑m:Int))),(12,(.int .i64 0))] [.cell ⟨bd,od+0,none⟩ (.pointer (some vd)),.cell (vd.add 3) (.slice fs m fc)] (by kernel_rfl) ⟨Cl.cell (hbd w (Upd.refl _ w)) rfl,hfo w (Upd.refl _ w)⟩ ?_
 refine RX.done [(0,(.func (.yield l) #[] #[])),(1,(.pointer (some ⟨bd,od,none⟩))),(2,(.pointer (some ⟨bc,oc,none⟩))),(3,(.pointer (some ⟨bl,ol,none⟩))),(11,(.int .i64 (↑m:Int))),(12,(.int .i64 0))] (by kernel_rfl) (by kernel_rfl) ?_
 have loop1:∀(N:Nat) (k:Nat) (w2:World),k≤m→(J (mayF R m k) w2)→(Upd (l::S) w w2)→N=m-k→St Tryz.prog (fctx Tryz.prog 96 (fun _ w'=>Upd (l::S) w w'∧(J [] w'∨Q w')) cs) 26 Kp [(12,(.int .i64 (↑k:Int))),(11,(.int .i64 (↑m:Int))),(0,(.func (.yield l) #[] #[])),(1,(.pointer (some ⟨bd,od,none⟩))),(2,(.pointer (some ⟨bc,oc,none⟩))),(3,(.pointer (some ⟨bl,ol,none⟩)))] [] w2:=by
  intro N3
  induction N3 using Nat.strongRecOn with
  | ind N3 ih4=>?_
  intro k w2 hk hJk hE hN5
  refine St.reg Alh [(0,true)] (by kernel_rfl) (by kernel_rfl) ?_
  refine RX.q 1 [] [(0,(.func (.yield l) #[] #[])),(1,(.pointer (some ⟨bd,od,none⟩))),(2,(.pointer (some ⟨bc,oc,none⟩))),(3,(.pointer (some ⟨bl,ol,none⟩))),(11,(.int .i64 (↑m:Int))),(12,(.int .i64 (↑k:Int))),(13,(.bool (decide ((↑k:Int)<(↑m:Int)))))] [] (by kernel_rfl) trivial ?_
  refine RX.done [(0,(.func (.yield l) #[] #[])),(1,(.pointer (some ⟨bd,od,none⟩))),(2,(.pointer (some ⟨bc,oc,none⟩))),(3,(.pointer (some ⟨bl,ol,none⟩))),(11,(.int .i64 (↑m:Int))),(12,(.int .i64 (↑k:Int))),(13,(.bool (decide ((↑k:Int)<(↑m:Int)))))] (by kernel_rfl) (by kernel_rfl) ?_
  refine St.cond (k1:=Amb) (k2:=Ali) (decide ((↑k:Int)<(↑m:Int))) (by kernel_rfl) (fun hc7=>?_) (fun hc7=>?_)
  ·have hh8:(↑k:Int)<(↑m:Int):=by simpa using hc7
   clear hc7
   refine St.weak (L':=[(12,(.int .i64 (↑k:Int))),(11,(.int .i64 (↑m:Int))),(0,(.func (.yield l) #[] #[])),(1,(.pointer (some ⟨bd,od,none⟩))),(2,(.pointer (some ⟨bc,oc,none⟩))),(3,(.pointer (some ⟨bl,ol,none⟩)))]) (by kernel_rfl) ?_
   refine St.reg Akx [(0,true),(1,true)] (by kernel_rfl) (by kernel_rfl) ?_
   refine RX.q 2 [] [(0,(.func (.yield l) #[] #[])),(1,(.pointer (some ⟨bd,od,none⟩))),(2,(.pointer (some ⟨bc,oc,none⟩))),(3,(.pointer (some ⟨bl,ol,none⟩))),(11,(.int .i64 (↑m:Int))),(12,(.int .i64 (↑k:Int))),(5,(.int .i64 (↑k:Int)))] [] (by kernel_rfl) trivial ?_
   refine RX.done [(0,(.func (.yield l) #[] #[])),(1,(.pointer (some ⟨bd,od,none⟩))),(2,(.pointer (some ⟨bc,oc,none⟩))),(3,(.pointer (some ⟨bl,ol,none⟩))),(11,(.int .i64 (↑m:Int))),(12,(.int .i64 (↑k:Int))),(5,(.int .i64 (↑k:Int)))] (by kernel_rfl) (by kernel_rfl) ?_
   refine St.reg Aml [(0,true),(1,true),(2,true),(3,false),(4,true),(5,true),(6,true),(7,false),(8,true),(9,true)] (by kernel_rfl) (by kernel_rfl) ?_
   refine RX.q 3 [(0,true,(.func (.func 71) #[.pointer (some vd2)] #[])),(1,true,(.int .i64 lost))] [(0,(.func (.yield l) #[] #[])),(1,(.pointer (some ⟨bd,od,none⟩))),(2,(.pointer (some ⟨bc,oc,none⟩))),(3,(.pointer (some ⟨bl,ol,none⟩))),(11,(.int .i64 (↑m:Int))),(12,(.int .i64 (↑k:Int))),(5,(.int .i64 (↑k:Int))),(15,(.func (.func 71) #[.pointer (some vd2)] #[])),(16,(.int .i64 lost)),(17,(.int .i64 (↑k:Int)))] [.cell ⟨bc,oc+0,none⟩ (.func (.func 71) #[.pointer (some vd2)] #[]),.cell ⟨bl,ol+0,none⟩ (.int .i64 lost)] (by kernel_rfl) ⟨Cl.cell (hbc w2 hE) rfl,Cl.cell (hbl w2 hE) rfl⟩ ?_
   refine RX.call 18 71 #[.pointer (some vd2),(.int .i64 lost),(.int .i64 (↑k:Int))] [(0,(.func (.yield l) #[] #[])),(1,(.pointer (some ⟨bd,od,none⟩))),(2,(.pointer (some ⟨bc,oc,none⟩))),(3,(.pointer (some ⟨bl,ol,none⟩))),(11,(.int .i64 (↑m:Int))),(12,(.int .i64 (↑k:Int))),(5,(.int .i64 (↑k:Int))),(15,(.func (.func 71) #[.pointer (some vd2)] #[])),(16,(.int .i64 lost)),(17,(.int .i64 (↑k:Int)))] (fun _=>by kernel_rfl) (by kernel_rfl) ?_
   refine Fn.mono (hcan k w2 (by omega) hE) ?_
   rintro _ w4 ⟨hx4,rfl⟩
   have hE4:Upd (l::S) w w4:=Upd.ext hE hx4
   have hJ4:J (mayF R m k) w4:=Hs.ext (hxJ _) hJk hx4
   cases hR:R k with
   | true=>
    refine RX.q 3 [] [(0,(.func (.yield l) #[] #[])),(1,(.pointer (some ⟨bd,od,none⟩))),(2,(.pointer (some ⟨bc,oc,none⟩))),(3,(.pointer (some ⟨bl,ol,none⟩))),(11,(.int .i64 (↑m:Int))),(12,(.int .i64 (↑k:Int))),(19,(.bool true)),(20,(.func (.yield l) #[] #[])),(21,(.int .i64 (↑k:Int)))] [] (by kernel_rfl) trivial ?_
    rw[Aa1 (by omega) hR]at hJ4
    refine RX.yield 22 l #[(.int .i64 (↑k:Int))] [(0,(.func (.yield l) #[] #[])),(1,(.pointer (some ⟨bd,od,none⟩))),(2,(.pointer (some ⟨bc,oc,none⟩))),(3,(.pointer (some ⟨bl,ol,none⟩))),(11,(.int .i64 (↑m:Int))),(12,(.int .i64 (↑k:Int))),(19,(.bool true)),(20,(.func (.yield l) #[] #[])),(21,(.int .i64 (↑k:Int)))] (by kernel_rfl) ?_
    refine Fj.mono (hy k _ w4 (Lr.2 ⟨by omega,by omega,hR⟩) hJ4 hE4) ?_
    rintro _ w5 ⟨hu5,⟨rfl,hv⟩ | ⟨rfl,hv⟩⟩
    ·refine RX.q 2 [] [(0,(.func (.yield l) #[] #[])),(1,(.pointer (some ⟨bd,od,none⟩))),(2,(.pointer (some ⟨bc,oc,none⟩))),(3,(.pointer (some ⟨bl,ol,none⟩))),(11,(.int .i64 (↑m:Int))),(12,(.int .i64 (↑k:Int))),(24,(.bool false))] [] (by kernel_rfl) trivial ?_
     refine RX.done [(0,(.func (.yield l) #[] #[])),(1,(.pointer (some ⟨bd,od,none⟩))),(2,(.pointer (some ⟨bc,oc,none⟩))),(3,(.pointer (some ⟨bl,ol,none⟩))),(11,(.int .i64 (↑m:Int))),(12,(.int .i64 (↑k:Int))),(24,(.bool false))] (by kernel_rfl) (by kernel_rfl) ?_
     refine St.cond (k1:=Sv) (k2:=S3) false (by kernel_rfl) (fun hc=>?_) (fun hc=>?_)
     ·cases hc
     ·clear hc
      refine St.weak (L':=[(12,(.int .i64 (↑k:Int))),(11,(.int .i64 (↑m:Int))),(0,(.func (.yield l) #[] #[])),(1,(.pointer (some ⟨bd,od,none⟩))),(2,(.pointer (some ⟨bc,oc,none⟩))),(3,(.pointer (some ⟨bl,ol,none⟩)))]) (by kernel_rfl) ?_
      refine St.reg Kp [(0,true),(1,true)] (by kernel_rfl) (by kernel_rfl) ?_
      refine RX.q 2 [(0,false,(.int .i64 ((↑k:Int)+1)))] [(0,(.func (.yield l) #[] #[])),(1,(.pointer (some ⟨bd,od,none⟩))),(2,(.pointer (some ⟨bc,oc,none⟩))),(3,(.pointer (some ⟨bl,ol,none⟩))),(11,(.int .i64 (↑m:Int))),(12,(.int .i64 ((↑k:Int)+1)))] [.eq (.int .i64 (IntKind.i64.wrap ((↑k:Int)+1))) (.int .i64 ((↑k:Int)+1))] (by kernel_rfl) (int64 (by omega)) ?_
      refine RX.done [(0,(.func (.yield l) #[] #[])),(1,(.pointer (some ⟨bd,od,none⟩))),(2,(.pointer (some ⟨bc,oc,none⟩))),(3,(.pointer (some ⟨bl,ol,none⟩))),(11,(.int .i64 (↑m:Int))),(12,(.int .i64 ((↑k:Int)+1)))] (by kernel_rfl) (by kernel_rfl) ?_
      refine St.weak (by kernel_rfl) (ih4 _ ?_ (k+1) w5 (by omega) hv hu5 rfl)
      omega
    ·refine RX.q 2 [] [(0,(.func (.yield l) #[] #[])),(1,(.pointer (some ⟨bd,od,none⟩))),(2,(.pointer (some ⟨bc,oc,none⟩))),(3,(.pointer (some ⟨bl,ol,none⟩))),(11,(.int .i64 (↑m:Int))),(12,(.int .i64 (↑k:Int))),(24,(.bool true))] [] (by kernel_rfl) trivial ?_
     refine RX.done [(0,(.func (.yield l) #[] #[])),(1,(.pointer (some ⟨bd,od,none⟩))),(2,(.pointer (some ⟨bc,oc,none⟩))),(3,(.pointer (some ⟨bl,ol,none⟩))),(11,(.int .i64 (↑m:Int))),(12,(.int .i64 (↑k:Int))),(24,(.bool true))] (by kernel_rfl) (by kernel_rfl) ?_
     refine St.cond (k1:=Sv) (k2:=S3) true (by kernel_rfl) (fun hc=>?_) (fun hc=>?_)
     ·clear hc
      refine St.weak (L':=[]) (by kernel_rfl) ?_
      refine St.ret [] [] (by kernel_rfl) Tryz.func96 (by kernel_rfl) .nil ?_
      exact⟨hu5,.inr hv⟩
     ·cases hc
   | false=>
    refine RX.q 3 [] [(0,(.func (.yield l) #[] #[])),(1,(.pointer (some ⟨bd,od,none⟩))),(2,(.pointer (some ⟨bc,oc,none⟩))),(3,(.pointer (some ⟨bl,ol,none⟩))),(11,(.int .i64 (↑m:Int))),(12,(.int .i64 (↑k:Int))),(19,(.bool false)),(20,undef),(21,undef)] [] (by kernel_rfl) trivial ?_
    refine RX.skip [(0,(.func (.yield l) #[] #[])),(1,(.pointer (some ⟨bd,od,none⟩))),(2,(.pointer (some ⟨bc,oc,none⟩))),(3,(.pointer (some ⟨bl,ol,none⟩))),(11,(.int .i64 (↑m:Int))),(12,(.int .i64 (↑k:Int))),(19,(.bool false)),(20,undef),(21,undef),(22,undef)] (by kernel_rfl) ?_
    refine RX.q 2 [] [(0,(.func (.yield l) #[] #[])),(1,(.pointer (some ⟨bd,od,none⟩))),(2,(.pointer (some ⟨bc,oc,none⟩))),(3,(.pointer (some ⟨bl,ol,none⟩))),(11,(.int .i64 (↑m:Int))),(12,(.int .i64 (↑k:Int))),(24,(.bool false))] [] (by kernel_rfl) trivial ?_
    refine RX.done [(0,(.func (.yield l) #[] #[])),(1,(.pointer (some ⟨bd,od,none⟩))),(2,(.pointer (some ⟨bc,oc,none⟩))),(3,(.pointer (some ⟨bl,ol,none⟩))),(11,(.int .i64 (↑m:Int))),(12,(.int .i64 (↑k:Int))),(24,(.bool false))] (by kernel_rfl) (by kernel_rfl) ?_
    refine St.cond (k1:=Sv) (k2:=S3) false (by kernel_rfl) (fun hc=>?_) (fun hc=>?_)
    ·cases hc
    ·clear hc
     refine St.weak (L':=[(12,(.int .i64 (↑k:Int))),(11,(.int .i64 (↑m:Int))),(0,(.func (.yield l) #[] #[])),(1,(.pointer (some ⟨bd,od,none⟩))),(2,(.pointer (some ⟨bc,oc,none⟩))),(3,(.pointer (some ⟨bl,ol,none⟩)))]) (by kernel_rfl) ?_
     refine St.reg Kp [(0,true),(1,true)] (by kernel_rfl) (by kernel_rfl) ?_
     refine RX.q 2 [(0,false,(.int .i64 ((↑k:Int)+1)))] [(0,(.func (.yield l) #[] #[])),(1,(.pointer (some ⟨bd,od,none⟩))),(2,(.pointer (some ⟨bc,oc,none⟩))),(3,(.pointer (some ⟨bl,ol,none⟩))),(11,(.int .i64 (↑m:Int))),(12,(.int .i64 ((↑k:Int)+1)))] [.eq (.int .i64 (IntKind.i64.wrap ((↑k:Int)+1))) (.int .i64 ((↑k:Int)+1))] (by kernel_rfl) (int64 (by omega)) ?_
     refine RX.done [(0,(.func (.yield l) #[] #[])),(1,(.pointer (some ⟨bd,od,none⟩))),(2,(.pointer (some ⟨bc,oc,none⟩))),(3,(.pointer (some ⟨bl,ol,none⟩))),(11,(.int .i64 (↑m:Int))),(12,(.int .i64 ((↑k:Int)+1)))] (by kernel_rfl) (by kernel_rfl) ?_
     refine St.weak (by kernel_rfl) (ih4 _ ?_ (k+1) w4 (by omega) (by rw[←Afw (by omega) hR];exact hJ4) hE4 rfl)
     omega
  ·have hh52:(↑m:Int)≤(↑k:Int):=by simpa using hc7
   clear hc7
   refine St.weak (L':=[]) (by kernel_rfl) ?_
   refine St.ret [] [] (by kernel_rfl) Tryz.func96 (by kernel_rfl) .nil ?_
   refine⟨hE,.inl ?_⟩
   rw[←A84 (R:=R) (m:=m) (k:=k) (by omega)];exact hJk
 exact St.weak (by kernel_rfl) (loop1 _ 0 w (by omega) hJ (Upd.refl (l::S) w) rfl)
theorem Ait:∀(p:Shs.den Be.cap) (es:List (Shs.den Be.elem)),Be.run p=some es→∀(g:Gh) (vs:List Value),RepVs g (encs id Be.cap p) vs →
  ∀(l:Nat) (S:List Nat) (J:List (Shs.den Be.elem)→World→Prop) (Q:World→Prop) (w:World),(∀b o,g.M b=some o→b∉l::S∧w.heap[b]?=some o)→(∀k∈l::S,k<w.heap.size)→J es w→(∀r,Hs w.heap.size (J r))→Hs w.heap.size Q →
   (∀m r w1 us,J (m::r) w1→Upd (l::S) w w1→RepVs g00 (encs id Be.elem m) us→Fj Tryz.prog l us.toArray w1 (fun v w2=>Upd (l::S) w w2∧((v=.bool true∧J r w2)∨(v=.bool false∧Q w2)))) →
   Fn Tryz.prog 96 (#[.func (.yield l) #[] #[]]++vs.toArray) w (fun _ w'=>Upd (l::S) w w'∧(J [] w'∨Q w')):=by
 intro p es hes g vs hvs l S J Q w hM hS hJ hxJ hxQ hy
 obtain⟨⟨d,⟨⟩⟩,⟨⟨⟨d',⟨⟩⟩,⟨⟩⟩,⟨⟩⟩,lost,⟨⟩⟩:=p
 simp only[mayR]at hes
 split at hes
 rotate_left
 ·cases hes
 rename_i hc
 simp only[Option.some.injEq]at hes
 subst hes
 obtain⟨⟨ha0,ha1⟩,hf,hA,hS'⟩:=hc
 obtain⟨i,rfl⟩:∃n:Nat,lost=n:=⟨lost.toNat,(Int.toNat_of_nonneg ha0).symm⟩
 simp only[Int.toNat_natCast]at hJ ⊢
 simp only[encs,enc,RepVs,RepV]at hvs
 obtain⟨v1,r1,rfl,⟨bd,od,wd,td,ud,rfl,hbd,hsd,hcd⟩,v2,r2,rfl,⟨bc,oc,wc,tc,uc,rfl,hbc,hsc,hcc⟩,v3,r3,rfl,⟨bl,ol,wl,tl,ul,rfl,hbl,hsl,hcl⟩,rfl⟩:=hvs
 obtain⟨rfl,hin⟩:=hcl
 obtain⟨x1,x2,rfl,⟨x3,rfl,hx⟩,rfl⟩:=hcd
 simp only[RepV]at hx
 obtain⟨bo,oo,wo,to,uo,rfl,hbo,hso,hco⟩:=hx
 obtain⟨y1,y2,rfl,⟨y3,rfl,hy'⟩,rfl⟩:=hcc
 simp only[RepV,RepVs]at hy'
 obtain⟨va,vc,rfl,⟨z1,z2,rfl,⟨be,oe,we,te,ue,rfl,hbe,hse,hce⟩,rfl⟩,rfl⟩:=hy'
 simp only[A5,PartOf,RepV]at hco
 obtain⟨p1,q1,rfl,⟨e1,rfl,h1⟩,p2,q2,rfl,⟨e2,rfl,h2⟩,p3,q3,rfl,⟨e3,rfl,h3⟩,p4,q4,rfl,⟨e4,rfl,h4⟩,hrest⟩:=hco
 obtain⟨hl4,fa,fc,rfl,hfc,hf4⟩:=h4
 have hmem:∀w',Upd (l::S) w w'→∀b o,g.M b=some o→w'.heap[b]?=some o:=fun w' hu b o hb=>hu.blk (hM b o hb).2 (hM b o hb).1
 have hrd:RepV ⟨fun _=>none,g.M⟩ (enc id shD d') (.pointer (some ⟨be,oe,none⟩)):=⟨be,oe,we,te,ue,rfl,hbe,hse,hce⟩
 have hfn:=Aof l bd od bc oc bl ol ⟨bo,oo,none⟩ ⟨be,oe,none⟩ (i:Int) d.2.2.2.1.length fa fc (canD d' i) S (fun r=>J (r.map fun(j:Nat)=>((j:Int),()))) Q w
  (fun w' hu=>Cl.of_seg (hmem w' hu _ _ hbd) hsd) (fun w' hu=>Cl.of_seg (hmem w' hu _ _ hbc) hsc) (fun w' hu=>Cl.of_seg (hmem w' hu _ _ hbl) hsl)
  (fun w' hu=>Cl.cell (Cl.of_seg (hmem w' hu _ _ hbo) hso) (i:=3) rfl)
  (fun k w' h1 hu=>Fn.mono (Mx (E4 200) rfl (p:=((d',((i:Int),((k:Int),()))),())) (r:=((canD d' i k,()),())) (by
    show((I8 200 d' i k).bind fun r=>some ((r,()),()))=_
    rw[Akv hA hS' (by omega) (by omega)];rfl) (hmem w' hu) ⟨_,_,rfl,hrd,_,_,rfl,⟨rfl,(show inR .i64 (i:Int)from D4 (by omega))⟩,_,_,rfl,⟨rfl,(show inR .i64 (k:Int)from D4 (by omega))⟩,rfl⟩) (fun v w2 ⟨h1,g',h2⟩=>⟨h1,by
   simp only[altOf,encs,enc,resVal,RepV]at h2
   exact h2⟩))
  (by omega) hJ (fun r=>hxJ _) (fun m r w1 hm hj hu=>hy ((m:Int),()) (r.map fun(j:Nat)=>((j:Int),())) w1 [.int .i64 (m:Int)] hj hu ⟨_,_,rfl,⟨rfl,D4 (by have:=(Lr.1 hm).2.1;omega)⟩,rfl⟩)
 exact hfn
noncomputable def c128:Code:=(Tryz.f95.body).getD .skip
noncomputable def Aqs:List Item:=[.code (sub c128 [0]),.code (sub c128 [1])]
noncomputable def Ar1:List Item:=[.code (sub c128 [1,0,0]),.code (sub c128 [1,0,1]),.code (sub c128 [1,1])]
noncomputable def Amf:List Item:=[.code (sub c128 [1,0,1,0]),.inBlock 0,.code (sub c128 [1,1])]
noncomputable def Aqg:List Item:=[.code (sub c128 [1,1,0]),.code (sub c128 [1,1,1])]
noncomputable def Aqa:List Item:=[.code (sub c128 [1,1,1])]
noncomputable def Aqx:List Item:=[.code (sub c128 [1,0,1,0,0]),.beginRound,.code (sub c128 [1,0,1,0,1])]
noncomputable def Arb:List Item:=[.beginRound,.code (sub c128 [1,0,1,0,1])]
noncomputable def Aqb:List Item:=[.code (sub c128 [1,0,1,0,1,0]),.inBlock 1]
def AppJ(all:List Int)(bc D lo:Nat)(tm:Array Value)(w0:World)(es:List Int)(w:World):Prop:=
 ∃(l:List Int) (v:Value) (ab:List Nat),all=l++es∧Blk w bc [v] 22∧Acc 3 1 lo w v l.length (l.map (.int .i64)) ab ∧
  w.heap[D+1]?=some (.loop (lrec 95 tm #[7] (sub c128 [1,0,1,0,0]) (sub c128 [1,0,1,0,1]) D .ready none))
set_option maxHeartbeats 1000000 in
theorem Ajd{p:Shs.den Be.cap}{es:List (Int×Unit)}(hes:Be.run p=some es)(hlen:es.length≤1000000)(g:Gh)(vc:List Value)(hvc:RepVs g (encs id Be.cap p) vc)(w:World)(hM:∀b o,g.M b=some o→w.heap[b]?=some o) :
  Fn Tryz.prog 95 #[.slice none 0 0,.func (.func 96) #[] vc.toArray] w (fun v w'=>Ext w w'∧∃ab,Acc 3 1 w.heap.size w' v es.length ((es.map (·.1)).map (.int .i64)) ab):=by
 have hMb:∀b o,g.M b=some o→b<w.heap.size:=fun b o h=>A4 (hM b o h)
 obtain⟨hue,hel,by_,zv,hT,hZ⟩:=Bg (P:=Tryz.prog) (t:=22) (e:=3) (y:=.int .i64) (by kernel_rfl)
 have hT:Du Tryz.prog 22 3 1 by_ zv:=hT
 refine Fn.ofSt (c:=c128) 13 Aqs [(0,.slice none 0 0),(1,.func (.func 96) #[] vc.toArray)] Tryz.func95 (by kernel_rfl) ⟨⟨rfl,by kernel_rfl⟩,by kernel_rfl⟩ (by kernel_rfl) ?_
 intro cs
 refine St.reg Ar1 [(0,false),(1,true)] (by kernel_rfl) (by kernel_rfl) ?_
 refine RX.new 2 (.cells #[.slice none 0 0] 22) .ptr [(0,.slice none 0 0),(1,.func (.func 96) #[] vc.toArray)] (by kernel_rfl) ?_
 intro bc w1 hn1
 have hsz1:=hn1.size;have hat1:=hn1.at_
 have hb1:Blk w1 bc [.slice none 0 0] 22:=hn1.blk
 refine RX.q 1 [] [(1,.func (.func 96) #[] vc.toArray),(2,.pointer (some ⟨bc,0,none⟩))] [] (by kernel_rfl) trivial ?_
 refine RX.done [(1,.func (.func 96) #[] vc.toArray),(2,.pointer (some ⟨bc,0,none⟩))] (by kernel_rfl) (by kernel_rfl) ?_
 refine St.reg Amf [(0,true)] (by kernel_rfl) (by kernel_rfl) ?_
 refine RX.q 1 [] [(6,.func (.func 96) #[] vc.toArray),(2,.pointer (some ⟨bc,0,none⟩))] [] (by kernel_rfl) trivial ?_
 refine RX.done [(6,.func (.func 96) #[] vc.toArray),(2,.pointer (some ⟨bc,0,none⟩))] (by kernel_rfl) (by kernel_rfl) ?_
 refine St.rangeFunc (g:=.tmp 6) (ps:=#[7]) (assign:=(sub c128 [1,0,1,0,0])) (body:=(sub c128 [1,0,1,0,1])) (k:=Amf.tail) 96 #[] vc.toArray rfl (by kernel_rfl) (by kernel_rfl) (fun _=>by kernel_rfl) ?_
 intro tm w2 htm hx2 hsz2 hD hL
 obtain⟨D,hDe⟩:∃D,D=w1.heap.size:=⟨_,rfl⟩
 rw[←hDe]at hsz2 hD hL ⊢
 have hl:w2.heap[D+1]?=some (.loop (lrec 95 tm #[7] (sub c128 [1,0,1,0,0]) (sub c128 [1,0,1,0,1]) D .ready none)):=hL
 have hb2:Blk w2 bc [.slice none 0 0] 22:=Ext.blk hx2 hb1
 have hE2:Ext w w2:=hn1.ext.trans hx2
 have hsz:=hE2.size
 have hfn:=Ait p es hes g vc hvc (D+1) [bc] (fun r wv=>AppJ (es.map (·.1)) bc D w2.heap.size tm w2 (r.map (·.1)) wv) (fun _=>False) w2
  (fun b o h=>⟨fun hm=>by have:=hMb b o h;simp at hm;omega,Ext.blk hE2 (hM b o h)⟩) (fun k hk=>by simp at hk;omega)
  ⟨[],.slice none 0 0,[],rfl,hb2,Acc.nil 3 1 _ _,hl⟩ ?_ (fun _ _ _ h _ _=>h) ?_
 rotate_left
 ·-- blocks that the function that is ranged over may change
  rintro r wa wb T ⟨l,v,ab,e1,h1,h2,h3⟩ hu hT
  refine⟨l,v,ab,e1,hu.blk h1 (fun hk=>by have:=(hT _ hk).1;omega),h2.upd hu (fun k hk hkT=>?_),hu.blk h3 (fun hk=>by have:=(hT _ hk).1;omega)⟩
  obtain⟨h4,h5⟩:=h2
  rcases h5 with⟨_,_,rfl⟩ | ⟨b,cap,rest,_,rfl,_,_,_,ty,hB⟩
  ·cases hk
  ·simp at hk
   subst hk
   exact(hT _ hkT).2 _ _ _ hB
 ·-- a round
  rintro ⟨x,⟨⟩⟩ r wa us ⟨l,v,ab,e1,h1,h2,h3⟩ hU hus
  simp only[encs,enc,RepVs,RepV]at hus
  obtain⟨v1,us',rfl,⟨rfl,hx⟩,rfl⟩:=hus
  have hszU:=hU.size
  have habl:=h2.lt
  refine Fj.one Aqx [(7,.int .i64 x),(6,.func (.func 96) #[] vc.toArray),(2,.pointer (some ⟨bc,0,none⟩))] h3 htm (by kernel_rfl) (by kernel_rfl) (fun c cs=>?_)
  refine St.reg Arb [(0,true)] (by kernel_rfl) (by kernel_rfl) ?_
  refine RX.q 1 [] [(5,.int .i64 x),(2,.pointer (some ⟨bc,0,none⟩))] [] (by kernel_rfl) trivial ?_
  refine RX.done [(5,.int .i64 x),(2,.pointer (some ⟨bc,0,none⟩))] (by kernel_rfl) (by kernel_rfl) ?_
  refine St.beginRound (k':=Aqb) h3 rfl (by kernel_rfl) ?_
  intro wb hp
  have hlb:wb.heap[D+1]?=some (.loop (lrec 95 tm #[7] (sub c128 [1,0,1,0,0]) (sub c128 [1,0,1,0,1]) D .busy none)):=hp.blk
  have hszb:=hp.size
  have hab:∀k∈ab,k∉[D+1]:=fun k hk hk2=>by
   have h4:=(habl k hk).1
   simp at hk2;omega
  have hB1:Blk wb bc [v] 22:=hp.upd.blk h1 (by simp;omega)
  have hA1:=h2.upd hp.upd hab
  refine St.reg [] [(0,true),(1,true),(2,false),(3,false),(4,false)] (by kernel_rfl) (by kernel_rfl) ?_
  refine RX.q 2 [(0,true,v)] [(8,v),(9,.int .i64 x),(2,.pointer (some ⟨bc,0,none⟩))] [.cell ⟨bc,0,none⟩ v] (by kernel_rfl) (Blk.cell hB1 rfl) ?_
  refine RX.new 10 (.cells #[.int .i64 x] 3) (.sl 1) [(8,v),(9,.int .i64 x),(2,.pointer (some ⟨bc,0,none⟩))] (by kernel_rfl) ?_
  intro bx wc hnc
  have hszc:=hnc.size;have hatc:=hnc.at_
  have hBx:Blk wc bx [.int .i64 x] 3:=hnc.blk
  have hA2:=hA1.ext hnc.ext
  have hall:l.length+1≤1000000:=by
   have:(es.map (·.1)).length=l.length+(x::r.map (·.1)).length:=by rw[e1];simp
   simp at this;omega
  obtain⟨v',wd,ab',hr,hA3,hU3,hab',-⟩:=append_run (P:=Tryz.prog) (u:=22) (ty:=22) (lo2:=0) (x:=.slice (some ⟨bx,0,none⟩) 1 1) (m:=1) (xs:=[.int .i64 x]) hT (by kernel_rfl) hA2
   ⟨_,1,rfl,Nat.le_refl _,rfl,.inr ⟨bx,0,rfl,Nat.zero_le _,A4 hBx,fun i u hi=>by rw[Ar,Nat.zero_add];exact Blk.cell hBx hi⟩⟩ (fun c hc=>by simp at hc;subst hc;rfl) (by omega) (by omega)
  obtain⟨av,cv,rfl⟩:=hA3.shape
  refine RX.run 11 (Builtin.append_ #[22,22] 22 #[v,.slice (some ⟨bx,0,none⟩) 1 1]) [(10,.slice (some ⟨bx,0,none⟩) 1 1),(8,v),(9,.int .i64 x),(2,.pointer (some ⟨bc,0,none⟩))] (by kernel_rfl) hr ?_
  have habc:∀k∈ab,k∉[bc]:=fun k hk hk2=>by
   have h4:=(habl k hk).1
   simp at hk2;omega
  have hB3:Blk wd bc [v] 22:=hU3.blk (Ext.blk hnc.ext hB1) (fun hk=>habc _ hk (by simp))
  have hlc:wd.heap[D+1]?=some (.loop (lrec 95 tm #[7] (sub c128 [1,0,1,0,0]) (sub c128 [1,0,1,0,1]) D .busy none)):=hU3.blk (Ext.blk hnc.ext hlb) (fun hk=>hab _ hk (by simp))
  have hszd:=hU3.size
  refine RX.store1 bc 0 (.slice av (l.length+1) cv) [v] 22 (by kernel_rfl) rfl hB3 (by simp) ?_
  intro we hpe
  have hsze:=hpe.size
  refine RX.done [] (by kernel_rfl) (by kernel_rfl) ?_
  have hab3:∀k∈ab',w2.heap.size≤k:=fun k hk=>hA3.lt k hk |>.1
  have hBe:Blk we bc [.slice av (l.length+1) cv] 22:=hpe.blk
  have hAe:=hA3.upd hpe.upd (fun k hk hk2=>by have:=hab3 k hk;simp at hk2;omega)
  have hle:we.heap[D+1]?=some (.loop (lrec 95 tm #[7] (sub c128 [1,0,1,0,0]) (sub c128 [1,0,1,0,1]) D .busy none)):=hpe.upd.blk hlc (by simp;omega)
  refine St.roundEnd hle ?_
  intro wf hpf
  have hUf:Upd [D+1,bc] w2 wf:=by
   have u1:Upd [D+1,bc] w2 wd:=((hU.trans (hp.upd.mono (fun k hk=>by simp at hk;simp[hk]))).trans hnc.ext.up).trans_old hU3 (fun k hk=>(habl k hk).1)
   exact(u1.trans (hpe.upd.mono (fun k hk=>by simp at hk;simp[hk]))).trans (hpf.upd.mono (fun k hk=>by simp at hk;simp[hk]))
  refine⟨hUf,.inl ⟨rfl,l++[x],.slice av (l.length+1) cv,ab',by rw[e1];simp,hpf.upd.blk hBe (by simp;omega),?_,hpf.blk⟩⟩
  have:=hAe.upd hpf.upd (fun k hk hk2=>by have:=hab3 k hk;simp at hk2;omega)
  simpa using this
 refine Fn.mono hfn ?_
 rintro _ w3 ⟨hU3,⟨l,v,ab,e1,h1,h2,h3⟩ | h⟩
 rotate_left
 ·exact h.elim
 simp only[List.map_nil,List.append_nil]at e1
 subst e1
 refine⟨_,h3,by simp[lrec],fun w4 hp4=>?_⟩
 have hsz3:=hU3.size;have hsz4:=hp4.size
 have habl:=h2.lt
 have hD4:w4.heap[D]?=some (.deferred (some [])):=hp4.upd.blk (hU3.blk hD (by simp;omega)) (by simp)
 have hb4:Blk w4 bc [v] 22:=hp4.upd.blk h1 (by simp;omega)
 have hA4:=h2.upd hp4.upd (fun k hk hk2=>by have:=(habl k hk).1;simp at hk2;omega)
 refine At.norm 99 (k':=Aqg) (by kernel_rfl) ?_
 refine St.toAt (n:=13) (L:=[(6,.func (.func 96) #[] vc.toArray),(2,.pointer (some ⟨bc,0,none⟩))]) ?_ htm
 refine St.reg Aqa [(0,true),(1,true)] (by kernel_rfl) (by kernel_rfl) ?_
 refine RX.q 2 [(0,true,v)] [(4,v)] [.cell ⟨bc,0,none⟩ v] (by kernel_rfl) (Blk.cell hb4 rfl) ?_
 refine RX.done [(4,v)] (by kernel_rfl) (by kernel_rfl) ?_
 refine St.retMarks [D] [.tmp 4] [v] (by kernel_rfl) Tryz.func95 (by kernel_rfl) (by simp) (by simpa using hD4) (fun w5 hu5 hsz5=>⟨.cons (.tmp (by kernel_rfl)) .nil,?_,ab,?_⟩)
 ·exact(((hE2.trans_old hU3 (fun k hk=>by simp at hk;omega)).trans_old hp4.upd (fun k hk=>by simp at hk;omega))).trans_old hu5 (fun k hk=>by simp at hk;omega)
 ·have:=hA4.upd hu5 (fun k hk hk2=>by have:=(habl k hk).1;simp at hk2;omega)
  obtain⟨q1,q2⟩:=this
  refine⟨by simpa using q1,?_⟩
  rcases q2 with⟨q2,q3,q4⟩ | ⟨b,cap,rest,q2,q3,q4,q5⟩
  ·exact .inl ⟨q2,by simpa using q3,q4⟩
  ·exact .inr ⟨b,cap,rest,by rw[List.length_map]at q2;exact q2,q3,by omega,by simpa using q5⟩
def J7(_N:Nat)(d d':Dk)(i:Int):Option Li:=(mayR d d' i).map fun es=>es.map (·.1)
noncomputable def Ahl(N:Nat):Spec:={ f:=95,ins:=⟨[.nils,.fn 96 [] Be.cap],[]⟩,outs:=[⟨[.ols 0],[.lst (.int .i64)]⟩],run:=fun p k=>(J7 N p.1.2.1.2.1.1 p.1.2.1.2.2.1.1.1.1 p.1.2.1.2.2.2.1).bind fun r=>k (((),()),(r,())) }
theorem Adm{d d':Dk}{i:Int}{es:List (Int×Unit)}(h:mayR d d' i=some es):es.length≤6∧∀x∈es.map (·.1),inR .i64 x:=by
 unfold mayR at h
 split at h
 rotate_left
 ·cases h
 rename_i hc
 simp only[Option.some.injEq]at h
 subst h
 refine⟨?_,fun x hx=>?_⟩
 ·have h1:=List.length_filter_le (canD d' i.toNat) (List.range' 0 (d.2.2.2.1.length-0))
  rw[List.length_map]
  unfold mayF
  rw[List.length_range']at h1
  omega
 ·rw[List.map_map,List.mem_map]at hx
  obtain⟨k,hk,rfl⟩:=hx
  have:=(Lr.1 hk).2.1
  exact D4 (by show -1000000≤(k:Int)∧(k:Int)≤1000000;omega)
theorem A4i(N:Nat):A0 Tryz.prog (Ahl N):=by
 refine⟨fun Z p κ=>?_,fun args w=>Sem.pv_run _ _ _ (by kernel_rfl) w,fun p r hpr g w vs hv hs hρ=>?_⟩
 ·show((J7 N _ _ _).bind _)=((J7 N _ _ _).bind _).bind κ
  cases J7 N p.1.2.1.2.1.1 p.1.2.1.2.2.1.1.1.1 p.1.2.1.2.2.2.1<;>rfl
 ·obtain⟨⟨⟨⟩,⟨⟨⟩,q⟩,⟨⟩⟩,⟨⟩⟩:=p
  have hpr':((mayR q.1.1 q.2.1.1.1.1 q.2.2.1).map fun es=>es.map (·.1)).bind (fun r:Li=>some ((((),()),(r,())):(Unit×Unit)×(Li×Unit)))=some r:=hpr
  cases hes:mayR q.1.1 q.2.1.1.1.1 q.2.2.1 with
  | none=>rw[hes]at hpr';cases hpr'
  | some es=>
   rw[hes]at hpr'
   have e:((((),()),(es.map (·.1),())):(Unit×Unit)×(Li×Unit))=r:=Option.some.inj hpr'
   subst e
   have hv:RepVs g [.nils,.fn 96 [] (encs id Be.cap q)] vs:=hv
   simp only[RepVs]at hv
   obtain⟨v,us,rfl,hv0,v2,us2,rfl,hv2,rfl⟩:=hv
   simp only[RepV,RepVs]at hv0 hv2
   obtain⟨va,vc,rfl,rfl,hvc⟩:=hv2
   subst hv0
   obtain⟨hl,hin⟩:=Adm hes
   refine Fn.mono (Ajd (p:=q) hes (by omega) g vc hvc w hs.mem) ?_
   rintro v w' ⟨hE,ab,h1,h2⟩
   refine Ag6 (y:=.int .i64) (l:=es.map (·.1)) hs (fun i=>hρ i (Nat.zero_le _)) hE (by show(es.map (·.1)).length≤1000000;rw[List.length_map];omega) ?_
   rcases h2 with⟨rfl,h3,_⟩ | ⟨b,cap,rest,rfl,_,h3,h4,h5,ty,h6⟩
   ·refine .inl ⟨rfl,?_⟩
    have:es=[]:=List.eq_nil_of_length_eq_zero h3
    rw[this];rfl
   ·refine .inr ⟨b,cap,(es.map (·.1)).map (.int .i64),rest,ty,?_,h3,h6,(Nb _ _).2 ⟨rfl,hin⟩,?_,?_⟩
    ·show _=Value.slice (some ⟨b,0,none⟩) (es.map (·.1)).length cap
     rw[List.length_map]
    ·show(es.map (·.1)).length≤cap∧_
     rw[List.length_map];exact h4
    ·show rest.length=(cap-(es.map (·.1)).length)*1
     rw[List.length_map];exact h5
end Go.Proofs.YthncjilcflilcaaGreat

namespace Go.Proofs.YthncjilcflilcaaGreat
set_option linter.all false
open Go

def Sx(N:Nat)(seq seq2:Dk)(seq3:Int):Option Li:=
 (J7 N seq seq2 seq3).bind fun x_1=>
 some x_1
noncomputable def Ad6(N:Nat):Spec:=mkS 73 ⟨[.fn 96 [] [.fz [shD],.fz [.fn 71 [shD] []],.fe (.int .i64)]],[]⟩ [⟨[shL],[]⟩] (fun p=>Sx N p.1.1.2.1.1 p.1.1.2.2.1.1.1.1 p.1.1.2.2.2.1) (fun k r=>k ((r,()),()))
theorem A0i(N:Nat):A0 Tryz.prog (Ad6 N):=mkF (R:=Li) (m0:=0) [⟨_,A4i N⟩] [] (fun r=>some r.1.1) [] Tryz.func73 (fun p=>by kernel_rfl) (by kernel_rfl) (fun _=>by kernel_rfl)

def lmay_S(N:Nat)(d:Li)(d2:Int)(d3 d4:Ll)(d5:Li)(lost:Int):Option (Li×Int):=
 ((Aw N d d2 d3 d4 d5).bind fun e=>match e with
 | .inl (x_1,y_2)=>
  (br (!decide (y_2=0))
   (some ([],y_2))
   ((Js N x_1 lost).bind fun x_3=>
   br (!x_3)
    (some ([],1))
    ((I9 N x_1 lost).bind fun(x_4,y_5,y_6)=>
    (Sx N x_4 y_5 y_6).bind fun x_7=>
    some (x_7,0))))
 | .inr x_8=>
  (br (!decide (x_8=0))
   (some ([],x_8))
   (none)))
noncomputable def Aoo(N:Nat):Spec:=mkS 23 ⟨[shG,shI],[]⟩ [⟨[shL,shI],[]⟩] (fun p=>lmay_S N p.1.1.1 p.1.1.2.1 p.1.1.2.2.1 p.1.1.2.2.2.1 p.1.1.2.2.2.2.1 p.1.2.1) (fun k r=>k ((r.1,r.2,()),()))
theorem Aek(N:Nat):A0 Tryz.prog (Aoo N):=mkF (R:=Li×Int) (m0:=0) [⟨_,Aj N⟩,⟨_,Km N⟩,⟨_,G2 N⟩,⟨_,A0i N⟩] [] (fun r=>some (r.1.1,r.1.2.1)) [] Tryz.func23 (fun p=>by kernel_rfl) (by kernel_rfl) (fun _=>by kernel_rfl)

def To(N:Nat)(d:Li)(d2:Int)(d3 d4:Ll)(d5:Li)(lost found:Int):Option Bool:=
 (E6 N d d2 d3 d4 d5).bind fun x_1=>
 br x_1
  ((Ao N).bind fun x_2=>
  some x_2)
  ((Bx N d d2 d3 d4 d5).bind fun(x_3,y_4,y_5,y_6,y_7)=>
  (Bx N d d2 d3 d4 d5).bind fun(x_8,y_9,y_10,y_11,y_12)=>
  (Jy N x_3 y_4 y_5 y_6 y_7).bind fun x_13=>
  (rcheck_S N x_8 y_9 y_10 y_11 y_12).bind fun x_14=>
  br (!decide (x_13=x_14))
   (some false)
   ((Kr N x_3 y_4 y_5 y_6 y_7 lost found).bind fun(x_15,y_16,y_17,y_18)=>
   (ragree_S N x_8 y_9 y_10 y_11 y_12 lost found).bind fun(x_19,y_20,y_21,y_22)=>
   br (!decide (x_15=x_19))
    (some false)
    (br (!decide (y_16=y_20))
     (some false)
     (br (!(y_17==y_21))
      (some false)
      (br (!decide (y_18=y_22))
       (some false)
       ((lmay_S N x_3 y_4 y_5 y_6 y_7 lost).bind fun(x_23,y_24)=>
       (A3x N x_8 y_9 y_10 y_11 y_12 lost).bind fun(x_25,y_26)=>
       br (!decide (y_24=y_26))
        (some false)
        ((Bl N x_23 x_25).bind fun x_27=>
        br (!x_27)
         (some false)
         ((M9 N x_3 y_4 y_5 y_6 y_7 found).bind fun(x_28,y_29)=>
         (N9 N x_8 y_9 y_10 y_11 y_12 found).bind fun(x_30,y_31)=>
         br (!decide (y_29=y_31))
          (some false)
          ((Bl N x_28 x_30).bind fun x_32=>
          br (!x_32)
           (some false)
           ((Jj N x_3 y_4 y_5 y_6 y_7).bind fun(x_33,y_34)=>
           (H8 N x_8 y_9 y_10 y_11 y_12).bind fun(x_35,y_36)=>
           br (decide (y_34=y_36))
            ((Bl N x_33 x_35).bind fun x_37=>
            br x_37
             ((Dq N x_3 y_4 y_5 y_6 y_7 d d2 d3 d4 d5).bind fun x_38=>
             br x_38
              ((Ao N).bind fun x_39=>
              some x_39)
              (some false))
             (some false))
            (some false)))))))))))
noncomputable def Ad8(N:Nat):Spec:=mkS 7 ⟨[shG,shI,shI],[]⟩ [⟨[.b],[]⟩] (fun p=>To N p.1.1.1 p.1.1.2.1 p.1.1.2.2.1 p.1.1.2.2.2.1 p.1.1.2.2.2.2.1 p.1.2.1 p.1.2.2.1) (fun k r=>k ((r,()),()))
theorem A0s(N:Nat):A0 Tryz.prog (Ad8 N):=mkF (R:=Bool) (m0:=0) [⟨_,Hk N⟩,⟨_,Pg N⟩,⟨_,A15 N⟩,⟨_,Zb N⟩,⟨_,Em N⟩,⟨_,Cc N⟩,⟨_,D1 N⟩,⟨_,Cx N⟩,⟨_,D0 N⟩,⟨_,Ax N⟩,⟨_,R5 N⟩,⟨_,Ac8 N⟩,⟨_,A10 N⟩,⟨_,W7 N⟩,⟨_,Aek N⟩] [] (fun r=>some r.1.1) [] Tryz.func7 (fun p=>by kernel_rfl) (by kernel_rfl) (fun _=>by kernel_rfl)

end Go.Proofs.YthncjilcflilcaaGreat

namespace Go.Proofs.YthncjilcflilcaaGreat
set_option linter.all false
open Go
theorem append_grow{P:Program}{t e u:TypeId}{sz by_:Nat}{z:Value}(hT:Du P t e sz by_ z)(hu:(match Sem.pv P (underlying u)with | some (.slice _)=>true | _=>false)=true){ty:TypeId}{lo lo2:Nat}{w:World}{v x:Value}{n m:Nat}{cs xs:List Value}{ab:List Nat}(hA:Acc e sz lo w v n cs ab)
  (hx:Sl lo2 w x m sz xs) (hn:n+m≤1000000000) (a:Option Addr) (cap:Nat) (hv:v=.slice a n cap) (hcap:¬n+m≤cap) :
  ∃nc w' rest,(Builtin.append_ #[t,u] ty #[v,x]).run P w=.ok (.slice (some ⟨w.heap.size,0,none⟩) (n+m) nc) w'∧(n+m≤nc∧nc≤9223372036854775807)∧Ext w w'∧w'.heap.size=w.heap.size+1∧Blk w' w.heap.size ((cs++xs)++rest) e∧rest.length=(nc-(n+m))*sz:=by
 obtain⟨i,hi,hby⟩:=hT.infoE
 have hty:=Dc (P:=P) hi
 have hund:=Sem.pv_run P _ _ hT.und
 have hsz:=Sem.pv_run P _ _ hT.size
 have hz:=Sem.pv_run P _ _ hT.zero
 have hu':∃e',∀w,(underlying u).run P w=.ok (.slice e') w:=by
  split at hu
  ·rename_i e' he;exact⟨e',fun w=>Sem.pv_run P _ _ he w⟩
  ·cases hu
 obtain⟨e',hu'⟩:=hu'
 have hxl:xs.length=m*sz:=by obtain⟨_,_,_,_,h,_⟩:=hx;exact h
 have hlen:∀w,(Builtin.lenOf x).run P w=.ok m w:=by obtain⟨a,c,rfl,_⟩:=hx;intro w;rfl
 have hfx:∀w',Ext w w'→(Builtin.firstCells sz m x).run P w'=.ok xs.toArray w':=by
  intro w' he
  have:=Bv (P:=P) (hx.ext he) m (Nat.le_refl _)
  rwa [List.take_of_length_le (by omega)]at this
 have hcl:=hA.1
 have hfs:∀w',Ext w w'→(Builtin.firstCells sz n v).run P w'=.ok cs.toArray w':=by
  intro w' he
  have:=Bv (P:=P) (hA.sl.ext he) n (Nat.le_refl _)
  rwa [List.take_of_length_le (by omega)]at this
 have hnc:=Yy (n+m) cap (by omega)
 have hfit:=hT.fits
 have hbig:¬(Builtin.nextslicecap (n+m) cap*by_>2 ^ 48):=by
  have:Builtin.nextslicecap (n+m) cap*by_≤(2*1000000000+1000)*128:=Nat.mul_le_mul (by omega) hfit
  omega
 have hmax:¬(((n+m:Nat):Int)>IntKind.i64.max∧by_=0):=by
  have:IntKind.i64.max=9223372036854775807:=by decide
  omega
 let q:Question:=.appendCap (n+m) cap e
 let nc:=q.cut (w.tape w.drawn q)
 have hnc':n+m≤nc:=by simp only[nc,q,Question.cut];omega
 have hnc63:nc≤9223372036854775807:=by
  have hlt:=Nat.mod_lt (w.tape w.drawn q) (show 0<2 ^ 63-(n+m)by omega)
  simp only[nc,q,Question.cut]at hlt ⊢
  omega
 let w1:=bump w
 have hask:(askRoom (nc*by_)).run P w1=.ok () w1:=by
  unfold askRoom mark
  split<;>rfl
 let rest:=Builtin.zeroCells z.cells (nc-(n+m))
 refine⟨nc,{ w1 with heap:=w1.heap.push (.cells (cs.toArray++xs.toArray++rest) e (0,0)) },rest.toList,?_,⟨hnc',hnc63⟩,(G6 w).trans (New.mk' (.cells (cs.toArray++xs.toArray++rest) e (0,0)) w1).ext,by show(w.heap.push _).size=_;simp,?_,by simp only[rest,Array.length_toList,M6,hT.zsz]⟩
 ·have hch:∀k:Nat→Sem Value,(choose q >>= k).run P w=(k nc).run P w1:=by
   intro k
   simp only[choose,bind,Sem.bind,Sem.run,q,Question.forced]
   rfl
  have h1:=hfs w1 (G6 w)
  have h2:=hfx w1 (G6 w)
  rw[hv]at h1 ⊢
  simp only[Builtin.append_,List.getElem?_toArray,List.getElem?_cons_zero,List.getElem?_cons_succ,Sem.run_bind,hund,Result.andThen_ok,hsz,hu',Sem.run_pure,hlen,if_neg hcap,hty,hby]
  simp only[Bool.false_eq_true,if_false,Sem.run_bind,Result.andThen_ok,hty,hby,hbig,Sem.run_pure,false_or,hmax,Sem.run_ite]
  simp only[hlen,Result.andThen_ok,hcap,if_false,hty,hby,hbig,hmax]
  rw[show(choose (.appendCap (n+m) cap e)).run P w=.ok nc w1 from rfl]
  simp only[Result.andThen_ok,hty,hby,hask,h1,h2,hz,newRow,newObj,Sem.run_bind,Sem.run_pure,Sem.run]
  rfl
 ·show(w1.heap.push (.cells (cs.toArray++xs.toArray++rest) e (0,0)))[w.heap.size]?=_
  have hb:(w1.heap.push (.cells (cs.toArray++xs.toArray++rest) e (0,0)))[w.heap.size]?=some (.cells (cs.toArray++xs.toArray++rest) e (0,0)):=by
   show(w.heap.push _)[w.heap.size]?=_
   simp
  rw[hb]
  congr 2
  apply Array.ext'
  simp
noncomputable def c33:Code:=(Tryz.f41.body).getD .skip
noncomputable def Ant:List Item:=[.code (sub c33 [1,1,1,1,1,1,1,0,0]),.code (sub c33 [1,1,1,1,1,1,1,0,1]),.code (sub c33 [1,1,1,1,1,1,1,1])]
noncomputable def A4t:List Item:=[.code (sub c33 [1,1,1,1,1,1,1,0,1,0,0,0,0]),.code (sub c33 [1,1,1,1,1,1,1,0,1,0,0,0,1]),.code (sub c33 [1,1,1,1,1,1,1,0,1,0,0,1]),.inLoop (sub c33 [1,1,1,1,1,1,1,0,1,0,0]),.inBlock 0,.code (sub c33 [1,1,1,1,1,1,1,1])]
noncomputable def Aqj:List Item:=[.code (sub c33 [1,1,1,1,1,1,1,0,1,0,0,0,1]),.code (sub c33 [1,1,1,1,1,1,1,0,1,0,0,1]),.inLoop (sub c33 [1,1,1,1,1,1,1,0,1,0,0]),.inBlock 0,.code (sub c33 [1,1,1,1,1,1,1,1])]
noncomputable def Ar3:List Item:=[.code (sub c33 [1,1,1,1,1,1,1,0,1,0,0,1,0,0]),.inBlock 1,.code (sub c33 [1,1,1,1,1,1,1,0,1,0,0,1,1]),.inLoop (sub c33 [1,1,1,1,1,1,1,0,1,0,0]),.inBlock 0,.code (sub c33 [1,1,1,1,1,1,1,1])]
noncomputable def Ald:List Item:=[.code (sub c33 [1,1,1,1,1,1,1,1,0]),.code (sub c33 [1,1,1,1,1,1,1,1,1])]
noncomputable def Ar8:List Item:=[.code (sub c33 [1,1,1,1,1,1,1,0,1,0,0,1,1]),.inLoop (sub c33 [1,1,1,1,1,1,1,0,1,0,0]),.inBlock 0,.code (sub c33 [1,1,1,1,1,1,1,1])]
noncomputable def Aew:List Item:=[.code (sub c33 [1,1,1,1,1,1,1,1,1,0]),.code (sub c33 [1,1,1,1,1,1,1,1,1,1])]
structure Rws (w:World) (lo:Nat) (l:List (List Int)) (vs:List Value) (n:Nat) (ab:List Nat):Prop where
 len:vs.length=n
 row:∀j,j<n→CR w lo (l.getD j []) (vs.getD j undef)
 inc:∀i j,i<j→j<n→blkN (vs.getD i undef)<blkN (vs.getD j undef)
 off:∀j,j<n→blkN (vs.getD j undef)∉ab
theorem N4{α:Type}(l:List α)(x d:α)(j:Nat):(l++[x]).getD j d=if j=l.length then x else l.getD j d:=by
 simp only[List.getD_eq_getElem?_getD,List.getElem?_append]
 by_cases e:j<l.length
 ·rw[if_pos e,if_neg (by omega)]
 ·rw[if_neg e]
  by_cases e2:j=l.length
  ·rw[if_pos e2,e2,Nat.sub_self];rfl
  ·rw[if_neg e2,List.getElem?_eq_none (by simp;omega),List.getElem?_eq_none (by omega)]
set_option maxHeartbeats 2000000 in
theorem Ahx{X:Ctx}{df:List Deferred}{M:Nat→Option Obj}(b0 b1 b2 f t:Nat)(va:Int)(F:List (List Int))(vW vS vL vR uW uS uL uR:Value)(aF:Option Addr)(cF:Nat)(ty0 ty2:TypeId)(w0:World)
  (hM:∀b o,M b=some o→b≠b2∧w0.heap[b]?=some o) (h02:b0≠b2) (hB0:Blk w0 b0 [vW,vS,vL,(.slice aF F.length cF),vR] ty0) (hB2:Blk w0 b2 [uW,uS,uL,.slice none 0 0,uR] ty2)
  (hR:RepS M 1 (RepC M (.sl (.int .i64))) F (.slice aF F.length cF)) (hFn:F.length≤1000000) (hF:∀r∈F,r≠[]∧r.length≤1000000)
  (hk:∀v vs ab w,Upd [b2] w0 w→Blk w b2 [uW,uS,uL,v,uR] ty2→Acc 22 1 w0.heap.size w v F.length vs ab→Rws w w0.heap.size F vs F.length ab→St Tryz.prog X 77 Ald [(1,.int .i64 (f:Int)),(2,.int .i64 (t:Int)),(3,.int .i64 va),(4,.pointer (some ⟨b0,0,none⟩)),(8,.pointer (some ⟨b1,0,none⟩)),(11,.pointer (some ⟨b2,0,none⟩))] df w) :
  St Tryz.prog X 77 A4t [(12,.int .i64 0),(1,.int .i64 (f:Int)),(2,.int .i64 (t:Int)),(3,.int .i64 va),(4,.pointer (some ⟨b0,0,none⟩)),(8,.pointer (some ⟨b1,0,none⟩)),(11,.pointer (some ⟨b2,0,none⟩))] df w0:=by
 have hb0:=A4 hB0;have hb2:=A4 hB2
 have hMb:∀b o,M b=some o→b<w0.heap.size:=fun b o h=>A4 (hM b o h).2
 obtain⟨-,-,by1,zv1,hT1,-⟩:=Bg (P:=Tryz.prog) (t:=22) (e:=3) (y:=.int .i64) (by kernel_rfl)
 have hT1:Du Tryz.prog 22 3 1 by1 zv1:=hT1
 obtain⟨-,-,by2,zv2,hT2,-⟩:=Bg (P:=Tryz.prog) (t:=23) (e:=22) (y:=.sl (.int .i64)) (by kernel_rfl)
 have hT2:Du Tryz.prog 23 22 1 by2 zv2:=hT2
 have loop:∀(N i:Nat) (v:Value) (vs:List Value) (ab:List Nat) (w:World),i≤F.length→N=F.length-i→Upd [b2] w0 w→Blk w b2 [uW,uS,uL,v,uR] ty2→Acc 22 1 w0.heap.size w v i vs ab→Rws w w0.heap.size F vs i ab →
   St Tryz.prog X 77 A4t [(12,.int .i64 (i:Int)),(1,.int .i64 (f:Int)),(2,.int .i64 (t:Int)),(3,.int .i64 va),(4,.pointer (some ⟨b0,0,none⟩)),(8,.pointer (some ⟨b1,0,none⟩)),(11,.pointer (some ⟨b2,0,none⟩))] df w:=by
  intro N
  induction N using Nat.strongRecOn with
  | ind N ih=>?_
  intro i v vs ab w hi hN hu hb hA hrw
  have hsz:=hu.size
  have habl:=hA.lt
  have hb0w:Blk w b0 [vW,vS,vL,(.slice aF F.length cF),vR] ty0:=hu.blk hB0 (by simp[h02])
  refine St.reg Aqj [(0,true),(1,true),(2,true),(3,true),(4,true)] (by kernel_rfl) (by kernel_rfl) ?_
  refine RX.q 5 [(2,true,(.slice aF F.length cF))] [(53,.bool (decide ((i:Int)<(F.length:Int)))),(12,.int .i64 (i:Int)),(1,.int .i64 (f:Int)),(2,.int .i64 (t:Int)),(3,.int .i64 va),(4,.pointer (some ⟨b0,0,none⟩)),(8,.pointer (some ⟨b1,0,none⟩)),(11,.pointer (some ⟨b2,0,none⟩))] [.cell ⟨b0,3,none⟩ (.slice aF F.length cF)] (by kernel_rfl) (Blk.cell hb0w rfl) ?_
  refine RX.done [(53,.bool (decide ((i:Int)<(F.length:Int)))),(12,.int .i64 (i:Int)),(1,.int .i64 (f:Int)),(2,.int .i64 (t:Int)),(3,.int .i64 va),(4,.pointer (some ⟨b0,0,none⟩)),(8,.pointer (some ⟨b1,0,none⟩)),(11,.pointer (some ⟨b2,0,none⟩))] (by kernel_rfl) (by kernel_rfl) ?_
  refine St.cond (k1:=Ar3) (k2:=Ald) (decide ((i:Int)<(F.length:Int))) (by kernel_rfl) (fun hc=>?_) (fun hc=>?_)
  rotate_left
  ·have hh:(F.length:Int)≤(i:Int):=by simpa using hc
   clear hc
   obtain rfl:i=F.length:=by omega
   exact St.weak (L':=[(1,.int .i64 (f:Int)),(2,.int .i64 (t:Int)),(3,.int .i64 va),(4,.pointer (some ⟨b0,0,none⟩)),(8,.pointer (some ⟨b1,0,none⟩)),(11,.pointer (some ⟨b2,0,none⟩))]) (by kernel_rfl) (hk v vs ab w hu hb hA hrw)
  have hh:(i:Int)<(F.length:Int):=by simpa using hc
  clear hc
  have hil:i<F.length:=by omega
  have hx0:F[i]?=some (F.getD i []):=by simp[List.getD_eq_getElem?_getD,List.getElem?_eq_getElem hil]
  obtain⟨-,a',c',e1,-,e2⟩:=hR
  have hmem:F.getD i []∈F:=List.mem_of_getElem? hx0
  obtain⟨hne,hrl⟩:=hF _ hmem
  have hm0:0<(F.getD i []).length:=List.length_pos_iff.2 hne
  rcases e2 with e2 | ⟨bF,oF,ws,tyF,rfl,hMF,hseg⟩
  ·rw[e2]at hil;simp at hil
  cases e1
  obtain⟨us,hus,rv,rfl,hrs⟩:=hseg i _ hx0
  obtain⟨ra,rc,rfl⟩:∃ra rc,rv=(.slice ra (F.getD i []).length rc):=by
   obtain⟨-,ra,rc,e,-⟩:=hrs
   exact⟨ra,rc,e⟩
  have hcellF:∀w',Upd [b2] w0 w'→w'.cell? ⟨bF,oF+i*1,none⟩=some (.slice ra (F.getD i []).length rc):=fun w' hu'=>by
   have h1:=hu'.blk (hM bF _ hMF).2 (by simp[(hM bF _ hMF).1])
   exact Cl.cell (Cl.of_seg h1 hus) (i:=0) rfl
  refine St.weak (L':=[(12,.int .i64 (i:Int)),(1,.int .i64 (f:Int)),(2,.int .i64 (t:Int)),(3,.int .i64 va),(4,.pointer (some ⟨b0,0,none⟩)),(8,.pointer (some ⟨b1,0,none⟩)),(11,.pointer (some ⟨b2,0,none⟩))]) (by kernel_rfl) ?_
  refine St.drw Ar8 ab [(0,true),(1,true),(3,true),(4,true),(5,true),(6,true),(7,true),(2,false),(8,false),(9,false),(10,false),(11,true),(12,false)] mixed (by kernel_rfl) (by kernel_rfl) ?_
  intro w1 hd hds
  have hu1:Upd [b2] w0 w1:=Upd.ext hu hd
  have h2ab:b2∉ab:=fun h=>by have:=(habl _ h).1;omega
  have h0ab:b0∉ab:=fun h=>by have:=(habl _ h).1;omega
  have hFab:bF∉ab:=fun h=>by have:=(habl _ h).1;have:=hMb _ _ hMF;omega
  have hix:∀w',(Instr.indexAt 23 (.slice (some ⟨bF,oF,none⟩) F.length cF) (.int .i64 (i:Int))).run Tryz.prog w'=.ok (.pointer (some ⟨bF,oF+i*1,none⟩)) w':=fun w'=>K7 (e:=22) (sz:=1) (by kernel_rfl) (by kernel_rfl) bF oF F.length cF i hil _
  refine RX.qd 7 [(1,true,v),(4,true,(.slice (some ⟨bF,oF,none⟩) F.length cF)),(6,true,(.pointer (some ⟨bF,oF+i*1,none⟩))),(7,true,(.slice ra (F.getD i []).length rc))] [(63,(.slice ra (F.getD i []).length rc)),(57,v),(12,.int .i64 (i:Int)),(1,.int .i64 (f:Int)),(2,.int .i64 (t:Int)),(3,.int .i64 va),(4,.pointer (some ⟨b0,0,none⟩)),(8,.pointer (some ⟨b1,0,none⟩)),(11,.pointer (some ⟨b2,0,none⟩))] [.cell ⟨b2,3,none⟩ v,.cell ⟨b0,3,none⟩ (.slice (some ⟨bF,oF,none⟩) F.length cF),.raw (Instr.indexAt 23 (.slice (some ⟨bF,oF,none⟩) F.length cF) (.int .i64 (i:Int))) (.pointer (some ⟨bF,oF+i*1,none⟩)),.cell ⟨bF,oF+i*1,none⟩ (.slice ra (F.getD i []).length rc)] (by kernel_rfl) ⟨Blk.cell (Ext.blk hd hb) rfl,Blk.cell (hu1.blk hB0 (by simp[h02])) rfl,hix _,hcellF w1 hu1⟩ ⟨h2ab,h0ab,fun w' _=>hix w',hFab⟩ ?_
  refine RX.newD 58 (.cells #[] 3) (.sl 0) [(63,(.slice ra (F.getD i []).length rc)),(57,v),(12,.int .i64 (i:Int)),(1,.int .i64 (f:Int)),(2,.int .i64 (t:Int)),(3,.int .i64 va),(4,.pointer (some ⟨b0,0,none⟩)),(8,.pointer (some ⟨b1,0,none⟩)),(11,.pointer (some ⟨b2,0,none⟩))] (by kernel_rfl) ?_
  intro bz w2 hn2
  have hs2:=hn2.size;have ha2:=hn2.at_
  have hBz:Blk w2 bz [] 3:=hn2.blk
  have hu2:Upd [b2] w0 w2:=Upd.ext hu1 hn2.ext
  obtain⟨cs,hcs,hsl⟩:=Akp (g:=⟨fun _=>none,M⟩) (t:=.int .i64) (w:=w2) (fun b o h=>hu2.blk (hM b o h).2 (by simp[(hM b o h).1])) hrs
  obtain⟨rfl,hin⟩:=(Nb _ _).1 hcs
  obtain⟨nc,w3,rr,hr3,hnc,hx3,hs3,hB3,hrr⟩:=append_grow (P:=Tryz.prog) (u:=22) (ty:=22) (lo:=bz) (v:=(.slice (some ⟨bz,0,none⟩) 0 0)) (n:=0) (cs:=[]) (ab:=[bz]) hT1 (by kernel_rfl) ⟨rfl,.inr ⟨bz,0,[],rfl,rfl,Nat.le_refl _,⟨Nat.le_refl _,by omega⟩,rfl,3,hBz⟩⟩ hsl (by omega) _ 0 rfl (by omega)
  obtain⟨br,hbr⟩:∃br,br=w2.heap.size:=⟨_,rfl⟩
  rw[←hbr]at hr3 hB3
  refine RX.runD 64 (Builtin.append_ #[22,22] 22 #[(.slice (some ⟨bz,0,none⟩) 0 0),(.slice ra (F.getD i []).length rc)]) [(58,(.slice (some ⟨bz,0,none⟩) 0 0)),(63,(.slice ra (F.getD i []).length rc)),(57,v),(12,.int .i64 (i:Int)),(1,.int .i64 (f:Int)),(2,.int .i64 (t:Int)),(3,.int .i64 va),(4,.pointer (some ⟨b0,0,none⟩)),(8,.pointer (some ⟨b1,0,none⟩)),(11,.pointer (some ⟨b2,0,none⟩))] (by kernel_rfl) hr3 hx3.up ?_
  refine RX.newD 65 (.cells #[(.slice (some ⟨br,0,none⟩) (0+(F.getD i []).length) nc)] 22) (.sl 1) [(64,(.slice (some ⟨br,0,none⟩) (0+(F.getD i []).length) nc)),(58,(.slice (some ⟨bz,0,none⟩) 0 0)),(63,(.slice ra (F.getD i []).length rc)),(57,v),(12,.int .i64 (i:Int)),(1,.int .i64 (f:Int)),(2,.int .i64 (t:Int)),(3,.int .i64 va),(4,.pointer (some ⟨b0,0,none⟩)),(8,.pointer (some ⟨b1,0,none⟩)),(11,.pointer (some ⟨b2,0,none⟩))] (by kernel_rfl) ?_
  intro bx w4 hn4
  have hs4:=hn4.size;have ha4:=hn4.at_
  have hBx:Blk w4 bx [(.slice (some ⟨br,0,none⟩) (0+(F.getD i []).length) nc)] 22:=hn4.blk
  have hx4:Ext w w4:=((hd.trans hn2.ext).trans hx3).trans hn4.ext
  have hA4:=hA.ext hx4
  have hsx:Sl 0 w4 (.slice (some ⟨bx,0,none⟩) 1 1) 1 1 [(.slice (some ⟨br,0,none⟩) (0+(F.getD i []).length) nc)]:=⟨_,1,rfl,Nat.le_refl _,rfl,.inr ⟨bx,0,rfl,Nat.zero_le _,A4 hBx,fun j u hj=>by rw[Ar,Nat.zero_add];exact Blk.cell hBx hj⟩⟩
  obtain⟨v',w5,ab',hr5,hA5,hU5,hab',hs5⟩:=append_run (P:=Tryz.prog) (u:=23) (ty:=23) hT2 (by kernel_rfl) hA4 hsx (fun c hc=>by simp at hc;subst hc;rfl) (by omega) (by omega)
  obtain⟨av,cv,rfl⟩:=hA5.shape
  refine RX.runD 66 (Builtin.append_ #[23,23] 23 #[v,(.slice (some ⟨bx,0,none⟩) 1 1)]) [(65,(.slice (some ⟨bx,0,none⟩) 1 1)),(64,(.slice (some ⟨br,0,none⟩) (0+(F.getD i []).length) nc)),(58,(.slice (some ⟨bz,0,none⟩) 0 0)),(63,(.slice ra (F.getD i []).length rc)),(57,v),(12,.int .i64 (i:Int)),(1,.int .i64 (f:Int)),(2,.int .i64 (t:Int)),(3,.int .i64 va),(4,.pointer (some ⟨b0,0,none⟩)),(8,.pointer (some ⟨b1,0,none⟩)),(11,.pointer (some ⟨b2,0,none⟩))] (by kernel_rfl) hr5 hU5 ?_
  refine RX.qd 1 [] [(66,.slice av (i+1) cv),(67,.pointer (some ⟨b2,3,none⟩)),(12,.int .i64 (i:Int)),(1,.int .i64 (f:Int)),(2,.int .i64 (t:Int)),(3,.int .i64 va),(4,.pointer (some ⟨b0,0,none⟩)),(8,.pointer (some ⟨b1,0,none⟩)),(11,.pointer (some ⟨b2,0,none⟩))] [] (by kernel_rfl) trivial trivial ?_
  have hb5:Blk w5 b2 [uW,uS,uL,v,uR] ty2:=hU5.blk (Ext.blk hx4 hb) h2ab
  refine RX.store1L b2 3 (.slice av (i+1) cv) [uW,uS,uL,v,uR] ty2 (by kernel_rfl) rfl hb5 (by simp) (by kernel_rfl) ?_
  intro w6 hp
  have hs6:=hp.size
  refine RX.done [(12,.int .i64 (i:Int)),(1,.int .i64 (f:Int)),(2,.int .i64 (t:Int)),(3,.int .i64 va),(4,.pointer (some ⟨b0,0,none⟩)),(8,.pointer (some ⟨b1,0,none⟩)),(11,.pointer (some ⟨b2,0,none⟩))] (by kernel_rfl) (by kernel_rfl) ?_
  refine St.reg A4t [(0,true),(1,true),(2,true)] (by kernel_rfl) (by kernel_rfl) ?_
  refine RX.q 3 [(1,false,.int .i64 ((i:Int)+1))] [(12,.int .i64 ((i:Int)+1)),(1,.int .i64 (f:Int)),(2,.int .i64 (t:Int)),(3,.int .i64 va),(4,.pointer (some ⟨b0,0,none⟩)),(8,.pointer (some ⟨b1,0,none⟩)),(11,.pointer (some ⟨b2,0,none⟩))] [.eq (.int .i64 (IntKind.i64.wrap ((i:Int)+1))) (.int .i64 ((i:Int)+1))] (by kernel_rfl) (int64 (by omega)) ?_
  refine RX.done [(12,.int .i64 ((i:Int)+1)),(1,.int .i64 (f:Int)),(2,.int .i64 (t:Int)),(3,.int .i64 va),(4,.pointer (some ⟨b0,0,none⟩)),(8,.pointer (some ⟨b1,0,none⟩)),(11,.pointer (some ⟨b2,0,none⟩))] (by kernel_rfl) (by kernel_rfl) ?_
  have hs5':=hU5.size
  have hab5:∀k∈ab',w0.heap.size≤k:=fun k hk=>(hA5.lt k hk).1
  have hU6:Upd [b2] w0 w6:=((Upd.ext hu hx4).trans_old hU5 (fun k hk=>(habl k hk).1)).trans hp.upd
  have hszw:=hx4.size
  have hr6:CR w6 w0.heap.size (F.getD i []) (.slice (some ⟨br,0,none⟩) (0+(F.getD i []).length) nc):=by
   refine⟨br,nc,rr,3,by rw[Nat.zero_add],by omega,by omega,hrl,hin,?_⟩
   have h1:Blk w3 br ((F.getD i []).map (.int .i64)++rr) 3:=by simpa using hB3
   exact hp.upd.blk (hU5.blk (Ext.blk hn4.ext h1) (fun h=>by have:=(habl _ h).2;omega)) (by simp;omega)
  refine St.weak (by kernel_rfl) (ih _ (by omega) (i+1) (.slice av (i+1) cv) (vs++[(.slice (some ⟨br,0,none⟩) (0+(F.getD i []).length) nc)]) ab' w6 (by omega) rfl hU6 hp.blk (hA5.put hp (fun h=>by have:=hab5 _ h;omega)) ⟨by simp[hrw.len],fun j hj=>?_,fun j k hjk hk=>?_,fun j hj hja=>?_⟩)
  ·rw[N4,hrw.len]
   by_cases e:j=i
   ·subst e;rw[if_pos rfl];exact hr6
   ·rw[if_neg e]
    have h1:=hrw.row j (by omega)
    have h2:=h1.lt
    exact((h1.upd hx4 (by simp)).upd hU5 (hrw.off j (by omega))).upd hp.upd (fun h=>by rw[List.mem_singleton]at h;omega)
  ·rw[N4,N4,hrw.len,if_neg (by omega)]
   by_cases e:k=i
   ·subst e
    rw[if_pos rfl]
    have:=(hrw.row j (by omega)).lt
    show blkN _<br
    omega
   ·rw[if_neg e]
    exact hrw.inc j k hjk (by omega)
  ·rw[N4,hrw.len]at hja
   have h3:=hab' _ hja
   by_cases e:j=i
   ·subst e
    rw[if_pos rfl]at h3 hja
    simp only[blkN]at h3
    rcases h3 with h3 | h3
    ·have:=(habl _ h3).2;omega
    ·omega
   ·rw[if_neg e]at h3 hja
    have h4:=(hrw.row j (by omega)).lt
    rcases h3 with h3 | h3
    ·exact hrw.off j (by omega) h3
    ·omega
 exact St.weak (by kernel_rfl) (loop _ 0 (.slice none 0 0) [] [] w0 (by omega) rfl (Upd.refl _ _) hB2 (Acc.nil _ _ _ _) ⟨rfl,fun j hj=>by omega,fun _ _ _ hj=>by omega,fun j hj=>by omega⟩)
theorem Ais{X:Ctx}{df:List Deferred}{M:Nat→Option Obj}(b0 b1 b2 f t:Nat)(va:Int)(F:List (List Int))(vW vS vL vR uW uS uL uR:Value)(aF:Option Addr)(cF:Nat)(ty0 ty2:TypeId)(w0:World)
  (hM:∀b o,M b=some o→b≠b2∧w0.heap[b]?=some o) (h02:b0≠b2) (hB0:Blk w0 b0 [vW,vS,vL,(.slice aF F.length cF),vR] ty0) (hB2:Blk w0 b2 [uW,uS,uL,.slice none 0 0,uR] ty2)
  (hR:RepS M 1 (RepC M (.sl (.int .i64))) F (.slice aF F.length cF)) (hFn:F.length≤1000000) (hF:∀r∈F,r≠[]∧r.length≤1000000) (hf:f<F.length) (ht:t<(F.getD f []).length) (hva:inR .i64 va)
  (hk:∀bl c w,Upd [b2] w0 w→Blk w b2 [uW,uS,uL,(.slice (some ⟨bl,0,none⟩) F.length c),uR] ty2→F.length≤c→w0.heap.size≤bl→I2 w w0.heap.size (F.set f ((F.getD f []).set t va)) bl→St Tryz.prog X 77 Aew [(8,.pointer (some ⟨b1,0,none⟩)),(11,.pointer (some ⟨b2,0,none⟩))] df w) :
  St Tryz.prog X 77 Ant [(1,.int .i64 (f:Int)),(2,.int .i64 (t:Int)),(3,.int .i64 va),(4,.pointer (some ⟨b0,0,none⟩)),(8,.pointer (some ⟨b1,0,none⟩)),(11,.pointer (some ⟨b2,0,none⟩))] df w0:=by
 refine St.reg A4t [(0,true)] (by kernel_rfl) (by kernel_rfl) ?_
 refine RX.q 1 [] [(12,.int .i64 0),(1,.int .i64 (f:Int)),(2,.int .i64 (t:Int)),(3,.int .i64 va),(4,.pointer (some ⟨b0,0,none⟩)),(8,.pointer (some ⟨b1,0,none⟩)),(11,.pointer (some ⟨b2,0,none⟩))] [] (by kernel_rfl) trivial ?_
 refine RX.done [(12,.int .i64 0),(1,.int .i64 (f:Int)),(2,.int .i64 (t:Int)),(3,.int .i64 va),(4,.pointer (some ⟨b0,0,none⟩)),(8,.pointer (some ⟨b1,0,none⟩)),(11,.pointer (some ⟨b2,0,none⟩))] (by kernel_rfl) (by kernel_rfl) ?_
 refine Ahx b0 b1 b2 f t va F vW vS vL vR uW uS uL uR aF cF ty0 ty2 w0 hM h02 hB0 hB2 hR hFn hF ?_
 intro v vs ab w hu hb hA hrw
 have hb2:=A4 hB2
 obtain⟨h1,⟨_,h2,_⟩ | ⟨bl,c,rest,rfl,rfl,hlo,hc,hrest,ty,hB⟩⟩:=hA
 ·omega
 have hrf:=hrw.row f hf
 have hrf1:=hrf.lt
 obtain⟨rb,rcc,rrest,rty,erb,hr1,hr2,hr3,hr4,hr5⟩:=id hrf
 have hlen:=hrw.len
 have ev:vs[f]?=some (vs.getD f undef):=by simp[List.getD_eq_getElem?_getD,List.getElem?_eq_getElem (show f<vs.length by omega)]
 have ev2:(vs++rest)[f]?=some (.slice (some ⟨rb,0,none⟩) (F.getD f []).length rcc):=by rw[List.getElem?_append_left (by omega),ev,erb]
 refine St.reg Aew [(0,true),(1,true),(2,true),(3,true),(4,true),(5,true),(6,true),(7,true),(8,false)] (by kernel_rfl) (by kernel_rfl) ?_
 refine RX.q 8 [(1,true,(.slice (some ⟨bl,0,none⟩) F.length c)),(3,true,(.pointer (some ⟨bl,0+f*1,none⟩))),(4,true,(.slice (some ⟨rb,0,none⟩) (F.getD f []).length rcc)),(7,true,(.pointer (some ⟨rb,0+t*1,none⟩)))] [(74,.int .i64 va),(75,(.pointer (some ⟨rb,0+t*1,none⟩))),(8,.pointer (some ⟨b1,0,none⟩)),(11,.pointer (some ⟨b2,0,none⟩))] [.cell ⟨b2,3,none⟩ (.slice (some ⟨bl,0,none⟩) F.length c),.raw (Instr.indexAt 23 (.slice (some ⟨bl,0,none⟩) F.length c) (.int .i64 (f:Int))) (.pointer (some ⟨bl,0+f*1,none⟩)),.cell ⟨bl,0+f*1,none⟩ (.slice (some ⟨rb,0,none⟩) (F.getD f []).length rcc),.raw (Instr.indexAt 22 (.slice (some ⟨rb,0,none⟩) (F.getD f []).length rcc) (.int .i64 (t:Int))) (.pointer (some ⟨rb,0+t*1,none⟩))] (by kernel_rfl)
  ⟨Blk.cell hb rfl,K7 (e:=22) (sz:=1) (by kernel_rfl) (by kernel_rfl) bl 0 F.length c f hf _,by rw[show 0+f*1=f by omega];exact Blk.cell hB ev2,K7 (e:=3) (sz:=1) (by kernel_rfl) (by kernel_rfl) rb 0 (F.getD f []).length rcc t ht _⟩ ?_
 rw[show 0+t*1=t by omega]
 refine RX.store1 rb t (.int .i64 va) ((F.getD f []).map (.int .i64)++rrest) rty (by kernel_rfl) rfl hr5 (by rw[List.length_append,List.length_map];omega) ?_
 intro w3 hp
 refine RX.done [(8,.pointer (some ⟨b1,0,none⟩)),(11,.pointer (some ⟨b2,0,none⟩))] (by kernel_rfl) (by kernel_rfl) ?_
 have erb':blkN (vs.getD f undef)=rb:=by rw[erb];rfl
 have hlow:w0.heap.size≤w.heap.size:=hu.size
 have hoff:=hrw.off f hf
 rw[erb']at hoff
 have hne:bl≠rb:=fun e=>hoff (by rw[e];simp)
 refine hk bl c w3 (hu.trans_old hp.upd (fun k h=>by simp at h;subst h;omega)) (hp.upd.blk hb (by simp;omega)) hc.1 hlo ⟨vs,rest,ty,hp.upd.blk hB (by simp;exact hne),by rw[hlen];simp,fun j hj=>?_⟩
 simp only[List.length_set]at hj
 by_cases e:j=f
 ·subst e
  rw[No _ _ _ _ hf,erb]
  refine⟨rb,rcc,rrest,rty,by simp,by simpa using hr1,by omega,by simpa using hr3,fun x hx=>?_,?_⟩
  ·rcases List.mem_or_eq_of_mem_set hx with h | h
   ·exact hr4 x h
   ·subst h;exact hva
  ·have:=hp.blk
   rw[List.set_append_left _ _ (by simpa using ht)]at this
   rw[List.map_set];exact this
 ·rw[getD_set_ne _ _ _ _ _ (Ne.symm e)]
  refine(hrw.row j hj).upd hp.upd ?_
  simp only[List.mem_singleton]
  intro h
  rcases Nat.lt_or_ge j f with h1 | h1
  ·have:=hrw.inc j f h1 hf;omega
  ·have:=hrw.inc f j (by omega) hj;omega
end Go.Proofs.YthncjilcflilcaaGreat

namespace Go.Proofs.YthncjilcflilcaaGreat
set_option linter.all false
open Go

def Rc(N:Nat)(g:Int)(out:Li)(out2:Int)(out3 out4:Ll)(out5:Li):Option (Li×Int×Ll×Ll×Li×Int):=
 some (out,out2,out3,out4,out5,0)
def M4(N:Nat)(found trait value:Int)(d:Li)(d2:Int)(d3 d4:Ll)(d5:Li)(g:Int)(out:Li)(out2:Int)(out3:Ll)(out4:Li):Option (Li×Int×Ll×Ll×Li×Int):=
 if((0≤found∧found<d4.length)∧0≤trait∧trait<(d4.getD found.toNat []).length)∧d4.length≤1000000∧∀r∈d4,r≠[]∧r.length≤1000000 then
  Rc N g out out2 out3 (d4.set found.toNat ((d4.getD found.toNat []).set trait.toNat value)) out4
 else none
def Fm(N:Nat)(d:Li)(d2:Int)(d3 d4:Ll)(d5:Li)(found trait value:Int):Option (Li×Int×Ll×Ll×Li×Int):=
 (rcheck_S N d d2 d3 d4 d5).bind fun x_1=>
 br (!decide (x_1=0))
  (some ([],0,[],[],[],x_1))
  (chk ((d4.length:Int)-1)<|
  (Fg N found 0 ((d4.length:Int)-1)).bind fun x_2=>
  br x_2
   (some ([],0,[],[],[],1))
   (chk ((d.length:Int)-1)<|
   (Fg N trait 0 ((d.length:Int)-1)).bind fun x_3=>
   br x_3
    (some ([],0,[],[],[],1))
    (idx d4 found fun x_4=>
    idx x_4 trait fun x_5=>
    br (decide (0≤x_5))
     (some ([],0,[],[],[],5))
     ((Fg N value 0 5).bind fun x_6=>
     br x_6
      (some ([],0,[],[],[],3))
      (M4 N found trait value d d2 d3 d4 d5 0 d d2 d3 d5)))))
noncomputable def Wn(N:Nat):List Spec:=[Ake N,A1y N]
theorem A1g(N:Nat):AllP (A0 Tryz.prog) (Wn N):=⟨D6 N,Ax N,trivial⟩
noncomputable def Apo:Code:=(Tryz.f41.body).getD .skip
noncomputable abbrev Bn:Body:={ c:=Apo,n:=77,res:=[.cell 8 44,.tmp 9],outs:=[⟨[shG,shI],[]⟩],m0:=0 }
abbrev L4:altD Bn.outs→Option (Li×Int×Ll×Ll×Li×Int):=fun r=>some (r.1.1.1,r.1.1.2.1,r.1.1.2.2.1,r.1.1.2.2.2.1,r.1.1.2.2.2.2.1,r.1.2.1)
abbrev Ur:List PI:=[.c [1,1,1,1,1,1,1,1,1,0],.c [1,1,1,1,1,1,1,1,1,1]]
abbrev Hp:Sta:=⟨[8,11],⟨[.own 1 0,.own 2 0],[.dead,.segs [.nils,shI,.nils,.nils,.nils],.segs [shL,shI,shQ,shQ,shL]]⟩⟩
abbrev Zs(N:Nat):Leaf (Li×Int×Ll×Ll×Li×Int):=⟨Ur,Hp,fun p=>Rc N p.2.2.1.2.1 p.2.2.2.1.1 p.2.2.2.1.2.1 p.2.2.2.1.2.2.1 p.2.2.2.1.2.2.2.1 p.2.2.2.1.2.2.2.2.1⟩
theorem A9k(N:Nat)(g:Int)(out:Li)(out2:Int)(out3:Ll)(out4:Ll)(out5:Li):ev (Z:=Li×Int×Ll×Ll×Li×Int) Tryz.prog (Wn N) Bn [] [] (some L4) 400 true Ur (stL Hp (((),(),()),((),((),g,(),(),(),()),(out,out2,out3,out4,out5,()),()))) (stH Hp (((),(),()),((),((),g,(),(),(),()),(out,out2,out3,out4,out5,()),())))=Rc N g out out2 out3 out4 out5:=by kernel_rfl
theorem A6v(N:Nat){z:Li×Int×Ll×Ll×Li×Int}{E:EE}{Xc:Ctx}(hE:EOK Bn.m0 E)(hX:CxOK true Xc)(hret:B4 Tryz.prog Bn E Xc z (some L4)):Az Tryz.prog Bn.c Bn.n Bn.m0 E Xc z (Zs N):=Gp (B:=Bn) (loops:=[]) (leaves:=[]) (A1g N) mixed trivial hE hX trivial hret (fun p=>A9k N p.2.2.1.2.1 p.2.2.2.1.1 p.2.2.2.1.2.1 p.2.2.2.1.2.2.1 p.2.2.2.1.2.2.2.1 p.2.2.2.1.2.2.2.2.1)
abbrev A7k:List PI:=[.c [1,1,1,1,1,1,1,0,0],.c [1,1,1,1,1,1,1,0,1],.c [1,1,1,1,1,1,1,1]]
abbrev M5:Sta:=⟨[1,2,3,4,8,11],⟨[shI,shI,shI,.own 0 0,.own 1 0,.own 2 0],[.segs [shL,shI,shQ,shQ,shL],.segs [.nils,shI,.nils,.nils,.nils],.segs [shL,shI,shQ,.nils,shL]]⟩⟩
abbrev K5(N:Nat):Leaf (Li×Int×Ll×Ll×Li×Int):=⟨A7k,M5,fun p=>M4 N p.1.1 p.1.2.1 p.1.2.2.1 p.2.1.1 p.2.1.2.1 p.2.1.2.2.1 p.2.1.2.2.2.1 p.2.1.2.2.2.2.1 p.2.2.1.2.1 p.2.2.2.1.1 p.2.2.2.1.2.1 p.2.2.2.1.2.2.1 p.2.2.2.1.2.2.2.2.1⟩
theorem A96(N:Nat){z:Li×Int×Ll×Ll×Li×Int}{E:EE}{Xc:Ctx}(hE:EOK Bn.m0 E)(hX:CxOK true Xc)(hret:B4 Tryz.prog Bn E Xc z (some L4)):Az Tryz.prog Bn.c Bn.n Bn.m0 E Xc z (K5 N):=by
 rintro ⟨⟨fo,tr,va,u1,u2,u3,u4⟩,⟨dW,ds,dL,F,dR,u5⟩,⟨v1,g0,v2,v3,v4,v5⟩,⟨W,s,L,v6,R,v7⟩,v8⟩ hfn a w hS
 have hfn:M4 N fo tr va dW ds dL F dR g0 W s L R=some z:=hfn
 unfold M4 at hfn
 split at hfn
 rotate_left
 ·cases hfn
 rename_i hc
 obtain⟨⟨⟨hf0,hf1⟩,ht0,ht1⟩,hFn,hF⟩:=hc
 obtain⟨f,rfl⟩:∃f:Nat,fo=f:=⟨fo.toNat,(Int.toNat_of_nonneg hf0).symm⟩
 obtain⟨t,rfl⟩:∃t:Nat,tr=t:=⟨tr.toNat,(Int.toNat_of_nonneg ht0).symm⟩
 simp only[Int.toNat_natCast]at hfn ht1
 have hf:f<F.length:=by omega
 have ht:t<(F.getD f []).length:=by omega
 obtain⟨⟨g,hs,htm,hi,he⟩,hsz,hm⟩:=hS
 have h1:RepV g (.i .i64 f) (a.tmps.getD 1 undef):=htm 1 _ rfl
 have h2:RepV g (.i .i64 t) (a.tmps.getD 2 undef):=htm 2 _ rfl
 have h3:RepV g (.i .i64 va) (a.tmps.getD 3 undef):=htm 3 _ rfl
 have h4:RepV g (.own 0 0) (a.tmps.getD 4 undef):=htm 4 _ rfl
 have h8:RepV g (.own 1 0) (a.tmps.getD 8 undef):=htm 8 _ rfl
 have h9:RepV g (.own 2 0) (a.tmps.getD 11 undef):=htm 11 _ rfl
 have hB0:RepBlk g w 0 (.segs [.sl (.int .i64) dW,.i .i64 ds,.sl (.sl (.int .i64)) dL,.sl (.sl (.int .i64)) F,.sl (.int .i64) dR]):=hs.blk 0 _ rfl
 have hB1:RepBlk g w 1 (.segs [.nils,.i .i64 g0,.nils,.nils,.nils]):=hs.blk 1 _ rfl
 have hB2:RepBlk g w 2 (.segs [.sl (.int .i64) W,.i .i64 s,.sl (.sl (.int .i64)) L,.nils,.sl (.int .i64) R]):=hs.blk 2 _ rfl
 have hdis:∀i j b ci ni cj nj,i<3→j<3→g.ρ i=some (some (b,ci,ni))→g.ρ j=some (some (b,cj,nj))→i=j:=fun i j b ci ni cj nj hi hj e1 e2=>by
  have hk:∀i,i<3→∃k,(stH M5 (((↑f:Int),(↑t:Int),va,u1,u2,u3,u4),(dW,ds,dL,F,dR,u5),(v1,g0,v2,v3,v4,v5),(W,s,L,v6,R,v7),v8))[i]?=some k∧k.mut=true:=fun i hi=>by
   match i,hi with
   | 0,_=>exact⟨_,rfl,rfl⟩
   | 1,_=>exact⟨_,rfl,rfl⟩
   | 2,_=>exact⟨_,rfl,rfl⟩
  obtain⟨ki,x1,x2⟩:=hk i hi
  obtain⟨kj,y1,y2⟩:=hk j hj
  exact hs.inj i j ki kj b ci ni cj nj x1 y1 x2 y2 e1 e2
 simp only[RepV]at h1 h2 h3 h4 h8 h9
 obtain⟨b0,c0,n0,us0,ty0,e0,hb0,hp0,hm0⟩:=hB0
 obtain⟨b1,c1,n1,us1,ty1,e1,hb1,hp1,hm1⟩:=hB1
 obtain⟨b2,c2,n2,us2,ty2,e2,hb2,hp2,hm2⟩:=hB2
 obtain⟨_,_,_,e4,h4⟩:=h4
 rw[e0]at e4;cases e4
 obtain⟨_,_,_,e8,h8⟩:=h8
 rw[e1]at e8;cases e8
 obtain⟨_,_,_,e9,h9⟩:=h9
 rw[e2]at e9;cases e9
 simp only[A5,PartOf,RepV]at hp0 hp2
 obtain⟨_,_,rfl,⟨xW,rfl,hxW⟩,_,_,rfl,⟨xs,rfl,hxs⟩,_,_,rfl,⟨xL,rfl,hxL⟩,_,_,rfl,⟨xF,rfl,hxF⟩,_,_,rfl,⟨xR,rfl,hxR⟩,rfl⟩:=hp0
 obtain⟨_,_,rfl,⟨yW,rfl,hW⟩,_,_,rfl,⟨ys,rfl,hs_⟩,_,_,rfl,⟨yL,rfl,hL⟩,_,_,rfl,⟨yF,rfl,hyF⟩,_,_,rfl,⟨yR,rfl,hR⟩,rfl⟩:=hp2
 subst hyF
 obtain⟨aF,cF,rfl⟩:∃aF cF,xF=.slice aF F.length cF:=by
  obtain⟨-,x,y,e,-⟩:=hxF
  exact⟨x,y,e⟩
 have hlt0:=A4 hb0
 have hlt1:=A4 hb1
 have hlt2:=A4 hb2
 have h02:b0≠b2:=fun e=>by
  subst e
  have:=hdis 0 2 _ _ _ _ _ (by omega) (by omega) e0 e2
  omega
 have h12:b1≠b2:=fun e=>by
  subst e
  have:=hdis 1 2 _ _ _ _ _ (by omega) (by omega) e1 e2
  omega
 have hMw:∀b o,g.M b=some o→b≠b2∧w.heap[b]?=some o:=fun b o h=>⟨fun e=>(by rw[e,hm2]at h;cases h),hs.mem b o h⟩
 have hwalk:=Ais (X:=Xc) (df:=a.defers) (M:=g.M) b0 b1 b2 f t va F xW xs xL xR yW ys yL yR aF cF ty0 ty2 w hMw h02 hb0 hb2 hxF hFn hF hf ht h3.2 (fun bl c w' hu hb hc hlo hRF=>?_)
 ·have e:(K5 N).at_.map (itm Bn.c)=Ant:=by kernel_rfl
  rw[e]
  refine St.toAt (tm:=a.tmps) hwalk ⟨hsz,N2 _ (fun x hx=>?_)⟩
  simp only[List.mem_cons,List.not_mem_nil,or_false]at hx
  rcases hx with rfl | rfl | rfl | rfl | rfl | rfl
  ·exact h1.1
  ·exact h2.1
  ·exact h3.1
  ·exact h4
  ·exact h8
  ·exact h9
 ·intro tm htm'
  have e:(Zs N).at_.map (itm Bn.c)=Aew:=by kernel_rfl
  rw[←e]
  have hge:GE g ⟨g.ρ,frzM g.M [] w.heap.size w'⟩:=⟨fun _ _ h=>h,Dy⟩
  have hMlt:∀b o,g.M b=some o→b<w.heap.size:=fun b o h=>A4 (hs.mem b o h)
  have hMbl:g.M bl=none:=by
   cases e:g.M bl with
   | none=>rfl
   | some o=>have:=hMlt bl o e;omega
  have hrepF:=I2.rep (S:=[]) (c:=c) hRF hMlt hMbl (.inr hlo) (by simpa using hFn) (by simpa using hc)
  rw[List.length_set]at hrepF
  refine A6v N hE hX hret (((),(),()),((),((),g0,(),(),(),()),(W,s,L,F.set f ((F.getD f []).set t va),R,()),())) hfn _ _ ⟨⟨⟨g.ρ,frzM g.M [] w.heap.size w'⟩,⟨fun b o h=>?_,fun id k hk=>?_,fun i j ki kj b ci ni cj nj x1 y1 x2 y2 z1 z2=>?_⟩,?_,fun i hi'=>hi i hi',?_⟩,htm'.1,hm⟩
  ·rcases Is h with h | ⟨_,_,h,_⟩
   ·exact hu.blk (hs.mem b o h) (by simp[(hMw b o h).1])
   ·exact h
  ·match id,hk with
   | 0,hk=>cases hk;trivial
   | 1,hk=>
    cases hk
    exact⟨b1,c1,n1,us1,ty1,e1,hu.blk hb1 (by simp[h12]),A5.mono hge _ _ hp1,Ng hm1 (by simp) hlt1⟩
   | 2,hk=>
    cases hk
    exact⟨b2,c2,n2,_,ty2,e2,hb,⟨_,_,rfl,⟨_,rfl,RepS.mono hW Dy (fun _ _ h=>h)⟩,_,_,rfl,⟨_,rfl,hs_⟩,_,_,rfl,⟨_,rfl,RepV.mono hge (.sl (.sl (.int .i64)) L) _ hL⟩,_,_,rfl,⟨_,rfl,hrepF⟩,_,_,rfl,⟨_,rfl,RepS.mono hR Dy (fun _ _ h=>h)⟩,rfl⟩,Ng hm2 (by simp) hlt2⟩
   | n+3,hk=>cases hk
  ·have hlt:∀i k,(stH Hp (((),(),()),((),((),g0,(),(),(),()),(W,s,L,F.set f ((F.getD f []).set t va),R,()),())))[i]?=some k→k.mut=true→i<3:=fun i k h1 h2=>by
    match i,h1 with
    | 0,_=>omega
    | 1,_=>omega
    | 2,_=>omega
    | n+3,h=>cases h
   exact hdis i j _ _ _ _ _ (hlt i ki x1 x2) (hlt j kj y1 y2) z1 z2
  ·exact Qn [8,11] _ ⟨_,_,rfl,⟨b1,c1,n1,e1,htm'.2 8 _ rfl⟩,_,_,rfl,⟨b2,c2,n2,e2,htm'.2 11 _ rfl⟩,rfl⟩
  ·have hSw:∀b∈[b2],Sw g (fun i=>(stH M5 (((↑f:Int),(↑t:Int),va,u1,u2,u3,u4),(dW,ds,dL,F,dR,u5),(v1,g0,v2,v3,v4,v5),(W,s,L,v6,R,v7),v8))[i]?) [2] b:=fun b hb=>by
    simp only[List.mem_singleton]at hb
    subst hb
    exact⟨2,by simp,_,c2,n2,rfl,rfl,e2⟩
   refine hE.step (nw:=fun _=>False) (wr:=[2]) (fun _ h=>h.elim) hs ⟨hu.os,hu.tape,hu.output,hu.size,fun b hb hn=>hu.same b hb (fun h=>hn (hSw b h)),hge,fun id h0 h1=>absurd h0 h1,fun id b c n h0 h1=>(by rw[h0]at h1;cases h1),fun b o h=>?_⟩ he
   rcases Is h with h | ⟨x1,x2,x3,x4⟩
   ·exact .inl h
   ·exact .inr ⟨x1,.inl (by rcases x2 with h | h;cases h;exact h),x4⟩

abbrev A9m:Sta:=⟨[0,1,2,3],⟨[shG,shI,shI,shI],[]⟩⟩
theorem Ak5(N:Nat)(d:Li)(d2:Int)(d3:Ll)(d4:Ll)(d5:Li)(found:Int)(trait:Int)(value:Int):ev (Z:=Li×Int×Ll×Ll×Li×Int) Tryz.prog (Wn N) Bn [] [K5 N] (some L4) 400 false [.c [0],.c [1]] (stL A9m (((d,d2,d3,d4,d5,()),found,trait,value,()),())) (stH A9m (((d,d2,d3,d4,d5,()),found,trait,value,()),()))=Fm N d d2 d3 d4 d5 found trait value:=by kernel_rfl
noncomputable def A7w(N:Nat):Spec:={ f:=41,ins:=⟨[shG,shI,shI,shI],[]⟩,outs:=[⟨[shG,shI],[]⟩],run:=fun p k=>(Fm N p.1.1.1 p.1.1.2.1 p.1.1.2.2.1 p.1.1.2.2.2.1 p.1.1.2.2.2.2.1 p.1.2.1 p.1.2.2.1 p.1.2.2.2.1).bind fun r=>k (((r.1,r.2.1,r.2.2.1,r.2.2.2.1,r.2.2.2.2.1,()),r.2.2.2.2.2,()),()) }
theorem W5(N:Nat):A0 Tryz.prog (A7w N):=Qv (B:=Bn) (loops:=[]) (leaves:=[K5 N]) (fun p=>Fm N p.1.1.1 p.1.1.2.1 p.1.1.2.2.1 p.1.1.2.2.2.1 p.1.1.2.2.2.2.1 p.1.2.1 p.1.2.2.1 p.1.2.2.2.1) (fun r=>(((r.1,r.2.1,r.2.2.1,r.2.2.2.1,r.2.2.2.2.1,()),r.2.2.2.2.2,()),())) L4 (fun _ _ _=>rfl) (fun r z h=>by cases h;rfl) Tryz.func41 (by kernel_rfl) (by kernel_rfl) (by kernel_rfl) rfl rfl (by kernel_rfl) (fun args w=>Sem.pv_run _ _ _ (by kernel_rfl) w) (A1g N) mixed trivial (fun z E Xc hE hX hret=>⟨A96 N hE hX hret,trivial⟩) (fun p=>Ak5 N p.1.1.1 p.1.1.2.1 p.1.1.2.2.1 p.1.1.2.2.2.1 p.1.1.2.2.2.2.1 p.1.2.1 p.1.2.2.1 p.1.2.2.2.1)

def R6(N:Nat)(rec:Int→Int→Int→Int→Int→Int→Int→Li→Int→Ll→Ll→Li→Option (Int×Int×Int×Int×Int×Int×Li×Int×Ll×Ll×Li))(found trait least k t most v:Int)(d:Li)(d2:Int)(d3 d4:Ll)(d5:Li):Option (Int×Int×Int×Int×Int×Int×Li×Int×Ll×Ll×Li):=
 chk (v+1)<|
 rec found trait least k t most (v+1) d d2 d3 d4 d5
def rask_l3(N:Nat):Nat→Int→Int→Int→Int→Int→Int→Int→Li→Int→Ll→Ll→Li→Option (Int×Int×Int×Int×Int×Int×Li×Int×Ll×Ll×Li)
 | 0,_,_,_,_,_,_,_,_,_,_,_,_=>none
 | n_+1,found,trait,least,k,t,most,v,d,d2,d3,d4,d5=>
  br (decide (v≤5))
   ((Fm N d d2 d3 d4 d5 k t v).bind fun(x_2,y_3,y_4,y_5,y_6,y_7)=>
   br (decide (y_7=0))
    ((By N x_2 y_3 y_4 y_5 y_6).bind fun(x_8,y_9)=>
    R6 N (rask_l3 N n_) found trait least k t (max most (x_8.length:Int)) v d d2 d3 d4 d5)
    (R6 N (rask_l3 N n_) found trait least k t most v d d2 d3 d4 d5))
   (some ((found,trait,least,k,t,most,d,d2,d3,d4,d5)))
def K4(N:Nat)(rec:Int→Int→Int→Int→Int→Li→Int→Ll→Ll→Li→Option (Int×Int×Int×Int×Li×Int×Ll×Ll×Li))(found trait least k t:Int)(d:Li)(d2:Int)(d3 d4:Ll)(d5:Li):Option (Int×Int×Int×Int×Li×Int×Ll×Ll×Li):=
 chk (t+1)<|
 rec found trait least k (t+1) d d2 d3 d4 d5
def rask_l2(N:Nat):Nat→Int→Int→Int→Int→Int→Li→Int→Ll→Ll→Li→Option (Int×Int×Int×Int×Li×Int×Ll×Ll×Li)
 | 0,_,_,_,_,_,_,_,_,_,_=>none
 | n_+1,found,trait,least,k,t,d,d2,d3,d4,d5=>
  br (decide (t<(d.length:Int)))
   ((rask_l3 N N found trait least k t 0 0 d d2 d3 d4 d5).bind fun(found_10,trait_11,least_12,k_13,t_14,most_15,d_16,d2_17,d3_18,d4_19,d5_20)=>
   br (decide (0<most_15))
    (br (decide (least_12=0))
     (K4 N (rask_l2 N n_) k_13 t_14 most_15 k_13 t_14 d_16 d2_17 d3_18 d4_19 d5_20)
     (br (decide (most_15<least_12))
      (K4 N (rask_l2 N n_) k_13 t_14 most_15 k_13 t_14 d_16 d2_17 d3_18 d4_19 d5_20)
      (K4 N (rask_l2 N n_) found_10 trait_11 least_12 k_13 t_14 d_16 d2_17 d3_18 d4_19 d5_20)))
    (K4 N (rask_l2 N n_) found_10 trait_11 least_12 k_13 t_14 d_16 d2_17 d3_18 d4_19 d5_20))
   (some ((found,trait,least,k,d,d2,d3,d4,d5)))
def rask_l1(N:Nat):Nat→Int→Int→Int→Int→Li→Int→Ll→Ll→Li→Option (Int×Int×Int)
 | 0,_,_,_,_,_,_,_,_,_=>none
 | n_+1,found,trait,least,k,d,d2,d3,d4,d5=>
  br (decide (k<(d4.length:Int)))
   ((rask_l2 N N found trait least k 0 d d2 d3 d4 d5).bind fun(found_21,trait_22,least_23,k_24,d_25,d2_26,d3_27,d4_28,d5_29)=>
   chk (k_24+1)<|
   rask_l1 N n_ found_21 trait_22 least_23 (k_24+1) d_25 d2_26 d3_27 d4_28 d5_29)
   (some ((found,trait,least)))
def A3u(N:Nat)(d:Li)(d2:Int)(d3 d4:Ll)(d5:Li):Option (Int×Int×Int×Int):=
 (rcheck_S N d d2 d3 d4 d5).bind fun x_1=>
 br (!decide (x_1=0))
  (some (0,0,0,x_1))
  ((rask_l1 N N 0 0 0 0 d d2 d3 d4 d5).bind fun(found_30,trait_31,least_32)=>
  br (decide (least_32=0))
   (some (0,0,0,6))
   (some (found_30,trait_31,least_32,0)))
noncomputable def Mf(N:Nat):Oks:=[⟨_,Ax N⟩,⟨_,Hj N⟩,⟨_,W5 N⟩]
abbrev Ajq:List StSh:=[⟨[shI,shI,shI,shI],[]⟩]
noncomputable abbrev Ys:Body:=mkB Tryz.f18 Ajq 0
abbrev Xa:List PI:=[.c [1,1,1,0,1,0,0,1,0,0,1,0,0,1,0,0,1,0,1,0,0,0,0],.c [1,1,1,0,1,0,0,1,0,0,1,0,0,1,0,0,1,0,1,0,0,0,1],.c [1,1,1,0,1,0,0,1,0,0,1,0,0,1,0,0,1,0,1,0,0,1],.l [1,1,1,0,1,0,0,1,0,0,1,0,0,1,0,0,1,0,1,0,0],.b 4,.c [1,1,1,0,1,0,0,1,0,0,1,0,0,1,0,0,1,1],.b 3,.c [1,1,1,0,1,0,0,1,0,0,1,0,0,1,1],.l [1,1,1,0,1,0,0,1,0,0,1,0,0],.b 2,.b 1,.c [1,1,1,0,1,0,0,1,1],.l [1,1,1,0,1,0,0],.b 0,.c [1,1,1,1]]
abbrev X9:Sta:=⟨[1,7,8,9,10,11,12,13],⟨[.own 0 0,shI,shI,shI,shI,shI,shI,shI],[.segs [shL,shI,shQ,shQ,shL]]⟩⟩
abbrev Ai4(rec:Int→Int→Int→Int→Int→Int→Int→Li→Int→Ll→Ll→Li→Option (Int×Int×Int×Int×Int×Int×Li×Int×Ll×Ll×Li)):Leaf (Int×Int×Int×Int×Int×Int×Li×Int×Ll×Ll×Li):=⟨Xa,X9,fun p=>rec p.1.2.1 p.1.2.2.1 p.1.2.2.2.1 p.1.2.2.2.2.1 p.1.2.2.2.2.2.1 p.1.2.2.2.2.2.2.1 p.1.2.2.2.2.2.2.2.1 p.2.1.1 p.2.1.2.1 p.2.1.2.2.1 p.2.1.2.2.2.1 p.2.1.2.2.2.2.1⟩
abbrev Zy:Leaf (Int×Int×Int×Int×Int×Int×Li×Int×Ll×Ll×Li):=⟨[.c [1,1,1,0,1,0,0,1,0,0,1,0,0,1,0,0,1,1,0],.c [1,1,1,0,1,0,0,1,0,0,1,0,0,1,0,0,1,1,1],.b 3,.c [1,1,1,0,1,0,0,1,0,0,1,0,0,1,1],.l [1,1,1,0,1,0,0,1,0,0,1,0,0],.b 2,.b 1,.c [1,1,1,0,1,0,0,1,1],.l [1,1,1,0,1,0,0],.b 0,.c [1,1,1,1]],⟨[1,7,8,9,10,11,12],⟨[.own 0 0,shI,shI,shI,shI,shI,shI],[.segs [shL,shI,shQ,shQ,shL]]⟩⟩,fun p=>some ((p.1.2.1,p.1.2.2.1,p.1.2.2.2.1,p.1.2.2.2.2.1,p.1.2.2.2.2.2.1,p.1.2.2.2.2.2.2.1,p.2.1.1,p.2.1.2.1,p.2.1.2.2.1,p.2.1.2.2.2.1,p.2.1.2.2.2.2.1))⟩
noncomputable def Aik(N:Nat)(rec:Int→Int→Int→Int→Int→Int→Int→Li→Int→Ll→Ll→Li→Option (Int×Int×Int×Int×Int×Int×Li×Int×Ll×Ll×Li)){top:Bool}:JnQ (Z:=Int×Int×Int×Int×Int×Int×Li×Int×Ll×Ll×Li) Ys top none [Ai4 rec,Zy]:=mkJ (Mf N) [] [] ⟨[.c [1,1,1,0,1,0,0,1,0,0,1,0,0,1,0,0,1,0,1,0,0,1,1],.l [1,1,1,0,1,0,0,1,0,0,1,0,0,1,0,0,1,0,1,0,0],.b 4,.c [1,1,1,0,1,0,0,1,0,0,1,0,0,1,0,0,1,1],.b 3,.c [1,1,1,0,1,0,0,1,0,0,1,0,0,1,1],.l [1,1,1,0,1,0,0,1,0,0,1,0,0],.b 2,.b 1,.c [1,1,1,0,1,0,0,1,1],.l [1,1,1,0,1,0,0],.b 0,.c [1,1,1,1]],⟨[1,7,8,9,10,11,12,13],⟨[.own 0 0,shI,shI,shI,shI,shI,shI,shI],[.segs [shL,shI,shQ,shQ,shL]]⟩⟩,fun p=>R6 N rec p.1.2.1 p.1.2.2.1 p.1.2.2.2.1 p.1.2.2.2.2.1 p.1.2.2.2.2.2.1 p.1.2.2.2.2.2.2.1 p.1.2.2.2.2.2.2.2.1 p.2.1.1 p.2.1.2.1 p.2.1.2.2.1 p.2.1.2.2.2.1 p.2.1.2.2.2.2.1⟩ (fun p=>by kernel_rfl)
noncomputable def Mw(N:Nat){top:Bool}:LpQ Ys top:=mkL (Z:=Int×Int×Int×Int×Int×Int×Li×Int×Ll×Ll×Li) (Mf N) [] Xa X9 (fun m p=>rask_l3 N m p.1.2.1 p.1.2.2.1 p.1.2.2.2.1 p.1.2.2.2.2.1 p.1.2.2.2.2.2.1 p.1.2.2.2.2.2.2.1 p.1.2.2.2.2.2.2.2.1 p.2.1.1 p.2.1.2.1 p.2.1.2.2.1 p.2.1.2.2.2.1 p.2.1.2.2.2.2.1) [Zy] (fun m=>[Aik N (rask_l3 N m)]) (fun k e=>k (.inl (((),e.1,e.2.1,e.2.2.1,e.2.2.2.1,e.2.2.2.2.1,e.2.2.2.2.2.1,()),((e.2.2.2.2.2.2.1,e.2.2.2.2.2.2.2.1,e.2.2.2.2.2.2.2.2.1,e.2.2.2.2.2.2.2.2.2.1,e.2.2.2.2.2.2.2.2.2.2,()),())))) N (fun m p=>by kernel_rfl)
abbrev Xs:List PI:=[.c [1,1,1,0,1,0,0,1,0,0,1,0,0,0,0],.c [1,1,1,0,1,0,0,1,0,0,1,0,0,0,1],.c [1,1,1,0,1,0,0,1,0,0,1,0,0,1],.l [1,1,1,0,1,0,0,1,0,0,1,0,0],.b 2,.b 1,.c [1,1,1,0,1,0,0,1,1],.l [1,1,1,0,1,0,0],.b 0,.c [1,1,1,1]]
abbrev Yg:Sta:=⟨[1,7,8,9,10,11],⟨[.own 0 0,shI,shI,shI,shI,shI],[.segs [shL,shI,shQ,shQ,shL]]⟩⟩
abbrev Aiq(rec:Int→Int→Int→Int→Int→Li→Int→Ll→Ll→Li→Option (Int×Int×Int×Int×Li×Int×Ll×Ll×Li)):Leaf (Int×Int×Int×Int×Li×Int×Ll×Ll×Li):=⟨Xs,Yg,fun p=>rec p.1.2.1 p.1.2.2.1 p.1.2.2.2.1 p.1.2.2.2.2.1 p.1.2.2.2.2.2.1 p.2.1.1 p.2.1.2.1 p.2.1.2.2.1 p.2.1.2.2.2.1 p.2.1.2.2.2.2.1⟩
abbrev Yp:Leaf (Int×Int×Int×Int×Li×Int×Ll×Ll×Li):=⟨[.c [1,1,1,0,1,0,0,1,1],.l [1,1,1,0,1,0,0],.b 0,.c [1,1,1,1]],⟨[1,7,8,9,10],⟨[.own 0 0,shI,shI,shI,shI],[.segs [shL,shI,shQ,shQ,shL]]⟩⟩,fun p=>some ((p.1.2.1,p.1.2.2.1,p.1.2.2.2.1,p.1.2.2.2.2.1,p.2.1.1,p.2.1.2.1,p.2.1.2.2.1,p.2.1.2.2.2.1,p.2.1.2.2.2.2.1))⟩
noncomputable def Ah7(N:Nat)(rec:Int→Int→Int→Int→Int→Li→Int→Ll→Ll→Li→Option (Int×Int×Int×Int×Li×Int×Ll×Ll×Li)){top:Bool}:JnQ (Z:=Int×Int×Int×Int×Li×Int×Ll×Ll×Li) Ys top none [Aiq rec,Yp]:=mkJ (Mf N) [Mw N] [] ⟨[.c [1,1,1,0,1,0,0,1,0,0,1,0,0,1,1],.l [1,1,1,0,1,0,0,1,0,0,1,0,0],.b 2,.b 1,.c [1,1,1,0,1,0,0,1,1],.l [1,1,1,0,1,0,0],.b 0,.c [1,1,1,1]],⟨[1,7,8,9,10,11],⟨[.own 0 0,shI,shI,shI,shI,shI],[.segs [shL,shI,shQ,shQ,shL]]⟩⟩,fun p=>K4 N rec p.1.2.1 p.1.2.2.1 p.1.2.2.2.1 p.1.2.2.2.2.1 p.1.2.2.2.2.2.1 p.2.1.1 p.2.1.2.1 p.2.1.2.2.1 p.2.1.2.2.2.1 p.2.1.2.2.2.2.1⟩ (fun p=>by kernel_rfl)
noncomputable def A34(N:Nat){top:Bool}:LpQ Ys top:=mkL (Z:=Int×Int×Int×Int×Li×Int×Ll×Ll×Li) (Mf N) [Mw N] Xs Yg (fun m p=>rask_l2 N m p.1.2.1 p.1.2.2.1 p.1.2.2.2.1 p.1.2.2.2.2.1 p.1.2.2.2.2.2.1 p.2.1.1 p.2.1.2.1 p.2.1.2.2.1 p.2.1.2.2.2.1 p.2.1.2.2.2.2.1) [Yp] (fun m=>[Ah7 N (rask_l2 N m)]) (fun k e=>k (.inl (((),e.1,e.2.1,e.2.2.1,e.2.2.2.1,()),((e.2.2.2.2.1,e.2.2.2.2.2.1,e.2.2.2.2.2.2.1,e.2.2.2.2.2.2.2.1,e.2.2.2.2.2.2.2.2,()),())))) N (fun m p=>by kernel_rfl)
noncomputable def Ahj(N:Nat){top:Bool}:LpQ Ys top:=mkL (Z:=Int×Int×Int) (Mf N) [Mw N,A34 N] [.c [1,1,1,0,1,0,0,0,0],.c [1,1,1,0,1,0,0,0,1],.c [1,1,1,0,1,0,0,1],.l [1,1,1,0,1,0,0],.b 0,.c [1,1,1,1]] ⟨[1,7,8,9,10],⟨[.own 0 0,shI,shI,shI,shI],[.segs [shL,shI,shQ,shQ,shL]]⟩⟩ (fun m p=>rask_l1 N m p.1.2.1 p.1.2.2.1 p.1.2.2.2.1 p.1.2.2.2.2.1 p.2.1.1 p.2.1.2.1 p.2.1.2.2.1 p.2.1.2.2.2.1 p.2.1.2.2.2.2.1) [⟨[.c [1,1,1,1,0,0],.c [1,1,1,1,0,1],.c [1,1,1,1,1]],⟨[7,8,9],⟨[shI,shI,shI],[]⟩⟩,fun p=>some ((p.1.1,p.1.2.1,p.1.2.2.1))⟩] (fun _=>[]) (fun k e=>k (.inl ((e.1,e.2.1,e.2.2,()),()))) N (fun m p=>by kernel_rfl)
noncomputable def Aoh(N:Nat):Spec:=mkS 18 ⟨[shG],[]⟩ Ajq (fun p=>A3u N p.1.1.1 p.1.1.2.1 p.1.1.2.2.1 p.1.1.2.2.2.1 p.1.1.2.2.2.2.1) (fun k r=>k ((r.1,r.2.1,r.2.2.1,r.2.2.2,()),()))
theorem Acu(N:Nat):A0 Tryz.prog (Aoh N):=mkF (R:=Int×Int×Int×Int) (m0:=0) (Mf N) [Mw N,A34 N,Ahj N] (fun r=>some (r.1.1,r.1.2.1,r.1.2.2.1,r.1.2.2.2.1)) [] Tryz.func18 (fun p=>by kernel_rfl) (by kernel_rfl) (fun _=>by kernel_rfl)

def A3z(N:Nat)(d:Li)(d2:Int)(d3 d4:Ll)(d5:Li):Option Bool:=
 (E6 N d d2 d3 d4 d5).bind fun x_1=>
 br x_1
  ((Ao N).bind fun x_2=>
  some x_2)
  ((Ou N d d2 d3 d4 d5 3).bind fun x_3=>
  br x_3
   ((Ao N).bind fun x_4=>
   some x_4)
   ((Bx N d d2 d3 d4 d5).bind fun(x_5,y_6,y_7,y_8,y_9)=>
   (A9d N x_5 y_6 y_7 y_8 y_9).bind fun(x_10,y_11,y_12,y_13)=>
   (Bx N d d2 d3 d4 d5).bind fun(x_14,y_15,y_16,y_17,y_18)=>
   (A3u N x_14 y_15 y_16 y_17 y_18).bind fun(x_19,y_20,y_21,y_22)=>
   br (decide (x_10=x_19))
    (br (decide (y_11=y_20))
     (br (decide (y_12=y_21))
      (br (decide (y_13=y_22))
       ((Dq N x_5 y_6 y_7 y_8 y_9 d d2 d3 d4 d5).bind fun x_23=>
       br x_23
        ((Ao N).bind fun x_24=>
        some x_24)
        (some false))
       (some false))
      (some false))
     (some false))
    (some false)))
noncomputable def An9(N:Nat):Spec:=mkS 6 ⟨[shG],[]⟩ [⟨[.b],[]⟩] (fun p=>A3z N p.1.1.1 p.1.1.2.1 p.1.1.2.2.1 p.1.1.2.2.2.1 p.1.1.2.2.2.2.1) (fun k r=>k ((r,()),()))
theorem A72(N:Nat):A0 Tryz.prog (An9 N):=mkF (R:=Bool) (m0:=0) [⟨_,A1s N⟩,⟨_,Cc N⟩,⟨_,D1 N⟩,⟨_,Cx N⟩,⟨_,D0 N⟩,⟨_,Og N⟩,⟨_,Acu N⟩] [] (fun r=>some r.1.1) [] Tryz.func6 (fun p=>by kernel_rfl) (by kernel_rfl) (fun _=>by kernel_rfl)

end Go.Proofs.YthncjilcflilcaaGreat

namespace Go.Proofs.YthncjilcflilcaaGreat
set_option linter.all false
open Go
structure Arn (n:Nat) (g:Gh) (w:World) (L:LL) (H:HH) (g':Gh) (a:Act) (w':World):Prop where
 ext:Ext w w'
 M:∀b o,g.M b=some o→g'.M b=some o
 Mn:∀b o,g'.M b=some o→g.M b=some o∨w.heap.size≤b
 oth:∀i b c k,g'.ρ i=some (some (b,c,k))→w.heap.size≤b
 sim:Sim g' (fun i=>H[i]?) w'
 tm:TmF g' (fun t=>L.lookup t) a.tmps
 sz:n≤a.tmps.size
 marks:∃Ds:List Nat,a.defers=Ds.map (fun D=>{ target:=.collected D,args:=#[] })∧Ds.Nodup∧∀D∈Ds,w.heap.size≤D∧w'.heap[D]?=some (.deferred (some []))
theorem Akr{P:Program}{specs:List Spec}{B:Body}{f:FuncId}{ins:StSh}{fn:Func}{Z:Type}{x:Leaf Z}(F:ins.den→Option Z)(rt0:altD B.outs→Option Z){tmps:List Tmp}{fu:Nat}{k0:List PI}
  (hrt:∀r,rt0 r=none) (hf:P.funcs[f]?=some fn) (hb:fn.body=some B.c) (hm:B.m0=0) (hnb:ins.blks=[]) (htm:tmps=List.range' 0 ins.avs.length) (hk:nrm B.c 99 [.c []]=k0)
  (hall:AllP (A0 P) specs) (hmix:P.follows .mixedOrders=true) (hn:fn.ntmps=B.n)
  (hev:∀p,ev P specs B [] [x] (some rt0) fu false k0 (stL ⟨tmps,ins⟩ p) (stH ⟨tmps,ins⟩ p)=F p)
  (p:ins.den) (z:Z) (hz:F p=some z) (g:Gh) (w:World) (vs:List Value) (hv:RepVs g (encs id ins.avs p.1) vs) (hM:∀b o,g.M b=some o→w.heap[b]?=some o) (hρ:∀i,g.ρ i=none) (R:Value→World→Prop)
  (hK:∀cs q,x.fn q=some z→∀g' a w',Arn B.n g w (stL x.sta q) (stH x.sta q) g' a w'→At P (fctx P f R cs) (x.at_.map (itm B.c)) a w'):Fn P f vs.toArray w R:=by
 have hh:∀i,hOf p.2 i=none:=fun i=>by
  unfold hOf
  rw[List.getElem?_eq_none]
  rw[Ae,hnb];exact Nat.zero_le _
 have hs:Sim g (hOf p.2) w:=⟨hM,fun i k hk=>(by rw[hh i]at hk;cases hk),fun i j ki kj b ci ni cj nj h1=>(by rw[hh i]at h1;cases h1)⟩
 have hE0:EOK0 B.m0 (fun _=>Ent (fun _=>False) B.m0 g w):=Ent.ok (fun i b c k hi e=>by rw[hρ i]at e;cases e) (fun i hi=>by omega)
 let E:EE:=fun ds g' w'=>Ent (fun _=>False) B.m0 g w g' w'∧Yv w.heap.size ds g' w'
 have hE:EOK B.m0 E:=⟨⟨fun hn hs st he=>⟨hE0.step (ds:=[]) hn hs st he.1,he.2.step hs st⟩,fun ds g w he=>⟨hE0.bump ds g w he.1,he.2⟩,fun ds g w σ he h1 h2=>⟨hE0.reb ds g w σ he.1 h1 h2,he.2⟩⟩,⟨w.heap.size,fun ds g w' he=>he.1.size,fun ds g w' D he hD=>by
   obtain⟨Ds,rfl,_,hDs⟩:=he.2
   obtain⟨D',h1,h2⟩:=List.mem_map.1 hD
   cases h2
   exact A4 (hDs D h1).2.1,fun ds g w1 w2 T he hu hT=>⟨he.1.upd hu (fun k hk=>.inl (hT k hk).1),by
   obtain⟨Ds,rfl,hn,hDs⟩:=he.2
   refine⟨Ds,rfl,hn,fun D hD=>⟨(hDs D hD).1,hu.blk (hDs D hD).2.1 (fun hk=>(hT D hk).2 (List.mem_map.2 ⟨D,hD,rfl⟩)),(hDs D hD).2.2⟩⟩⟩⟩,fun ds g w1 w2 he hu hb hM=>⟨he.1.upd hu (fun k hk=>by cases hk),by
   obtain⟨Ds,rfl,hn,hDs⟩:=he.2
   refine⟨w1.heap.size::Ds,rfl,List.nodup_cons.2 ⟨fun hk=>?_,hn⟩,fun D hD=>?_⟩
   ·have:=A4 (hDs _ hk).2.1;omega
   ·rcases List.mem_cons.1 hD with rfl | hD
    ·exact⟨he.1.size,hb,hM⟩
    ·exact⟨(hDs D hD).1,hu.blk (hDs D hD).2.1,(hDs D hD).2.2⟩⟩⟩
 have hent:E [] g w:=⟨⟨rfl,rfl,rfl,Nat.le_refl _,fun _ _ _=>rfl,fun _ _ h=>h,fun _ _ h=>.inl h,fun _ _=>rfl,fun i b c k hi e=>by
  rw[hρ i]at e;cases e⟩,[],rfl,List.nodup_nil,by simp⟩
 refine Fn.of hf hb fun cs=>?_
 have hX:CxOK true (fctx P f R cs):=fun _=>rfl
 have hret:B4 P B E (fctx P f R cs) z (some rt0):=by
  rintro f' hf' r hrz
  cases hf'
  rw[hrt r]at hrz;cases hrz
 have hleaf:Az P B.c B.n B.m0 E (fctx P f R cs) z x:=by
  intro q hq a w' hS
  obtain⟨⟨g',hs',ht',hi',he⟩,hsz,_⟩:=hS
  refine hK cs q hq g' a w' ⟨⟨he.1.os,he.1.tape,he.1.output,he.1.size,fun b hb _=>he.1.same b hb (fun h=>h)⟩,he.1.M,fun b o h=>?_,fun i b c k h=>?_,hs',ht',hsz,?_⟩
  ·rcases he.1.Mn b o h with h1 | ⟨_,h1,_⟩
   ·exact .inl h1
   ·exact .inr (h1.resolve_right (fun h=>h))
  ·exact(he.1.oth i b c k (by omega) h).resolve_right (fun h=>h)
  ·obtain⟨Ds,e,h1,h2⟩:=he.2
   exact⟨Ds,e,h1,fun D hD=>⟨(h2 D hD).1,(h2 D hD).2.1⟩⟩
 have hsound:=ev_sound hall hmix (loops:=[]) trivial hE hX (leaves:=[x]) ⟨hleaf,trivial⟩ hret fu false k0 _ _ (by rw[hev p];exact hz)
 have hlen:vs.length=ins.avs.length:=by rw[(G5 hv).1,Gu]
 have hstart:SR B.n B.m0 E (stL ⟨tmps,ins⟩ p) (stH ⟨tmps,ins⟩ p) { tmps:=vs.toArray++Array.replicate (fn.ntmps-vs.toArray.size) undef,defers:=[] } w:=by
  refine⟨⟨g,hs,fun t a ha=>?_,fun i hi=>hρ i,hent⟩,by simp;omega,by rw[hm];exact Nat.zero_le _⟩
  have ha':((List.range' 0 (encs id ins.avs p.1).length).zip (encs id ins.avs p.1)).lookup t=some a:=by
   rw[Gu,←htm];exact ha
  obtain⟨_,h3⟩:=Jk _ 0 t a ha'
  obtain⟨v,h4,h5⟩:=(G5 hv).2 t a (by simpa using h3)
  have hlt:=(List.getElem?_eq_some_iff.1 h4).1
  have:(vs.toArray++Array.replicate (fn.ntmps-vs.toArray.size) undef).getD t undef=v:=by
   rw[Array.getD_eq_getD_getElem?,Array.getElem?_append_left (by simpa using hlt)]
   simp[h4]
  rw[this];exact h5
 have:=hsound _ w hstart
 rw[←hk]at this
 have h9:=At.nrmk (c:=B.c) 99 (k:=[.c []]) this
 have e9:sub B.c []=B.c:=by cases B.c<;>rfl
 simp only[List.map_cons,List.map_nil,itm,e9]at h9
 exact h9
end Go.Proofs.YthncjilcflilcaaGreat

namespace Go.Proofs.YthncjilcflilcaaGreat
set_option linter.all false
open Go

theorem Ae3(a:Option Addr)(c:Nat)(w:World):Fn Tryz.prog 92 #[.slice a 0 c] w (fun v w'=>Ext w w'∧∃ab,Acc 3 1 w.heap.size w' v 0 [] ab):=by
 refine Fn.ofSt (c:=c118) 8 Akl [(0,.slice a 0 c)] Tryz.func92 (by kernel_rfl) ⟨⟨rfl,by kernel_rfl⟩,by kernel_rfl⟩ (by kernel_rfl) ?_
 intro cs
 refine St.reg An6 [(0,true)] (by kernel_rfl) (by kernel_rfl) ?_
 refine RX.q 1 [] [(0,.slice a 0 c)] [] (by kernel_rfl) trivial ?_
 refine RX.done [(0,.slice a 0 c)] (by kernel_rfl) (by kernel_rfl) ?_
 cases a with
 | none=>
  refine St.reg A5c [(0,true),(1,true)] (by kernel_rfl) (by kernel_rfl) ?_
  refine RX.q 2 [] [(4,.bool true)] [] (by kernel_rfl) trivial ?_
  refine RX.done [(4,.bool true)] (by kernel_rfl) (by kernel_rfl) ?_
  refine St.cond (k1:=A47) (k2:=A5d) true (by kernel_rfl) (fun _=>?_) (fun hc=>by cases hc)
  refine St.weak (L':=[]) (by kernel_rfl) ?_
  refine St.reg Am5 [(0,true)] (by kernel_rfl) (by kernel_rfl) ?_
  refine RX.q 1 [] [(2,.slice none 0 0)] [] (by kernel_rfl) trivial ?_
  refine RX.done [(2,.slice none 0 0)] (by kernel_rfl) (by kernel_rfl) ?_
  refine St.ret [.tmp 2] [.slice none 0 0] (by kernel_rfl) Tryz.func92 (by kernel_rfl) (.cons (.tmp (by kernel_rfl)) .nil) ?_
  exact⟨Upd.refl _ _,[],Acc.nil _ _ _ _⟩
 | some p=>
  refine St.reg A5c [(0,true),(1,true)] (by kernel_rfl) (by kernel_rfl) ?_
  refine RX.q 2 [] [(4,.bool false),(0,.slice (some p) 0 c)] [] (by kernel_rfl) trivial ?_
  refine RX.done [(4,.bool false),(0,.slice (some p) 0 c)] (by kernel_rfl) (by kernel_rfl) ?_
  refine St.cond (k1:=A47) (k2:=A5d) false (by kernel_rfl) (fun hc=>by cases hc) (fun _=>?_)
  refine St.weak (L':=[(0,.slice (some p) 0 c)]) (by kernel_rfl) ?_
  obtain⟨hue,hel,by_,zv,hT,hZ⟩:=Bg (P:=Tryz.prog) (t:=22) (e:=3) (y:=.int .i64) (by kernel_rfl)
  have hT:Du Tryz.prog 22 3 1 by_ zv:=hT
  refine St.reg Akh [(0,false),(1,true),(2,false),(3,true)] (by kernel_rfl) (by kernel_rfl) ?_
  refine RX.new 5 (.cells #[] 3) (.sl 0) [(0,.slice (some p) 0 c)] (by kernel_rfl) ?_
  intro b w1 hn
  have hsz:=hn.size;have hat:=hn.at_
  have hb:Blk w1 b [] 3:=hn.blk
  refine RX.q 1 [] [(5,.slice (some ⟨b,0,none⟩) 0 0),(6,.slice (some p) 0 c)] [] (by kernel_rfl) trivial ?_
  obtain⟨v',w2,ab',hr,hA,hU,-,-⟩:=append_run (P:=Tryz.prog) (u:=22) (ty:=22) (lo:=b) (lo2:=0) (w:=w1) (v:=.slice (some ⟨b,0,none⟩) 0 0) (x:=.slice (some p) 0 c) (n:=0) (m:=0) (cs:=[]) (xs:=[]) (ab:=[b]) hT (by kernel_rfl) ⟨rfl,.inr ⟨b,0,[],rfl,rfl,Nat.le_refl _,⟨Nat.le_refl _,by omega⟩,rfl,3,hb⟩⟩ ⟨some p,c,rfl,Nat.zero_le _,rfl,.inl rfl⟩ (fun _ h=>by cases h) (by omega) (by omega)
  refine RX.run 7 (Builtin.append_ #[22,22] 22 #[.slice (some ⟨b,0,none⟩) 0 0,.slice (some p) 0 c]) [(5,.slice (some ⟨b,0,none⟩) 0 0),(6,.slice (some p) 0 c)] (by kernel_rfl) hr ?_
  refine RX.q 1 [] [(2,v')] [] (by kernel_rfl) trivial ?_
  refine RX.done [(2,v')] (by kernel_rfl) (by kernel_rfl) ?_
  refine St.ret [.tmp 2] [v'] (by kernel_rfl) Tryz.func92 (by kernel_rfl) (.cons (.tmp (by kernel_rfl)) .nil) ?_
  rw[hat]at hA
  refine⟨?_,ab',hA⟩
  exact(hn.ext.trans_old hU (fun k hk=>by simp at hk;subst hk;omega))
def Ej(_N:Nat)(s:Li):Option Li:=lim s.length (some s)
noncomputable def A2j(N:Nat):Spec:={ f:=92,ins:=⟨[shL],[]⟩,outs:=[⟨[.ols 0],[.lst (.int .i64)]⟩],run:=fun p k=>(Ej N p.1.1).bind fun r=>k (((),()),(r,())) }
theorem A56(N:Nat):A0 Tryz.prog (A2j N):=by
 refine⟨fun Z p κ=>?_,fun args w=>Sem.pv_run _ _ _ (by kernel_rfl) w,fun p r hpr g w vs hv hs hρ=>?_⟩
 ·show((Ej N p.1.1).bind _)=((Ej N p.1.1).bind _).bind κ
  cases Ej N p.1.1<;>rfl
 ·obtain⟨⟨(l:Li),⟨⟩⟩,⟨⟩⟩:=p
  have hpr':(lim l.length (some l)).bind (fun r:Li=>some ((((),()),(r,())):(Unit×Unit)×(Li×Unit)))=some r:=hpr
  by_cases h:l=[]
  ·subst h
   simp only[encs,enc,RepVs,RepV]at hv
   have e:((((),()),(([]:Li),())):(Unit×Unit)×(Li×Unit))=r:=Option.some.inj hpr'
   subst e
   obtain⟨v,us,rfl,hv,rfl⟩:=hv
   obtain⟨_,a,c,rfl,_⟩:=hv
   refine Fn.mono (Ae3 a c w) ?_
   rintro v' w' ⟨hE,ab,h1,h2⟩
   refine Ag6 (y:=.int .i64) (l:=[]) hs (fun i=>hρ i (Nat.zero_le _)) hE (Nat.zero_le _) ?_
   rcases h2 with⟨rfl,_,_⟩ | ⟨b,cap,rest,rfl,_,h3,h4,h5,ty,h6⟩
   ·exact .inl ⟨rfl,rfl⟩
   ·exact .inr ⟨b,cap,[],rest,ty,rfl,h3,h6,rfl,h4,h5⟩
  ·refine(Jo N).fn ((l,()),()) r ?_ g w vs hv hs hρ
   show((Ep N l).bind fun r=>some (((),()),(r,())))=some r
   unfold Ep
   rw[Av (by simp[h])]
   simpa using hpr'
end Go.Proofs.YthncjilcflilcaaGreat

namespace Go.Proofs.YthncjilcflilcaaGreat
set_option linter.all false
open Go

def A2w(N:Nat)(found trait value g out:Int)(out2:Li)(out3 out4:Ll)(out5:Li):Option (Int×Int×Int×Int×Int×Li×Ll×Ll×Li):=
 some (found,trait,value,g,out,out2,out3,out4,out5)
def Gq(N:Nat)(d:Li)(d2:Int)(d3 d4:Ll)(d5:Li)(found trait value:Int):Option (Int×Int×Int×Int×Int×Li×Ll×Ll×Li):=
 (Ej N d).bind fun x_1=>
 grd (lmI (d3.length:Int))<|
 grd (lmI (d4.length:Int))<|
 (Ej N d5).bind fun x_2=>
 A2w N found trait value 0 d2 x_1 (d3.take (min d3.length (List.replicate (d3.length:Int).toNat ([]:Li)).length)++(List.replicate (d3.length:Int).toNat ([]:Li)).drop (min d3.length (List.replicate (d3.length:Int).toNat ([]:Li)).length)) (d4.take (min d4.length (List.replicate (d4.length:Int).toNat ([]:Li)).length)++(List.replicate (d4.length:Int).toNat ([]:Li)).drop (min d4.length (List.replicate (d4.length:Int).toNat ([]:Li)).length)) x_2

noncomputable def So(N:Nat):List Spec:=[A2j N]
theorem Aco(N:Nat):AllP (A0 Tryz.prog) (So N):=⟨A56 N,trivial⟩
noncomputable def Akw:Code:=(Tryz.f63.body).getD .skip
noncomputable abbrev R9:Body:={ c:=Akw,n:=72,res:=[.cell 8 25],outs:=[⟨[],[]⟩],m0:=0 }
abbrev A2q:altD R9.outs→Option (Int×Int×Int×Int×Int×Li×Ll×Ll×Li):=fun _=>none
abbrev A6i:List PI:=[.c [1,1,1,1,0,0],.c [1,1,1,1,0,1],.c [1,1,1,1,1]]
abbrev Pd:Sta:=⟨[1,2,3,8,9],⟨[shI,shI,shI,.own 0 0,.own 1 0],[.segs [.nils,shI,.nils,.nils,.nils],.segs [.ols 2,shI,.ols 3,.ols 4,.ols 5],.lst (.int .i64),.lst (.sl (.int .i64)),.lst (.sl (.int .i64)),.lst (.int .i64)]⟩⟩
abbrev Kx(N:Nat):Leaf (Int×Int×Int×Int×Int×Li×Ll×Ll×Li):=⟨A6i,Pd,fun p=>A2w N p.1.1 p.1.2.1 p.1.2.2.1 p.2.1.2.1 p.2.2.1.2.1 p.2.2.2.1 p.2.2.2.2.1 p.2.2.2.2.2.1 p.2.2.2.2.2.2.1⟩
abbrev A35:Sta:=⟨[0,1,2,3],⟨[shG,shI,shI,shI],[]⟩⟩
theorem Ajf(N:Nat)(d:Li)(d2:Int)(d3:Ll)(d4:Ll)(d5:Li)(found:Int)(trait:Int)(value:Int):ev (Z:=Int×Int×Int×Int×Int×Li×Ll×Ll×Li) Tryz.prog (So N) R9 [] [Kx N] (some A2q) 400 false [.c [0],.c [1]] (stL A35 (((d,d2,d3,d4,d5,()),found,trait,value,()),())) (stH A35 (((d,d2,d3,d4,d5,()),found,trait,value,()),()))=Gq N d d2 d3 d4 d5 found trait value:=by kernel_rfl

def A9z(N:Nat)(found trait value:Int)(d:Li)(d2:Int)(d3 d4:Ll)(d5:Li)(g:Int):Option (Int×Int×Int×Li×Int×Ll×Ll×Li×Int):=
 some (found,trait,value,d,d2,d3,d4,d5,g)
def withp_S(N:Nat)(d:Li)(d2:Int)(d3 d4:Ll)(d5:Li)(found trait value:Int):Option (Int×Int×Int×Li×Int×Ll×Ll×Li×Int):=
 ((Aw N d d2 d3 d4 d5).bind fun e=>match e with
 | .inl (x_1,y_2)=>
  (br (!decide (y_2=0))
   (none)
   ((Cp N x_1 found).bind fun x_3=>
   br (!x_3)
    (none)
    (chk ((d.length:Int)-1)<|
    (Gi N trait 0 ((d.length:Int)-1)).bind fun x_4=>
    br (!x_4)
     (none)
     (idx d4 found fun x_5=>
     idx x_5 trait fun x_6=>
     br (!decide (x_6=-1))
      (none)
      ((Gi N value 0 5).bind fun x_7=>
      br (!x_7)
       (none)
       (A9z N found trait value d d2 d3 d4 d5 0))))))
 | .inr x_8=>
  (br (!decide (x_8=0))
   (none)
   (none)))

noncomputable def Zk(N:Nat):List Spec:=[Ams N,A1t N,A20 N]
theorem Aia(N:Nat):AllP (A0 Tryz.prog) (Zk N):=⟨Cf N,Aj N,Ch N,trivial⟩
noncomputable def W9:Code:=(Tryz.f40.body).getD .skip
noncomputable abbrev Wj:Body:={ c:=W9,n:=58,res:=[.cell 8 25,.tmp 9],outs:=[⟨[],[]⟩],m0:=0 }
abbrev A9s:altD Wj.outs→Option (Int×Int×Int×Li×Int×Ll×Ll×Li×Int):=fun _=>none
abbrev A70:List PI:=[.c [1,1,1,0],.c [1,1,1,1]]
abbrev A7x:Sta:=⟨[1,2,3,4,8],⟨[shI,shI,shI,.own 0 0,.own 1 0],[.segs [shL,shI,shQ,shQ,shL],.segs [.nils,shI,.nils,.nils,.nils]]⟩⟩
abbrev Ox(N:Nat):Leaf (Int×Int×Int×Li×Int×Ll×Ll×Li×Int):=⟨A70,A7x,fun p=>A9z N p.1.1 p.1.2.1 p.1.2.2.1 p.2.1.1 p.2.1.2.1 p.2.1.2.2.1 p.2.1.2.2.2.1 p.2.1.2.2.2.2.1 p.2.2.1.2.1⟩
abbrev A79:Sta:=⟨[0,1,2,3],⟨[shG,shI,shI,shI],[]⟩⟩
theorem Ang(N:Nat)(d:Li)(d2:Int)(d3:Ll)(d4:Ll)(d5:Li)(found:Int)(trait:Int)(value:Int):ev (Z:=Int×Int×Int×Li×Int×Ll×Ll×Li×Int) Tryz.prog (Zk N) Wj [] [Ox N] (some A9s) 400 false [.c [0],.c [1]] (stL A79 (((d,d2,d3,d4,d5,()),found,trait,value,()),())) (stH A79 (((d,d2,d3,d4,d5,()),found,trait,value,()),()))=withp_S N d d2 d3 d4 d5 found trait value:=by kernel_rfl

end Go.Proofs.YthncjilcflilcaaGreat

namespace Go.Proofs.YthncjilcflilcaaGreat
set_option linter.all false
open Go
def HI(w:World)(lo mid:Nat)(outs:List Nat)(l:List Int)(v:Value):Prop:=(l=[]∧∃a c,v=.slice a 0 c)∨∃b c rest ty,v=.slice (some ⟨b,0,none⟩) l.length c∧l≠[]∧(lo≤b∧b<mid)∧b∉outs∧(l.length≤c∧l.length≤1000000)∧(∀x∈l,inR .i64 x)∧Blk w b (l.map (.int .i64)++rest) ty
def HR(w:World)(lo mid:Nat)(outs:List Nat)(l:List (List Int))(v:Value):Prop:=(l=[]∧∃a c,v=.slice a 0 c)∨∃b c,v=.slice (some ⟨b,0,none⟩) l.length c∧l≠[]∧(lo≤b∧b<mid)∧b∈outs∧(l.length≤c∧l.length≤1000000)∧I2 w mid l b
structure OwnD (lo:Nat) (w:World) (W:List Int) (s:Int) (L F:List (List Int)) (R:List Int) (vW vL vF vR:Value):Prop where
 ex:∃mid outs,lo≤mid∧mid≤w.heap.size∧HI w lo mid outs W vW∧HR w lo mid outs L vL∧HR w lo mid outs F vF∧HI w lo mid outs R vR∧(L≠[]→F≠[]→blkN vL≠blkN vF)
 s:inR .i64 s
theorem CR.same{w w':World}{lo:Nat}{r:List Int}{v:Value}(h:CR w lo r v)(hb:∀b cs ty,Blk w b cs ty→Blk w' b cs ty):CR w' lo r v:=by
 obtain⟨b,c,rest,ty,rfl,h1,h2,h3,h4,h5⟩:=h
 exact⟨b,c,rest,ty,rfl,h1,h2,h3,h4,hb _ _ _ h5⟩
theorem HI.same{w w':World}{lo mid:Nat}{outs:List Nat}{l:List Int}{v:Value}(h:HI w lo mid outs l v)(hb:∀b cs ty,Blk w b cs ty→Blk w' b cs ty):HI w' lo mid outs l v:=by
 rcases h with h | ⟨b,c,rest,ty,h1,h2,h3,h4,h5,h6,h7⟩
 ·exact .inl h
 ·exact .inr ⟨b,c,rest,ty,h1,h2,h3,h4,h5,h6,hb _ _ _ h7⟩
theorem HR.same{w w':World}{lo mid:Nat}{outs:List Nat}{l:List (List Int)}{v:Value}(h:HR w lo mid outs l v)(hb:∀b cs ty,Blk w b cs ty→Blk w' b cs ty):HR w' lo mid outs l v:=by
 rcases h with h | ⟨b,c,h1,h2,h3,h4,h5,vs,rest,ty,h6,h7,h8⟩
 ·exact .inl h
 ·exact .inr ⟨b,c,h1,h2,h3,h4,h5,vs,rest,ty,hb _ _ _ h6,h7,fun j hj=>(h8 j hj).same hb⟩
theorem OwnD.same{lo:Nat}{w w':World}{W:List Int}{s:Int}{L F:List (List Int)}{R:List Int}{vW vL vF vR:Value}(h:OwnD lo w W s L F R vW vL vF vR)(hs:w.heap.size≤w'.heap.size)(hb:∀b cs ty,Blk w b cs ty→Blk w' b cs ty):OwnD lo w' W s L F R vW vL vF vR:=by
 obtain⟨⟨mid,outs,h1,h2,h3,h4,h5,h6,h7⟩,h8⟩:=h
 exact⟨⟨mid,outs,h1,by omega,h3.same hb,h4.same hb,h5.same hb,h6.same hb,h7⟩,h8⟩
theorem HI.upd{w w':World}{lo mid:Nat}{outs T:List Nat}{l:List Int}{v:Value}(h:HI w lo mid outs l v)(hu:Upd T w w')(hT:∀k∈T,k∈outs∨∀cs ty,¬Blk w k cs ty):HI w' lo mid outs l v:=by
 rcases h with h | ⟨b,c,rest,ty,h1,h2,h3,h4,h5,h6,h7⟩
 ·exact .inl h
 ·exact .inr ⟨b,c,rest,ty,h1,h2,h3,h4,h5,h6,hu.blk h7 (fun hk=>by
   rcases hT b hk with h | h
   ·exact h4 h
   ·exact h _ _ h7)⟩
theorem HR.upd{w w':World}{lo mid:Nat}{outs T:List Nat}{l:List (List Int)}{v:Value}(h:HR w lo mid outs l v)(hu:Upd T w w')(hT:∀k∈T,(k<mid∧k≠blkN v)∨∀cs ty,¬Blk w k cs ty):HR w' lo mid outs l v:=by
 rcases h with h | ⟨b,c,h1,h2,h3,h4,h5,vs,rest,ty,h6,h7,h8⟩
 ·exact .inl h
 ·refine .inr ⟨b,c,h1,h2,h3,h4,h5,vs,rest,ty,hu.blk h6 (fun hk=>?_),h7,fun j hj=>(h8 j hj).upd hu (fun hk=>?_)⟩
  ·rcases hT b hk with h | h
   ·exact h.2 (by rw[h1];rfl)
   ·exact h _ _ h6
  ·have h9:=(h8 j hj).lt
   rcases hT _ hk with h | h
   ·omega
   ·obtain⟨b',c',rest',ty',e,_,_,_,_,hB⟩:=h8 j hj
    rw[e]at h
    exact h _ _ hB
theorem Afr{g:Gh}{w:World}{y:Ty}{i:Nat}{l:List y.den}{v:Value}(hv:RepV g (.ols i) v)(hb:RepBlk g w i (.lst y l)):l.length≤1000000∧((l=[]∧∃a c,v=.slice a 0 c) ∨
  (l≠[]∧∃b c vs rest ty,v=.slice (some ⟨b,0,none⟩) l.length c∧g.ρ i=some (some (b,c,l.length))∧g.M b=none∧Blk w b (vs++rest) ty∧RepL g.M y l vs∧l.length≤c)):=by
 obtain⟨hn,⟨e,h0⟩ | ⟨b,c,vs,rest,ty,e,h1,h2,⟨h3,_⟩,_,h5⟩⟩:=hb
 ·refine⟨hn,.inl ⟨h0,?_⟩⟩
  rcases hv with⟨_,rfl⟩ | ⟨_,_,_,e2,_⟩
  ·exact⟨none,0,rfl⟩
  ·rw[e]at e2;cases e2
 ·refine⟨hn,?_⟩
  rcases hv with⟨e2,_⟩ | ⟨_,_,_,e2,rfl⟩
  ·rw[e]at e2;cases e2
  ·rw[e]at e2;cases e2
   by_cases h0:l=[]
   ·exact .inl ⟨h0,_,c,by rw[h0];rfl⟩
   ·exact .inr ⟨h0,b,c,vs,rest,ty,rfl,e,h5,h1,h2,h3⟩
theorem HI.shape{w:World}{lo mid:Nat}{outs:List Nat}{l:List Int}{v:Value}(h:HI w lo mid outs l v):∃a c,v=.slice a l.length c:=by
 rcases h with⟨rfl,a,c,e⟩ | ⟨b,c,_,_,e,_⟩
 ·exact⟨a,c,e⟩
 ·exact⟨_,c,e⟩
theorem I5{w:World}{b D:Nat}{cs:List Value}{ty:TypeId}{x:Option (List Deferred)}(h:Blk w b cs ty)(hD:w.heap[D]?=some (.deferred x)):b≠D:=by
 rintro rfl
 have h:w.heap[b]?=some (.cells cs.toArray ty (0,0)):=h
 rw[hD]at h;cases h
set_option maxHeartbeats 1000000 in
theorem Ah1{N:Nat}{W:List Int}{s:Int}{L F:List (List Int)}{R:List Int}{f t:Nat}{va:Int}(hq:Gq N W s L F R f t va=some ((f:Int),(t:Int),va,0,s,W,L,F,R))(hL:∀r∈L,r≠[]∧r.length≤1000000)(hF:∀r∈F,r≠[]∧r.length≤1000000)
  (hf:f<F.length) (ht:t<(F.getD f []).length) (g:Gh) (hρ:∀i,g.ρ i=none) (w:World) (hM:∀b o,g.M b=some o→w.heap[b]?=some o) (vd:Value) (hvd:RepV g (enc id shG (W,s,L,F,R,())) vd) (hfi:inR .i64 (f:Int)) (hti:inR .i64 (t:Int)) (hva:inR .i64 va) :
  Fn Tryz.prog 63 #[vd,.int .i64 (f:Int),.int .i64 (t:Int),.int .i64 va] w (fun v w'=>Ext w w'∧∃vW vL vF vR,v=.agg #[vW,.int .i64 s,vL,vF,vR]∧OwnD w.heap.size w' W s L (F.set f ((F.getD f []).set t va)) R vW vL vF vR):=by
 refine Akr (B:=R9) (x:=Kx N) (ins:=⟨[shG,shI,shI,shI],[]⟩) (specs:=So N) (tmps:=[0,1,2,3]) (fu:=400) (fun p=>Gq N p.1.1.1 p.1.1.2.1 p.1.1.2.2.1 p.1.1.2.2.2.1 p.1.1.2.2.2.2.1 p.1.2.1 p.1.2.2.1 p.1.2.2.2.1) A2q (fun _=>rfl) Tryz.func63 (by kernel_rfl) rfl rfl rfl (by kernel_rfl) (Aco N) mixed (by kernel_rfl) (fun p=>Ajf N p.1.1.1 p.1.1.2.1 p.1.1.2.2.1 p.1.1.2.2.2.1 p.1.1.2.2.2.2.1 p.1.2.1 p.1.2.2.1 p.1.2.2.2.1)
  (((W,s,L,F,R,()),(f:Int),(t:Int),va,()),()) _ hq g w [vd,.int .i64 (f:Int),.int .i64 (t:Int),.int .i64 va] ⟨_,_,rfl,hvd,_,_,rfl,⟨rfl,hfi⟩,_,_,rfl,⟨rfl,hti⟩,_,_,rfl,⟨rfl,hva⟩,rfl⟩ hM hρ _ ?_
 rintro cs ⟨⟨fo,tr,va',u1,u2,u3⟩,⟨u4,g0,u5,u6,u7,u8⟩,⟨u9,s',u10,u11,u12,u13⟩,W',L',F',R',u14⟩ hq2 g' a w' hr
 have hq2:some (fo,tr,va',g0,s',W',L',F',R')=some ((f:Int),(t:Int),va,(0:Int),s,W,L,F,R):=hq2
 cases hq2
 have h1:RepV g' (.i .i64 f) (a.tmps.getD 1 undef):=hr.tm 1 _ rfl
 have h2:RepV g' (.i .i64 t) (a.tmps.getD 2 undef):=hr.tm 2 _ rfl
 have h3:RepV g' (.i .i64 va) (a.tmps.getD 3 undef):=hr.tm 3 _ rfl
 have h8:RepV g' (.own 0 0) (a.tmps.getD 8 undef):=hr.tm 8 _ rfl
 have h9:RepV g' (.own 1 0) (a.tmps.getD 9 undef):=hr.tm 9 _ rfl
 have hB0:RepBlk g' w' 0 (.segs [.nils,.i .i64 0,.nils,.nils,.nils]):=hr.sim.blk 0 _ rfl
 have hB1:RepBlk g' w' 1 (.segs [.ols 2,.i .i64 s,.ols 3,.ols 4,.ols 5]):=hr.sim.blk 1 _ rfl
 have hB2:RepBlk g' w' 2 (.lst (.int .i64) W):=hr.sim.blk 2 _ rfl
 have hB3:RepBlk g' w' 3 (.lst (.sl (.int .i64)) L):=hr.sim.blk 3 _ rfl
 have hB4:RepBlk g' w' 4 (.lst (.sl (.int .i64)) F):=hr.sim.blk 4 _ rfl
 have hB5:RepBlk g' w' 5 (.lst (.int .i64) R):=hr.sim.blk 5 _ rfl
 have hdis:∀i j b ci ni cj nj,i<6→j<6→g'.ρ i=some (some (b,ci,ni))→g'.ρ j=some (some (b,cj,nj))→i=j:=fun i j b ci ni cj nj hi hj e1 e2=>by
  have hk:∀i,i<6→∃k,(stH Pd (((f:Int),(t:Int),va,u1,u2,u3),(u4,0,u5,u6,u7,u8),(u9,s,u10,u11,u12,u13),W,L,F,R,u14))[i]?=some k∧k.mut=true:=fun i hi=>by
   match i,hi with
   | 0,_=>exact⟨_,rfl,rfl⟩
   | 1,_=>exact⟨_,rfl,rfl⟩
   | 2,_=>exact⟨_,rfl,rfl⟩
   | 3,_=>exact⟨_,rfl,rfl⟩
   | 4,_=>exact⟨_,rfl,rfl⟩
   | 5,_=>exact⟨_,rfl,rfl⟩
  obtain⟨ki,x1,x2⟩:=hk i hi
  obtain⟨kj,y1,y2⟩:=hk j hj
  exact hr.sim.inj i j ki kj b ci ni cj nj x1 y1 x2 y2 e1 e2
 simp only[RepV]at h1 h2 h3 h8 h9
 obtain⟨b0,c0,n0,us0,ty0,e0,hb0,hp0,hm0⟩:=hB0
 obtain⟨b1,c1,n1,us1,ty1,e1,hb1,hp1,hm1⟩:=hB1
 obtain⟨_,_,_,e8,h8⟩:=h8
 rw[e0]at e8;cases e8
 obtain⟨_,_,_,e9,h9⟩:=h9
 rw[e1]at e9;cases e9
 simp only[A5,PartOf]at hp0 hp1
 obtain⟨_,_,rfl,⟨z1,rfl,-⟩,_,_,rfl,⟨z2,rfl,-⟩,_,_,rfl,⟨z3,rfl,-⟩,_,_,rfl,⟨z4,rfl,-⟩,_,_,rfl,⟨z5,rfl,-⟩,rfl⟩:=hp0
 obtain⟨_,_,rfl,⟨vW,rfl,hvW⟩,_,_,rfl,⟨vs_,rfl,hvs⟩,_,_,rfl,⟨vL,rfl,hvL⟩,_,_,rfl,⟨vF,rfl,hvF⟩,_,_,rfl,⟨vR,rfl,hvR⟩,rfl⟩:=hp1
 simp only[RepV]at hvs
 obtain⟨rfl,hsi⟩:=hvs
 have hb0:Blk w' b0 [z1,z2,z3,z4,z5] ty0:=hb0
 have hb1:Blk w' b1 [vW,.int .i64 s,vL,vF,vR] ty1:=hb1
 obtain⟨hWn,hW⟩:=Afr hvW hB2
 obtain⟨hLn,hLo⟩:=Afr hvL hB3
 obtain⟨hFn,hFo⟩:=Afr hvF hB4
 obtain⟨hRn,hRo⟩:=Afr hvR hB5
 obtain⟨hF0,_⟩ | ⟨hF0,b3,c3,vs3,rest3,ty3,rfl,e4,hm4,hb3,hR3,hc3⟩:=hFo
 ·rw[hF0]at hf;simp at hf
 obtain⟨a2,c2,b2,S2,rfl,hL2,hL2n,hS2,hL2c⟩:∃(a2:Option Addr) (c2 b2:Nat) (S2:List Nat),vL=.slice a2 L.length c2∧(L≠[]→S2=[b2]∧b2≠b3∧a2=some ⟨b2,0,none⟩∧∃vs0 rest ty,Blk w' b2 (vs0++rest) ty∧RepL g'.M (.sl (.int .i64)) L vs0)∧(L=[]→S2=[]) ∧
   (∀b∈S2,g'.M b=none∧∃c n,g'.ρ 3=some (some (b,c,n)))∧(L≠[]→L.length≤c2):=by
  obtain⟨hL0,a,c,rfl⟩ | ⟨hL0,b2,c2,vs2,rest2,ty2,rfl,e3,hm3,hb2,hR2,hc2⟩:=hLo
  ·exact⟨a,c,0,[],by rw[hL0];rfl,fun h=>absurd hL0 h,fun _=>rfl,fun b hb=>(by cases hb),fun h=>absurd hL0 h⟩
  ·refine⟨_,c2,b2,[b2],rfl,fun _=>⟨rfl,fun e=>?_,rfl,vs2,rest2,ty2,hb2,hR2⟩,fun h=>absurd h hL0,fun b hb=>?_,fun _=>hc2⟩
   ·subst e
    have:=hdis 3 4 _ _ _ _ _ (by omega) (by omega) e3 e4
    omega
   ·simp only[List.mem_singleton]at hb
    subst hb
    exact⟨hm3,_,_,e3⟩
 have hlt1:=A4 hb1
 have hSid:∀b∈S2++[b3],g'.M b=none∧∃i c n,(i=3∨i=4)∧g'.ρ i=some (some (b,c,n)):=fun b hb=>by
  rcases List.mem_append.1 hb with h | h
  ·obtain⟨x,c,n,y⟩:=hS2 b h
   exact⟨x,3,c,n,.inl rfl,y⟩
  ·simp only[List.mem_singleton]at h
   subst h
   exact⟨hm4,4,_,_,.inr rfl,e4⟩
 have hoff:∀i b c n,(i<3∨i=5)→g'.ρ i=some (some (b,c,n))→b∉S2++[b3]:=fun i b c n hi e h=>by
  obtain⟨_,j,c',n',hj,e'⟩:=hSid _ h
  have:=hdis i j _ _ _ _ _ (by omega) (by omega) e e'
  omega
 have h0S:b0∉S2++[b3]:=hoff 0 _ _ _ (by omega) e0
 have h1S:b1∉S2++[b3]:=hoff 1 _ _ _ (by omega) e1
 have h01:b0≠b1:=fun e=>by
  subst e
  have:=hdis 0 1 _ _ _ _ _ (by omega) (by omega) e0 e1
  omega
 have hMw:∀b o,g'.M b=some o→b∉S2++[b3]∧w'.heap[b]?=some o:=fun b o h=>⟨fun hb=>(by rw[(hSid b hb).1]at h;cases h),hr.sim.mem b o h⟩
 have hHI:∀ {i:Nat} {l:List Int} {v:Value},(i=2∨i=5)→l.length≤1000000→((l=[]∧∃a c,v=.slice a 0 c)∨(l≠[]∧∃b c vs rest ty,v=.slice (some ⟨b,0,none⟩) l.length c∧g'.ρ i=some (some (b,c,l.length))∧g'.M b=none∧Blk w' b (vs++rest) ty∧RepL g'.M (.int .i64) l vs∧l.length≤c))→HI w' w.heap.size w'.heap.size (b0::(S2++[b3])) l v:=by
  intro i l v hi hn h
  rcases h with h | ⟨h0,b,c,vs,rest,ty,e,e2,_,hB,hR,hc⟩
  ·exact .inl h
  ·obtain⟨rfl,hin⟩:=(Nb _ _).1 hR
   exact .inr ⟨b,c,rest,ty,e,h0,⟨hr.oth _ _ _ _ e2,A4 hB⟩,fun hk=>by
    rcases List.mem_cons.1 hk with e3 | hk
    ·subst e3
     have:=hdis i 0 _ _ _ _ _ (by omega) (by omega) e2 e0
     omega
    ·exact hoff i _ _ _ (by omega) e2 hk,⟨hc,hn⟩,hin,hB⟩
 have hHW:=hHI (.inl rfl) hWn hW
 have hHR:=hHI (.inr rfl) hRn hRo
 obtain⟨aW,cW,rfl⟩:=hHW.shape
 obtain⟨aR,cR,rfl⟩:=hHR.shape
 obtain⟨Ds,hds,hnd,hDs⟩:=hr.marks
 have hwalk:=Zc (X:=fctx Tryz.prog 63 (fun v w'=>Ext w w'∧∃vW vL vF vR,v=.agg #[vW,.int .i64 s,vL,vF,vR]∧OwnD w.heap.size w' W s L (F.set f ((F.getD f []).set t va)) R vW vL vF vR) cs) (df:=a.defers) (M:=g'.M) a2 c2 c3 b0 b1 b2 b3 f t va L F vs3 rest3 ty3 S2 w' hMw h1S hlt1 hL2 hL2n hb3 hR3 hLn hFn hL hF hf ht hva (Blk.cell hb1 rfl) (Blk.cell hb1 rfl) (fun w2 hu hRL hRF=>?_)
 ·have e:(Kx N).at_.map (itm R9.c)=Am4:=by kernel_rfl
  rw[e]
  refine St.toAt (tm:=a.tmps) hwalk ⟨hr.sz,N2 _ (fun x hx=>?_)⟩
  simp only[List.mem_cons,List.not_mem_nil,or_false]at hx
  rcases hx with rfl | rfl | rfl | rfl | rfl
  ·exact h1.1
  ·exact h2.1
  ·exact h3.1
  ·exact h8
  ·exact h9
 ·have hb1':=hu.blk hb1 h1S
  have hb0':=hu.blk hb0 h0S
  rw[hds]
  refine St.reg [.code (sub c81 [1,1,1,1,1,1,1])] [(0,true),(1,false)] (by kernel_rfl) (by kernel_rfl) ?_
  refine RX.q 1 [(0,true,.agg #[.slice aW W.length cW,.int .i64 s,.slice a2 L.length c2,.slice (some ⟨b3,0,none⟩) F.length c3,.slice aR R.length cR])] [(71,.agg #[.slice aW W.length cW,.int .i64 s,.slice a2 L.length c2,.slice (some ⟨b3,0,none⟩) F.length c3,.slice aR R.length cR]),(8,.pointer (some ⟨b0,0,none⟩))] [.cells ⟨b1,0,none⟩ [.slice aW W.length cW,.int .i64 s,.slice a2 L.length c2,.slice (some ⟨b3,0,none⟩) F.length c3,.slice aR R.length cR]] (by kernel_rfl) (Seg.row hb1' (fun j u hj=>by rw[Nat.zero_add];exact hj)) ?_
  refine RX.store b0 0 [.slice aW W.length cW,.int .i64 s,.slice a2 L.length c2,.slice (some ⟨b3,0,none⟩) F.length c3,.slice aR R.length cR] [z1,z2,z3,z4,z5] [.slice aW W.length cW,.int .i64 s,.slice a2 L.length c2,.slice (some ⟨b3,0,none⟩) F.length c3,.slice aR R.length cR] ty0 (by kernel_rfl) rfl hb0' (by kernel_rfl) rfl ?_
  intro w3 hp
  refine RX.done [(8,.pointer (some ⟨b0,0,none⟩))] (by kernel_rfl) (by kernel_rfl) ?_
  have hD2:∀D∈Ds,w2.heap[D]?=some (.deferred (some [])):=fun D hD=>hu.blk (hDs D hD).2 (fun hk=>by
   obtain⟨_,i,c,n,hi,e⟩:=hSid D hk
   rcases hi with rfl | rfl
   ·by_cases hL0:L=[]
    ·rw[hL2n hL0]at hk
     simp only[List.nil_append,List.mem_singleton]at hk
     exact I5 hb3 (hDs D hD).2 hk.symm
    ·obtain⟨x1,x2,x3,vs0,r0,t0,x4,_⟩:=hL2 hL0
     rw[x1]at hk
     rcases List.mem_append.1 hk with hk | hk<;>simp only[List.mem_singleton]at hk
     ·exact I5 x4 (hDs D hD).2 hk.symm
     ·exact I5 hb3 (hDs D hD).2 hk.symm
   ·by_cases hL0:L=[]
    ·rw[hL2n hL0]at hk
     simp only[List.nil_append,List.mem_singleton]at hk
     exact I5 hb3 (hDs D hD).2 hk.symm
    ·obtain⟨x1,x2,x3,vs0,r0,t0,x4,_⟩:=hL2 hL0
     rw[x1]at hk
     rcases List.mem_append.1 hk with hk | hk<;>simp only[List.mem_singleton]at hk
     ·exact I5 x4 (hDs D hD).2 hk.symm
     ·exact I5 hb3 (hDs D hD).2 hk.symm)
  have hD3:∀D∈Ds,w3.heap[D]?=some (.deferred (some [])):=fun D hD=>hp.upd.blk (hD2 D hD) (fun hk=>by
   simp only[List.mem_singleton]at hk
   exact I5 hb0' (hD2 D hD) hk.symm)
  refine St.retMarks Ds [.cell 8 25] [.agg #[.slice aW W.length cW,.int .i64 s,.slice a2 L.length c2,.slice (some ⟨b3,0,none⟩) F.length c3,.slice aR R.length cR]] (by kernel_rfl) Tryz.func63 (by kernel_rfl) hnd hD3 (fun w4 hu4 hs4=>?_)
  have hb4:=hu4.blk hp.blk (fun hk=>by
   have h:=hD3 _ hk
   rw[hp.blk]at h;cases h)
  refine⟨.cons (.cells (p:=⟨b0,0,none⟩) (by kernel_rfl) (by kernel_rfl) (by kernel_rfl) (Seg.row hb4 (fun j u hj=>by rw[Nat.zero_add];exact hj))) .nil,?_,_,_,_,_,rfl,?_⟩
  ·refine((hr.ext.trans_old hu (fun k hk=>?_)).trans_old hp.upd (fun k hk=>?_)).trans_old hu4 (fun k hk=>(hDs k hk).1)
   ·obtain⟨_,i,c,n,_,e⟩:=hSid k hk
    exact hr.oth _ _ _ _ e
   ·simp only[List.mem_singleton]at hk
    subst hk
    exact hr.oth _ _ _ _ e0
  ·have nB:∀k∈Ds,∀cs ty,¬Blk w3 k cs ty:=fun k hk cs ty h=>I5 h (hD3 k hk) rfl
   have up1:∀ {l v},HI w' w.heap.size w'.heap.size (b0::(S2++[b3])) l v→HI w4 w.heap.size w'.heap.size (b0::(S2++[b3])) l v:=fun h=>
    ((h.upd hu (fun k hk=>.inl (List.mem_cons_of_mem _ hk))).upd hp.upd (fun k hk=>.inl (by simp only[List.mem_singleton]at hk;subst hk;exact List.mem_cons_self))).upd hu4 (fun k hk=>.inr (nB k hk))
   have h03:b0≠b3:=fun e=>h0S (by rw[e];simp)
   have hsz:=hu.size;have hsz3:=hp.size;have hsz4:=hu4.size
   have hlt0:=A4 hb0
   have hoL:∀b∈S2++[b3],w.heap.size≤b∧b<w'.heap.size:=fun b hb=>by
    obtain⟨_,i,c,n,hi,e⟩:=hSid b hb
    refine⟨hr.oth _ _ _ _ e,?_⟩
    by_cases hL0:L=[]
    ·rw[hL2n hL0]at hb
     simp only[List.nil_append,List.mem_singleton]at hb
     subst hb;exact A4 hb3
    ·obtain⟨x1,x2,x3,vs0,r0,t0,x4,_⟩:=hL2 hL0
     rw[x1]at hb
     rcases List.mem_append.1 hb with hb | hb<;>simp only[List.mem_singleton]at hb<;>subst hb
     ·exact A4 x4
     ·exact A4 hb3
   refine⟨⟨w'.heap.size,b0::(S2++[b3]),hr.ext.size,by omega,up1 hHW,?_,?_,up1 hHR,fun hL0 _=>?_⟩,hsi⟩
   ·by_cases hL0:L=[]
    ·exact .inl ⟨hL0,a2,c2,by rw[hL0];rfl⟩
    ·obtain⟨x1,x2,rfl,x4⟩:=hL2 hL0
     have hm:b2∈S2++[b3]:=by rw[x1];simp
     have h:HR w2 w.heap.size w'.heap.size (b0::(S2++[b3])) L (.slice (some ⟨b2,0,none⟩) L.length c2):=.inr ⟨b2,c2,rfl,hL0,hoL b2 hm,List.mem_cons_of_mem _ hm,⟨hL2c hL0,hLn⟩,hRL hL0⟩
     refine(h.upd hp.upd (fun k hk=>.inl ?_)).upd hu4 (fun k hk=>.inr (nB k hk))
     simp only[List.mem_singleton]at hk
     subst hk
     exact⟨hlt0,fun e=>h0S (by rw[show k=b2 from e];exact hm)⟩
   ·have hm:b3∈S2++[b3]:=by simp
    have h:HR w2 w.heap.size w'.heap.size (b0::(S2++[b3])) (F.set f ((F.getD f []).set t va)) (.slice (some ⟨b3,0,none⟩) F.length c3):=.inr ⟨b3,c3,by rw[List.length_set],fun e=>hF0 (List.eq_nil_of_length_eq_zero (by have:=congrArg List.length e;simpa using this)),hoL b3 hm,List.mem_cons_of_mem _ hm,⟨by rw[List.length_set];exact hc3,by rw[List.length_set];exact hFn⟩,hRF⟩
    refine(h.upd hp.upd (fun k hk=>.inl ?_)).upd hu4 (fun k hk=>.inr (nB k hk))
    simp only[List.mem_singleton]at hk
    subst hk
    exact⟨hlt0,h03⟩
   ·obtain⟨x1,x2,rfl,x4⟩:=hL2 hL0
    exact x2
end Go.Proofs.YthncjilcflilcaaGreat

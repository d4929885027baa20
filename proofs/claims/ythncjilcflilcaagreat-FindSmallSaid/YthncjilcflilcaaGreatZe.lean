/-
  Parts of a proof, put together: F2.
  Conditions: none.
-/
import Derived.Test.YthncjilcflilcaaGreatZd
namespace Go.Proofs.YthncjilcflilcaaGreat
set_option linter.all false
open Go

def I9(N:Nat)(d:Dk)(lost:Int):Option (Dk×Dk×Int):=
 some (d,d,lost)
noncomputable def Ar9(N:Nat):Spec:=mkS 74 ⟨[shD,shI],[]⟩ [⟨[.fn 96 [] [.fz [shD],.fz [.fn 71 [shD] []],.fe (.int .i64)]],[]⟩] (fun p=>I9 N p.1.1 p.1.2.1) (fun k r=>k ((((),((r.1,()),(((r.2.1,()),()),()),r.2.2,())),()),()))
theorem G2(N:Nat):A0 Tryz.prog (Ar9 N):=mkF (R:=Dk×Dk×Int) (m0:=0) [] [] (fun r=>some (r.1.1.2.1.1,r.1.1.2.2.1.1.1.1,r.1.1.2.2.2.1)) [] Tryz.func74 (fun p=>by kernel_rfl) (by kernel_rfl) (fun _=>by kernel_rfl)

def Rd(N:Nat)(n:Int):Option Bool:=
 (Gi N n 0 999).bind fun x_1=>
 some x_1
noncomputable def Ahy(N:Nat):Spec:=mkS 88 ⟨[shI],[]⟩ [⟨[.b],[]⟩] (fun p=>Rd N p.1.1) (fun k r=>k ((r,()),()))
theorem A5e(N:Nat):A0 Tryz.prog (Ahy N):=mkF (R:=Bool) (m0:=0) [⟨_,Cf N⟩] [] (fun r=>some r.1.1) [] Tryz.func88 (fun p=>by kernel_rfl) (by kernel_rfl) (fun _=>by kernel_rfl)

def S4(N:Nat)(x:Int):Option Bool:=
 (Rd N x).bind fun x_1=>
 some (!x_1)
noncomputable def Ack(N:Nat):Spec:=mkS 85 ⟨[shI,.own 0 0],[.segs [.fn 88 [] []]]⟩ [⟨[.b],[.segs [.fn 88 [] []]]⟩] (fun p=>S4 N p.1.1) (fun k r=>k ((r,()),((((),()),()),())))
theorem A0q(N:Nat):A0 Tryz.prog (Ack N):=mkF (R:=Bool) (m0:=1) [⟨_,A5e N⟩] [] (fun r=>some r.1.1) [] Tryz.func85 (fun p=>by kernel_rfl) (by kernel_rfl) (fun _=>by kernel_rfl)

def ixfs_l1(N:Nat):Nat→Li→Int→Int→Option ((Int)⊕(Unit))
 | 0,_,_,_=>none
 | n_+1,s,u,u2=>
  br (decide (u2<u))
   (idx s u2 fun x_1=>
   (S4 N x_1).bind fun x_2=>
   br x_2
    (some (.inl u2))
    (chk (u2+1)<|
    ixfs_l1 N n_ s u (u2+1)))
   (some (.inr ()))
def Aeg(N:Nat)(s:Li):Option Int:=
 (ixfs_l1 N N s (s.length:Int) 0).bind fun e=>match e with
 | .inl i_3=>
  some i_3
 | .inr _=>
  some (-1)
noncomputable def Agm(N:Nat):Oks:=[⟨_,A0q N⟩]
abbrev An8:List StSh:=[⟨[shI],[.segs [.fn 88 [] []]]⟩]
noncomputable abbrev Aqo:Body:=mkB Tryz.f100 An8 1
noncomputable def Ahd(N:Nat){top:Bool}:LpQ Aqo top:=mkL (Z:=(Int)⊕(Unit)) (Agm N) [] [.c [1,0,1,0,0,0],.c [1,0,1,0,0,1],.l [1,0,1,0,0],.b 0,.c [1,1]] ⟨[0,1,7,8],⟨[shL,.fn 85 [] [.own 0 0],shI,shI],[.segs [.fn 88 [] []]]⟩⟩ (fun m p=>ixfs_l1 N m p.1.1 p.1.2.2.1 p.1.2.2.2.1) [⟨[.c [1,0,1,0,0,1,1,0,0,1,1,0,0],.c [1,0,1,0,0,1,1,0,0,1,1,0,1],.b 1,.c [1,0,1,0,0,1,1,1],.l [1,0,1,0,0],.b 0,.c [1,1]],⟨[5],⟨[shI],[.segs [.fn 88 [] []]]⟩⟩,fun p=>some (.inl p.1.1)⟩,⟨[.c [1,1,0],.c [1,1,1]],⟨[],⟨[],[.segs [.fn 88 [] []]]⟩⟩,fun p=>some (.inr ())⟩] (fun _=>[]) (fun k e=>match e with | .inl x=>k (.inl ((x,()),((((),()),()),()))) | .inr x=>k (.inr (.inl ((),((((),()),()),()))))) N (fun m p=>by kernel_rfl) (hg:=(by rintro _ _ (_ | _)<;>rfl))
noncomputable def Ap3(N:Nat):Spec:=mkS 100 ⟨[shL,.fn 85 [] [.own 0 0]],[.segs [.fn 88 [] []]]⟩ An8 (fun p=>Aeg N p.1.1) (fun k r=>k ((r,()),((((),()),()),())))
theorem Ads(N:Nat):A0 Tryz.prog (Ap3 N):=mkF (R:=Int) (m0:=1) (Agm N) [Ahd N] (fun r=>some r.1.1) [] Tryz.func100 (fun p=>by kernel_rfl) (by kernel_rfl) (fun _=>by kernel_rfl)

def Adq(N:Nat)(s:Li):Option Bool:=
 (Aeg N s).bind fun x_1=>
 some (decide (0≤x_1))
noncomputable def Aol(N:Nat):Spec:=mkS 84 ⟨[shL,.fn 85 [] [.own 0 0]],[.segs [.fn 88 [] []]]⟩ [⟨[.b],[.segs [.fn 88 [] []]]⟩] (fun p=>Adq N p.1.1) (fun k r=>k ((r,()),((((),()),()),())))
theorem Acd(N:Nat):A0 Tryz.prog (Aol N):=mkF (R:=Bool) (m0:=1) [⟨_,Ads N⟩] [] (fun r=>some r.1.1) [] Tryz.func84 (fun p=>by kernel_rfl) (by kernel_rfl) (fun _=>by kernel_rfl)

def G9(N:Nat)(l:Li):Option Bool:=
 (Adq N l).bind fun x_1=>
 some (!x_1)
noncomputable def Ahi(N:Nat):Spec:=mkS 44 ⟨[shL,.fn 88 [] []],[]⟩ [⟨[.b],[]⟩] (fun p=>G9 N p.1.1) (fun k r=>k ((r,()),()))
theorem A4o(N:Nat):A0 Tryz.prog (Ahi N):=mkF (R:=Bool) (m0:=0) [⟨_,Acd N⟩] [] (fun r=>some r.1.1) [] Tryz.func44 (fun p=>by kernel_rfl) (by kernel_rfl) (fun _=>by kernel_rfl)

def Kj(N:Nat)(lost u:Li)(u2 u3:Int)(u4 u5:Dk)(u6:Int)(g_:Li)(g2_ g3_:Int)(g4_:Dk)(g5_ g6_:Int):Option ((Li×Li×Int×Int×Li×Int×Int×Dk)⊕(Int×Int)):=
 some (.inr (g2_,g3_))
def Gk(N:Nat)(rec:Li→Int→Int→Dk→Int→Int→Option ((Li×Li×Int×Int×Li×Int×Int×Dk)⊕(Int×Int)))(lost u:Li)(u2 u3:Int)(u4 u5:Dk)(u6 k':Int)(found':Li)(g' g2':Int)(x':Dk)(i' n':Int):Option ((Li×Li×Int×Int×Li×Int×Int×Dk)⊕(Int×Int)):=
 idx found' k' fun x_9=>
 chk (n'+x_9)<|
 rng i' 6<|
 rng k' 6<|
 get x'.2.2.2.2.2.1 ((i'.toNat*6)+k'.toNat) fun x_10=>
 br (decide ((n'+x_9)<x_10))
  (some (.inr (0,8)))
  (rec found' g' g2' x' i' n')
def shows_l2(N:Nat):List (Int×Unit)→Li→Li→Int→Int→Dk→Dk→Int→Li→Int→Int→Dk→Int→Int→Option ((Li×Li×Int×Int×Li×Int×Int×Dk)⊕(Int×Int))
 | [],lost,u,u2,u3,u4,u5,u6,found,g,g2,x,i,n=>
  some (.inl (lost,u,u2,u3,found,g,g2,x))
 | e::es,lost,u,u2,u3,u4,u5,u6,found,g,g2,x,i,n=>
  Gk N (fun found_ g_ g2_ x_ i_ n_=>shows_l2 N es lost u u2 u3 u4 u5 u6 found_ g_ g2_ x_ i_ n_) lost u u2 u3 u4 u5 u6 e.1 found g g2 x i n
def shows_l1(N:Nat):Nat→Li→Li→Int→Int→Li→Int→Int→Dk→Option ((Int×Int)⊕(Li×Li×Int×Int))
 | 0,_,_,_,_,_,_,_,_=>none
 | n_+1,lost,u,u2,u3,found,g,g2,x=>
  br (decide (u3<u2))
   (idx u u3 fun x_5=>
   (I9 N x u3).bind fun(x_6,y_7,y_8)=>
   ((mayR x_6 y_7 y_8).bind fun es=>shows_l2 N es lost u u2 u3 x_6 y_7 y_8 found g g2 x u3 x_5).bind fun e=>match e with
   | .inl (lost_11,u_12,u2_13,u3_14,found_15,g_16,g2_17,x_18)=>
    chk (u3_14+1)<|
    shows_l1 N n_ lost_11 u_12 u2_13 (u3_14+1) found_15 g_16 g2_17 x_18
   | .inr (g_19,g2_20)=>
    some (.inl (g_19,g2_20)))
   (some (.inr (lost,found,g,g2)))
def shows_S(N:Nat)(d:Li)(d2:Int)(d3 d4:Ll)(d5 lost found:Li):Option (Int×Int):=
 ((Aw N d d2 d3 d4 d5).bind fun e=>match e with
 | .inl (x_1,y_2)=>
  (br (!decide (y_2=0))
   (some (0,y_2))
   (br (!decide ((lost.length:Int)=(d3.length:Int)))
    (some (0,2))
    (br (!decide ((found.length:Int)=(d4.length:Int)))
     (some (0,2))
     ((G9 N lost).bind fun x_3=>
     br (!x_3)
      (some (0,3))
      ((G9 N found).bind fun x_4=>
      br (!x_4)
       (some (0,3))
       ((shows_l1 N N lost lost (lost.length:Int) 0 found 0 0 x_1).bind fun e=>match e with
       | .inl (g_21,g2_22)=>
        some (g_21,g2_22)
       | .inr (lost_23,found_24,g_25,g2_26)=>
        (Z5 N lost_23).bind fun x_27=>
        (Z5 N found_24).bind fun x_28=>
        chk (x_27+x_28)<|
        some ((x_27+x_28),0)))))))
 | .inr x_29=>
  (br (!decide (x_29=0))
   (some (0,x_29))
   (br (!decide ((lost.length:Int)=(d3.length:Int)))
    (some (0,2))
    (br (!decide ((found.length:Int)=(d4.length:Int)))
     (some (0,2))
     ((G9 N lost).bind fun x_30=>
     br (!x_30)
      (some (0,3))
      ((G9 N found).bind fun x_31=>
      br (!x_31)
       (some (0,3))
       (none)))))))
noncomputable def P6(N:Nat):Oks:=[⟨_,Tf N⟩,⟨_,Aj N⟩,⟨_,G2 N⟩,⟨_,A4o N⟩]
abbrev A5s:List StSh:=[⟨[shI,shI],[]⟩]
noncomputable abbrev C6:Body:=mkB Tryz.f50 A5s 0
noncomputable def J6(N:Nat):List Spec:=(P6 N).map (·.1)
theorem Na(N:Nat):AllP (A0 Tryz.prog) (J6 N):=allP_map (P6 N)
noncomputable def Afv:Code:=C6.c
abbrev C9:Sta:=⟨[1,5,6,7,8,11,12,49,50,51,58],⟨[shL,.own 0 0,.own 1 0,.own 2 0,.own 3 0,.own 4 0,.own 5 0,shL,shI,shI,.fn 96 [] [.fz [shD],.fz [.fn 71 [shD] []],.fe (.int .i64)]],[.segs [shL],.segs [shI],.segs [shI],.segs [shD],.segs [shI],.segs [shI]]⟩⟩
abbrev Fq:Sta:=⟨[5,6,7,8,11,12,13],⟨[.own 0 0,.own 1 0,.own 2 0,.own 3 0,.own 4 0,.own 5 0,shI],[.segs [shL],.segs [shI],.segs [shI],.segs [shD],.segs [shI],.segs [shI]]⟩⟩
abbrev Hw:Leaf ((Li×Li×Int×Int×Li×Int×Int×Dk)⊕(Int×Int)):=⟨[.c [1,1,1,1,0,1,0,0,1,1,1],.l [1,1,1,1,0,1,0,0],.b 1,.c [1,1,1,1,1]],⟨[1,5,6,7,8,49,50,51],⟨[shL,.own 0 0,.own 1 0,.own 2 0,.own 3 0,shL,shI,shI],[.segs [shL],.segs [shI],.segs [shI],.segs [shD]]⟩⟩,fun p=>some (.inl (p.1.1,p.1.2.2.2.2.2.1,p.1.2.2.2.2.2.2.1,p.1.2.2.2.2.2.2.2.1,p.2.1.1,p.2.2.1.1,p.2.2.2.1.1,p.2.2.2.2.1.1))⟩
abbrev Hi:Leaf ((Li×Li×Int×Int×Li×Int×Int×Dk)⊕(Int×Int)):=⟨[.c [1,1,1,1,0,1,0,0,1,1,0,0,1,1,0,1,0,1,0,1],.b 3,.b 2,.c [1,1,1,1,0,1,0,0,1,1,1],.l [1,1,1,1,0,1,0,0],.b 1,.c [1,1,1,1,1]],⟨[6,7],⟨[.own 0 0,.own 1 0],[.segs [shI],.segs [shI]]⟩⟩,fun p=>some (.inr (p.2.1.1,p.2.2.1.1))⟩
noncomputable def Je(N:Nat):Hl:={ at_:=[.c [1,1,1,1,0,1,0,0,1,1,0,0,1,1,0],.b 3,.b 2,.c [1,1,1,1,0,1,0,0,1,1,1],.l [1,1,1,1,0,1,0,0],.b 1,.c [1,1,1,1,1]],sta:=C9,exits:=[([.c [1,1,1,1,0,1,0,0,1,1,1],.l [1,1,1,1,0,1,0,0],.b 1,.c [1,1,1,1,1]],⟨[1,5,6,7,8,49,50,51],⟨[shL,.own 0 0,.own 1 0,.own 2 0,.own 3 0,shL,shI,shI],[.segs [shL],.segs [shI],.segs [shI],.segs [shD]]⟩⟩),([.c [1,1,1,1,0,1,0,0,1,1,0,0,1,1,0,1,0,1,0,1],.b 3,.b 2,.c [1,1,1,1,0,1,0,0,1,1,1],.l [1,1,1,1,0,1,0,0],.b 1,.c [1,1,1,1,1]],⟨[6,7],⟨[.own 0 0,.own 1 0],[.segs [shI],.segs [shI]]⟩⟩)],run:=fun p k=>((mayR p.1.2.2.2.2.2.2.2.2.2.2.1.2.1.1 p.1.2.2.2.2.2.2.2.2.2.2.1.2.2.1.1.1.1 p.1.2.2.2.2.2.2.2.2.2.2.1.2.2.2.1).bind fun es=>shows_l2 N es p.1.1 p.1.2.2.2.2.2.2.2.1 p.1.2.2.2.2.2.2.2.2.1 p.1.2.2.2.2.2.2.2.2.2.1 p.1.2.2.2.2.2.2.2.2.2.2.1.2.1.1 p.1.2.2.2.2.2.2.2.2.2.2.1.2.2.1.1.1.1 p.1.2.2.2.2.2.2.2.2.2.2.1.2.2.2.1 p.2.1.1 p.2.2.1.1 p.2.2.2.1.1 p.2.2.2.2.1.1 p.2.2.2.2.2.1.1 p.2.2.2.2.2.2.1.1).bind fun e=>match e with | .inl x=>k (.inl ((x.1,(),(),(),(),x.2.1,x.2.2.1,x.2.2.2.1,()),((x.2.2.2.2.1,()),(x.2.2.2.2.2.1,()),(x.2.2.2.2.2.2.1,()),(x.2.2.2.2.2.2.2,()),()))) | .inr x=>k (.inr (.inl (((),(),()),((x.1,()),(x.2,()),())))) }
noncomputable abbrev H4:Body:=mkB Tryz.f50 A5s 6
theorem A5h(N:Nat)(lost:Li)(u:Li)(u2:Int)(u3:Int)(u4:Dk)(u5:Dk)(u6:Int)(found:Li)(g:Int)(g2:Int)(x:Dk)(i:Int)(n:Int):ev (Z:=(Li×Li×Int×Int×Li×Int×Int×Dk)⊕(Int×Int)) Tryz.prog (J6 N) C6 [] [Hw,Hi] none 400 false (nrm C6.c 99 [.b 3,.b 2,.c [1,1,1,1,0,1,0,0,1,1,1],.l [1,1,1,1,0,1,0,0],.b 1,.c [1,1,1,1,1]]) (stL C9 ((lost,(),(),(),(),(),(),u,u2,u3,((),((u4,()),(((u5,()),()),()),u6,())),()),((found,()),(g,()),(g2,()),(x,()),(i,()),(n,()),()))) (stH C9 ((lost,(),(),(),(),(),(),u,u2,u3,((),((u4,()),(((u5,()),()),()),u6,())),()),((found,()),(g,()),(g2,()),(x,()),(i,()),(n,()),())))=shows_l2 N [] lost u u2 u3 u4 u5 u6 found g g2 x i n:=by kernel_rfl
theorem A4l(N:Nat)(e:Int×Unit)(es:List (Int×Unit))(lost:Li)(u:Li)(u2:Int)(u3:Int)(u4:Dk)(u5:Dk)(u6:Int)(found:Li)(g:Int)(g2:Int)(x:Dk)(i:Int)(n:Int):ev (Z:=(Li×Li×Int×Int×Li×Int×Int×Dk)⊕(Int×Int)) Tryz.prog (J6 N) H4 [] [⟨[.r,.c [1,1,1,1,0,1,0,0,1,1,0,0,1,1,0,1]],Fq,fun p=>Gk N (fun found_ g_ g2_ x_ i_ n_=>shows_l2 N es lost u u2 u3 u4 u5 u6 found_ g_ g2_ x_ i_ n_) lost u u2 u3 u4 u5 u6 p.1.2.2.2.2.2.2.1 p.2.1.1 p.2.2.1.1 p.2.2.2.1.1 p.2.2.2.2.1.1 p.2.2.2.2.2.1.1 p.2.2.2.2.2.2.1.1⟩] none 400 false (nrm C6.c 99 [.c [1,1,1,1,0,1,0,0,1,1,0,0,1,1,0,0],.r,.c [1,1,1,1,0,1,0,0,1,1,0,0,1,1,0,1]]) (pars [59] (encs id Be.elem e) (stL C9 ((lost,(),(),(),(),(),(),u,u2,u3,((),((u4,()),(((u5,()),()),()),u6,())),()),((found,()),(g,()),(g2,()),(x,()),(i,()),(n,()),())))) (stH C9 ((lost,(),(),(),(),(),(),u,u2,u3,((),((u4,()),(((u5,()),()),()),u6,())),()),((found,()),(g,()),(g2,()),(x,()),(i,()),(n,()),())))=shows_l2 N (e::es) lost u u2 u3 u4 u5 u6 found g g2 x i n:=by kernel_rfl
theorem A4g(N:Nat)(rec:Li→Int→Int→Dk→Int→Int→Option ((Li×Li×Int×Int×Li×Int×Int×Dk)⊕(Int×Int)))(lost:Li)(u:Li)(u2:Int)(u3:Int)(u4:Dk)(u5:Dk)(u6:Int)(k':Int)(found':Li)(g':Int)(g2':Int)(x':Dk)(i':Int)(n':Int):ev (Z:=(Li×Li×Int×Int×Li×Int×Int×Dk)⊕(Int×Int)) Tryz.prog (J6 N) H4 [] [⟨[],⟨[],⟨[],[.segs [shL],.segs [shI],.segs [shI],.segs [shD],.segs [shI],.segs [shI]]⟩⟩,fun p=>rec p.2.1.1 p.2.2.1.1 p.2.2.2.1.1 p.2.2.2.2.1.1 p.2.2.2.2.2.1.1 p.2.2.2.2.2.2.1.1⟩,⟨[.c [1,1,1,1,0,1,0,0,1,1,0,0,1,1,0,1,0,1,0,1],.b 4],⟨[],⟨[],[.segs [shL],.segs [shI],.segs [shI],.segs [shD],.segs [shI],.segs [shI]]⟩⟩,fun p=>Kj N lost u u2 u3 u4 u5 u6 p.2.1.1 p.2.2.1.1 p.2.2.2.1.1 p.2.2.2.2.1.1 p.2.2.2.2.2.1.1 p.2.2.2.2.2.2.1.1⟩] none 400 false (nrm C6.c 99 [.c [1,1,1,1,0,1,0,0,1,1,0,0,1,1,0,1]]) (stL Fq (((),(),(),(),(),(),k',()),((found',()),(g',()),(g2',()),(x',()),(i',()),(n',()),()))) (stH Fq (((),(),(),(),(),(),k',()),((found',()),(g',()),(g2',()),(x',()),(i',()),(n',()),())))=Gk N rec lost u u2 u3 u4 u5 u6 k' found' g' g2' x' i' n':=by kernel_rfl
theorem A14(N:Nat)(lost:Li)(u:Li)(u2:Int)(u3:Int)(u4:Dk)(u5:Dk)(u6:Int)(g_:Li)(g2_:Int)(g3_:Int)(g4_:Dk)(g5_:Int)(g6_:Int):ev (Z:=(Li×Li×Int×Int×Li×Int×Int×Dk)⊕(Int×Int)) Tryz.prog (J6 N) C6 [] [Hw,Hi] none 400 false (nrm C6.c 99 (.c [1,1,1,1,0,1,0,0,1,1,0,0,1,1,0,1,0,1,0,1]::[.b 3,.b 2,.c [1,1,1,1,0,1,0,0,1,1,1],.l [1,1,1,1,0,1,0,0],.b 1,.c [1,1,1,1,1]])) (C9.tmps.zip (encs id C9.sh.avs (lost,(),(),(),(),(),(),u,u2,u3,((),((u4,()),(((u5,()),()),()),u6,())),()))) (encBs id [.segs [shL],.segs [shI],.segs [shI],.segs [shD],.segs [shI],.segs [shI]] ((g_,()),(g2_,()),(g3_,()),(g4_,()),(g5_,()),(g6_,()),()))=Kj N lost u u2 u3 u4 u5 u6 g_ g2_ g3_ g4_ g5_ g6_:=by kernel_rfl
theorem Vi(N:Nat):Gn Tryz.prog C6.c C6.n C6.m0 true (Je N):=by
 refine Lp (B:=C6) (is:=Be) (g:=.tmp 58) (ps:=#[59]) (assign:=sub Afv [1,1,1,1,0,1,0,0,1,1,0,0,1,1,0,0]) (body:=sub Afv [1,1,1,1,0,1,0,0,1,1,0,0,1,1,0,1]) (Z:=(Li×Li×Int×Int×Li×Int×Int×Dk)⊕(Int×Int)) (x:=Je N) (fun p=>((p.1.2.2.2.2.2.2.2.2.2.2.1.2.1.1,()),(((p.1.2.2.2.2.2.2.2.2.2.2.1.2.2.1.1.1.1,()),()),()),p.1.2.2.2.2.2.2.2.2.2.2.1.2.2.2.1,())) (fun es p=>shows_l2 N es p.1.1 p.1.2.2.2.2.2.2.2.1 p.1.2.2.2.2.2.2.2.2.1 p.1.2.2.2.2.2.2.2.2.2.1 p.1.2.2.2.2.2.2.2.2.2.2.1.2.1.1 p.1.2.2.2.2.2.2.2.2.2.2.1.2.2.1.1.1.1 p.1.2.2.2.2.2.2.2.2.2.2.1.2.2.2.1 p.2.1.1 p.2.2.1.1 p.2.2.2.1.1 p.2.2.2.2.1.1 p.2.2.2.2.2.1.1 p.2.2.2.2.2.2.1.1) (staA:=Fq) (fun es q p=>Gk N (fun found_ g_ g2_ x_ i_ n_=>shows_l2 N es q.1 q.2.2.2.2.2.2.2.1 q.2.2.2.2.2.2.2.2.1 q.2.2.2.2.2.2.2.2.2.1 q.2.2.2.2.2.2.2.2.2.2.1.2.1.1 q.2.2.2.2.2.2.2.2.2.2.1.2.2.1.1.1.1 q.2.2.2.2.2.2.2.2.2.2.1.2.2.2.1 found_ g_ g2_ x_ i_ n_) q.1 q.2.2.2.2.2.2.2.1 q.2.2.2.2.2.2.2.2.1 q.2.2.2.2.2.2.2.2.2.1 q.2.2.2.2.2.2.2.2.2.2.1.2.1.1 q.2.2.2.2.2.2.2.2.2.2.1.2.2.1.1.1.1 q.2.2.2.2.2.2.2.2.2.2.1.2.2.2.1 p.1.2.2.2.2.2.2.1 p.2.1.1 p.2.2.1.1 p.2.2.2.1.1 p.2.2.2.2.1.1 p.2.2.2.2.2.1.1 p.2.2.2.2.2.2.1.1) [⟨[1,1,1,1,0,1,0,0,1,1,0,0,1,1,0,1,0,1,0,1],[.b 4],[.segs [shL],.segs [shI],.segs [shI],.segs [shD],.segs [shI],.segs [shI]],fun q b=>Kj N q.1 q.2.2.2.2.2.2.2.1 q.2.2.2.2.2.2.2.2.1 q.2.2.2.2.2.2.2.2.2.1 q.2.2.2.2.2.2.2.2.2.2.1.2.1.1 q.2.2.2.2.2.2.2.2.2.2.1.2.2.1.1.1.1 q.2.2.2.2.2.2.2.2.2.2.1.2.2.2.1 ((),b).2.1.1 ((),b).2.2.1.1 ((),b).2.2.2.1.1 ((),b).2.2.2.2.1.1 ((),b).2.2.2.2.2.1.1 ((),b).2.2.2.2.2.2.1.1⟩] (fun e=>match e with | .inl x=>.inl ((x.1,(),(),(),(),x.2.1,x.2.2.1,x.2.2.2.1,()),((x.2.2.2.2.1,()),(x.2.2.2.2.2.1,()),(x.2.2.2.2.2.2.1,()),(x.2.2.2.2.2.2.2,()),())) | .inr x=>.inr (.inl (((),(),()),((x.1,()),(x.2,()),())))) (fun _ p k=>Lh ((mayR p.1.2.2.2.2.2.2.2.2.2.2.1.2.1.1 p.1.2.2.2.2.2.2.2.2.2.2.1.2.2.1.1.1.1 p.1.2.2.2.2.2.2.2.2.2.2.1.2.2.2.1).bind fun es=>shows_l2 N es p.1.1 p.1.2.2.2.2.2.2.2.1 p.1.2.2.2.2.2.2.2.2.1 p.1.2.2.2.2.2.2.2.2.2.1 p.1.2.2.2.2.2.2.2.2.2.2.1.2.1.1 p.1.2.2.2.2.2.2.2.2.2.2.1.2.2.1.1.1.1 p.1.2.2.2.2.2.2.2.2.2.2.1.2.2.2.1 p.2.1.1 p.2.2.1.1 p.2.2.2.1.1 p.2.2.2.2.1.1 p.2.2.2.2.2.1.1 p.2.2.2.2.2.2.1.1) _ _ (fun e=>by rcases e with x | x<;>rfl)) rfl (by kernel_rfl) (fun _=>by kernel_rfl) (by kernel_rfl) Jb (Nat.le_of_ble_eq_true (by kernel_rfl)) (by kernel_rfl) ?_ ?_ ?_ ?_
 ·exact fun z E Xc hE hX hx p hp a w hS=>ev_sound (z:=z) (B:=C6) (loops:=[]) (leaves:=[Hw,Hi]) (top:=true) (Na N) mixed trivial hE hX ⟨(fun p hp=>by obtain rfl:=Option.some.inj hp;exact hx),(fun p hp=>by obtain rfl:=Option.some.inj hp;exact hx),trivial⟩ B4.no 400 false _ _ _ ((A5h N p.1.1 p.1.2.2.2.2.2.2.2.1 p.1.2.2.2.2.2.2.2.2.1 p.1.2.2.2.2.2.2.2.2.2.1 p.1.2.2.2.2.2.2.2.2.2.2.1.2.1.1 p.1.2.2.2.2.2.2.2.2.2.2.1.2.2.1.1.1.1 p.1.2.2.2.2.2.2.2.2.2.2.1.2.2.2.1 p.2.1.1 p.2.2.1.1 p.2.2.2.1.1 p.2.2.2.2.1.1 p.2.2.2.2.2.1.1 p.2.2.2.2.2.2.1.1).trans hp) a w hS
 ·intro z E Xc hE hX hx e he q b hb a w hS
  simp only[List.mem_cons,List.not_mem_nil,or_false]at he
  rcases he with rfl
  ·exact ev_sound (z:=z) (B:=C6) (loops:=[]) (leaves:=[Hw,Hi]) (top:=true) (Na N) mixed trivial hE hX ⟨(fun p hp=>by obtain rfl:=Option.some.inj hp;exact hx),(fun p hp=>by obtain rfl:=Option.some.inj hp;exact hx),trivial⟩ B4.no 400 false _ _ _ ((A14 N q.1 q.2.2.2.2.2.2.2.1 q.2.2.2.2.2.2.2.2.1 q.2.2.2.2.2.2.2.2.2.1 q.2.2.2.2.2.2.2.2.2.2.1.2.1.1 q.2.2.2.2.2.2.2.2.2.2.1.2.2.1.1.1.1 q.2.2.2.2.2.2.2.2.2.2.1.2.2.2.1 ((),b).2.1.1 ((),b).2.2.1.1 ((),b).2.2.2.1.1 ((),b).2.2.2.2.1.1 ((),b).2.2.2.2.2.1.1 ((),b).2.2.2.2.2.2.1.1).trans hb) a w hS
 ·exact fun z E Xc hE hX e es p hl hp a w hS=>ev_sound (z:=z) (B:=H4) (loops:=[]) (leaves:=[_]) (top:=false) (Na N) mixed trivial hE hX ⟨hl,trivial⟩ B4.no 400 false _ _ _ ((A4l N e es p.1.1 p.1.2.2.2.2.2.2.2.1 p.1.2.2.2.2.2.2.2.2.1 p.1.2.2.2.2.2.2.2.2.2.1 p.1.2.2.2.2.2.2.2.2.2.2.1.2.1.1 p.1.2.2.2.2.2.2.2.2.2.2.1.2.2.1.1.1.1 p.1.2.2.2.2.2.2.2.2.2.2.1.2.2.2.1 p.2.1.1 p.2.2.1.1 p.2.2.2.1.1 p.2.2.2.2.1.1 p.2.2.2.2.2.1.1 p.2.2.2.2.2.2.1.1).trans hp) a w hS
 ·exact fun z E Xc hE hX es q he hs p hp a w hS=>ev_sound (z:=z) (B:=H4) (loops:=[]) (leaves:=[_,_]) (top:=false) (Na N) mixed trivial hE hX ⟨he,hs _ List.mem_cons_self,trivial⟩ B4.no 400 false _ _ _ ((A4g N (fun found_ g_ g2_ x_ i_ n_=>shows_l2 N es q.1 q.2.2.2.2.2.2.2.1 q.2.2.2.2.2.2.2.2.1 q.2.2.2.2.2.2.2.2.2.1 q.2.2.2.2.2.2.2.2.2.2.1.2.1.1 q.2.2.2.2.2.2.2.2.2.2.1.2.2.1.1.1.1 q.2.2.2.2.2.2.2.2.2.2.1.2.2.2.1 found_ g_ g2_ x_ i_ n_) q.1 q.2.2.2.2.2.2.2.1 q.2.2.2.2.2.2.2.2.1 q.2.2.2.2.2.2.2.2.2.1 q.2.2.2.2.2.2.2.2.2.2.1.2.1.1 q.2.2.2.2.2.2.2.2.2.2.1.2.2.1.1.1.1 q.2.2.2.2.2.2.2.2.2.2.1.2.2.2.1 p.1.2.2.2.2.2.2.1 p.2.1.1 p.2.2.1.1 p.2.2.2.1.1 p.2.2.2.2.1.1 p.2.2.2.2.2.1.1 p.2.2.2.2.2.2.1.1).trans hp) a w hS
noncomputable def Adn(N:Nat):LpQ C6 true:=mkL (Z:=(Int×Int)⊕(Li×Li×Int×Int)) (P6 N) [⟨Je N,Vi N⟩] [.c [1,1,1,1,0,1,0,0,0],.c [1,1,1,1,0,1,0,0,1],.l [1,1,1,1,0,1,0,0],.b 1,.c [1,1,1,1,1]] ⟨[1,5,6,7,8,49,50,51],⟨[shL,.own 0 0,.own 1 0,.own 2 0,.own 3 0,shL,shI,shI],[.segs [shL],.segs [shI],.segs [shI],.segs [shD]]⟩⟩ (fun m p=>shows_l1 N m p.1.1 p.1.2.2.2.2.2.1 p.1.2.2.2.2.2.2.1 p.1.2.2.2.2.2.2.2.1 p.2.1.1 p.2.2.1.1 p.2.2.2.1.1 p.2.2.2.2.1.1) [⟨[.c [1,1,1,1,0,1,0,0,1,1,0,0,1,1,0,1,0,1,0,1],.b 3,.b 2,.c [1,1,1,1,0,1,0,0,1,1,1],.l [1,1,1,1,0,1,0,0],.b 1,.c [1,1,1,1,1]],⟨[6,7],⟨[.own 0 0,.own 1 0],[.segs [shI],.segs [shI]]⟩⟩,fun p=>some (.inl (p.2.1.1,p.2.2.1.1))⟩,⟨[.c [1,1,1,1,1,0],.c [1,1,1,1,1,1]],⟨[1,5,6,7],⟨[shL,.own 0 0,.own 1 0,.own 2 0],[.segs [shL],.segs [shI],.segs [shI]]⟩⟩,fun p=>some (.inr (p.1.1,p.2.1.1,p.2.2.1.1,p.2.2.2.1.1))⟩] (fun _=>[]) (fun k e=>match e with | .inl x=>k (.inl (((),(),()),((x.1,()),(x.2,()),()))) | .inr x=>k (.inr (.inl ((x.1,(),(),(),()),((x.2.1,()),(x.2.2.1,()),(x.2.2.2,()),()))))) N (fun m p=>by kernel_rfl) (hg:=(by rintro _ _ (_ | _)<;>rfl))
noncomputable def Anr(N:Nat):Spec:=mkS 50 ⟨[shG,shL,shL],[]⟩ A5s (fun p=>shows_S N p.1.1.1 p.1.1.2.1 p.1.1.2.2.1 p.1.1.2.2.2.1 p.1.1.2.2.2.2.1 p.1.2.1 p.1.2.2.1) (fun k r=>k ((r.1,r.2,()),()))
theorem Tw(N:Nat):A0 Tryz.prog (Anr N):=mkF (R:=Int×Int) (m0:=0) (P6 N) [⟨Je N,Vi N⟩,Adn N] (fun r=>some (r.1.1,r.1.2.1)) [] Tryz.func50 (fun p=>by kernel_rfl) (by kernel_rfl) (fun _=>by kernel_rfl)

def Dj(N:Nat)(rec:Dk→Li→Int→Int→Option (Int×Int×Int×Dk×Li×Int×Int))(found u u2:Int)(u3 u4:Dk)(u5 k':Int)(d':Dk)(g':Li)(i' most':Int):Option (Int×Int×Int×Dk×Li×Int×Int):=
 rng i' 6<|
 rng k' 6<|
 get d'.2.2.2.2.2.1 ((i'.toNat*6)+k'.toNat) fun x_4=>
 rec d' g' i' (max most' x_4)
def dclaims_l2(N:Nat):List (Int×Unit)→Int→Int→Int→Dk→Dk→Int→Dk→Li→Int→Int→Option (Int×Int×Int×Dk×Li×Int×Int)
 | [],found,u,u2,u3,u4,u5,d,out,i,most=>
  some ((found,u,u2,d,out,i,most))
 | e::es,found,u,u2,u3,u4,u5,d,out,i,most=>
  Dj N (fun d_ out_ i_ most_=>dclaims_l2 N es found u u2 u3 u4 u5 d_ out_ i_ most_) found u u2 u3 u4 u5 e.1 d out i most
def Gv(N:Nat)(rec:Int→Int→Int→Dk→Li→Option Li)(found u u2:Int)(d:Dk)(out:Li):Option Li:=
 chk (u2+1)<|
 rec found u (u2+1) d out
def dclaims_l1(N:Nat):Nat→Int→Int→Int→Dk→Li→Option Li
 | 0,_,_,_,_,_=>none
 | n_+1,found,u,u2,d,out=>
  br (decide (u2<u))
   ((I9 N d u2).bind fun(x_1,y_2,y_3)=>
   ((mayR x_1 y_2 y_3).bind fun es=>dclaims_l2 N es found u u2 x_1 y_2 y_3 d out u2 0).bind fun(found_5,u_6,u2_7,d_8,out_9,i_10,most_11)=>
   (I8 N d_8 i_10 found_5).bind fun x_12=>
   br x_12
    (rng i_10 6<|
    rng found_5 6<|
    get d_8.2.2.2.2.2.1 ((i_10.toNat*6)+found_5.toNat) fun x_13=>
    br (decide (x_13=most_11))
     (lim (out_9.length+[i_10].length)<|
     Gv N (dclaims_l1 N n_) found_5 u_6 u2_7 d_8 (out_9++[i_10]))
     (Gv N (dclaims_l1 N n_) found_5 u_6 u2_7 d_8 out_9))
    (Gv N (dclaims_l1 N n_) found_5 u_6 u2_7 d_8 out_9))
   (some (out))
def It(N:Nat)(d:Dk)(found:Int):Option Li:=
 (dclaims_l1 N N found (d.2.2.1.length:Int) 0 d []).bind fun out_14=>
 some out_14
noncomputable def Gg(N:Nat):Oks:=[⟨_,E4 N⟩,⟨_,G2 N⟩]
abbrev T6:List StSh:=[⟨[shL],[]⟩]
noncomputable abbrev Bf:Body:=mkB Tryz.f76 T6 0
noncomputable def H7(N:Nat):List Spec:=(Gg N).map (·.1)
theorem M7(N:Nat):AllP (A0 Tryz.prog) (H7 N):=allP_map (Gg N)
noncomputable def A2b:Code:=Bf.c
abbrev Cn:Sta:=⟨[1,2,4,5,6,7,14,15,20],⟨[shI,.own 0 0,.nils,.ols 1,.own 2 0,.own 3 0,shI,shI,.fn 96 [] [.fz [shD],.fz [.fn 71 [shD] []],.fe (.int .i64)]],[.segs [shD],.lst (.int .i64),.segs [shI],.segs [shI]]⟩⟩
abbrev Df:Sta:=⟨[2,4,6,7,8],⟨[.own 0 0,.nils,.own 2 0,.own 3 0,shI],[.segs [shD],.lst (.int .i64),.segs [shI],.segs [shI]]⟩⟩
abbrev O1:Leaf (Int×Int×Int×Dk×Li×Int×Int):=⟨[.c [1,1,0,1,0,0,1,1,0,0,1,1,1,0],.c [1,1,0,1,0,0,1,1,0,0,1,1,1,1],.b 1,.c [1,1,0,1,0,0,1,1,1],.l [1,1,0,1,0,0],.b 0,.c [1,1,1]],⟨[1,2,4,5,6,7,14,15],⟨[shI,.own 0 0,.nils,.ols 1,.own 2 0,.own 3 0,shI,shI],[.segs [shD],.lst (.int .i64),.segs [shI],.segs [shI]]⟩⟩,fun p=>some ((p.1.1,p.1.2.2.2.2.2.2.1,p.1.2.2.2.2.2.2.2.1,p.2.1.1,p.2.2.1,p.2.2.2.1.1,p.2.2.2.2.1.1))⟩
noncomputable def Dr(N:Nat):Hl:={ at_:=[.c [1,1,0,1,0,0,1,1,0,0,1,1,0,1,0],.b 2,.c [1,1,0,1,0,0,1,1,0,0,1,1,1],.b 1,.c [1,1,0,1,0,0,1,1,1],.l [1,1,0,1,0,0],.b 0,.c [1,1,1]],sta:=Cn,exits:=[([.c [1,1,0,1,0,0,1,1,0,0,1,1,1,0],.c [1,1,0,1,0,0,1,1,0,0,1,1,1,1],.b 1,.c [1,1,0,1,0,0,1,1,1],.l [1,1,0,1,0,0],.b 0,.c [1,1,1]],⟨[1,2,4,5,6,7,14,15],⟨[shI,.own 0 0,.nils,.ols 1,.own 2 0,.own 3 0,shI,shI],[.segs [shD],.lst (.int .i64),.segs [shI],.segs [shI]]⟩⟩)],run:=fun p k=>((mayR p.1.2.2.2.2.2.2.2.2.1.2.1.1 p.1.2.2.2.2.2.2.2.2.1.2.2.1.1.1.1 p.1.2.2.2.2.2.2.2.2.1.2.2.2.1).bind fun es=>dclaims_l2 N es p.1.1 p.1.2.2.2.2.2.2.1 p.1.2.2.2.2.2.2.2.1 p.1.2.2.2.2.2.2.2.2.1.2.1.1 p.1.2.2.2.2.2.2.2.2.1.2.2.1.1.1.1 p.1.2.2.2.2.2.2.2.2.1.2.2.2.1 p.2.1.1 p.2.2.1 p.2.2.2.1.1 p.2.2.2.2.1.1).bind fun e=>k (.inl ((e.1,(),(),(),(),(),e.2.1,e.2.2.1,()),((e.2.2.2.1,()),e.2.2.2.2.1,(e.2.2.2.2.2.1,()),(e.2.2.2.2.2.2,()),()))) }
noncomputable abbrev E9:Body:=mkB Tryz.f76 T6 4
theorem Zg(N:Nat)(found:Int)(u:Int)(u2:Int)(u3:Dk)(u4:Dk)(u5:Int)(d:Dk)(out:Li)(i:Int)(most:Int):ev (Z:=Int×Int×Int×Dk×Li×Int×Int) Tryz.prog (H7 N) Bf [] [O1] none 400 false (nrm Bf.c 99 [.b 2,.c [1,1,0,1,0,0,1,1,0,0,1,1,1],.b 1,.c [1,1,0,1,0,0,1,1,1],.l [1,1,0,1,0,0],.b 0,.c [1,1,1]]) (stL Cn ((found,(),(),(),(),(),u,u2,((),((u3,()),(((u4,()),()),()),u5,())),()),((d,()),out,(i,()),(most,()),()))) (stH Cn ((found,(),(),(),(),(),u,u2,((),((u3,()),(((u4,()),()),()),u5,())),()),((d,()),out,(i,()),(most,()),())))=dclaims_l2 N [] found u u2 u3 u4 u5 d out i most:=by kernel_rfl
theorem Yf(N:Nat)(e:Int×Unit)(es:List (Int×Unit))(found:Int)(u:Int)(u2:Int)(u3:Dk)(u4:Dk)(u5:Int)(d:Dk)(out:Li)(i:Int)(most:Int):ev (Z:=Int×Int×Int×Dk×Li×Int×Int) Tryz.prog (H7 N) E9 [] [⟨[.r,.c [1,1,0,1,0,0,1,1,0,0,1,1,0,1,0,1]],Df,fun p=>Dj N (fun d_ out_ i_ most_=>dclaims_l2 N es found u u2 u3 u4 u5 d_ out_ i_ most_) found u u2 u3 u4 u5 p.1.2.2.2.2.1 p.2.1.1 p.2.2.1 p.2.2.2.1.1 p.2.2.2.2.1.1⟩] none 400 false (nrm Bf.c 99 [.c [1,1,0,1,0,0,1,1,0,0,1,1,0,1,0,0],.r,.c [1,1,0,1,0,0,1,1,0,0,1,1,0,1,0,1]]) (pars [21] (encs id Be.elem e) (stL Cn ((found,(),(),(),(),(),u,u2,((),((u3,()),(((u4,()),()),()),u5,())),()),((d,()),out,(i,()),(most,()),())))) (stH Cn ((found,(),(),(),(),(),u,u2,((),((u3,()),(((u4,()),()),()),u5,())),()),((d,()),out,(i,()),(most,()),())))=dclaims_l2 N (e::es) found u u2 u3 u4 u5 d out i most:=by kernel_rfl
theorem A01(N:Nat)(rec:Dk→Li→Int→Int→Option (Int×Int×Int×Dk×Li×Int×Int))(found:Int)(u:Int)(u2:Int)(u3:Dk)(u4:Dk)(u5:Int)(k':Int)(d':Dk)(g':Li)(i':Int)(most':Int):ev (Z:=Int×Int×Int×Dk×Li×Int×Int) Tryz.prog (H7 N) E9 [] [⟨[],⟨[],⟨[],[.segs [shD],.lst (.int .i64),.segs [shI],.segs [shI]]⟩⟩,fun p=>rec p.2.1.1 p.2.2.1 p.2.2.2.1.1 p.2.2.2.2.1.1⟩] none 400 false (nrm Bf.c 99 [.c [1,1,0,1,0,0,1,1,0,0,1,1,0,1,0,1]]) (stL Df (((),(),(),(),k',()),((d',()),g',(i',()),(most',()),()))) (stH Df (((),(),(),(),k',()),((d',()),g',(i',()),(most',()),())))=Dj N rec found u u2 u3 u4 u5 k' d' g' i' most':=by kernel_rfl
theorem I0(N:Nat):Gn Tryz.prog Bf.c Bf.n Bf.m0 true (Dr N):=by
 refine Lp (B:=Bf) (is:=Be) (g:=.tmp 20) (ps:=#[21]) (assign:=sub A2b [1,1,0,1,0,0,1,1,0,0,1,1,0,1,0,0]) (body:=sub A2b [1,1,0,1,0,0,1,1,0,0,1,1,0,1,0,1]) (Z:=Int×Int×Int×Dk×Li×Int×Int) (x:=Dr N) (fun p=>((p.1.2.2.2.2.2.2.2.2.1.2.1.1,()),(((p.1.2.2.2.2.2.2.2.2.1.2.2.1.1.1.1,()),()),()),p.1.2.2.2.2.2.2.2.2.1.2.2.2.1,())) (fun es p=>dclaims_l2 N es p.1.1 p.1.2.2.2.2.2.2.1 p.1.2.2.2.2.2.2.2.1 p.1.2.2.2.2.2.2.2.2.1.2.1.1 p.1.2.2.2.2.2.2.2.2.1.2.2.1.1.1.1 p.1.2.2.2.2.2.2.2.2.1.2.2.2.1 p.2.1.1 p.2.2.1 p.2.2.2.1.1 p.2.2.2.2.1.1) (staA:=Df) (fun es q p=>Dj N (fun d_ out_ i_ most_=>dclaims_l2 N es q.1 q.2.2.2.2.2.2.1 q.2.2.2.2.2.2.2.1 q.2.2.2.2.2.2.2.2.1.2.1.1 q.2.2.2.2.2.2.2.2.1.2.2.1.1.1.1 q.2.2.2.2.2.2.2.2.1.2.2.2.1 d_ out_ i_ most_) q.1 q.2.2.2.2.2.2.1 q.2.2.2.2.2.2.2.1 q.2.2.2.2.2.2.2.2.1.2.1.1 q.2.2.2.2.2.2.2.2.1.2.2.1.1.1.1 q.2.2.2.2.2.2.2.2.1.2.2.2.1 p.1.2.2.2.2.1 p.2.1.1 p.2.2.1 p.2.2.2.1.1 p.2.2.2.2.1.1) [] (fun e=>.inl ((e.1,(),(),(),(),(),e.2.1,e.2.2.1,()),((e.2.2.2.1,()),e.2.2.2.2.1,(e.2.2.2.2.2.1,()),(e.2.2.2.2.2.2,()),()))) (fun _ _ _=>rfl) rfl (by kernel_rfl) (fun _=>by kernel_rfl) (by kernel_rfl) Jb (Nat.le_of_ble_eq_true (by kernel_rfl)) (by kernel_rfl) ?_ ?_ ?_ ?_
 ·exact fun z E Xc hE hX hx p hp a w hS=>ev_sound (z:=z) (B:=Bf) (loops:=[]) (leaves:=[O1]) (top:=true) (M7 N) mixed trivial hE hX ⟨(fun p hp=>by obtain rfl:=Option.some.inj hp;exact hx),trivial⟩ B4.no 400 false _ _ _ ((Zg N p.1.1 p.1.2.2.2.2.2.2.1 p.1.2.2.2.2.2.2.2.1 p.1.2.2.2.2.2.2.2.2.1.2.1.1 p.1.2.2.2.2.2.2.2.2.1.2.2.1.1.1.1 p.1.2.2.2.2.2.2.2.2.1.2.2.2.1 p.2.1.1 p.2.2.1 p.2.2.2.1.1 p.2.2.2.2.1.1).trans hp) a w hS
 ·intro z E Xc hE hX hx e he q b hb a w hS
  simp only[List.not_mem_nil]at he
 ·exact fun z E Xc hE hX e es p hl hp a w hS=>ev_sound (z:=z) (B:=E9) (loops:=[]) (leaves:=[_]) (top:=false) (M7 N) mixed trivial hE hX ⟨hl,trivial⟩ B4.no 400 false _ _ _ ((Yf N e es p.1.1 p.1.2.2.2.2.2.2.1 p.1.2.2.2.2.2.2.2.1 p.1.2.2.2.2.2.2.2.2.1.2.1.1 p.1.2.2.2.2.2.2.2.2.1.2.2.1.1.1.1 p.1.2.2.2.2.2.2.2.2.1.2.2.2.1 p.2.1.1 p.2.2.1 p.2.2.2.1.1 p.2.2.2.2.1.1).trans hp) a w hS
 ·exact fun z E Xc hE hX es q he hs p hp a w hS=>ev_sound (z:=z) (B:=E9) (loops:=[]) (leaves:=[_]) (top:=false) (M7 N) mixed trivial hE hX ⟨he,trivial⟩ B4.no 400 false _ _ _ ((A01 N (fun d_ out_ i_ most_=>dclaims_l2 N es q.1 q.2.2.2.2.2.2.1 q.2.2.2.2.2.2.2.1 q.2.2.2.2.2.2.2.2.1.2.1.1 q.2.2.2.2.2.2.2.2.1.2.2.1.1.1.1 q.2.2.2.2.2.2.2.2.1.2.2.2.1 d_ out_ i_ most_) q.1 q.2.2.2.2.2.2.1 q.2.2.2.2.2.2.2.1 q.2.2.2.2.2.2.2.2.1.2.1.1 q.2.2.2.2.2.2.2.2.1.2.2.1.1.1.1 q.2.2.2.2.2.2.2.2.1.2.2.2.1 p.1.2.2.2.2.1 p.2.1.1 p.2.2.1 p.2.2.2.1.1 p.2.2.2.2.1.1).trans hp) a w hS
abbrev Nh:List PI:=[.c [1,1,0,1,0,0,0],.c [1,1,0,1,0,0,1],.l [1,1,0,1,0,0],.b 0,.c [1,1,1]]
abbrev Nu:Sta:=⟨[1,2,4,5,14,15],⟨[shI,.own 0 0,.nils,.ols 1,shI,shI],[.segs [shD],.lst (.int .i64)]⟩⟩
abbrev A62(rec:Int→Int→Int→Dk→Li→Option Li):Leaf Li:=⟨Nh,Nu,fun p=>rec p.1.1 p.1.2.2.2.2.1 p.1.2.2.2.2.2.1 p.2.1.1 p.2.2.1⟩
abbrev O4:Leaf Li:=⟨[.c [1,1,1,0],.c [1,1,1,1]],⟨[5],⟨[.ols 0],[.lst (.int .i64)]⟩⟩,fun p=>some (p.2.1)⟩
noncomputable def A4a(N:Nat)(rec:Int→Int→Int→Dk→Li→Option Li):JnQ (Z:=Li) Bf true none [A62 rec,O4]:=mkJ (Gg N) [⟨Dr N,I0 N⟩] [] ⟨[.c [1,1,0,1,0,0,1,1,1],.l [1,1,0,1,0,0],.b 0,.c [1,1,1]],⟨[1,2,4,5,14,15],⟨[shI,.own 0 0,.nils,.ols 1,shI,shI],[.segs [shD],.lst (.int .i64)]⟩⟩,fun p=>Gv N rec p.1.1 p.1.2.2.2.2.1 p.1.2.2.2.2.2.1 p.2.1.1 p.2.2.1⟩ (fun p=>by kernel_rfl)
noncomputable def A46(N:Nat):LpQ Bf true:=mkL (Z:=Li) (Gg N) [⟨Dr N,I0 N⟩] Nh Nu (fun m p=>dclaims_l1 N m p.1.1 p.1.2.2.2.2.1 p.1.2.2.2.2.2.1 p.2.1.1 p.2.2.1) [O4] (fun m=>[A4a N (dclaims_l1 N m)]) (fun k e=>k (.inl (((),()),(e,())))) N (fun m p=>by kernel_rfl)
noncomputable def Aep(N:Nat):Spec:=mkS 76 ⟨[shD,shI],[]⟩ T6 (fun p=>It N p.1.1 p.1.2.1) (fun k r=>k ((r,()),()))
theorem O0(N:Nat):A0 Tryz.prog (Aep N):=mkF (R:=Li) (m0:=0) (Gg N) [⟨Dr N,I0 N⟩,A46 N] (fun r=>some r.1.1) [] Tryz.func76 (fun p=>by kernel_rfl) (by kernel_rfl) (fun _=>by kernel_rfl)

def M9(N:Nat)(d:Li)(d2:Int)(d3 d4:Ll)(d5:Li)(found:Int):Option (Li×Int):=
 ((Aw N d d2 d3 d4 d5).bind fun e=>match e with
 | .inl (x_1,y_2)=>
  (br (!decide (y_2=0))
   (some ([],y_2))
   ((Cp N x_1 found).bind fun x_3=>
   br (!x_3)
    (some ([],1))
    ((It N x_1 found).bind fun x_4=>
    some (x_4,0))))
 | .inr x_5=>
  (br (!decide (x_5=0))
   (some ([],x_5))
   (none)))
noncomputable def Ad5(N:Nat):Spec:=mkS 26 ⟨[shG,shI],[]⟩ [⟨[shL,shI],[]⟩] (fun p=>M9 N p.1.1.1 p.1.1.2.1 p.1.1.2.2.1 p.1.1.2.2.2.1 p.1.1.2.2.2.2.1 p.1.2.1) (fun k r=>k ((r.1,r.2,()),()))
theorem A15(N:Nat):A0 Tryz.prog (Ad5 N):=mkF (R:=Li×Int) (m0:=0) [⟨_,Aj N⟩,⟨_,Ch N⟩,⟨_,O0 N⟩] [] (fun r=>some (r.1.1,r.1.2.1)) [] Tryz.func26 (fun p=>by kernel_rfl) (by kernel_rfl) (fun _=>by kernel_rfl)

def Hx(N:Nat)(rec:Dk→Int→Int→Li→Option Li)(x:Dk)(u u2:Int)(out:Li):Option Li:=
 chk (u2+1)<|
 rec x u (u2+1) out
def contests_l1(N:Nat):Nat→Dk→Int→Int→Li→Option Li
 | 0,_,_,_,_=>none
 | n_+1,x,u,u2,out=>
  br (decide (u2<u))
   ((It N x u2).bind fun x_3=>
   br (decide (1<(x_3.length:Int)))
    (lim (out.length+[u2].length)<|
    Hx N (contests_l1 N n_) x u u2 (out++[u2]))
    (Hx N (contests_l1 N n_) x u u2 out))
   (some (out))
def Jj(N:Nat)(d:Li)(d2:Int)(d3 d4:Ll)(d5:Li):Option (Li×Int):=
 ((Aw N d d2 d3 d4 d5).bind fun e=>match e with
 | .inl (x_1,y_2)=>
  (br (!decide (y_2=0))
   (some ([],y_2))
   ((contests_l1 N N x_1 (d4.length:Int) 0 []).bind fun out_4=>
   some (out_4,0)))
 | .inr x_5=>
  (br (!decide (x_5=0))
   (some ([],x_5))
   (none)))
noncomputable def Ly(N:Nat):Oks:=[⟨_,Aj N⟩,⟨_,O0 N⟩]
abbrev Yw:List StSh:=[⟨[shL,shI],[]⟩]
noncomputable abbrev Zn:Body:=mkB Tryz.f28 Yw 0
abbrev L9:List PI:=[.c [1,1,1,1,0,1,0,0,0],.c [1,1,1,1,0,1,0,0,1],.l [1,1,1,1,0,1,0,0],.b 0,.c [1,1,1,1,1]]
abbrev Lx:Sta:=⟨[4,6,18,19],⟨[shD,.ols 0,shI,shI],[.lst (.int .i64)]⟩⟩
abbrev A0m(rec:Dk→Int→Int→Li→Option Li):Leaf Li:=⟨L9,Lx,fun p=>rec p.1.1 p.1.2.2.1 p.1.2.2.2.1 p.2.1⟩
abbrev Kk:Leaf Li:=⟨[.c [1,1,1,1,1,0],.c [1,1,1,1,1,1]],⟨[6],⟨[.ols 0],[.lst (.int .i64)]⟩⟩,fun p=>some (p.2.1)⟩
noncomputable def A16(N:Nat)(rec:Dk→Int→Int→Li→Option Li){top:Bool}:JnQ (Z:=Li) Zn top none [A0m rec,Kk]:=mkJ (Ly N) [] [] ⟨[.c [1,1,1,1,0,1,0,0,1,1,1],.l [1,1,1,1,0,1,0,0],.b 0,.c [1,1,1,1,1]],⟨[4,6,18,19],⟨[shD,.ols 0,shI,shI],[.lst (.int .i64)]⟩⟩,fun p=>Hx N rec p.1.1 p.1.2.2.1 p.1.2.2.2.1 p.2.1⟩ (fun p=>by kernel_rfl)
noncomputable def A0b(N:Nat){top:Bool}:LpQ Zn top:=mkL (Z:=Li) (Ly N) [] L9 Lx (fun m p=>contests_l1 N m p.1.1 p.1.2.2.1 p.1.2.2.2.1 p.2.1) [Kk] (fun m=>[A16 N (contests_l1 N m)]) (fun k e=>k (.inl (((),()),(e,())))) N (fun m p=>by kernel_rfl)
noncomputable def Aay(N:Nat):Spec:=mkS 28 ⟨[shG],[]⟩ Yw (fun p=>Jj N p.1.1.1 p.1.1.2.1 p.1.1.2.2.1 p.1.1.2.2.2.1 p.1.1.2.2.2.2.1) (fun k r=>k ((r.1,r.2,()),()))
theorem Zb(N:Nat):A0 Tryz.prog (Aay N):=mkF (R:=Li×Int) (m0:=0) (Ly N) [A0b N] (fun r=>some (r.1.1,r.1.2.1)) [] Tryz.func28 (fun p=>by kernel_rfl) (by kernel_rfl) (fun _=>by kernel_rfl)

def Fa(N:Nat)(i k:Int)(u:Dk):Option Int:=
 rng i 6<|
 rng k 6<|
 get u.2.2.2.2.2.1 ((i.toNat*6)+k.toNat) fun x_1=>
 some x_1
noncomputable def Aiu(N:Nat):Spec:=mkS 97 ⟨[shI,shI,.fz [shD]],[]⟩ [⟨[shI],[]⟩] (fun p=>Fa N p.1.1 p.1.2.1 p.1.2.2.1.1) (fun k r=>k ((r,()),()))
theorem A4j(N:Nat):A0 Tryz.prog (Aiu N):=mkF (R:=Int) (m0:=0) [] [] (fun r=>some r.1.1) [] Tryz.func97 (fun p=>by kernel_rfl) (by kernel_rfl) (fun _=>by kernel_rfl)

def Q3(N:Nat)(d:Dk):Option Dk:=
 some d
noncomputable def Ak1(N:Nat):Spec:=mkS 79 ⟨[shD],[]⟩ [⟨[.agg [.fn 97 [] [.fz [shD]]]],[]⟩] (fun p=>Q3 N p.1.1) (fun k r=>k (((((),((r,()),())),()),()),()))
theorem W1(N:Nat):A0 Tryz.prog (Ak1 N):=mkF (R:=Dk) (m0:=0) [] [] (fun r=>some r.1.1.1.2.1.1) [] Tryz.func79 (fun p=>by kernel_rfl) (by kernel_rfl) (fun _=>by kernel_rfl)

abbrev A5f:List StSh:=[⟨[.agg [shI,shI,shI]],[.segs [.fn 105 [] [.fz [shD],.fz [.mp 1],.own 0 0,.fz [.fn 97 [] [.fz [shD]]]]],.map (.pair (.int .i64) (.int .i64)) (.pair (.int .i64) (.pair (.int .i64) (.int .i64)))]⟩]
noncomputable abbrev B6(self:Int→Int→Dk→Dk→Dk→Dk→(List ((Int×Int)×(Int×(Int×Int))))→Option (Int×Int×Int×Dk×Dk×(List ((Int×Int)×(Int×(Int×Int)))))):Spec:=mkS 105 ⟨[.agg [shI,shI],.fz [shD],.fz [.mp 1],.own 0 0,.fz [.fn 97 [] [.fz [shD]]]],[.segs [.fn 105 [] [.fz [shD],.fz [.mp 1],.own 0 0,.fz [.fn 97 [] [.fz [shD]]]]],.map (.pair (.int .i64) (.int .i64)) (.pair (.int .i64) (.pair (.int .i64) (.int .i64)))]⟩ A5f (fun p=>self p.1.1.1 p.1.1.2.1 p.1.2.1.1 p.1.2.2.2.2.1.1.2.1.1 p.2.1.1.2.1.1 p.2.1.1.2.2.2.2.1.1.2.1.1 p.2.2.1) (fun k r=>k (((r.1,r.2.1,r.2.2.1,()),()),((((),((r.2.2.2.1,()),((),()),(),(((),((r.2.2.2.2.1,()),())),()),())),()),r.2.2.2.2.2,())))
def Gm(N:Nat)(self:Int→Int→Dk→Dk→Dk→Dk→(List ((Int×Int)×(Int×(Int×Int))))→Option (Int×Int×Int×Dk×Dk×(List ((Int×Int)×(Int×(Int×Int))))))(rec:Dk→Dk→(List ((Int×Int)×(Int×(Int×Int))))→Int→Int→Int→Int→Int→Int→Int→Int→Option (Dk×Dk×(List ((Int×Int)×(Int×(Int×Int))))×Int×Int×Int×Int×Int×Int×Int×Int))(u u2 u3:Dk)(u4:Int)(u':Dk)(k':Int)(g' g2':Dk)(g3':List ((Int×Int)×(Int×(Int×Int))))(s' s2' g4' g5' g6' best' best2' best3':Int):Option (Dk×Dk×(List ((Int×Int)×(Int×(Int×Int))))×Int×Int×Int×Int×Int×Int×Int×Int):=
 grd (decide (0≤k'∧k'≤31))<|
 grd (decide (0≤(Int.fdiv s2' (2 ^ k'.toNat))∧(0:Int)≤1))<|
 br (decide ((((Int.fdiv s2' (2 ^ k'.toNat)).toNat &&& 1:Nat):Int)=1))
  (rec g' g2' g3' s' s2' g4' g5' g6' best' best2' best3')
  (chk (s'+1)<|
  grd (decide (0≤k'∧k'≤62))<|
  chk ((1:Int)*2 ^ k'.toNat)<|
  grd (decide (0≤s2'∧0≤((1:Int)*2 ^ k'.toNat)))<|
  (self (s'+1) ((s2'.toNat ||| ((1:Int)*2 ^ k'.toNat).toNat:Nat):Int) g' g2' g' g2' g3').bind fun(x_10,y_11,y_12,y_13,y_14,y_15)=>
  (Fa N s' k' u').bind fun x_16=>
  chk (y_11+x_16)<|
  br (decide (best2'<(y_11+x_16)))
   (rec y_13 y_14 y_15 s' s2' g4' g5' g6' k' (y_11+x_16) y_12)
   (br (decide ((y_11+x_16)=best2'))
    (chk (best3'+y_12)<|
    rec y_13 y_14 y_15 s' s2' g4' g5' g6' best' best2' (best3'+y_12))
    (rec y_13 y_14 y_15 s' s2' g4' g5' g6' best' best2' best3')))
def restp_l1(N:Nat)(self:Int→Int→Dk→Dk→Dk→Dk→(List ((Int×Int)×(Int×(Int×Int))))→Option (Int×Int×Int×Dk×Dk×(List ((Int×Int)×(Int×(Int×Int)))))):List (Int×Unit)→Dk→Dk→Dk→Int→Dk→Dk→(List ((Int×Int)×(Int×(Int×Int))))→Int→Int→Int→Int→Int→Int→Int→Int→Option (Dk×Dk×(List ((Int×Int)×(Int×(Int×Int))))×Int×Int×Int×Int×Int×Int×Int×Int)
 | [],u,u2,u3,u4,g,g2,g3,s,s2,g4,g5,g6,best,best2,best3=>
  some ((g,g2,g3,s,s2,g4,g5,g6,best,best2,best3))
 | e::es,u,u2,u3,u4,g,g2,g3,s,s2,g4,g5,g6,best,best2,best3=>
  Gm N self (fun g_ g2_ g3_ s_ s2_ g4_ g5_ g6_ best_ best2_ best3_=>restp_l1 N self es u u2 u3 u4 g_ g2_ g3_ s_ s2_ g4_ g5_ g6_ best_ best2_ best3_) u u2 u3 u4 u e.1 g g2 g3 s s2 g4 g5 g6 best best2 best3
def W8(N:Nat)(self:Int→Int→Dk→Dk→Dk→Dk→(List ((Int×Int)×(Int×(Int×Int))))→Option (Int×Int×Int×Dk×Dk×(List ((Int×Int)×(Int×(Int×Int))))))(s s2:Int)(u u2 g g2:Dk)(g3:List ((Int×Int)×(Int×(Int×Int)))):Option (Int×Int×Int×Dk×Dk×(List ((Int×Int)×(Int×(Int×Int))))):=
 br (decide (s=(u.2.2.1.length:Int)))
  (some (-1,0,1,g,g2,g3))
  (br ((g3.find? fun(y:(Int×Int)×(Int×(Int×Int)))=>Ty.beq (.pair (.int .i64) (.int .i64)) y.1 (s,s2)).isSome)
   (some ((((g3.find? fun(y:(Int×Int)×(Int×(Int×Int)))=>Ty.beq (.pair (.int .i64) (.int .i64)) y.1 (s,s2)).map (·.2)).getD (Ty.dflt (.pair (.int .i64) (.pair (.int .i64) (.int .i64))))).1,((((g3.find? fun(y:(Int×Int)×(Int×(Int×Int)))=>Ty.beq (.pair (.int .i64) (.int .i64)) y.1 (s,s2)).map (·.2)).getD (Ty.dflt (.pair (.int .i64) (.pair (.int .i64) (.int .i64))))).2).1,((((g3.find? fun(y:(Int×Int)×(Int×(Int×Int)))=>Ty.beq (.pair (.int .i64) (.int .i64)) y.1 (s,s2)).map (·.2)).getD (Ty.dflt (.pair (.int .i64) (.pair (.int .i64) (.int .i64))))).2).2,g,g2,g3))
   (chk (s+1)<|
   (self (s+1) s2 g g2 g g2 g3).bind fun(x_1,y_2,y_3,y_4,y_5,y_6)=>
   (I9 N u s).bind fun(x_7,y_8,y_9)=>
   ((mayR x_7 y_8 y_9).bind fun es=>restp_l1 N self es u2 x_7 y_8 y_9 y_4 y_5 y_6 s s2 0 0 0 (-1) y_2 y_3).bind fun(g_17,g2_18,g3_19,s_20,s2_21,g4_22,g5_23,g6_24,best_25,best2_26,best3_27)=>
   some (best_25,best2_26,best3_27,g_17,g2_18,(((s_20,s2_21),(best_25,best2_26,best3_27))::g3_19))))
noncomputable def Y1(N:Nat)(self:Int→Int→Dk→Dk→Dk→Dk→(List ((Int×Int)×(Int×(Int×Int))))→Option (Int×Int×Int×Dk×Dk×(List ((Int×Int)×(Int×(Int×Int))))))(hself:A0 Tryz.prog (B6 self)):Oks:=[⟨_,G2 N⟩,⟨_,A4j N⟩,⟨_,hself⟩]
noncomputable abbrev Ea:Body:=mkB Tryz.f105 A5f 2
noncomputable def Ml(N:Nat)(self:Int→Int→Dk→Dk→Dk→Dk→(List ((Int×Int)×(Int×(Int×Int))))→Option (Int×Int×Int×Dk×Dk×(List ((Int×Int)×(Int×(Int×Int))))))(hself:A0 Tryz.prog (B6 self)):List Spec:=(Y1 N self hself).map (·.1)
theorem Sn(N:Nat)(self:Int→Int→Dk→Dk→Dk→Dk→(List ((Int×Int)×(Int×(Int×Int))))→Option (Int×Int×Int×Dk×Dk×(List ((Int×Int)×(Int×(Int×Int))))))(hself:A0 Tryz.prog (B6 self)):AllP (A0 Tryz.prog) (Ml N self hself):=allP_map (Y1 N self hself)
noncomputable def Agd:Code:=Ea.c
abbrev Ei:Sta:=⟨[2,3,4,5,6,10,48],⟨[.fz [.mp 1],.own 0 0,.fz [.fn 97 [] [.fz [shD]]],.own 2 0,.own 3 0,.own 4 0,.fn 96 [] [.fz [shD],.fz [.fn 71 [shD] []],.fe (.int .i64)]],[.segs [.fn 105 [] [.fz [shD],.fz [.mp 1],.own 0 0,.fz [.fn 97 [] [.fz [shD]]]]],.map (.pair (.int .i64) (.int .i64)) (.pair (.int .i64) (.pair (.int .i64) (.int .i64))),.segs [shI,shI],.segs [shI,shI,shI],.segs [shI,shI,shI]]⟩⟩
abbrev Fz:Sta:=⟨[3,4,5,6,10,11],⟨[.own 0 0,.fz [.fn 97 [] [.fz [shD]]],.own 2 0,.own 3 0,.own 4 0,shI],[.segs [.fn 105 [] [.fz [shD],.fz [.mp 1],.own 0 0,.fz [.fn 97 [] [.fz [shD]]]]],.map (.pair (.int .i64) (.int .i64)) (.pair (.int .i64) (.pair (.int .i64) (.int .i64))),.segs [shI,shI],.segs [shI,shI,shI],.segs [shI,shI,shI]]⟩⟩
abbrev Uz:Leaf (Dk×Dk×(List ((Int×Int)×(Int×(Int×Int))))×Int×Int×Int×Int×Int×Int×Int×Int):=⟨[.c [1,1,1,1,1,1,0],.c [1,1,1,1,1,1,1]],⟨[2,5,6,10],⟨[.fz [.mp 1],.own 2 0,.own 3 0,.own 4 0],[.segs [.fn 105 [] [.fz [shD],.fz [.mp 1],.own 0 0,.fz [.fn 97 [] [.fz [shD]]]]],.map (.pair (.int .i64) (.int .i64)) (.pair (.int .i64) (.pair (.int .i64) (.int .i64))),.segs [shI,shI],.segs [shI,shI,shI],.segs [shI,shI,shI]]⟩⟩,fun p=>some ((p.2.1.1.2.1.1,p.2.1.1.2.2.2.2.1.1.2.1.1,p.2.2.1,p.2.2.2.1.1,p.2.2.2.1.2.1,p.2.2.2.2.1.1,p.2.2.2.2.1.2.1,p.2.2.2.2.1.2.2.1,p.2.2.2.2.2.1.1,p.2.2.2.2.2.1.2.1,p.2.2.2.2.2.1.2.2.1))⟩
noncomputable def Ot(N:Nat)(self:Int→Int→Dk→Dk→Dk→Dk→(List ((Int×Int)×(Int×(Int×Int))))→Option (Int×Int×Int×Dk×Dk×(List ((Int×Int)×(Int×(Int×Int))))))(hself:A0 Tryz.prog (B6 self)):Hl:={ at_:=[.c [1,1,1,1,1,0,1,0],.b 0,.c [1,1,1,1,1,1]],sta:=Ei,exits:=[([.c [1,1,1,1,1,1,0],.c [1,1,1,1,1,1,1]],⟨[2,5,6,10],⟨[.fz [.mp 1],.own 2 0,.own 3 0,.own 4 0],[.segs [.fn 105 [] [.fz [shD],.fz [.mp 1],.own 0 0,.fz [.fn 97 [] [.fz [shD]]]]],.map (.pair (.int .i64) (.int .i64)) (.pair (.int .i64) (.pair (.int .i64) (.int .i64))),.segs [shI,shI],.segs [shI,shI,shI],.segs [shI,shI,shI]]⟩⟩)],run:=fun p k=>((mayR p.1.2.2.2.2.2.2.1.2.1.1 p.1.2.2.2.2.2.2.1.2.2.1.1.1.1 p.1.2.2.2.2.2.2.1.2.2.2.1).bind fun es=>restp_l1 N self es p.1.2.2.1.1.2.1.1 p.1.2.2.2.2.2.2.1.2.1.1 p.1.2.2.2.2.2.2.1.2.2.1.1.1.1 p.1.2.2.2.2.2.2.1.2.2.2.1 p.2.1.1.2.1.1 p.2.1.1.2.2.2.2.1.1.2.1.1 p.2.2.1 p.2.2.2.1.1 p.2.2.2.1.2.1 p.2.2.2.2.1.1 p.2.2.2.2.1.2.1 p.2.2.2.2.1.2.2.1 p.2.2.2.2.2.1.1 p.2.2.2.2.2.1.2.1 p.2.2.2.2.2.1.2.2.1).bind fun e=>k (.inl ((((),()),(),(),(),()),((((),((e.1,()),((),()),(),(((),((e.2.1,()),())),()),())),()),e.2.2.1,(e.2.2.2.1,e.2.2.2.2.1,()),(e.2.2.2.2.2.1,e.2.2.2.2.2.2.1,e.2.2.2.2.2.2.2.1,()),(e.2.2.2.2.2.2.2.2.1,e.2.2.2.2.2.2.2.2.2.1,e.2.2.2.2.2.2.2.2.2.2,()),()))) }
noncomputable abbrev Hh:Body:=mkB Tryz.f105 A5f 5
theorem A61(N:Nat)(self:Int→Int→Dk→Dk→Dk→Dk→(List ((Int×Int)×(Int×(Int×Int))))→Option (Int×Int×Int×Dk×Dk×(List ((Int×Int)×(Int×(Int×Int))))))(hself:A0 Tryz.prog (B6 self))(u:Dk)(u2:Dk)(u3:Dk)(u4:Int)(g:Dk)(g2:Dk)(g3:List ((Int×Int)×(Int×(Int×Int))))(s:Int)(s2:Int)(g4:Int)(g5:Int)(g6:Int)(best:Int)(best2:Int)(best3:Int):ev (Z:=Dk×Dk×(List ((Int×Int)×(Int×(Int×Int))))×Int×Int×Int×Int×Int×Int×Int×Int) Tryz.prog (Ml N self hself) Ea [] [Uz] none 400 false (nrm Ea.c 99 [.b 0,.c [1,1,1,1,1,1]]) (stL Ei ((((),()),(),(((),((u,()),())),()),(),(),(),((),((u2,()),(((u3,()),()),()),u4,())),()),((((),((g,()),((),()),(),(((),((g2,()),())),()),())),()),g3,(s,s2,()),(g4,g5,g6,()),(best,best2,best3,()),()))) (stH Ei ((((),()),(),(((),((u,()),())),()),(),(),(),((),((u2,()),(((u3,()),()),()),u4,())),()),((((),((g,()),((),()),(),(((),((g2,()),())),()),())),()),g3,(s,s2,()),(g4,g5,g6,()),(best,best2,best3,()),())))=restp_l1 N self [] u u2 u3 u4 g g2 g3 s s2 g4 g5 g6 best best2 best3:=by kernel_rfl
theorem A5k(N:Nat)(self:Int→Int→Dk→Dk→Dk→Dk→(List ((Int×Int)×(Int×(Int×Int))))→Option (Int×Int×Int×Dk×Dk×(List ((Int×Int)×(Int×(Int×Int))))))(hself:A0 Tryz.prog (B6 self))(e:Int×Unit)(es:List (Int×Unit))(u:Dk)(u2:Dk)(u3:Dk)(u4:Int)(g:Dk)(g2:Dk)(g3:List ((Int×Int)×(Int×(Int×Int))))(s:Int)(s2:Int)(g4:Int)(g5:Int)(g6:Int)(best:Int)(best2:Int)(best3:Int):ev (Z:=Dk×Dk×(List ((Int×Int)×(Int×(Int×Int))))×Int×Int×Int×Int×Int×Int×Int×Int) Tryz.prog (Ml N self hself) Hh [] [⟨[.r,.c [1,1,1,1,1,0,1,0,1]],Fz,fun p=>Gm N self (fun g_ g2_ g3_ s_ s2_ g4_ g5_ g6_ best_ best2_ best3_=>restp_l1 N self es u u2 u3 u4 g_ g2_ g3_ s_ s2_ g4_ g5_ g6_ best_ best2_ best3_) u u2 u3 u4 p.1.2.1.1.2.1.1 p.1.2.2.2.2.2.1 p.2.1.1.2.1.1 p.2.1.1.2.2.2.2.1.1.2.1.1 p.2.2.1 p.2.2.2.1.1 p.2.2.2.1.2.1 p.2.2.2.2.1.1 p.2.2.2.2.1.2.1 p.2.2.2.2.1.2.2.1 p.2.2.2.2.2.1.1 p.2.2.2.2.2.1.2.1 p.2.2.2.2.2.1.2.2.1⟩] none 400 false (nrm Ea.c 99 [.c [1,1,1,1,1,0,1,0,0],.r,.c [1,1,1,1,1,0,1,0,1]]) (pars [49] (encs id Be.elem e) (stL Ei ((((),()),(),(((),((u,()),())),()),(),(),(),((),((u2,()),(((u3,()),()),()),u4,())),()),((((),((g,()),((),()),(),(((),((g2,()),())),()),())),()),g3,(s,s2,()),(g4,g5,g6,()),(best,best2,best3,()),())))) (stH Ei ((((),()),(),(((),((u,()),())),()),(),(),(),((),((u2,()),(((u3,()),()),()),u4,())),()),((((),((g,()),((),()),(),(((),((g2,()),())),()),())),()),g3,(s,s2,()),(g4,g5,g6,()),(best,best2,best3,()),())))=restp_l1 N self (e::es) u u2 u3 u4 g g2 g3 s s2 g4 g5 g6 best best2 best3:=by kernel_rfl
theorem A41(N:Nat)(self:Int→Int→Dk→Dk→Dk→Dk→(List ((Int×Int)×(Int×(Int×Int))))→Option (Int×Int×Int×Dk×Dk×(List ((Int×Int)×(Int×(Int×Int))))))(hself:A0 Tryz.prog (B6 self))(rec:Dk→Dk→(List ((Int×Int)×(Int×(Int×Int))))→Int→Int→Int→Int→Int→Int→Int→Int→Option (Dk×Dk×(List ((Int×Int)×(Int×(Int×Int))))×Int×Int×Int×Int×Int×Int×Int×Int))(u:Dk)(u2:Dk)(u3:Dk)(u4:Int)(u':Dk)(k':Int)(g':Dk)(g2':Dk)(g3':List ((Int×Int)×(Int×(Int×Int))))(s':Int)(s2':Int)(g4':Int)(g5':Int)(g6':Int)(best':Int)(best2':Int)(best3':Int):ev (Z:=Dk×Dk×(List ((Int×Int)×(Int×(Int×Int))))×Int×Int×Int×Int×Int×Int×Int×Int) Tryz.prog (Ml N self hself) Hh [] [⟨[],⟨[],⟨[],[.segs [.fn 105 [] [.fz [shD],.fz [.mp 1],.own 0 0,.fz [.fn 97 [] [.fz [shD]]]]],.map (.pair (.int .i64) (.int .i64)) (.pair (.int .i64) (.pair (.int .i64) (.int .i64))),.segs [shI,shI],.segs [shI,shI,shI],.segs [shI,shI,shI]]⟩⟩,fun p=>rec p.2.1.1.2.1.1 p.2.1.1.2.2.2.2.1.1.2.1.1 p.2.2.1 p.2.2.2.1.1 p.2.2.2.1.2.1 p.2.2.2.2.1.1 p.2.2.2.2.1.2.1 p.2.2.2.2.1.2.2.1 p.2.2.2.2.2.1.1 p.2.2.2.2.2.1.2.1 p.2.2.2.2.2.1.2.2.1⟩] none 400 false (nrm Ea.c 99 [.c [1,1,1,1,1,0,1,0,1]]) (stL Fz (((),(((),((u',()),())),()),(),(),(),k',()),((((),((g',()),((),()),(),(((),((g2',()),())),()),())),()),g3',(s',s2',()),(g4',g5',g6',()),(best',best2',best3',()),()))) (stH Fz (((),(((),((u',()),())),()),(),(),(),k',()),((((),((g',()),((),()),(),(((),((g2',()),())),()),())),()),g3',(s',s2',()),(g4',g5',g6',()),(best',best2',best3',()),())))=Gm N self rec u u2 u3 u4 u' k' g' g2' g3' s' s2' g4' g5' g6' best' best2' best3':=by kernel_rfl
theorem A6w(N:Nat)(self:Int→Int→Dk→Dk→Dk→Dk→(List ((Int×Int)×(Int×(Int×Int))))→Option (Int×Int×Int×Dk×Dk×(List ((Int×Int)×(Int×(Int×Int))))))(hself:A0 Tryz.prog (B6 self)):Gn Tryz.prog Ea.c Ea.n Ea.m0 true (Ot N self hself):=by
 refine Lp (B:=Ea) (is:=Be) (g:=.tmp 48) (ps:=#[49]) (assign:=sub Agd [1,1,1,1,1,0,1,0,0]) (body:=sub Agd [1,1,1,1,1,0,1,0,1]) (Z:=Dk×Dk×(List ((Int×Int)×(Int×(Int×Int))))×Int×Int×Int×Int×Int×Int×Int×Int) (x:=Ot N self hself) (fun p=>((p.1.2.2.2.2.2.2.1.2.1.1,()),(((p.1.2.2.2.2.2.2.1.2.2.1.1.1.1,()),()),()),p.1.2.2.2.2.2.2.1.2.2.2.1,())) (fun es p=>restp_l1 N self es p.1.2.2.1.1.2.1.1 p.1.2.2.2.2.2.2.1.2.1.1 p.1.2.2.2.2.2.2.1.2.2.1.1.1.1 p.1.2.2.2.2.2.2.1.2.2.2.1 p.2.1.1.2.1.1 p.2.1.1.2.2.2.2.1.1.2.1.1 p.2.2.1 p.2.2.2.1.1 p.2.2.2.1.2.1 p.2.2.2.2.1.1 p.2.2.2.2.1.2.1 p.2.2.2.2.1.2.2.1 p.2.2.2.2.2.1.1 p.2.2.2.2.2.1.2.1 p.2.2.2.2.2.1.2.2.1) (staA:=Fz) (fun es q p=>Gm N self (fun g_ g2_ g3_ s_ s2_ g4_ g5_ g6_ best_ best2_ best3_=>restp_l1 N self es q.2.2.1.1.2.1.1 q.2.2.2.2.2.2.1.2.1.1 q.2.2.2.2.2.2.1.2.2.1.1.1.1 q.2.2.2.2.2.2.1.2.2.2.1 g_ g2_ g3_ s_ s2_ g4_ g5_ g6_ best_ best2_ best3_) q.2.2.1.1.2.1.1 q.2.2.2.2.2.2.1.2.1.1 q.2.2.2.2.2.2.1.2.2.1.1.1.1 q.2.2.2.2.2.2.1.2.2.2.1 p.1.2.1.1.2.1.1 p.1.2.2.2.2.2.1 p.2.1.1.2.1.1 p.2.1.1.2.2.2.2.1.1.2.1.1 p.2.2.1 p.2.2.2.1.1 p.2.2.2.1.2.1 p.2.2.2.2.1.1 p.2.2.2.2.1.2.1 p.2.2.2.2.1.2.2.1 p.2.2.2.2.2.1.1 p.2.2.2.2.2.1.2.1 p.2.2.2.2.2.1.2.2.1) [] (fun e=>.inl ((((),()),(),(),(),()),((((),((e.1,()),((),()),(),(((),((e.2.1,()),())),()),())),()),e.2.2.1,(e.2.2.2.1,e.2.2.2.2.1,()),(e.2.2.2.2.2.1,e.2.2.2.2.2.2.1,e.2.2.2.2.2.2.2.1,()),(e.2.2.2.2.2.2.2.2.1,e.2.2.2.2.2.2.2.2.2.1,e.2.2.2.2.2.2.2.2.2.2,()),()))) (fun _ _ _=>rfl) rfl (by kernel_rfl) (fun _=>by kernel_rfl) (by kernel_rfl) Jb (Nat.le_of_ble_eq_true (by kernel_rfl)) (by kernel_rfl) ?_ ?_ ?_ ?_
 ·exact fun z E Xc hE hX hx p hp a w hS=>ev_sound (z:=z) (B:=Ea) (loops:=[]) (leaves:=[Uz]) (top:=true) (Sn N self hself) mixed trivial hE hX ⟨(fun p hp=>by obtain rfl:=Option.some.inj hp;exact hx),trivial⟩ B4.no 400 false _ _ _ ((A61 N self hself p.1.2.2.1.1.2.1.1 p.1.2.2.2.2.2.2.1.2.1.1 p.1.2.2.2.2.2.2.1.2.2.1.1.1.1 p.1.2.2.2.2.2.2.1.2.2.2.1 p.2.1.1.2.1.1 p.2.1.1.2.2.2.2.1.1.2.1.1 p.2.2.1 p.2.2.2.1.1 p.2.2.2.1.2.1 p.2.2.2.2.1.1 p.2.2.2.2.1.2.1 p.2.2.2.2.1.2.2.1 p.2.2.2.2.2.1.1 p.2.2.2.2.2.1.2.1 p.2.2.2.2.2.1.2.2.1).trans hp) a w hS
 ·intro z E Xc hE hX hx e he q b hb a w hS
  simp only[List.not_mem_nil]at he
 ·exact fun z E Xc hE hX e es p hl hp a w hS=>ev_sound (z:=z) (B:=Hh) (loops:=[]) (leaves:=[_]) (top:=false) (Sn N self hself) mixed trivial hE hX ⟨hl,trivial⟩ B4.no 400 false _ _ _ ((A5k N self hself e es p.1.2.2.1.1.2.1.1 p.1.2.2.2.2.2.2.1.2.1.1 p.1.2.2.2.2.2.2.1.2.2.1.1.1.1 p.1.2.2.2.2.2.2.1.2.2.2.1 p.2.1.1.2.1.1 p.2.1.1.2.2.2.2.1.1.2.1.1 p.2.2.1 p.2.2.2.1.1 p.2.2.2.1.2.1 p.2.2.2.2.1.1 p.2.2.2.2.1.2.1 p.2.2.2.2.1.2.2.1 p.2.2.2.2.2.1.1 p.2.2.2.2.2.1.2.1 p.2.2.2.2.2.1.2.2.1).trans hp) a w hS
 ·exact fun z E Xc hE hX es q he hs p hp a w hS=>ev_sound (z:=z) (B:=Hh) (loops:=[]) (leaves:=[_]) (top:=false) (Sn N self hself) mixed trivial hE hX ⟨he,trivial⟩ B4.no 400 false _ _ _ ((A41 N self hself (fun g_ g2_ g3_ s_ s2_ g4_ g5_ g6_ best_ best2_ best3_=>restp_l1 N self es q.2.2.1.1.2.1.1 q.2.2.2.2.2.2.1.2.1.1 q.2.2.2.2.2.2.1.2.2.1.1.1.1 q.2.2.2.2.2.2.1.2.2.2.1 g_ g2_ g3_ s_ s2_ g4_ g5_ g6_ best_ best2_ best3_) q.2.2.1.1.2.1.1 q.2.2.2.2.2.2.1.2.1.1 q.2.2.2.2.2.2.1.2.2.1.1.1.1 q.2.2.2.2.2.2.1.2.2.2.1 p.1.2.1.1.2.1.1 p.1.2.2.2.2.2.1 p.2.1.1.2.1.1 p.2.1.1.2.2.2.2.1.1.2.1.1 p.2.2.1 p.2.2.2.1.1 p.2.2.2.1.2.1 p.2.2.2.2.1.1 p.2.2.2.2.1.2.1 p.2.2.2.2.1.2.2.1 p.2.2.2.2.2.1.1 p.2.2.2.2.2.1.2.1 p.2.2.2.2.2.1.2.2.1).trans hp) a w hS
theorem A07(N:Nat)(self:Int→Int→Dk→Dk→Dk→Dk→(List ((Int×Int)×(Int×(Int×Int))))→Option (Int×Int×Int×Dk×Dk×(List ((Int×Int)×(Int×(Int×Int))))))(hself:A0 Tryz.prog (B6 self)):A0 Tryz.prog (B6 (W8 N self)):=mkF (R:=Int×Int×Int×Dk×Dk×(List ((Int×Int)×(Int×(Int×Int))))) (m0:=2) (Y1 N self hself) [⟨Ot N self hself,A6w N self hself⟩] (fun r=>some (r.1.1.1,r.1.1.2.1,r.1.1.2.2.1,r.2.1.1.2.1.1,r.2.1.1.2.2.2.2.1.1.2.1.1,r.2.2.1)) [] Tryz.func105 (fun p=>by kernel_rfl) (by kernel_rfl) (fun _=>by kernel_rfl)
def Hm(N:Nat):Nat→Int→Int→Dk→Dk→Dk→Dk→(List ((Int×Int)×(Int×(Int×Int))))→Option (Int×Int×Int×Dk×Dk×(List ((Int×Int)×(Int×(Int×Int)))))
 | 0=>fun _ _ _ _ _ _ _=>none
 | n+1=>W8 N (Hm N n)
theorem X3(N:Nat):∀n,A0 Tryz.prog (B6 (Hm N n))
 | 0=>A0.none (fun _ _ _=>rfl) (fun args w=>Sem.pv_run _ _ _ (by kernel_rfl) w)
 | n+1=>A07 N (Hm N n) (X3 N n)
noncomputable abbrev An0(N:Nat):Spec:=B6 (Hm N N)
theorem A77(N:Nat):A0 Tryz.prog (An0 N):=X3 N N

def Ss(N:Nat)(used:Int)(from_ from_2:Dk)(g:List ((Int×Int)×(Int×(Int×Int)))):Option (List ((Int×Int)×(Int×(Int×Int)))):=
 (Hm N N 0 used from_ from_2 from_ from_2 g).bind fun(x_1,y_2,y_3,y_4,y_5,y_6)=>
 some (((0,used),(x_1,y_2,y_3))::y_6)
def Ls(N:Nat)(d t:Dk)(used:Int):Option (List ((Int×Int)×(Int×(Int×Int)))):=
 Ss N used d t []
noncomputable def A1j(N:Nat):Oks:=[⟨_,A77 N⟩]
abbrev X8:List StSh:=[⟨[.mp 0],[.map (.pair (.int .i64) (.int .i64)) (.pair (.int .i64) (.pair (.int .i64) (.int .i64)))]⟩]
noncomputable abbrev Anz:Body:=mkB Tryz.f93 X8 0
abbrev A3k:altD X8→Option (List ((Int×Int)×(Int×(Int×Int)))):=fun r=>some r.2.1
noncomputable def A8y(N:Nat):JnQ (Z:=(List ((Int×Int)×(Int×(Int×Int))))) Anz true (some A3k) []:=mkJ (A1j N) [] [] ⟨[.c [1,1,1,1,0],.c [1,1,1,1,1]],⟨[2,7,8],⟨[shI,.fz [.mp 1],.own 0 0],[.segs [.fn 105 [] [.fz [shD],.fz [.mp 1],.own 0 0,.fz [.fn 97 [] [.fz [shD]]]]],.map (.pair (.int .i64) (.int .i64)) (.pair (.int .i64) (.pair (.int .i64) (.int .i64)))]⟩⟩,fun p=>Ss N p.1.1 p.2.1.1.2.1.1 p.2.1.1.2.2.2.2.1.1.2.1.1 p.2.2.1⟩ (fun p=>by kernel_rfl)
noncomputable def Ahs(N:Nat):Spec:=mkS 93 ⟨[shD,.agg [.fn 97 [] [.fz [shD]]],shI],[]⟩ X8 (fun p=>Ls N p.1.1 p.1.2.1.1.2.1.1 p.1.2.2.1) (fun k r=>k (((),()),(r,())))
theorem Rp(N:Nat):A0 Tryz.prog (Ahs N):=mkF (R:=(List ((Int×Int)×(Int×(Int×Int))))) (m0:=0) (A1j N) [] (A3k) [A8y N] Tryz.func93 (fun p=>by kernel_rfl) (by kernel_rfl) (fun _=>by kernel_rfl)

def Iz(N:Nat)(rec:Int→Int→Int→(List ((Int×Int)×(Int×(Int×Int))))→Li→Option Li)(used u u2:Int)(rests:List ((Int×Int)×(Int×(Int×Int))))(out:Li):Option Li:=
 chk (u2+1)<|
 rec used u (u2+1) rests out
def dbestp_l1(N:Nat):Nat→Int→Int→Int→(List ((Int×Int)×(Int×(Int×Int))))→Li→Option Li
 | 0,_,_,_,_,_=>none
 | n_+1,used,u,u2,rests,out=>
  br (decide (u2<u))
   (lim (out.length+[(((rests.find? fun(y:(Int×Int)×(Int×(Int×Int)))=>Ty.beq (.pair (.int .i64) (.int .i64)) y.1 (u2,used)).map (·.2)).getD (Ty.dflt (.pair (.int .i64) (.pair (.int .i64) (.int .i64))))).1].length)<|
   br (!decide ((((rests.find? fun(y:(Int×Int)×(Int×(Int×Int)))=>Ty.beq (.pair (.int .i64) (.int .i64)) y.1 (u2,used)).map (·.2)).getD (Ty.dflt (.pair (.int .i64) (.pair (.int .i64) (.int .i64))))).1=-1))
    (grd (decide (0≤(((rests.find? fun(y:(Int×Int)×(Int×(Int×Int)))=>Ty.beq (.pair (.int .i64) (.int .i64)) y.1 (u2,used)).map (·.2)).getD (Ty.dflt (.pair (.int .i64) (.pair (.int .i64) (.int .i64))))).1∧(((rests.find? fun(y:(Int×Int)×(Int×(Int×Int)))=>Ty.beq (.pair (.int .i64) (.int .i64)) y.1 (u2,used)).map (·.2)).getD (Ty.dflt (.pair (.int .i64) (.pair (.int .i64) (.int .i64))))).1≤62))<|
    chk ((1:Int)*2 ^ ((((rests.find? fun(y:(Int×Int)×(Int×(Int×Int)))=>Ty.beq (.pair (.int .i64) (.int .i64)) y.1 (u2,used)).map (·.2)).getD (Ty.dflt (.pair (.int .i64) (.pair (.int .i64) (.int .i64))))).1).toNat)<|
    grd (decide (0≤used∧0≤((1:Int)*2 ^ ((((rests.find? fun(y:(Int×Int)×(Int×(Int×Int)))=>Ty.beq (.pair (.int .i64) (.int .i64)) y.1 (u2,used)).map (·.2)).getD (Ty.dflt (.pair (.int .i64) (.pair (.int .i64) (.int .i64))))).1).toNat)))<|
    Iz N (dbestp_l1 N n_) ((used.toNat ||| ((1:Int)*2 ^ ((((rests.find? fun(y:(Int×Int)×(Int×(Int×Int)))=>Ty.beq (.pair (.int .i64) (.int .i64)) y.1 (u2,used)).map (·.2)).getD (Ty.dflt (.pair (.int .i64) (.pair (.int .i64) (.int .i64))))).1).toNat).toNat:Nat):Int) u u2 rests (out++[(((rests.find? fun(y:(Int×Int)×(Int×(Int×Int)))=>Ty.beq (.pair (.int .i64) (.int .i64)) y.1 (u2,used)).map (·.2)).getD (Ty.dflt (.pair (.int .i64) (.pair (.int .i64) (.int .i64))))).1]))
    (Iz N (dbestp_l1 N n_) used u u2 rests (out++[(((rests.find? fun(y:(Int×Int)×(Int×(Int×Int)))=>Ty.beq (.pair (.int .i64) (.int .i64)) y.1 (u2,used)).map (·.2)).getD (Ty.dflt (.pair (.int .i64) (.pair (.int .i64) (.int .i64))))).1])))
   (some (out))
def P4(N:Nat)(d t:Dk):Option Li:=
 (Ls N d t 0).bind fun x_1=>
 (dbestp_l1 N N 0 (d.2.2.1.length:Int) 0 x_1 []).bind fun out_2=>
 some out_2
noncomputable def Tm(N:Nat):Oks:=[⟨_,Rp N⟩]
abbrev A7n:List StSh:=[⟨[shL],[]⟩]
noncomputable abbrev Aap:Body:=mkB Tryz.f78 A7n 0
abbrev Rb:List PI:=[.c [1,1,1,1,0,1,0,0,0],.c [1,1,1,1,0,1,0,0,1],.l [1,1,1,1,0,1,0,0],.b 0,.c [1,1,1,1,1]]
abbrev Qs:Sta:=⟨[5,6,7,18,19],⟨[.mp 0,.ols 1,shI,shI,shI],[.map (.pair (.int .i64) (.int .i64)) (.pair (.int .i64) (.pair (.int .i64) (.int .i64))),.lst (.int .i64)]⟩⟩
abbrev A7l(rec:Int→Int→Int→(List ((Int×Int)×(Int×(Int×Int))))→Li→Option Li):Leaf Li:=⟨Rb,Qs,fun p=>rec p.1.2.2.1 p.1.2.2.2.1 p.1.2.2.2.2.1 p.2.1 p.2.2.1⟩
abbrev Pp:Leaf Li:=⟨[.c [1,1,1,1,1,0],.c [1,1,1,1,1,1]],⟨[6],⟨[.ols 0],[.lst (.int .i64)]⟩⟩,fun p=>some (p.2.1)⟩
noncomputable def A9v(N:Nat)(rec:Int→Int→Int→(List ((Int×Int)×(Int×(Int×Int))))→Li→Option Li){top:Bool}:JnQ (Z:=Li) Aap top none [A7l rec,Pp]:=mkJ (Tm N) [] [] ⟨[.c [1,1,1,1,0,1,0,0,1,1,1],.l [1,1,1,1,0,1,0,0],.b 0,.c [1,1,1,1,1]],⟨[5,6,7,18,19],⟨[.mp 0,.ols 1,shI,shI,shI],[.map (.pair (.int .i64) (.int .i64)) (.pair (.int .i64) (.pair (.int .i64) (.int .i64))),.lst (.int .i64)]⟩⟩,fun p=>Iz N rec p.1.2.2.1 p.1.2.2.2.1 p.1.2.2.2.2.1 p.2.1 p.2.2.1⟩ (fun p=>by kernel_rfl)
noncomputable def Ab2(N:Nat){top:Bool}:LpQ Aap top:=mkL (Z:=Li) (Tm N) [] Rb Qs (fun m p=>dbestp_l1 N m p.1.2.2.1 p.1.2.2.2.1 p.1.2.2.2.2.1 p.2.1 p.2.2.1) [Pp] (fun m=>[A9v N (dbestp_l1 N m)]) (fun k e=>k (.inl (((),()),(e,())))) N (fun m p=>by kernel_rfl)
noncomputable def Ahm(N:Nat):Spec:=mkS 78 ⟨[shD,.agg [.fn 97 [] [.fz [shD]]]],[]⟩ A7n (fun p=>P4 N p.1.1 p.1.2.1.1.2.1.1) (fun k r=>k ((r,()),()))
theorem A5j(N:Nat):A0 Tryz.prog (Ahm N):=mkF (R:=Li) (m0:=0) (Tm N) [Ab2 N] (fun r=>some r.1.1) [] Tryz.func78 (fun p=>by kernel_rfl) (by kernel_rfl) (fun _=>by kernel_rfl)

def Eo(N:Nat)(i k:Int)(u:Dk):Option Int:=
 rng i 6<|
 rng k 6<|
 get u.2.2.2.2.2.1 ((i.toNat*6)+k.toNat) fun x_1=>
 chk (595*x_1)<|
 idx u.2.2.2.2.1 i fun x_2=>
 chk ((595*x_1)+x_2)<|
 some ((595*x_1)+x_2)
noncomputable def Aib(N:Nat):Spec:=mkS 98 ⟨[shI,shI,.fz [shD]],[]⟩ [⟨[shI],[]⟩] (fun p=>Eo N p.1.1 p.1.2.1 p.1.2.2.1.1) (fun k r=>k ((r,()),()))
theorem A4d(N:Nat):A0 Tryz.prog (Aib N):=mkF (R:=Int) (m0:=0) [] [] (fun r=>some r.1.1) [] Tryz.func98 (fun p=>by kernel_rfl) (by kernel_rfl) (fun _=>by kernel_rfl)

def Adl(N:Nat)(d:Dk):Option Dk:=
 some d
noncomputable def Aps(N:Nat):Spec:=mkS 81 ⟨[shD],[]⟩ [⟨[.agg [.fn 98 [] [.fz [shD]]]],[]⟩] (fun p=>Adl N p.1.1) (fun k r=>k (((((),((r,()),())),()),()),()))
theorem Adj(N:Nat):A0 Tryz.prog (Aps N):=mkF (R:=Dk) (m0:=0) [] [] (fun r=>some r.1.1.1.2.1.1) [] Tryz.func81 (fun p=>by kernel_rfl) (by kernel_rfl) (fun _=>by kernel_rfl)

abbrev A4m:List StSh:=[⟨[.agg [shI,shI,shI]],[.segs [.fn 105 [] [.fz [shD],.fz [.mp 1],.own 0 0,.fz [.fn 98 [] [.fz [shD]]]]],.map (.pair (.int .i64) (.int .i64)) (.pair (.int .i64) (.pair (.int .i64) (.int .i64)))]⟩]
noncomputable abbrev B5(self:Int→Int→Dk→Dk→Dk→Dk→(List ((Int×Int)×(Int×(Int×Int))))→Option (Int×Int×Int×Dk×Dk×(List ((Int×Int)×(Int×(Int×Int)))))):Spec:=mkS 105 ⟨[.agg [shI,shI],.fz [shD],.fz [.mp 1],.own 0 0,.fz [.fn 98 [] [.fz [shD]]]],[.segs [.fn 105 [] [.fz [shD],.fz [.mp 1],.own 0 0,.fz [.fn 98 [] [.fz [shD]]]]],.map (.pair (.int .i64) (.int .i64)) (.pair (.int .i64) (.pair (.int .i64) (.int .i64)))]⟩ A4m (fun p=>self p.1.1.1 p.1.1.2.1 p.1.2.1.1 p.1.2.2.2.2.1.1.2.1.1 p.2.1.1.2.1.1 p.2.1.1.2.2.2.2.1.1.2.1.1 p.2.2.1) (fun k r=>k (((r.1,r.2.1,r.2.2.1,()),()),((((),((r.2.2.2.1,()),((),()),(),(((),((r.2.2.2.2.1,()),())),()),())),()),r.2.2.2.2.2,())))
def Gl(N:Nat)(self:Int→Int→Dk→Dk→Dk→Dk→(List ((Int×Int)×(Int×(Int×Int))))→Option (Int×Int×Int×Dk×Dk×(List ((Int×Int)×(Int×(Int×Int))))))(rec:Dk→Dk→(List ((Int×Int)×(Int×(Int×Int))))→Int→Int→Int→Int→Int→Int→Int→Int→Option (Dk×Dk×(List ((Int×Int)×(Int×(Int×Int))))×Int×Int×Int×Int×Int×Int×Int×Int))(u u2 u3:Dk)(u4:Int)(u':Dk)(k':Int)(g' g2':Dk)(g3':List ((Int×Int)×(Int×(Int×Int))))(s' s2' g4' g5' g6' best' best2' best3':Int):Option (Dk×Dk×(List ((Int×Int)×(Int×(Int×Int))))×Int×Int×Int×Int×Int×Int×Int×Int):=
 grd (decide (0≤k'∧k'≤31))<|
 grd (decide (0≤(Int.fdiv s2' (2 ^ k'.toNat))∧(0:Int)≤1))<|
 br (decide ((((Int.fdiv s2' (2 ^ k'.toNat)).toNat &&& 1:Nat):Int)=1))
  (rec g' g2' g3' s' s2' g4' g5' g6' best' best2' best3')
  (chk (s'+1)<|
  grd (decide (0≤k'∧k'≤62))<|
  chk ((1:Int)*2 ^ k'.toNat)<|
  grd (decide (0≤s2'∧0≤((1:Int)*2 ^ k'.toNat)))<|
  (self (s'+1) ((s2'.toNat ||| ((1:Int)*2 ^ k'.toNat).toNat:Nat):Int) g' g2' g' g2' g3').bind fun(x_10,y_11,y_12,y_13,y_14,y_15)=>
  (Eo N s' k' u').bind fun x_16=>
  chk (y_11+x_16)<|
  br (decide (best2'<(y_11+x_16)))
   (rec y_13 y_14 y_15 s' s2' g4' g5' g6' k' (y_11+x_16) y_12)
   (br (decide ((y_11+x_16)=best2'))
    (chk (best3'+y_12)<|
    rec y_13 y_14 y_15 s' s2' g4' g5' g6' best' best2' (best3'+y_12))
    (rec y_13 y_14 y_15 s' s2' g4' g5' g6' best' best2' best3')))
def C2(N:Nat)(self:Int→Int→Dk→Dk→Dk→Dk→(List ((Int×Int)×(Int×(Int×Int))))→Option (Int×Int×Int×Dk×Dk×(List ((Int×Int)×(Int×(Int×Int)))))):List (Int×Unit)→Dk→Dk→Dk→Int→Dk→Dk→(List ((Int×Int)×(Int×(Int×Int))))→Int→Int→Int→Int→Int→Int→Int→Int→Option (Dk×Dk×(List ((Int×Int)×(Int×(Int×Int))))×Int×Int×Int×Int×Int×Int×Int×Int)
 | [],u,u2,u3,u4,g,g2,g3,s,s2,g4,g5,g6,best,best2,best3=>
  some ((g,g2,g3,s,s2,g4,g5,g6,best,best2,best3))
 | e::es,u,u2,u3,u4,g,g2,g3,s,s2,g4,g5,g6,best,best2,best3=>
  Gl N self (fun g_ g2_ g3_ s_ s2_ g4_ g5_ g6_ best_ best2_ best3_=>C2 N self es u u2 u3 u4 g_ g2_ g3_ s_ s2_ g4_ g5_ g6_ best_ best2_ best3_) u u2 u3 u4 u e.1 g g2 g3 s s2 g4 g5 g6 best best2 best3
def Wl(N:Nat)(self:Int→Int→Dk→Dk→Dk→Dk→(List ((Int×Int)×(Int×(Int×Int))))→Option (Int×Int×Int×Dk×Dk×(List ((Int×Int)×(Int×(Int×Int))))))(s s2:Int)(u u2 g g2:Dk)(g3:List ((Int×Int)×(Int×(Int×Int)))):Option (Int×Int×Int×Dk×Dk×(List ((Int×Int)×(Int×(Int×Int))))):=
 br (decide (s=(u.2.2.1.length:Int)))
  (some (-1,0,1,g,g2,g3))
  (br ((g3.find? fun(y:(Int×Int)×(Int×(Int×Int)))=>Ty.beq (.pair (.int .i64) (.int .i64)) y.1 (s,s2)).isSome)
   (some ((((g3.find? fun(y:(Int×Int)×(Int×(Int×Int)))=>Ty.beq (.pair (.int .i64) (.int .i64)) y.1 (s,s2)).map (·.2)).getD (Ty.dflt (.pair (.int .i64) (.pair (.int .i64) (.int .i64))))).1,((((g3.find? fun(y:(Int×Int)×(Int×(Int×Int)))=>Ty.beq (.pair (.int .i64) (.int .i64)) y.1 (s,s2)).map (·.2)).getD (Ty.dflt (.pair (.int .i64) (.pair (.int .i64) (.int .i64))))).2).1,((((g3.find? fun(y:(Int×Int)×(Int×(Int×Int)))=>Ty.beq (.pair (.int .i64) (.int .i64)) y.1 (s,s2)).map (·.2)).getD (Ty.dflt (.pair (.int .i64) (.pair (.int .i64) (.int .i64))))).2).2,g,g2,g3))
   (chk (s+1)<|
   (self (s+1) s2 g g2 g g2 g3).bind fun(x_1,y_2,y_3,y_4,y_5,y_6)=>
   (I9 N u s).bind fun(x_7,y_8,y_9)=>
   ((mayR x_7 y_8 y_9).bind fun es=>C2 N self es u2 x_7 y_8 y_9 y_4 y_5 y_6 s s2 0 0 0 (-1) y_2 y_3).bind fun(g_17,g2_18,g3_19,s_20,s2_21,g4_22,g5_23,g6_24,best_25,best2_26,best3_27)=>
   some (best_25,best2_26,best3_27,g_17,g2_18,(((s_20,s2_21),(best_25,best2_26,best3_27))::g3_19))))
noncomputable def Wt(N:Nat)(self:Int→Int→Dk→Dk→Dk→Dk→(List ((Int×Int)×(Int×(Int×Int))))→Option (Int×Int×Int×Dk×Dk×(List ((Int×Int)×(Int×(Int×Int))))))(hself:A0 Tryz.prog (B5 self)):Oks:=[⟨_,G2 N⟩,⟨_,A4d N⟩,⟨_,hself⟩]
noncomputable abbrev Eg:Body:=mkB Tryz.f105 A4m 2
noncomputable def Mm(N:Nat)(self:Int→Int→Dk→Dk→Dk→Dk→(List ((Int×Int)×(Int×(Int×Int))))→Option (Int×Int×Int×Dk×Dk×(List ((Int×Int)×(Int×(Int×Int))))))(hself:A0 Tryz.prog (B5 self)):List Spec:=(Wt N self hself).map (·.1)
theorem Th(N:Nat)(self:Int→Int→Dk→Dk→Dk→Dk→(List ((Int×Int)×(Int×(Int×Int))))→Option (Int×Int×Int×Dk×Dk×(List ((Int×Int)×(Int×(Int×Int))))))(hself:A0 Tryz.prog (B5 self)):AllP (A0 Tryz.prog) (Mm N self hself):=allP_map (Wt N self hself)
noncomputable def Aff:Code:=Eg.c
abbrev Ey:Sta:=⟨[2,3,4,5,6,10,48],⟨[.fz [.mp 1],.own 0 0,.fz [.fn 98 [] [.fz [shD]]],.own 2 0,.own 3 0,.own 4 0,.fn 96 [] [.fz [shD],.fz [.fn 71 [shD] []],.fe (.int .i64)]],[.segs [.fn 105 [] [.fz [shD],.fz [.mp 1],.own 0 0,.fz [.fn 98 [] [.fz [shD]]]]],.map (.pair (.int .i64) (.int .i64)) (.pair (.int .i64) (.pair (.int .i64) (.int .i64))),.segs [shI,shI],.segs [shI,shI,shI],.segs [shI,shI,shI]]⟩⟩
abbrev Fo:Sta:=⟨[3,4,5,6,10,11],⟨[.own 0 0,.fz [.fn 98 [] [.fz [shD]]],.own 2 0,.own 3 0,.own 4 0,shI],[.segs [.fn 105 [] [.fz [shD],.fz [.mp 1],.own 0 0,.fz [.fn 98 [] [.fz [shD]]]]],.map (.pair (.int .i64) (.int .i64)) (.pair (.int .i64) (.pair (.int .i64) (.int .i64))),.segs [shI,shI],.segs [shI,shI,shI],.segs [shI,shI,shI]]⟩⟩
abbrev Vc:Leaf (Dk×Dk×(List ((Int×Int)×(Int×(Int×Int))))×Int×Int×Int×Int×Int×Int×Int×Int):=⟨[.c [1,1,1,1,1,1,0],.c [1,1,1,1,1,1,1]],⟨[2,5,6,10],⟨[.fz [.mp 1],.own 2 0,.own 3 0,.own 4 0],[.segs [.fn 105 [] [.fz [shD],.fz [.mp 1],.own 0 0,.fz [.fn 98 [] [.fz [shD]]]]],.map (.pair (.int .i64) (.int .i64)) (.pair (.int .i64) (.pair (.int .i64) (.int .i64))),.segs [shI,shI],.segs [shI,shI,shI],.segs [shI,shI,shI]]⟩⟩,fun p=>some ((p.2.1.1.2.1.1,p.2.1.1.2.2.2.2.1.1.2.1.1,p.2.2.1,p.2.2.2.1.1,p.2.2.2.1.2.1,p.2.2.2.2.1.1,p.2.2.2.2.1.2.1,p.2.2.2.2.1.2.2.1,p.2.2.2.2.2.1.1,p.2.2.2.2.2.1.2.1,p.2.2.2.2.2.1.2.2.1))⟩
noncomputable def Oy(N:Nat)(self:Int→Int→Dk→Dk→Dk→Dk→(List ((Int×Int)×(Int×(Int×Int))))→Option (Int×Int×Int×Dk×Dk×(List ((Int×Int)×(Int×(Int×Int))))))(hself:A0 Tryz.prog (B5 self)):Hl:={ at_:=[.c [1,1,1,1,1,0,1,0],.b 0,.c [1,1,1,1,1,1]],sta:=Ey,exits:=[([.c [1,1,1,1,1,1,0],.c [1,1,1,1,1,1,1]],⟨[2,5,6,10],⟨[.fz [.mp 1],.own 2 0,.own 3 0,.own 4 0],[.segs [.fn 105 [] [.fz [shD],.fz [.mp 1],.own 0 0,.fz [.fn 98 [] [.fz [shD]]]]],.map (.pair (.int .i64) (.int .i64)) (.pair (.int .i64) (.pair (.int .i64) (.int .i64))),.segs [shI,shI],.segs [shI,shI,shI],.segs [shI,shI,shI]]⟩⟩)],run:=fun p k=>((mayR p.1.2.2.2.2.2.2.1.2.1.1 p.1.2.2.2.2.2.2.1.2.2.1.1.1.1 p.1.2.2.2.2.2.2.1.2.2.2.1).bind fun es=>C2 N self es p.1.2.2.1.1.2.1.1 p.1.2.2.2.2.2.2.1.2.1.1 p.1.2.2.2.2.2.2.1.2.2.1.1.1.1 p.1.2.2.2.2.2.2.1.2.2.2.1 p.2.1.1.2.1.1 p.2.1.1.2.2.2.2.1.1.2.1.1 p.2.2.1 p.2.2.2.1.1 p.2.2.2.1.2.1 p.2.2.2.2.1.1 p.2.2.2.2.1.2.1 p.2.2.2.2.1.2.2.1 p.2.2.2.2.2.1.1 p.2.2.2.2.2.1.2.1 p.2.2.2.2.2.1.2.2.1).bind fun e=>k (.inl ((((),()),(),(),(),()),((((),((e.1,()),((),()),(),(((),((e.2.1,()),())),()),())),()),e.2.2.1,(e.2.2.2.1,e.2.2.2.2.1,()),(e.2.2.2.2.2.1,e.2.2.2.2.2.2.1,e.2.2.2.2.2.2.2.1,()),(e.2.2.2.2.2.2.2.2.1,e.2.2.2.2.2.2.2.2.2.1,e.2.2.2.2.2.2.2.2.2.2,()),()))) }
noncomputable abbrev Ha:Body:=mkB Tryz.f105 A4m 5
theorem A63(N:Nat)(self:Int→Int→Dk→Dk→Dk→Dk→(List ((Int×Int)×(Int×(Int×Int))))→Option (Int×Int×Int×Dk×Dk×(List ((Int×Int)×(Int×(Int×Int))))))(hself:A0 Tryz.prog (B5 self))(u:Dk)(u2:Dk)(u3:Dk)(u4:Int)(g:Dk)(g2:Dk)(g3:List ((Int×Int)×(Int×(Int×Int))))(s:Int)(s2:Int)(g4:Int)(g5:Int)(g6:Int)(best:Int)(best2:Int)(best3:Int):ev (Z:=Dk×Dk×(List ((Int×Int)×(Int×(Int×Int))))×Int×Int×Int×Int×Int×Int×Int×Int) Tryz.prog (Mm N self hself) Eg [] [Vc] none 400 false (nrm Eg.c 99 [.b 0,.c [1,1,1,1,1,1]]) (stL Ey ((((),()),(),(((),((u,()),())),()),(),(),(),((),((u2,()),(((u3,()),()),()),u4,())),()),((((),((g,()),((),()),(),(((),((g2,()),())),()),())),()),g3,(s,s2,()),(g4,g5,g6,()),(best,best2,best3,()),()))) (stH Ey ((((),()),(),(((),((u,()),())),()),(),(),(),((),((u2,()),(((u3,()),()),()),u4,())),()),((((),((g,()),((),()),(),(((),((g2,()),())),()),())),()),g3,(s,s2,()),(g4,g5,g6,()),(best,best2,best3,()),())))=C2 N self [] u u2 u3 u4 g g2 g3 s s2 g4 g5 g6 best best2 best3:=by kernel_rfl
theorem A6h(N:Nat)(self:Int→Int→Dk→Dk→Dk→Dk→(List ((Int×Int)×(Int×(Int×Int))))→Option (Int×Int×Int×Dk×Dk×(List ((Int×Int)×(Int×(Int×Int))))))(hself:A0 Tryz.prog (B5 self))(e:Int×Unit)(es:List (Int×Unit))(u:Dk)(u2:Dk)(u3:Dk)(u4:Int)(g:Dk)(g2:Dk)(g3:List ((Int×Int)×(Int×(Int×Int))))(s:Int)(s2:Int)(g4:Int)(g5:Int)(g6:Int)(best:Int)(best2:Int)(best3:Int):ev (Z:=Dk×Dk×(List ((Int×Int)×(Int×(Int×Int))))×Int×Int×Int×Int×Int×Int×Int×Int) Tryz.prog (Mm N self hself) Ha [] [⟨[.r,.c [1,1,1,1,1,0,1,0,1]],Fo,fun p=>Gl N self (fun g_ g2_ g3_ s_ s2_ g4_ g5_ g6_ best_ best2_ best3_=>C2 N self es u u2 u3 u4 g_ g2_ g3_ s_ s2_ g4_ g5_ g6_ best_ best2_ best3_) u u2 u3 u4 p.1.2.1.1.2.1.1 p.1.2.2.2.2.2.1 p.2.1.1.2.1.1 p.2.1.1.2.2.2.2.1.1.2.1.1 p.2.2.1 p.2.2.2.1.1 p.2.2.2.1.2.1 p.2.2.2.2.1.1 p.2.2.2.2.1.2.1 p.2.2.2.2.1.2.2.1 p.2.2.2.2.2.1.1 p.2.2.2.2.2.1.2.1 p.2.2.2.2.2.1.2.2.1⟩] none 400 false (nrm Eg.c 99 [.c [1,1,1,1,1,0,1,0,0],.r,.c [1,1,1,1,1,0,1,0,1]]) (pars [49] (encs id Be.elem e) (stL Ey ((((),()),(),(((),((u,()),())),()),(),(),(),((),((u2,()),(((u3,()),()),()),u4,())),()),((((),((g,()),((),()),(),(((),((g2,()),())),()),())),()),g3,(s,s2,()),(g4,g5,g6,()),(best,best2,best3,()),())))) (stH Ey ((((),()),(),(((),((u,()),())),()),(),(),(),((),((u2,()),(((u3,()),()),()),u4,())),()),((((),((g,()),((),()),(),(((),((g2,()),())),()),())),()),g3,(s,s2,()),(g4,g5,g6,()),(best,best2,best3,()),())))=C2 N self (e::es) u u2 u3 u4 g g2 g3 s s2 g4 g5 g6 best best2 best3:=by kernel_rfl
theorem A4y(N:Nat)(self:Int→Int→Dk→Dk→Dk→Dk→(List ((Int×Int)×(Int×(Int×Int))))→Option (Int×Int×Int×Dk×Dk×(List ((Int×Int)×(Int×(Int×Int))))))(hself:A0 Tryz.prog (B5 self))(rec:Dk→Dk→(List ((Int×Int)×(Int×(Int×Int))))→Int→Int→Int→Int→Int→Int→Int→Int→Option (Dk×Dk×(List ((Int×Int)×(Int×(Int×Int))))×Int×Int×Int×Int×Int×Int×Int×Int))(u:Dk)(u2:Dk)(u3:Dk)(u4:Int)(u':Dk)(k':Int)(g':Dk)(g2':Dk)(g3':List ((Int×Int)×(Int×(Int×Int))))(s':Int)(s2':Int)(g4':Int)(g5':Int)(g6':Int)(best':Int)(best2':Int)(best3':Int):ev (Z:=Dk×Dk×(List ((Int×Int)×(Int×(Int×Int))))×Int×Int×Int×Int×Int×Int×Int×Int) Tryz.prog (Mm N self hself) Ha [] [⟨[],⟨[],⟨[],[.segs [.fn 105 [] [.fz [shD],.fz [.mp 1],.own 0 0,.fz [.fn 98 [] [.fz [shD]]]]],.map (.pair (.int .i64) (.int .i64)) (.pair (.int .i64) (.pair (.int .i64) (.int .i64))),.segs [shI,shI],.segs [shI,shI,shI],.segs [shI,shI,shI]]⟩⟩,fun p=>rec p.2.1.1.2.1.1 p.2.1.1.2.2.2.2.1.1.2.1.1 p.2.2.1 p.2.2.2.1.1 p.2.2.2.1.2.1 p.2.2.2.2.1.1 p.2.2.2.2.1.2.1 p.2.2.2.2.1.2.2.1 p.2.2.2.2.2.1.1 p.2.2.2.2.2.1.2.1 p.2.2.2.2.2.1.2.2.1⟩] none 400 false (nrm Eg.c 99 [.c [1,1,1,1,1,0,1,0,1]]) (stL Fo (((),(((),((u',()),())),()),(),(),(),k',()),((((),((g',()),((),()),(),(((),((g2',()),())),()),())),()),g3',(s',s2',()),(g4',g5',g6',()),(best',best2',best3',()),()))) (stH Fo (((),(((),((u',()),())),()),(),(),(),k',()),((((),((g',()),((),()),(),(((),((g2',()),())),()),())),()),g3',(s',s2',()),(g4',g5',g6',()),(best',best2',best3',()),())))=Gl N self rec u u2 u3 u4 u' k' g' g2' g3' s' s2' g4' g5' g6' best' best2' best3':=by kernel_rfl
theorem Aax(N:Nat)(self:Int→Int→Dk→Dk→Dk→Dk→(List ((Int×Int)×(Int×(Int×Int))))→Option (Int×Int×Int×Dk×Dk×(List ((Int×Int)×(Int×(Int×Int))))))(hself:A0 Tryz.prog (B5 self)):Gn Tryz.prog Eg.c Eg.n Eg.m0 true (Oy N self hself):=by
 refine Lp (B:=Eg) (is:=Be) (g:=.tmp 48) (ps:=#[49]) (assign:=sub Aff [1,1,1,1,1,0,1,0,0]) (body:=sub Aff [1,1,1,1,1,0,1,0,1]) (Z:=Dk×Dk×(List ((Int×Int)×(Int×(Int×Int))))×Int×Int×Int×Int×Int×Int×Int×Int) (x:=Oy N self hself) (fun p=>((p.1.2.2.2.2.2.2.1.2.1.1,()),(((p.1.2.2.2.2.2.2.1.2.2.1.1.1.1,()),()),()),p.1.2.2.2.2.2.2.1.2.2.2.1,())) (fun es p=>C2 N self es p.1.2.2.1.1.2.1.1 p.1.2.2.2.2.2.2.1.2.1.1 p.1.2.2.2.2.2.2.1.2.2.1.1.1.1 p.1.2.2.2.2.2.2.1.2.2.2.1 p.2.1.1.2.1.1 p.2.1.1.2.2.2.2.1.1.2.1.1 p.2.2.1 p.2.2.2.1.1 p.2.2.2.1.2.1 p.2.2.2.2.1.1 p.2.2.2.2.1.2.1 p.2.2.2.2.1.2.2.1 p.2.2.2.2.2.1.1 p.2.2.2.2.2.1.2.1 p.2.2.2.2.2.1.2.2.1) (staA:=Fo) (fun es q p=>Gl N self (fun g_ g2_ g3_ s_ s2_ g4_ g5_ g6_ best_ best2_ best3_=>C2 N self es q.2.2.1.1.2.1.1 q.2.2.2.2.2.2.1.2.1.1 q.2.2.2.2.2.2.1.2.2.1.1.1.1 q.2.2.2.2.2.2.1.2.2.2.1 g_ g2_ g3_ s_ s2_ g4_ g5_ g6_ best_ best2_ best3_) q.2.2.1.1.2.1.1 q.2.2.2.2.2.2.1.2.1.1 q.2.2.2.2.2.2.1.2.2.1.1.1.1 q.2.2.2.2.2.2.1.2.2.2.1 p.1.2.1.1.2.1.1 p.1.2.2.2.2.2.1 p.2.1.1.2.1.1 p.2.1.1.2.2.2.2.1.1.2.1.1 p.2.2.1 p.2.2.2.1.1 p.2.2.2.1.2.1 p.2.2.2.2.1.1 p.2.2.2.2.1.2.1 p.2.2.2.2.1.2.2.1 p.2.2.2.2.2.1.1 p.2.2.2.2.2.1.2.1 p.2.2.2.2.2.1.2.2.1) [] (fun e=>.inl ((((),()),(),(),(),()),((((),((e.1,()),((),()),(),(((),((e.2.1,()),())),()),())),()),e.2.2.1,(e.2.2.2.1,e.2.2.2.2.1,()),(e.2.2.2.2.2.1,e.2.2.2.2.2.2.1,e.2.2.2.2.2.2.2.1,()),(e.2.2.2.2.2.2.2.2.1,e.2.2.2.2.2.2.2.2.2.1,e.2.2.2.2.2.2.2.2.2.2,()),()))) (fun _ _ _=>rfl) rfl (by kernel_rfl) (fun _=>by kernel_rfl) (by kernel_rfl) Jb (Nat.le_of_ble_eq_true (by kernel_rfl)) (by kernel_rfl) ?_ ?_ ?_ ?_
 ·exact fun z E Xc hE hX hx p hp a w hS=>ev_sound (z:=z) (B:=Eg) (loops:=[]) (leaves:=[Vc]) (top:=true) (Th N self hself) mixed trivial hE hX ⟨(fun p hp=>by obtain rfl:=Option.some.inj hp;exact hx),trivial⟩ B4.no 400 false _ _ _ ((A63 N self hself p.1.2.2.1.1.2.1.1 p.1.2.2.2.2.2.2.1.2.1.1 p.1.2.2.2.2.2.2.1.2.2.1.1.1.1 p.1.2.2.2.2.2.2.1.2.2.2.1 p.2.1.1.2.1.1 p.2.1.1.2.2.2.2.1.1.2.1.1 p.2.2.1 p.2.2.2.1.1 p.2.2.2.1.2.1 p.2.2.2.2.1.1 p.2.2.2.2.1.2.1 p.2.2.2.2.1.2.2.1 p.2.2.2.2.2.1.1 p.2.2.2.2.2.1.2.1 p.2.2.2.2.2.1.2.2.1).trans hp) a w hS
 ·intro z E Xc hE hX hx e he q b hb a w hS
  simp only[List.not_mem_nil]at he
 ·exact fun z E Xc hE hX e es p hl hp a w hS=>ev_sound (z:=z) (B:=Ha) (loops:=[]) (leaves:=[_]) (top:=false) (Th N self hself) mixed trivial hE hX ⟨hl,trivial⟩ B4.no 400 false _ _ _ ((A6h N self hself e es p.1.2.2.1.1.2.1.1 p.1.2.2.2.2.2.2.1.2.1.1 p.1.2.2.2.2.2.2.1.2.2.1.1.1.1 p.1.2.2.2.2.2.2.1.2.2.2.1 p.2.1.1.2.1.1 p.2.1.1.2.2.2.2.1.1.2.1.1 p.2.2.1 p.2.2.2.1.1 p.2.2.2.1.2.1 p.2.2.2.2.1.1 p.2.2.2.2.1.2.1 p.2.2.2.2.1.2.2.1 p.2.2.2.2.2.1.1 p.2.2.2.2.2.1.2.1 p.2.2.2.2.2.1.2.2.1).trans hp) a w hS
 ·exact fun z E Xc hE hX es q he hs p hp a w hS=>ev_sound (z:=z) (B:=Ha) (loops:=[]) (leaves:=[_]) (top:=false) (Th N self hself) mixed trivial hE hX ⟨he,trivial⟩ B4.no 400 false _ _ _ ((A4y N self hself (fun g_ g2_ g3_ s_ s2_ g4_ g5_ g6_ best_ best2_ best3_=>C2 N self es q.2.2.1.1.2.1.1 q.2.2.2.2.2.2.1.2.1.1 q.2.2.2.2.2.2.1.2.2.1.1.1.1 q.2.2.2.2.2.2.1.2.2.2.1 g_ g2_ g3_ s_ s2_ g4_ g5_ g6_ best_ best2_ best3_) q.2.2.1.1.2.1.1 q.2.2.2.2.2.2.1.2.1.1 q.2.2.2.2.2.2.1.2.2.1.1.1.1 q.2.2.2.2.2.2.1.2.2.2.1 p.1.2.1.1.2.1.1 p.1.2.2.2.2.2.1 p.2.1.1.2.1.1 p.2.1.1.2.2.2.2.1.1.2.1.1 p.2.2.1 p.2.2.2.1.1 p.2.2.2.1.2.1 p.2.2.2.2.1.1 p.2.2.2.2.1.2.1 p.2.2.2.2.1.2.2.1 p.2.2.2.2.2.1.1 p.2.2.2.2.2.1.2.1 p.2.2.2.2.2.1.2.2.1).trans hp) a w hS
theorem A13(N:Nat)(self:Int→Int→Dk→Dk→Dk→Dk→(List ((Int×Int)×(Int×(Int×Int))))→Option (Int×Int×Int×Dk×Dk×(List ((Int×Int)×(Int×(Int×Int))))))(hself:A0 Tryz.prog (B5 self)):A0 Tryz.prog (B5 (Wl N self)):=mkF (R:=Int×Int×Int×Dk×Dk×(List ((Int×Int)×(Int×(Int×Int))))) (m0:=2) (Wt N self hself) [⟨Oy N self hself,Aax N self hself⟩] (fun r=>some (r.1.1.1,r.1.1.2.1,r.1.1.2.2.1,r.2.1.1.2.1.1,r.2.1.1.2.2.2.2.1.1.2.1.1,r.2.2.1)) [] Tryz.func105 (fun p=>by kernel_rfl) (by kernel_rfl) (fun _=>by kernel_rfl)
def Hb(N:Nat):Nat→Int→Int→Dk→Dk→Dk→Dk→(List ((Int×Int)×(Int×(Int×Int))))→Option (Int×Int×Int×Dk×Dk×(List ((Int×Int)×(Int×(Int×Int)))))
 | 0=>fun _ _ _ _ _ _ _=>none
 | n+1=>Wl N (Hb N n)
theorem Xk(N:Nat):∀n,A0 Tryz.prog (B5 (Hb N n))
 | 0=>A0.none (fun _ _ _=>rfl) (fun args w=>Sem.pv_run _ _ _ (by kernel_rfl) w)
 | n+1=>A13 N (Hb N n) (Xk N n)
noncomputable abbrev Alo(N:Nat):Spec:=B5 (Hb N N)
theorem A7h(N:Nat):A0 Tryz.prog (Alo N):=Xk N N

def Sc(N:Nat)(used:Int)(from_ from_2:Dk)(g:List ((Int×Int)×(Int×(Int×Int)))):Option (List ((Int×Int)×(Int×(Int×Int)))):=
 (Hb N N 0 used from_ from_2 from_ from_2 g).bind fun(x_1,y_2,y_3,y_4,y_5,y_6)=>
 some (((0,used),(x_1,y_2,y_3))::y_6)
def Q9(N:Nat)(d t:Dk)(used:Int):Option (List ((Int×Int)×(Int×(Int×Int)))):=
 Sc N used d t []
noncomputable def A3f(N:Nat):Oks:=[⟨_,A7h N⟩]
abbrev Yz:List StSh:=[⟨[.mp 0],[.map (.pair (.int .i64) (.int .i64)) (.pair (.int .i64) (.pair (.int .i64) (.int .i64)))]⟩]
noncomputable abbrev Aks:Body:=mkB Tryz.f93 Yz 0
abbrev A2c:altD Yz→Option (List ((Int×Int)×(Int×(Int×Int)))):=fun r=>some r.2.1
noncomputable def Aao(N:Nat):JnQ (Z:=(List ((Int×Int)×(Int×(Int×Int))))) Aks true (some A2c) []:=mkJ (A3f N) [] [] ⟨[.c [1,1,1,1,0],.c [1,1,1,1,1]],⟨[2,7,8],⟨[shI,.fz [.mp 1],.own 0 0],[.segs [.fn 105 [] [.fz [shD],.fz [.mp 1],.own 0 0,.fz [.fn 98 [] [.fz [shD]]]]],.map (.pair (.int .i64) (.int .i64)) (.pair (.int .i64) (.pair (.int .i64) (.int .i64)))]⟩⟩,fun p=>Sc N p.1.1 p.2.1.1.2.1.1 p.2.1.1.2.2.2.2.1.1.2.1.1 p.2.2.1⟩ (fun p=>by kernel_rfl)
noncomputable def Ahg(N:Nat):Spec:=mkS 93 ⟨[shD,.agg [.fn 98 [] [.fz [shD]]],shI],[]⟩ Yz (fun p=>Q9 N p.1.1 p.1.2.1.1.2.1.1 p.1.2.2.1) (fun k r=>k (((),()),(r,())))
theorem A3y(N:Nat):A0 Tryz.prog (Ahg N):=mkF (R:=(List ((Int×Int)×(Int×(Int×Int))))) (m0:=0) (A3f N) [] (A2c) [Aao N] Tryz.func93 (fun p=>by kernel_rfl) (by kernel_rfl) (fun _=>by kernel_rfl)

def Ih(N:Nat)(rec:Int→Int→Int→(List ((Int×Int)×(Int×(Int×Int))))→Li→Option Li)(used u u2:Int)(rests:List ((Int×Int)×(Int×(Int×Int))))(out:Li):Option Li:=
 chk (u2+1)<|
 rec used u (u2+1) rests out
def Cg(N:Nat):Nat→Int→Int→Int→(List ((Int×Int)×(Int×(Int×Int))))→Li→Option Li
 | 0,_,_,_,_,_=>none
 | n_+1,used,u,u2,rests,out=>
  br (decide (u2<u))
   (lim (out.length+[(((rests.find? fun(y:(Int×Int)×(Int×(Int×Int)))=>Ty.beq (.pair (.int .i64) (.int .i64)) y.1 (u2,used)).map (·.2)).getD (Ty.dflt (.pair (.int .i64) (.pair (.int .i64) (.int .i64))))).1].length)<|
   br (!decide ((((rests.find? fun(y:(Int×Int)×(Int×(Int×Int)))=>Ty.beq (.pair (.int .i64) (.int .i64)) y.1 (u2,used)).map (·.2)).getD (Ty.dflt (.pair (.int .i64) (.pair (.int .i64) (.int .i64))))).1=-1))
    (grd (decide (0≤(((rests.find? fun(y:(Int×Int)×(Int×(Int×Int)))=>Ty.beq (.pair (.int .i64) (.int .i64)) y.1 (u2,used)).map (·.2)).getD (Ty.dflt (.pair (.int .i64) (.pair (.int .i64) (.int .i64))))).1∧(((rests.find? fun(y:(Int×Int)×(Int×(Int×Int)))=>Ty.beq (.pair (.int .i64) (.int .i64)) y.1 (u2,used)).map (·.2)).getD (Ty.dflt (.pair (.int .i64) (.pair (.int .i64) (.int .i64))))).1≤62))<|
    chk ((1:Int)*2 ^ ((((rests.find? fun(y:(Int×Int)×(Int×(Int×Int)))=>Ty.beq (.pair (.int .i64) (.int .i64)) y.1 (u2,used)).map (·.2)).getD (Ty.dflt (.pair (.int .i64) (.pair (.int .i64) (.int .i64))))).1).toNat)<|
    grd (decide (0≤used∧0≤((1:Int)*2 ^ ((((rests.find? fun(y:(Int×Int)×(Int×(Int×Int)))=>Ty.beq (.pair (.int .i64) (.int .i64)) y.1 (u2,used)).map (·.2)).getD (Ty.dflt (.pair (.int .i64) (.pair (.int .i64) (.int .i64))))).1).toNat)))<|
    Ih N (Cg N n_) ((used.toNat ||| ((1:Int)*2 ^ ((((rests.find? fun(y:(Int×Int)×(Int×(Int×Int)))=>Ty.beq (.pair (.int .i64) (.int .i64)) y.1 (u2,used)).map (·.2)).getD (Ty.dflt (.pair (.int .i64) (.pair (.int .i64) (.int .i64))))).1).toNat).toNat:Nat):Int) u u2 rests (out++[(((rests.find? fun(y:(Int×Int)×(Int×(Int×Int)))=>Ty.beq (.pair (.int .i64) (.int .i64)) y.1 (u2,used)).map (·.2)).getD (Ty.dflt (.pair (.int .i64) (.pair (.int .i64) (.int .i64))))).1]))
    (Ih N (Cg N n_) used u u2 rests (out++[(((rests.find? fun(y:(Int×Int)×(Int×(Int×Int)))=>Ty.beq (.pair (.int .i64) (.int .i64)) y.1 (u2,used)).map (·.2)).getD (Ty.dflt (.pair (.int .i64) (.pair (.int .i64) (.int .i64))))).1])))
   (some (out))
def Qg(N:Nat)(d t:Dk):Option Li:=
 (Q9 N d t 0).bind fun x_1=>
 (Cg N N 0 (d.2.2.1.length:Int) 0 x_1 []).bind fun out_2=>
 some out_2
noncomputable def S5(N:Nat):Oks:=[⟨_,A3y N⟩]
abbrev A7c:List StSh:=[⟨[shL],[]⟩]
noncomputable abbrev Aa8:Body:=mkB Tryz.f78 A7c 0
abbrev P9:List PI:=[.c [1,1,1,1,0,1,0,0,0],.c [1,1,1,1,0,1,0,0,1],.l [1,1,1,1,0,1,0,0],.b 0,.c [1,1,1,1,1]]
abbrev Ru:Sta:=⟨[5,6,7,18,19],⟨[.mp 0,.ols 1,shI,shI,shI],[.map (.pair (.int .i64) (.int .i64)) (.pair (.int .i64) (.pair (.int .i64) (.int .i64))),.lst (.int .i64)]⟩⟩
abbrev A8a(rec:Int→Int→Int→(List ((Int×Int)×(Int×(Int×Int))))→Li→Option Li):Leaf Li:=⟨P9,Ru,fun p=>rec p.1.2.2.1 p.1.2.2.2.1 p.1.2.2.2.2.1 p.2.1 p.2.2.1⟩
abbrev Rq:Leaf Li:=⟨[.c [1,1,1,1,1,0],.c [1,1,1,1,1,1]],⟨[6],⟨[.ols 0],[.lst (.int .i64)]⟩⟩,fun p=>some (p.2.1)⟩
noncomputable def Abv(N:Nat)(rec:Int→Int→Int→(List ((Int×Int)×(Int×(Int×Int))))→Li→Option Li){top:Bool}:JnQ (Z:=Li) Aa8 top none [A8a rec,Rq]:=mkJ (S5 N) [] [] ⟨[.c [1,1,1,1,0,1,0,0,1,1,1],.l [1,1,1,1,0,1,0,0],.b 0,.c [1,1,1,1,1]],⟨[5,6,7,18,19],⟨[.mp 0,.ols 1,shI,shI,shI],[.map (.pair (.int .i64) (.int .i64)) (.pair (.int .i64) (.pair (.int .i64) (.int .i64))),.lst (.int .i64)]⟩⟩,fun p=>Ih N rec p.1.2.2.1 p.1.2.2.2.1 p.1.2.2.2.2.1 p.2.1 p.2.2.1⟩ (fun p=>by kernel_rfl)
noncomputable def A9u(N:Nat){top:Bool}:LpQ Aa8 top:=mkL (Z:=Li) (S5 N) [] P9 Ru (fun m p=>Cg N m p.1.2.2.1 p.1.2.2.2.1 p.1.2.2.2.2.1 p.2.1 p.2.2.1) [Rq] (fun m=>[Abv N (Cg N m)]) (fun k e=>k (.inl (((),()),(e,())))) N (fun m p=>by kernel_rfl)
noncomputable def Aio(N:Nat):Spec:=mkS 78 ⟨[shD,.agg [.fn 98 [] [.fz [shD]]]],[]⟩ A7c (fun p=>Qg N p.1.1 p.1.2.1.1.2.1.1) (fun k r=>k ((r,()),()))
theorem A4z(N:Nat):A0 Tryz.prog (Aio N):=mkF (R:=Li) (m0:=0) (S5 N) [A9u N] (fun r=>some r.1.1) [] Tryz.func78 (fun p=>by kernel_rfl) (by kernel_rfl) (fun _=>by kernel_rfl)

def C0(N:Nat)(d:Dk)(used:Int):Option (Int×Int×Int):=
 (Q3 N d).bind fun x_1=>
 (Ls N d x_1 used).bind fun x_2=>
 some ((((x_2.find? fun(y:(Int×Int)×(Int×(Int×Int)))=>Ty.beq (.pair (.int .i64) (.int .i64)) y.1 (0,used)).map (·.2)).getD (Ty.dflt (.pair (.int .i64) (.pair (.int .i64) (.int .i64))))).1,((((x_2.find? fun(y:(Int×Int)×(Int×(Int×Int)))=>Ty.beq (.pair (.int .i64) (.int .i64)) y.1 (0,used)).map (·.2)).getD (Ty.dflt (.pair (.int .i64) (.pair (.int .i64) (.int .i64))))).2).1,((((x_2.find? fun(y:(Int×Int)×(Int×(Int×Int)))=>Ty.beq (.pair (.int .i64) (.int .i64)) y.1 (0,used)).map (·.2)).getD (Ty.dflt (.pair (.int .i64) (.pair (.int .i64) (.int .i64))))).2).2)
noncomputable def Anq(N:Nat):Spec:=mkS 64 ⟨[shD,shI],[]⟩ [⟨[.agg [shI,shI,shI]],[]⟩] (fun p=>C0 N p.1.1 p.1.2.1) (fun k r=>k (((r.1,r.2.1,r.2.2,()),()),()))
theorem D9(N:Nat):A0 Tryz.prog (Anq N):=mkF (R:=Int×Int×Int) (m0:=0) [⟨_,W1 N⟩,⟨_,Rp N⟩] [] (fun r=>some (r.1.1.1,r.1.1.2.1,r.1.1.2.2.1)) [] Tryz.func64 (fun p=>by kernel_rfl) (by kernel_rfl) (fun _=>by kernel_rfl)

def X6(N:Nat)(d:Li)(d2:Int)(d3 d4:Ll)(d5:Li):Option (Li×Int×Int):=
 ((Aw N d d2 d3 d4 d5).bind fun e=>match e with
 | .inl (x_1,y_2)=>
  (br (!decide (y_2=0))
   (some ([],0,y_2))
   ((Q3 N x_1).bind fun x_3=>
   (P4 N x_1 x_3).bind fun x_4=>
   (Dg N x_1 x_4).bind fun x_5=>
   some (x_4,x_5,0)))
 | .inr x_6=>
  (br (!decide (x_6=0))
   (some ([],0,x_6))
   (none)))
noncomputable def Apn(N:Nat):Spec:=mkS 30 ⟨[shG],[]⟩ [⟨[shL,shI,shI],[]⟩] (fun p=>X6 N p.1.1.1 p.1.1.2.1 p.1.1.2.2.1 p.1.1.2.2.2.1 p.1.1.2.2.2.2.1) (fun k r=>k ((r.1,r.2.1,r.2.2,()),()))
theorem Zh(N:Nat):A0 Tryz.prog (Apn N):=mkF (R:=Li×Int×Int) (m0:=0) [⟨_,Aj N⟩,⟨_,Ci N⟩,⟨_,W1 N⟩,⟨_,A5j N⟩] [] (fun r=>some (r.1.1,r.1.2.1,r.1.2.2.1)) [] Tryz.func30 (fun p=>by kernel_rfl) (by kernel_rfl) (fun _=>by kernel_rfl)

def Mr(N:Nat)(d:Li)(d2:Int)(d3 d4:Ll)(d5:Li):Option (Li×Int×Int):=
 ((Aw N d d2 d3 d4 d5).bind fun e=>match e with
 | .inl (x_1,y_2)=>
  (br (!decide (y_2=0))
   (some ([],0,y_2))
   ((Adl N x_1).bind fun x_3=>
   (Qg N x_1 x_3).bind fun x_4=>
   (J8 N x_1 x_4).bind fun x_5=>
   some (x_4,x_5,0)))
 | .inr x_6=>
  (br (!decide (x_6=0))
   (some ([],0,x_6))
   (none)))
noncomputable def Ae8(N:Nat):Spec:=mkS 31 ⟨[shG],[]⟩ [⟨[shL,shI,shI],[]⟩] (fun p=>Mr N p.1.1.1 p.1.1.2.1 p.1.1.2.2.1 p.1.1.2.2.2.1 p.1.1.2.2.2.2.1) (fun k r=>k ((r.1,r.2.1,r.2.2,()),()))
theorem A0v(N:Nat):A0 Tryz.prog (Ae8 N):=mkF (R:=Li×Int×Int) (m0:=0) [⟨_,Aj N⟩,⟨_,Nq N⟩,⟨_,Adj N⟩,⟨_,A4z N⟩] [] (fun r=>some (r.1.1,r.1.2.1,r.1.2.2.1)) [] Tryz.func31 (fun p=>by kernel_rfl) (by kernel_rfl) (fun _=>by kernel_rfl)

def count_S(N:Nat)(d:Li)(d2:Int)(d3 d4:Ll)(d5:Li):Option (Int×Int):=
 ((Aw N d d2 d3 d4 d5).bind fun e=>match e with
 | .inl (x_1,y_2)=>
  (br (!decide (y_2=0))
   (some (0,y_2))
   ((C0 N x_1 0).bind fun(x_3,y_4,y_5)=>
   some (y_5,0)))
 | .inr x_6=>
  (br (!decide (x_6=0))
   (some (0,x_6))
   (none)))
noncomputable def Akn(N:Nat):Spec:=mkS 32 ⟨[shG],[]⟩ [⟨[shI,shI],[]⟩] (fun p=>count_S N p.1.1.1 p.1.1.2.1 p.1.1.2.2.1 p.1.1.2.2.2.1 p.1.1.2.2.2.2.1) (fun k r=>k ((r.1,r.2,()),()))
theorem V9(N:Nat):A0 Tryz.prog (Akn N):=mkF (R:=Int×Int) (m0:=0) [⟨_,Aj N⟩,⟨_,D9 N⟩] [] (fun r=>some (r.1.1,r.1.2.1)) [] Tryz.func32 (fun p=>by kernel_rfl) (by kernel_rfl) (fun _=>by kernel_rfl)

def prices_l1(N:Nat):Nat→Int→Int→Int→Int→Li→Int→Ll→Ll→Li→Dk→Li→Option (Int×Li×Int×Ll×Ll×Li×Dk×Li)
 | 0,_,_,_,_,_,_,_,_,_,_,_=>none
 | n_+1,e_,all,u,u2,d,d2,d3,d4,d5,x,found=>
  br (decide (u2<u))
   (grd (decide (0≤u2∧u2≤62))<|
   chk ((1:Int)*2 ^ u2.toNat)<|
   (C0 N x ((1:Int)*2 ^ u2.toNat)).bind fun(x_6,y_7,y_8)=>
   chk (all-y_7)<|
   lim (found.length+[(all-y_7)].length)<|
   chk (u2+1)<|
   prices_l1 N n_ e_ all u (u2+1) d d2 d3 d4 d5 x (found++[(all-y_7)]))
   (some ((e_,d,d2,d3,d4,d5,x,found)))
def Ev(N:Nat)(rec:Li→Dk→Int→Int→Li→Option (Int×Int×Int×Li×Dk×Int×Li))(e_ u u2:Int)(u3 u4:Dk)(u5 e_' k':Int)(lost':Li)(x':Dk)(i' n':Int)(found':Li):Option (Int×Int×Int×Li×Dk×Int×Li):=
 rng i' 6<|
 rng k' 6<|
 get x'.2.2.2.2.2.1 ((i'.toNat*6)+k'.toNat) fun x_20=>
 rng k' found'.length<|
 get found' k'.toNat fun x_21=>
 chk (x_20-x_21)<|
 rec lost' x' i' (max n' (x_20-x_21)) found'
def prices_l3(N:Nat):List (Int×Unit)→Int→Int→Int→Dk→Dk→Int→Li→Dk→Int→Int→Li→Option (Int×Int×Int×Li×Dk×Int×Li)
 | [],e_,u,u2,u3,u4,u5,lost,x,i,n,found=>
  some ((e_,u,u2,lost,x,n,found))
 | e::es,e_,u,u2,u3,u4,u5,lost,x,i,n,found=>
  Ev N (fun lost_ x_ i_ n_ found_=>prices_l3 N es e_ u u2 u3 u4 u5 lost_ x_ i_ n_ found_) e_ u u2 u3 u4 u5 e_ e.1 lost x i n found
def prices_l2(N:Nat):Nat→Int→Int→Int→Li→Dk→Li→Option (Li×Li)
 | 0,_,_,_,_,_,_=>none
 | n_+1,e_,u,u2,lost,x,found=>
  br (decide (u2<u))
   ((I9 N x u2).bind fun(x_17,y_18,y_19)=>
   ((mayR x_17 y_18 y_19).bind fun es=>prices_l3 N es e_ u u2 x_17 y_18 y_19 lost x u2 0 found).bind fun(e__22,u_23,u2_24,lost_25,x_26,n_27,found_28)=>
   lim (lost_25.length+[n_27].length)<|
   chk (u2_24+1)<|
   prices_l2 N n_ e__22 u_23 (u2_24+1) (lost_25++[n_27]) x_26 found_28)
   (some ((lost,found)))
def Qp(N:Nat)(d:Li)(d2:Int)(d3 d4:Ll)(d5:Li):Option (Li×Li×Int):=
 ((Aw N d d2 d3 d4 d5).bind fun e=>match e with
 | .inl (x_1,y_2)=>
  (br (!decide (y_2=0))
   (some ([],[],y_2))
   ((C0 N x_1 0).bind fun(x_3,y_4,y_5)=>
   (prices_l1 N N y_2 y_4 (d4.length:Int) 0 d d2 d3 d4 d5 x_1 []).bind fun(e__9,d_10,d2_11,d3_12,d4_13,d5_14,x_15,found_16)=>
   (prices_l2 N N e__9 (d3_12.length:Int) 0 [] x_15 found_16).bind fun(lost_29,found_30)=>
   some (lost_29,found_30,0)))
 | .inr x_31=>
  (br (!decide (x_31=0))
   (some ([],[],x_31))
   (none)))
noncomputable def Ij(N:Nat):Oks:=[⟨_,Aj N⟩,⟨_,G2 N⟩,⟨_,D9 N⟩]
abbrev Wr:List StSh:=[⟨[shL,shL,shI],[]⟩]
noncomputable abbrev C4:Body:=mkB Tryz.f33 Wr 0
noncomputable def K8(N:Nat):List Spec:=(Ij N).map (·.1)
theorem Ov(N:Nat):AllP (A0 Tryz.prog) (K8 N):=allP_map (Ij N)
noncomputable def A7f:Code:=C4.c
noncomputable def Fe(N:Nat){top:Bool}:LpQ C4 top:=mkL (Z:=Int×Li×Int×Ll×Ll×Li×Dk×Li) (Ij N) [] [.c [1,1,1,1,0,1,0,0,0],.c [1,1,1,1,0,1,0,0,1],.l [1,1,1,1,0,1,0,0],.b 0,.c [1,1,1,1,1]] ⟨[1,2,3,4,5,6,24,25],⟨[.own 0 0,.nils,.own 1 0,shI,.own 2 0,shI,shI,shI],[.segs [shL,shI,shQ,shQ,shL],.segs [.ols 3],.segs [shD],.lst (.int .i64)]⟩⟩ (fun m p=>prices_l1 N m p.1.2.2.2.1 p.1.2.2.2.2.2.1 p.1.2.2.2.2.2.2.1 p.1.2.2.2.2.2.2.2.1 p.2.1.1 p.2.1.2.1 p.2.1.2.2.1 p.2.1.2.2.2.1 p.2.1.2.2.2.2.1 p.2.2.2.1.1 p.2.2.2.2.1) [⟨[.c [1,1,1,1,1,0,0],.c [1,1,1,1,1,0,1],.c [1,1,1,1,1,1]],⟨[1,2,3,4,5],⟨[.own 0 0,.nils,.own 1 0,shI,.own 2 0],[.segs [shL,shI,shQ,shQ,shL],.segs [.ols 3],.segs [shD],.lst (.int .i64)]⟩⟩,fun p=>some ((p.1.2.2.2.1,p.2.1.1,p.2.1.2.1,p.2.1.2.2.1,p.2.1.2.2.2.1,p.2.1.2.2.2.2.1,p.2.2.2.1.1,p.2.2.2.2.1))⟩] (fun _=>[]) (fun k e=>k (.inl (((),(),(),e.1,(),()),((e.2.1,e.2.2.1,e.2.2.2.1,e.2.2.2.2.1,e.2.2.2.2.2.1,()),((),()),(e.2.2.2.2.2.2.1,()),e.2.2.2.2.2.2.2,())))) N (fun m p=>by kernel_rfl)
abbrev De:Sta:=⟨[2,3,4,5,8,9,41,42,47],⟨[.ols 0,.own 1 0,shI,.own 2 0,.own 3 0,.own 4 0,shI,shI,.fn 96 [] [.fz [shD],.fz [.fn 71 [shD] []],.fe (.int .i64)]],[.lst (.int .i64),.segs [.ols 5],.segs [shD],.segs [shI],.segs [shI],.lst (.int .i64)]⟩⟩
abbrev Ee:Sta:=⟨[2,3,4,5,8,9,10],⟨[.ols 0,.own 1 0,shI,.own 2 0,.own 3 0,.own 4 0,shI],[.lst (.int .i64),.segs [.ols 5],.segs [shD],.segs [shI],.segs [shI],.lst (.int .i64)]⟩⟩
abbrev R8:Leaf (Int×Int×Int×Li×Dk×Int×Li):=⟨[.c [1,1,1,1,1,0,1,0,0,1,1,0,0,1,1,1],.b 3,.c [1,1,1,1,1,0,1,0,0,1,1,1],.l [1,1,1,1,1,0,1,0,0],.b 2,.c [1,1,1,1,1,1]],⟨[2,3,4,5,9,41,42],⟨[.ols 0,.own 1 0,shI,.own 2 0,.own 3 0,shI,shI],[.lst (.int .i64),.segs [.ols 4],.segs [shD],.segs [shI],.lst (.int .i64)]⟩⟩,fun p=>some ((p.1.2.2.1,p.1.2.2.2.2.2.1,p.1.2.2.2.2.2.2.1,p.2.1,p.2.2.2.1.1,p.2.2.2.2.1.1,p.2.2.2.2.2.1))⟩
noncomputable def Ht(N:Nat):Hl:={ at_:=[.c [1,1,1,1,1,0,1,0,0,1,1,0,0,1,1,0,1,0],.b 4,.c [1,1,1,1,1,0,1,0,0,1,1,0,0,1,1,1],.b 3,.c [1,1,1,1,1,0,1,0,0,1,1,1],.l [1,1,1,1,1,0,1,0,0],.b 2,.c [1,1,1,1,1,1]],sta:=De,exits:=[([.c [1,1,1,1,1,0,1,0,0,1,1,0,0,1,1,1],.b 3,.c [1,1,1,1,1,0,1,0,0,1,1,1],.l [1,1,1,1,1,0,1,0,0],.b 2,.c [1,1,1,1,1,1]],⟨[2,3,4,5,9,41,42],⟨[.ols 0,.own 1 0,shI,.own 2 0,.own 3 0,shI,shI],[.lst (.int .i64),.segs [.ols 4],.segs [shD],.segs [shI],.lst (.int .i64)]⟩⟩)],run:=fun p k=>((mayR p.1.2.2.2.2.2.2.2.2.1.2.1.1 p.1.2.2.2.2.2.2.2.2.1.2.2.1.1.1.1 p.1.2.2.2.2.2.2.2.2.1.2.2.2.1).bind fun es=>prices_l3 N es p.1.2.2.1 p.1.2.2.2.2.2.2.1 p.1.2.2.2.2.2.2.2.1 p.1.2.2.2.2.2.2.2.2.1.2.1.1 p.1.2.2.2.2.2.2.2.2.1.2.2.1.1.1.1 p.1.2.2.2.2.2.2.2.2.1.2.2.2.1 p.2.1 p.2.2.2.1.1 p.2.2.2.2.1.1 p.2.2.2.2.2.1.1 p.2.2.2.2.2.2.1).bind fun e=>k (.inl (((),(),e.1,(),(),e.2.1,e.2.2.1,()),(e.2.2.2.1,((),()),(e.2.2.2.2.1,()),(e.2.2.2.2.2.1,()),e.2.2.2.2.2.2,()))) }
noncomputable abbrev Fy:Body:=mkB Tryz.f33 Wr 6
theorem A06(N:Nat)(e_:Int)(u:Int)(u2:Int)(u3:Dk)(u4:Dk)(u5:Int)(lost:Li)(x:Dk)(i:Int)(n:Int)(found:Li):ev (Z:=Int×Int×Int×Li×Dk×Int×Li) Tryz.prog (K8 N) C4 [(Fe N (top:=true)).1] [R8] none 400 false (nrm C4.c 99 [.b 4,.c [1,1,1,1,1,0,1,0,0,1,1,0,0,1,1,1],.b 3,.c [1,1,1,1,1,0,1,0,0,1,1,1],.l [1,1,1,1,1,0,1,0,0],.b 2,.c [1,1,1,1,1,1]]) (stL De (((),(),e_,(),(),(),u,u2,((),((u3,()),(((u4,()),()),()),u5,())),()),(lost,((),()),(x,()),(i,()),(n,()),found,()))) (stH De (((),(),e_,(),(),(),u,u2,((),((u3,()),(((u4,()),()),()),u5,())),()),(lost,((),()),(x,()),(i,()),(n,()),found,())))=prices_l3 N [] e_ u u2 u3 u4 u5 lost x i n found:=by kernel_rfl
theorem A0t(N:Nat)(e:Int×Unit)(es:List (Int×Unit))(e_:Int)(u:Int)(u2:Int)(u3:Dk)(u4:Dk)(u5:Int)(lost:Li)(x:Dk)(i:Int)(n:Int)(found:Li):ev (Z:=Int×Int×Int×Li×Dk×Int×Li) Tryz.prog (K8 N) Fy [] [⟨[.r,.c [1,1,1,1,1,0,1,0,0,1,1,0,0,1,1,0,1,0,1]],Ee,fun p=>Ev N (fun lost_ x_ i_ n_ found_=>prices_l3 N es e_ u u2 u3 u4 u5 lost_ x_ i_ n_ found_) e_ u u2 u3 u4 u5 p.1.2.2.1 p.1.2.2.2.2.2.2.1 p.2.1 p.2.2.2.1.1 p.2.2.2.2.1.1 p.2.2.2.2.2.1.1 p.2.2.2.2.2.2.1⟩] none 400 false (nrm C4.c 99 [.c [1,1,1,1,1,0,1,0,0,1,1,0,0,1,1,0,1,0,0],.r,.c [1,1,1,1,1,0,1,0,0,1,1,0,0,1,1,0,1,0,1]]) (pars [48] (encs id Be.elem e) (stL De (((),(),e_,(),(),(),u,u2,((),((u3,()),(((u4,()),()),()),u5,())),()),(lost,((),()),(x,()),(i,()),(n,()),found,())))) (stH De (((),(),e_,(),(),(),u,u2,((),((u3,()),(((u4,()),()),()),u5,())),()),(lost,((),()),(x,()),(i,()),(n,()),found,())))=prices_l3 N (e::es) e_ u u2 u3 u4 u5 lost x i n found:=by kernel_rfl
theorem A0r(N:Nat)(rec:Li→Dk→Int→Int→Li→Option (Int×Int×Int×Li×Dk×Int×Li))(e_:Int)(u:Int)(u2:Int)(u3:Dk)(u4:Dk)(u5:Int)(e_':Int)(k':Int)(lost':Li)(x':Dk)(i':Int)(n':Int)(found':Li):ev (Z:=Int×Int×Int×Li×Dk×Int×Li) Tryz.prog (K8 N) Fy [] [⟨[],⟨[],⟨[],[.lst (.int .i64),.segs [.ols 5],.segs [shD],.segs [shI],.segs [shI],.lst (.int .i64)]⟩⟩,fun p=>rec p.2.1 p.2.2.2.1.1 p.2.2.2.2.1.1 p.2.2.2.2.2.1.1 p.2.2.2.2.2.2.1⟩] none 400 false (nrm C4.c 99 [.c [1,1,1,1,1,0,1,0,0,1,1,0,0,1,1,0,1,0,1]]) (stL Ee (((),(),e_',(),(),(),k',()),(lost',((),()),(x',()),(i',()),(n',()),found',()))) (stH Ee (((),(),e_',(),(),(),k',()),(lost',((),()),(x',()),(i',()),(n',()),found',())))=Ev N rec e_ u u2 u3 u4 u5 e_' k' lost' x' i' n' found':=by kernel_rfl
theorem R0(N:Nat):Gn Tryz.prog C4.c C4.n C4.m0 true (Ht N):=by
 refine Lp (B:=C4) (is:=Be) (g:=.tmp 47) (ps:=#[48]) (assign:=sub A7f [1,1,1,1,1,0,1,0,0,1,1,0,0,1,1,0,1,0,0]) (body:=sub A7f [1,1,1,1,1,0,1,0,0,1,1,0,0,1,1,0,1,0,1]) (Z:=Int×Int×Int×Li×Dk×Int×Li) (x:=Ht N) (fun p=>((p.1.2.2.2.2.2.2.2.2.1.2.1.1,()),(((p.1.2.2.2.2.2.2.2.2.1.2.2.1.1.1.1,()),()),()),p.1.2.2.2.2.2.2.2.2.1.2.2.2.1,())) (fun es p=>prices_l3 N es p.1.2.2.1 p.1.2.2.2.2.2.2.1 p.1.2.2.2.2.2.2.2.1 p.1.2.2.2.2.2.2.2.2.1.2.1.1 p.1.2.2.2.2.2.2.2.2.1.2.2.1.1.1.1 p.1.2.2.2.2.2.2.2.2.1.2.2.2.1 p.2.1 p.2.2.2.1.1 p.2.2.2.2.1.1 p.2.2.2.2.2.1.1 p.2.2.2.2.2.2.1) (staA:=Ee) (fun es q p=>Ev N (fun lost_ x_ i_ n_ found_=>prices_l3 N es q.2.2.1 q.2.2.2.2.2.2.1 q.2.2.2.2.2.2.2.1 q.2.2.2.2.2.2.2.2.1.2.1.1 q.2.2.2.2.2.2.2.2.1.2.2.1.1.1.1 q.2.2.2.2.2.2.2.2.1.2.2.2.1 lost_ x_ i_ n_ found_) q.2.2.1 q.2.2.2.2.2.2.1 q.2.2.2.2.2.2.2.1 q.2.2.2.2.2.2.2.2.1.2.1.1 q.2.2.2.2.2.2.2.2.1.2.2.1.1.1.1 q.2.2.2.2.2.2.2.2.1.2.2.2.1 p.1.2.2.1 p.1.2.2.2.2.2.2.1 p.2.1 p.2.2.2.1.1 p.2.2.2.2.1.1 p.2.2.2.2.2.1.1 p.2.2.2.2.2.2.1) [] (fun e=>.inl (((),(),e.1,(),(),e.2.1,e.2.2.1,()),(e.2.2.2.1,((),()),(e.2.2.2.2.1,()),(e.2.2.2.2.2.1,()),e.2.2.2.2.2.2,()))) (fun _ _ _=>rfl) rfl (by kernel_rfl) (fun _=>by kernel_rfl) (by kernel_rfl) Jb (Nat.le_of_ble_eq_true (by kernel_rfl)) (by kernel_rfl) ?_ ?_ ?_ ?_
 ·exact fun z E Xc hE hX hx p hp a w hS=>ev_sound (z:=z) (B:=C4) (loops:=[(Fe N (top:=true)).1]) (leaves:=[R8]) (top:=true) (Ov N) mixed ⟨(Fe N (top:=true)).2,trivial⟩ hE hX ⟨(fun p hp=>by obtain rfl:=Option.some.inj hp;exact hx),trivial⟩ B4.no 400 false _ _ _ ((A06 N p.1.2.2.1 p.1.2.2.2.2.2.2.1 p.1.2.2.2.2.2.2.2.1 p.1.2.2.2.2.2.2.2.2.1.2.1.1 p.1.2.2.2.2.2.2.2.2.1.2.2.1.1.1.1 p.1.2.2.2.2.2.2.2.2.1.2.2.2.1 p.2.1 p.2.2.2.1.1 p.2.2.2.2.1.1 p.2.2.2.2.2.1.1 p.2.2.2.2.2.2.1).trans hp) a w hS
 ·intro z E Xc hE hX hx e he q b hb a w hS
  simp only[List.not_mem_nil]at he
 ·exact fun z E Xc hE hX e es p hl hp a w hS=>ev_sound (z:=z) (B:=Fy) (loops:=[]) (leaves:=[_]) (top:=false) (Ov N) mixed trivial hE hX ⟨hl,trivial⟩ B4.no 400 false _ _ _ ((A0t N e es p.1.2.2.1 p.1.2.2.2.2.2.2.1 p.1.2.2.2.2.2.2.2.1 p.1.2.2.2.2.2.2.2.2.1.2.1.1 p.1.2.2.2.2.2.2.2.2.1.2.2.1.1.1.1 p.1.2.2.2.2.2.2.2.2.1.2.2.2.1 p.2.1 p.2.2.2.1.1 p.2.2.2.2.1.1 p.2.2.2.2.2.1.1 p.2.2.2.2.2.2.1).trans hp) a w hS
 ·exact fun z E Xc hE hX es q he hs p hp a w hS=>ev_sound (z:=z) (B:=Fy) (loops:=[]) (leaves:=[_]) (top:=false) (Ov N) mixed trivial hE hX ⟨he,trivial⟩ B4.no 400 false _ _ _ ((A0r N (fun lost_ x_ i_ n_ found_=>prices_l3 N es q.2.2.1 q.2.2.2.2.2.2.1 q.2.2.2.2.2.2.2.1 q.2.2.2.2.2.2.2.2.1.2.1.1 q.2.2.2.2.2.2.2.2.1.2.2.1.1.1.1 q.2.2.2.2.2.2.2.2.1.2.2.2.1 lost_ x_ i_ n_ found_) q.2.2.1 q.2.2.2.2.2.2.1 q.2.2.2.2.2.2.2.1 q.2.2.2.2.2.2.2.2.1.2.1.1 q.2.2.2.2.2.2.2.2.1.2.2.1.1.1.1 q.2.2.2.2.2.2.2.2.1.2.2.2.1 p.1.2.2.1 p.1.2.2.2.2.2.2.1 p.2.1 p.2.2.2.1.1 p.2.2.2.2.1.1 p.2.2.2.2.2.1.1 p.2.2.2.2.2.2.1).trans hp) a w hS
noncomputable def Aae(N:Nat):LpQ C4 true:=mkL (Z:=Li×Li) (Ij N) [Fe N,⟨Ht N,R0 N⟩] [.c [1,1,1,1,1,0,1,0,0,0],.c [1,1,1,1,1,0,1,0,0,1],.l [1,1,1,1,1,0,1,0,0],.b 2,.c [1,1,1,1,1,1]] ⟨[2,3,4,5,41,42],⟨[.ols 0,.own 1 0,shI,.own 2 0,shI,shI],[.lst (.int .i64),.segs [.ols 3],.segs [shD],.lst (.int .i64)]⟩⟩ (fun m p=>prices_l2 N m p.1.2.2.1 p.1.2.2.2.2.1 p.1.2.2.2.2.2.1 p.2.1 p.2.2.2.1.1 p.2.2.2.2.1) [⟨[.c [1,1,1,1,1,1,0],.c [1,1,1,1,1,1,1]],⟨[2,3],⟨[.ols 0,.own 1 0],[.lst (.int .i64),.segs [.ols 2],.lst (.int .i64)]⟩⟩,fun p=>some ((p.2.1,p.2.2.2.1))⟩] (fun _=>[]) (fun k e=>k (.inl (((),(),()),(e.1,((),()),e.2,())))) N (fun m p=>by kernel_rfl)
noncomputable def Ahk(N:Nat):Spec:=mkS 33 ⟨[shG],[]⟩ Wr (fun p=>Qp N p.1.1.1 p.1.1.2.1 p.1.1.2.2.1 p.1.1.2.2.2.1 p.1.1.2.2.2.2.1) (fun k r=>k ((r.1,r.2.1,r.2.2,()),()))
theorem A5x(N:Nat):A0 Tryz.prog (Ahk N):=mkF (R:=Li×Li×Int) (m0:=0) (Ij N) [Fe N,⟨Ht N,R0 N⟩,Aae N] (fun r=>some (r.1.1,r.1.2.1,r.1.2.2.1)) [] Tryz.func33 (fun p=>by kernel_rfl) (by kernel_rfl) (fun _=>by kernel_rfl)

abbrev Aq7:List StSh:=[⟨[.nils],[.segs [.fn 104 [] [.fe (.sl (.int .i64)),.fz [shD],.fe (.int .i64),.own 0 0]]]⟩,⟨[shL],[.segs [.fn 104 [] [.fe (.sl (.int .i64)),.fz [shD],.fe (.int .i64),.own 0 0]]]⟩]
noncomputable abbrev En(self:Li→Int→(Li)→Dk→Int→(Li)→Dk→Int→Option ((Li×Dk×Int)⊕(Li×Li×Dk×Int))):Spec:=mkS 104 ⟨[shL,shI,.fe (.sl (.int .i64)),.fz [shD],.fe (.int .i64),.own 0 0],[.segs [.fn 104 [] [.fe (.sl (.int .i64)),.fz [shD],.fe (.int .i64),.own 0 0]]]⟩ Aq7 (fun p=>self p.1.1 p.1.2.1 p.1.2.2.1 p.1.2.2.2.1.1 p.1.2.2.2.2.1 p.2.1.1.2.1 p.2.1.1.2.2.1.1 p.2.1.1.2.2.2.1) (fun k r=>match r with | .inl r=>k (.inl (((),()),((((),(r.1,(r.2.1,()),r.2.2,(),())),()),()))) | .inr r=>k (.inr ((r.1,()),((((),(r.2.1,(r.2.2.1,()),r.2.2.2,(),())),()),()))))
def Jg(N:Nat)(self:Li→Int→(Li)→Dk→Int→(Li)→Dk→Int→Option ((Li×Dk×Int)⊕(Li×Li×Dk×Int)))(rec:Li→Int→(Li)→Dk→Int→Int→(Li)→Dk→Int→Option ((Li×Li×Dk×Int)⊕(Li×Dk×Int)))(l:Li)(left:Int)(u:Li)(u2:Dk)(i k:Int)(g:Li)(g2:Dk)(g3:Int):Option ((Li×Li×Dk×Int)⊕(Li×Dk×Int)):=
 chk (k+1)<|
 rec l left u u2 i (k+1) g g2 g3
def put_j2(N:Nat)(self:Li→Int→(Li)→Dk→Int→(Li)→Dk→Int→Option ((Li×Dk×Int)⊕(Li×Li×Dk×Int)))(rec:Li→Int→(Li)→Dk→Int→Int→(Li)→Dk→Int→Option ((Li×Li×Dk×Int)⊕(Li×Dk×Int)))(l:Li)(left:Int)(u:Li)(u2:Dk)(i k now:Int)(g:Li)(g2:Dk)(g3:Int):Option ((Li×Li×Dk×Int)⊕(Li×Dk×Int)):=
 (Ep N l).bind fun x_6=>
 lim (x_6.length+[k].length)<|
 ((self (x_6++[k]) now g g2 g3 g g2 g3).bind fun e=>match e with
 | .inl (x_7,y_8,y_9)=>
  (Jg N self (rec) l left u u2 i k x_7 y_8 y_9)
 | .inr (x_10,y_11,y_12,y_13)=>
  (grd (!x_10.isEmpty)<|
  some (.inl (x_10,y_11,y_12,y_13))))
def put_l1(N:Nat)(self:Li→Int→(Li)→Dk→Int→(Li)→Dk→Int→Option ((Li×Dk×Int)⊕(Li×Li×Dk×Int))):Nat→Li→Int→(Li)→Dk→Int→Int→(Li)→Dk→Int→Option ((Li×Li×Dk×Int)⊕(Li×Dk×Int))
 | 0,_,_,_,_,_,_,_,_,_=>none
 | n_+1,l,left,u,u2,i,k,g,g2,g3=>
  br (decide (k<(u2.2.2.2.1.length:Int)))
   (br (!decide (k=-1))
    ((D3 N l k).bind fun x_2=>
    br x_2
     (Jg N self (put_l1 N self n_) l left u u2 i k g g2 g3)
     ((I8 N u2 i k).bind fun x_3=>
     br (!x_3)
      (Jg N self (put_l1 N self n_) l left u u2 i k g g2 g3)
      (idx u i fun x_4=>
      br (!decide (k=x_4))
       (br (decide (left=0))
        (Jg N self (put_l1 N self n_) l left u u2 i k g g2 g3)
        (idx u i fun x_5=>
        br (!decide (k=x_5))
         (chk (left-1)<|
         put_j2 N self (put_l1 N self n_) l left u u2 i k (left-1) g g2 g3)
         (put_j2 N self (put_l1 N self n_) l left u u2 i k left g g2 g3)))
       (idx u i fun x_14=>
       br (!decide (k=x_14))
        (chk (left-1)<|
        put_j2 N self (put_l1 N self n_) l left u u2 i k (left-1) g g2 g3)
        (put_j2 N self (put_l1 N self n_) l left u u2 i k left g g2 g3)))))
    (idx u i fun x_15=>
    br (!decide (k=x_15))
     (br (decide (left=0))
      (Jg N self (put_l1 N self n_) l left u u2 i k g g2 g3)
      (idx u i fun x_16=>
      br (!decide (k=x_16))
       (chk (left-1)<|
       put_j2 N self (put_l1 N self n_) l left u u2 i k (left-1) g g2 g3)
       (put_j2 N self (put_l1 N self n_) l left u u2 i k left g g2 g3)))
     (idx u i fun x_17=>
     br (!decide (k=x_17))
      (chk (left-1)<|
      put_j2 N self (put_l1 N self n_) l left u u2 i k (left-1) g g2 g3)
      (put_j2 N self (put_l1 N self n_) l left u u2 i k left g g2 g3))))
   (some (.inr (g,g2,g3)))
def put_S(N:Nat)(self:Li→Int→(Li)→Dk→Int→(Li)→Dk→Int→Option ((Li×Dk×Int)⊕(Li×Li×Dk×Int)))(l:Li)(left:Int)(u:Li)(u2:Dk)(u3:Int)(g:Li)(g2:Dk)(g3:Int):Option ((Li×Dk×Int)⊕(Li×Li×Dk×Int)):=
 br (decide ((l.length:Int)=(u.length:Int)))
  ((Dg N u2 l).bind fun x_1=>
  br (decide (u3<x_1))
   (some (.inr (l,g,g2,g3)))
   (some (.inl (g,g2,g3))))
  ((put_l1 N self N l left u u2 (l.length:Int) (-1) g g2 g3).bind fun e=>match e with
  | .inl (out_18,g_19,g2_20,g3_21)=>
   some (.inr (out_18,g_19,g2_20,g3_21))
  | .inr (g_22,g2_23,g3_24)=>
   some (.inl (g_22,g2_23,g3_24)))
noncomputable def A50(N:Nat)(self:Li→Int→(Li)→Dk→Int→(Li)→Dk→Int→Option ((Li×Dk×Int)⊕(Li×Li×Dk×Int)))(hself:A0 Tryz.prog (En self)):Oks:=[⟨_,Jo N⟩,⟨_,E4 N⟩,⟨_,C3 N⟩,⟨_,Ci N⟩,⟨_,hself⟩]
noncomputable abbrev An3:Body:=mkB Tryz.f104 Aq7 1
abbrev A1l:List PI:=[.c [1,1,1,0,1,0,0,0,0],.c [1,1,1,0,1,0,0,0,1],.c [1,1,1,0,1,0,0,1],.l [1,1,1,0,1,0,0],.b 0,.c [1,1,1,1]]
abbrev A28:Sta:=⟨[0,1,2,3,5,9,10],⟨[shL,shI,.fe (.sl (.int .i64)),.fz [shD],.own 0 0,shI,shI],[.segs [.fn 104 [] [.fe (.sl (.int .i64)),.fz [shD],.fe (.int .i64),.own 0 0]]]⟩⟩
abbrev Abc(rec:Li→Int→(Li)→Dk→Int→Int→(Li)→Dk→Int→Option ((Li×Li×Dk×Int)⊕(Li×Dk×Int))):Leaf ((Li×Li×Dk×Int)⊕(Li×Dk×Int)):=⟨A1l,A28,fun p=>rec p.1.1 p.1.2.1 p.1.2.2.1 p.1.2.2.2.1.1 p.1.2.2.2.2.2.1 p.1.2.2.2.2.2.2.1 p.2.1.1.2.1 p.2.1.1.2.2.1.1 p.2.1.1.2.2.2.1⟩
abbrev Tl:Leaf ((Li×Li×Dk×Int)⊕(Li×Dk×Int)):=⟨[.c [1,1,1,0,1,0,0,1,0,0,1,1,1,1,1,0,0],.c [1,1,1,0,1,0,0,1,0,0,1,1,1,1,1,0,1],.b 1,.c [1,1,1,0,1,0,0,1,1],.l [1,1,1,0,1,0,0],.b 0,.c [1,1,1,1]],⟨[12],⟨[shL],[.segs [.fn 104 [] [.fe (.sl (.int .i64)),.fz [shD],.fe (.int .i64),.own 0 0]]]⟩⟩,fun p=>some (.inl (p.1.1,p.2.1.1.2.1,p.2.1.1.2.2.1.1,p.2.1.1.2.2.2.1))⟩
abbrev Sb:Leaf ((Li×Li×Dk×Int)⊕(Li×Dk×Int)):=⟨[.c [1,1,1,1,0],.c [1,1,1,1,1]],⟨[],⟨[],[.segs [.fn 104 [] [.fe (.sl (.int .i64)),.fz [shD],.fe (.int .i64),.own 0 0]]]⟩⟩,fun p=>some (.inr (p.2.1.1.2.1,p.2.1.1.2.2.1.1,p.2.1.1.2.2.2.1))⟩
noncomputable def A7a(N:Nat)(self:Li→Int→(Li)→Dk→Int→(Li)→Dk→Int→Option ((Li×Dk×Int)⊕(Li×Li×Dk×Int)))(hself:A0 Tryz.prog (En self))(rec:Li→Int→(Li)→Dk→Int→Int→(Li)→Dk→Int→Option ((Li×Li×Dk×Int)⊕(Li×Dk×Int))){top:Bool}:JnQ (Z:=(Li×Li×Dk×Int)⊕(Li×Dk×Int)) An3 top none [Abc rec,Tl,Sb]:=mkJ (A50 N self hself) [] [] ⟨[.c [1,1,1,0,1,0,0,1,1],.l [1,1,1,0,1,0,0],.b 0,.c [1,1,1,1]],⟨[0,1,2,3,5,9,10],⟨[shL,shI,.fe (.sl (.int .i64)),.fz [shD],.own 0 0,shI,shI],[.segs [.fn 104 [] [.fe (.sl (.int .i64)),.fz [shD],.fe (.int .i64),.own 0 0]]]⟩⟩,fun p=>Jg N self rec p.1.1 p.1.2.1 p.1.2.2.1 p.1.2.2.2.1.1 p.1.2.2.2.2.2.1 p.1.2.2.2.2.2.2.1 p.2.1.1.2.1 p.2.1.1.2.2.1.1 p.2.1.1.2.2.2.1⟩ (fun p=>by kernel_rfl)
noncomputable def An1(N:Nat)(self:Li→Int→(Li)→Dk→Int→(Li)→Dk→Int→Option ((Li×Dk×Int)⊕(Li×Li×Dk×Int)))(hself:A0 Tryz.prog (En self))(rec:Li→Int→(Li)→Dk→Int→Int→(Li)→Dk→Int→Option ((Li×Li×Dk×Int)⊕(Li×Dk×Int))){top:Bool}:JnQ (Z:=(Li×Li×Dk×Int)⊕(Li×Dk×Int)) An3 top none [Abc rec,Tl,Sb]:=mkJ (A50 N self hself) [] [A7a N self hself rec] ⟨[.c [1,1,1,0,1,0,0,1,0,0,1,1,1,0],.c [1,1,1,0,1,0,0,1,0,0,1,1,1,1],.b 1,.c [1,1,1,0,1,0,0,1,1],.l [1,1,1,0,1,0,0],.b 0,.c [1,1,1,1]],⟨[0,1,2,3,5,9,10,11],⟨[shL,shI,.fe (.sl (.int .i64)),.fz [shD],.own 0 0,shI,shI,shI],[.segs [.fn 104 [] [.fe (.sl (.int .i64)),.fz [shD],.fe (.int .i64),.own 0 0]]]⟩⟩,fun p=>put_j2 N self rec p.1.1 p.1.2.1 p.1.2.2.1 p.1.2.2.2.1.1 p.1.2.2.2.2.2.1 p.1.2.2.2.2.2.2.1 p.1.2.2.2.2.2.2.2.1 p.2.1.1.2.1 p.2.1.1.2.2.1.1 p.2.1.1.2.2.2.1⟩ (fun p=>by kernel_rfl)
noncomputable def Akb(N:Nat)(self:Li→Int→(Li)→Dk→Int→(Li)→Dk→Int→Option ((Li×Dk×Int)⊕(Li×Li×Dk×Int)))(hself:A0 Tryz.prog (En self)){top:Bool}:LpQ An3 top:=mkL (Z:=(Li×Li×Dk×Int)⊕(Li×Dk×Int)) (A50 N self hself) [] A1l A28 (fun m p=>put_l1 N self m p.1.1 p.1.2.1 p.1.2.2.1 p.1.2.2.2.1.1 p.1.2.2.2.2.2.1 p.1.2.2.2.2.2.2.1 p.2.1.1.2.1 p.2.1.1.2.2.1.1 p.2.1.1.2.2.2.1) [Tl,Sb] (fun m=>[A7a N self hself (put_l1 N self m),An1 N self hself (put_l1 N self m)]) (fun k e=>match e with | .inl x=>k (.inl ((x.1,()),((((),(x.2.1,(x.2.2.1,()),x.2.2.2,(),())),()),()))) | .inr x=>k (.inr (.inl ((),((((),(x.1,(x.2.1,()),x.2.2,(),())),()),()))))) N (fun m p=>by kernel_rfl) (hg:=(by rintro _ _ (_ | _)<;>rfl))
theorem Abi(N:Nat)(self:Li→Int→(Li)→Dk→Int→(Li)→Dk→Int→Option ((Li×Dk×Int)⊕(Li×Li×Dk×Int)))(hself:A0 Tryz.prog (En self)):A0 Tryz.prog (En (put_S N self)):=mkF (R:=(Li×Dk×Int)⊕(Li×Li×Dk×Int)) (m0:=1) (A50 N self hself) [Akb N self hself] (fun r=>match r with | .inl r=>some (.inl (r.2.1.1.2.1,r.2.1.1.2.2.1.1,r.2.1.1.2.2.2.1)) | .inr r=>some (.inr (r.1.1,r.2.1.1.2.1,r.2.1.1.2.2.1.1,r.2.1.1.2.2.2.1))) [] Tryz.func104 (fun p=>by kernel_rfl) (by kernel_rfl) (fun _=>by kernel_rfl) (by rintro _ _ (_ | _)<;>rfl) (by rintro (_ | _) z h<;>(cases h;rfl))
def Py(N:Nat):Nat→Li→Int→(Li)→Dk→Int→(Li)→Dk→Int→Option ((Li×Dk×Int)⊕(Li×Li×Dk×Int))
 | 0=>fun _ _ _ _ _ _ _ _=>none
 | n+1=>put_S N (Py N n)
theorem Abo(N:Nat):∀n,A0 Tryz.prog (En (Py N n))
 | 0=>A0.none (fun _ _ _=>rfl) (fun args w=>Sem.pv_run _ _ _ (by kernel_rfl) w)
 | n+1=>Abi N (Py N n) (Abo N n)
noncomputable abbrev Ar6(N:Nat):Spec:=En (Py N N)
theorem Ail(N:Nat):A0 Tryz.prog (Ar6 N):=Abo N N

def Fw(N:Nat)(rec:Int→(Li)→Dk→Int→Int→(Li)→Dk→Int→Option ((Li×Li×Dk×Int)⊕(Li×Dk×Int)))(left:Int)(u:Li)(u2:Dk)(i k:Int)(g:Li)(g2:Dk)(g3:Int):Option ((Li×Li×Dk×Int)⊕(Li×Dk×Int)):=
 chk (k+1)<|
 rec left u u2 i (k+1) g g2 g3
def Di(N:Nat)(rec:Int→(Li)→Dk→Int→Int→(Li)→Dk→Int→Option ((Li×Li×Dk×Int)⊕(Li×Dk×Int)))(left:Int)(u:Li)(u2:Dk)(i k now:Int)(g:Li)(g2:Dk)(g3:Int):Option ((Li×Li×Dk×Int)⊕(Li×Dk×Int)):=
 (Zl N).bind fun _=>
 ((Py N N [k] now g g2 g3 g g2 g3).bind fun e=>match e with
 | .inl (x_6,y_7,y_8)=>
  (Fw N (rec) left u u2 i k x_6 y_7 y_8)
 | .inr (x_9,y_10,y_11,y_12)=>
  (grd (!x_9.isEmpty)<|
  some (.inl (x_9,y_10,y_11,y_12))))
def put0_l1(N:Nat):Nat→Int→(Li)→Dk→Int→Int→(Li)→Dk→Int→Option ((Li×Li×Dk×Int)⊕(Li×Dk×Int))
 | 0,_,_,_,_,_,_,_,_=>none
 | n_+1,left,u,u2,i,k,g,g2,g3=>
  br (decide (k<(u2.2.2.2.1.length:Int)))
   (br (!decide (k=-1))
    ((D3 N [] k).bind fun x_2=>
    br x_2
     (Fw N (put0_l1 N n_) left u u2 i k g g2 g3)
     ((I8 N u2 i k).bind fun x_3=>
     br (!x_3)
      (Fw N (put0_l1 N n_) left u u2 i k g g2 g3)
      (idx u i fun x_4=>
      br (!decide (k=x_4))
       (br (decide (left=0))
        (Fw N (put0_l1 N n_) left u u2 i k g g2 g3)
        (idx u i fun x_5=>
        br (!decide (k=x_5))
         (chk (left-1)<|
         Di N (put0_l1 N n_) left u u2 i k (left-1) g g2 g3)
         (Di N (put0_l1 N n_) left u u2 i k left g g2 g3)))
       (idx u i fun x_13=>
       br (!decide (k=x_13))
        (chk (left-1)<|
        Di N (put0_l1 N n_) left u u2 i k (left-1) g g2 g3)
        (Di N (put0_l1 N n_) left u u2 i k left g g2 g3)))))
    (idx u i fun x_14=>
    br (!decide (k=x_14))
     (br (decide (left=0))
      (Fw N (put0_l1 N n_) left u u2 i k g g2 g3)
      (idx u i fun x_15=>
      br (!decide (k=x_15))
       (chk (left-1)<|
       Di N (put0_l1 N n_) left u u2 i k (left-1) g g2 g3)
       (Di N (put0_l1 N n_) left u u2 i k left g g2 g3)))
     (idx u i fun x_16=>
     br (!decide (k=x_16))
      (chk (left-1)<|
      Di N (put0_l1 N n_) left u u2 i k (left-1) g g2 g3)
      (Di N (put0_l1 N n_) left u u2 i k left g g2 g3))))
   (some (.inr (g,g2,g3)))
def Aev(N:Nat)(left:Int)(u:Li)(u2:Dk)(u3:Int)(g:Li)(g2:Dk)(g3:Int):Option ((Li×Dk×Int)⊕(Li×Li×Dk×Int)):=
 br (decide (0=(u.length:Int)))
  ((Dg N u2 []).bind fun x_1=>
  br (decide (u3<x_1))
   (some (.inl (g,g2,g3)))
   (some (.inl (g,g2,g3))))
  ((put0_l1 N N left u u2 0 (-1) g g2 g3).bind fun e=>match e with
  | .inl (out_17,g_18,g2_19,g3_20)=>
   some (.inr (out_17,g_18,g2_19,g3_20))
  | .inr (g_21,g2_22,g3_23)=>
   some (.inl (g_21,g2_22,g3_23)))
noncomputable def Wg(N:Nat):Oks:=[⟨_,A4p N⟩,⟨_,Ail N⟩,⟨_,E4 N⟩,⟨_,C3 N⟩,⟨_,Ci N⟩]
abbrev Am6:List StSh:=[⟨[.nils],[.segs [.fn 104 [] [.fe (.sl (.int .i64)),.fz [shD],.fe (.int .i64),.own 0 0]]]⟩,⟨[shL],[.segs [.fn 104 [] [.fe (.sl (.int .i64)),.fz [shD],.fe (.int .i64),.own 0 0]]]⟩]
noncomputable abbrev Aec:Body:=mkB Tryz.f104 Am6 1
abbrev Zr:List PI:=[.c [1,1,1,0,1,0,0,0,0],.c [1,1,1,0,1,0,0,0,1],.c [1,1,1,0,1,0,0,1],.l [1,1,1,0,1,0,0],.b 0,.c [1,1,1,1]]
abbrev Wv:Sta:=⟨[0,1,2,3,5,9,10],⟨[.nils,shI,.fe (.sl (.int .i64)),.fz [shD],.own 0 0,shI,shI],[.segs [.fn 104 [] [.fe (.sl (.int .i64)),.fz [shD],.fe (.int .i64),.own 0 0]]]⟩⟩
abbrev A1z(rec:Int→(Li)→Dk→Int→Int→(Li)→Dk→Int→Option ((Li×Li×Dk×Int)⊕(Li×Dk×Int))):Leaf ((Li×Li×Dk×Int)⊕(Li×Dk×Int)):=⟨Zr,Wv,fun p=>rec p.1.2.1 p.1.2.2.1 p.1.2.2.2.1.1 p.1.2.2.2.2.2.1 p.1.2.2.2.2.2.2.1 p.2.1.1.2.1 p.2.1.1.2.2.1.1 p.2.1.1.2.2.2.1⟩
abbrev O6:Leaf ((Li×Li×Dk×Int)⊕(Li×Dk×Int)):=⟨[.c [1,1,1,0,1,0,0,1,0,0,1,1,1,1,1,0,0],.c [1,1,1,0,1,0,0,1,0,0,1,1,1,1,1,0,1],.b 1,.c [1,1,1,0,1,0,0,1,1],.l [1,1,1,0,1,0,0],.b 0,.c [1,1,1,1]],⟨[12],⟨[shL],[.segs [.fn 104 [] [.fe (.sl (.int .i64)),.fz [shD],.fe (.int .i64),.own 0 0]]]⟩⟩,fun p=>some (.inl (p.1.1,p.2.1.1.2.1,p.2.1.1.2.2.1.1,p.2.1.1.2.2.2.1))⟩
abbrev Oe:Leaf ((Li×Li×Dk×Int)⊕(Li×Dk×Int)):=⟨[.c [1,1,1,1,0],.c [1,1,1,1,1]],⟨[],⟨[],[.segs [.fn 104 [] [.fe (.sl (.int .i64)),.fz [shD],.fe (.int .i64),.own 0 0]]]⟩⟩,fun p=>some (.inr (p.2.1.1.2.1,p.2.1.1.2.2.1.1,p.2.1.1.2.2.2.1))⟩
noncomputable def A29(N:Nat)(rec:Int→(Li)→Dk→Int→Int→(Li)→Dk→Int→Option ((Li×Li×Dk×Int)⊕(Li×Dk×Int))){top:Bool}:JnQ (Z:=(Li×Li×Dk×Int)⊕(Li×Dk×Int)) Aec top none [A1z rec,O6,Oe]:=mkJ (Wg N) [] [] ⟨[.c [1,1,1,0,1,0,0,1,1],.l [1,1,1,0,1,0,0],.b 0,.c [1,1,1,1]],⟨[0,1,2,3,5,9,10],⟨[.nils,shI,.fe (.sl (.int .i64)),.fz [shD],.own 0 0,shI,shI],[.segs [.fn 104 [] [.fe (.sl (.int .i64)),.fz [shD],.fe (.int .i64),.own 0 0]]]⟩⟩,fun p=>Fw N rec p.1.2.1 p.1.2.2.1 p.1.2.2.2.1.1 p.1.2.2.2.2.2.1 p.1.2.2.2.2.2.2.1 p.2.1.1.2.1 p.2.1.1.2.2.1.1 p.2.1.1.2.2.2.1⟩ (fun p=>by kernel_rfl)
noncomputable def Aip(N:Nat)(rec:Int→(Li)→Dk→Int→Int→(Li)→Dk→Int→Option ((Li×Li×Dk×Int)⊕(Li×Dk×Int))){top:Bool}:JnQ (Z:=(Li×Li×Dk×Int)⊕(Li×Dk×Int)) Aec top none [A1z rec,O6,Oe]:=mkJ (Wg N) [] [A29 N rec] ⟨[.c [1,1,1,0,1,0,0,1,0,0,1,1,1,0],.c [1,1,1,0,1,0,0,1,0,0,1,1,1,1],.b 1,.c [1,1,1,0,1,0,0,1,1],.l [1,1,1,0,1,0,0],.b 0,.c [1,1,1,1]],⟨[0,1,2,3,5,9,10,11],⟨[.nils,shI,.fe (.sl (.int .i64)),.fz [shD],.own 0 0,shI,shI,shI],[.segs [.fn 104 [] [.fe (.sl (.int .i64)),.fz [shD],.fe (.int .i64),.own 0 0]]]⟩⟩,fun p=>Di N rec p.1.2.1 p.1.2.2.1 p.1.2.2.2.1.1 p.1.2.2.2.2.2.1 p.1.2.2.2.2.2.2.1 p.1.2.2.2.2.2.2.2.1 p.2.1.1.2.1 p.2.1.1.2.2.1.1 p.2.1.1.2.2.2.1⟩ (fun p=>by kernel_rfl)
noncomputable def Aie(N:Nat){top:Bool}:LpQ Aec top:=mkL (Z:=(Li×Li×Dk×Int)⊕(Li×Dk×Int)) (Wg N) [] Zr Wv (fun m p=>put0_l1 N m p.1.2.1 p.1.2.2.1 p.1.2.2.2.1.1 p.1.2.2.2.2.2.1 p.1.2.2.2.2.2.2.1 p.2.1.1.2.1 p.2.1.1.2.2.1.1 p.2.1.1.2.2.2.1) [O6,Oe] (fun m=>[A29 N (put0_l1 N m),Aip N (put0_l1 N m)]) (fun k e=>match e with | .inl x=>k (.inl ((x.1,()),((((),(x.2.1,(x.2.2.1,()),x.2.2.2,(),())),()),()))) | .inr x=>k (.inr (.inl ((),((((),(x.1,(x.2.1,()),x.2.2,(),())),()),()))))) N (fun m p=>by kernel_rfl) (hg:=(by rintro _ _ (_ | _)<;>rfl))
noncomputable def Ao7(N:Nat):Spec:=mkS 104 ⟨[.nils,shI,.fe (.sl (.int .i64)),.fz [shD],.fe (.int .i64),.own 0 0],[.segs [.fn 104 [] [.fe (.sl (.int .i64)),.fz [shD],.fe (.int .i64),.own 0 0]]]⟩ Am6 (fun p=>Aev N p.1.2.1 p.1.2.2.1 p.1.2.2.2.1.1 p.1.2.2.2.2.1 p.2.1.1.2.1 p.2.1.1.2.2.1.1 p.2.1.1.2.2.2.1) (fun k r=>match r with | .inl r=>k (.inl (((),()),((((),(r.1,(r.2.1,()),r.2.2,(),())),()),()))) | .inr r=>k (.inr ((r.1,()),((((),(r.2.1,(r.2.2.1,()),r.2.2.2,(),())),()),()))))
theorem Af7(N:Nat):A0 Tryz.prog (Ao7 N):=mkF (R:=(Li×Dk×Int)⊕(Li×Li×Dk×Int)) (m0:=1) (Wg N) [Aie N] (fun r=>match r with | .inl r=>some (.inl (r.2.1.1.2.1,r.2.1.1.2.2.1.1,r.2.1.1.2.2.2.1)) | .inr r=>some (.inr (r.1.1,r.2.1.1.2.1,r.2.1.1.2.2.1.1,r.2.1.1.2.2.2.1))) [] Tryz.func104 (fun p=>by kernel_rfl) (by kernel_rfl) (fun _=>by kernel_rfl) (by rintro _ _ (_ | _)<;>rfl) (by rintro (_ | _) z h<;>(cases h;rfl))

def Mg(N:Nat)(d:Dk)(joins:Li)(more:Int):Option ((Unit)⊕Li):=
 (Dg N d joins).bind fun x_1=>
 ((Aev N more joins d x_1 joins d x_1).bind fun e=>match e with
 | .inl (x_2,y_3,y_4)=>
  (some (.inl ()))
 | .inr (x_5,y_6,y_7,y_8)=>
  (some (.inr x_5)))
noncomputable def sp_changed(N:Nat):Spec:=mkS 91 ⟨[shD,shL,shI],[]⟩ [⟨[.nils],[]⟩,⟨[shL],[]⟩] (fun p=>Mg N p.1.1 p.1.2.1 p.1.2.2.1) (fun k r=>match r with | .inl r=>k (.inl (((),()),())) | .inr r=>k (.inr ((r,()),())))
theorem A17(N:Nat):A0 Tryz.prog (sp_changed N):=mkF (R:=(Unit)⊕Li) (m0:=0) [⟨_,Af7 N⟩,⟨_,Ci N⟩] [] (fun r=>match r with | .inl r=>some (.inl ()) | .inr r=>some (.inr r.1.1)) [] Tryz.func91 (fun p=>by kernel_rfl) (by kernel_rfl) (fun _=>by kernel_rfl) (by rintro _ _ (_ | _)<;>rfl) (by rintro (_ | _) z h<;>(cases h;rfl))

def change_l1(N:Nat):Nat→Li→Dk→Int→Int→Option Li
 | 0,_,_,_,_=>none
 | n_+1,joins,x,u,u2=>
  br (decide (u2<u))
   (chk (u2+1)<|
   ((Mg N x joins (u2+1)).bind fun e=>match e with
   | .inl _=>
    (chk (u2+1)<|
    change_l1 N n_ joins x u (u2+1))
   | .inr x_7=>
    (grd (!x_7.isEmpty)<|
    some (x_7))))
   (some ([]))
def Lq(N:Nat)(d:Li)(d2:Int)(d3 d4:Ll)(d5 joins:Li):Option (Li×Int):=
 ((joined_S N d d2 d3 d4 d5 joins).bind fun e=>match e with
 | .inl (x_1,y_2)=>
  (br (!decide (y_2=0))
   (some ([],y_2))
   ((Dg N x_1 joins).bind fun x_3=>
   (C0 N x_1 0).bind fun(x_4,y_5,y_6)=>
   br (decide (x_3=y_5))
    (some ([],6))
    ((change_l1 N N joins x_1 (joins.length:Int) 0).bind fun out_8=>
    some (out_8,0))))
 | .inr x_9=>
  (br (!decide (x_9=0))
   (some ([],x_9))
   (none)))
noncomputable def A37(N:Nat):Oks:=[⟨_,Ci N⟩,⟨_,K3 N⟩,⟨_,D9 N⟩,⟨_,A17 N⟩]
abbrev A8t:List StSh:=[⟨[shL,shI],[]⟩]
noncomputable abbrev Am0:Body:=mkB Tryz.f51 A8t 0
noncomputable def A74(N:Nat){top:Bool}:LpQ Am0 top:=mkL (Z:=Li) (A37 N) [] [.c [1,0,1,1,1,1,1,0,1,0,0,0],.c [1,0,1,1,1,1,1,0,1,0,0,1],.l [1,0,1,1,1,1,1,0,1,0,0],.b 0,.c [1,0,1,1,1,1,1,1],.s [1,0]] ⟨[1,6,8,27,28],⟨[shL,shD,.nils,shI,shI],[]⟩⟩ (fun m p=>change_l1 N m p.1.1 p.1.2.1 p.1.2.2.2.1 p.1.2.2.2.2.1) [⟨[.c [1,0,1,1,1,1,1,1,0],.c [1,0,1,1,1,1,1,1,1],.s [1,0]],⟨[8],⟨[shL],[]⟩⟩,fun p=>some (p.1.1)⟩] (fun _=>[]) (fun k e=>k (.inl ((e,()),()))) N (fun m p=>by kernel_rfl)
noncomputable def Aiv(N:Nat):Spec:=mkS 51 ⟨[shG,shL],[]⟩ A8t (fun p=>Lq N p.1.1.1 p.1.1.2.1 p.1.1.2.2.1 p.1.1.2.2.2.1 p.1.1.2.2.2.2.1 p.1.2.1) (fun k r=>k ((r.1,r.2,()),()))
theorem P8(N:Nat):A0 Tryz.prog (Aiv N):=mkF (R:=Li×Int) (m0:=0) (A37 N) [A74 N] (fun r=>some (r.1.1,r.1.2.1)) [] Tryz.func51 (fun p=>by kernel_rfl) (by kernel_rfl) (fun _=>by kernel_rfl)

def Jn(N:Nat)(d:Li)(d2:Int)(d3 d4:Ll)(d5:Li)(lost found:Int):Option (Int×Int):=
 ((Aw N d d2 d3 d4 d5).bind fun e=>match e with
 | .inl (x_1,y_2)=>
  (br (!decide (y_2=0))
   (some (0,y_2))
   ((Js N x_1 lost).bind fun x_3=>
   br (!x_3)
    (some (0,1))
    ((Cp N x_1 found).bind fun x_4=>
    br (!x_4)
     (some (0,1))
     ((C0 N x_1 0).bind fun(x_5,y_6,y_7)=>
     rng lost 6<|
     rng found 6<|
     get x_1.2.2.2.2.2.1 ((lost.toNat*6)+found.toNat) fun _=>
     (C0 N (x_1.1,x_1.2.1,x_1.2.2.1,x_1.2.2.2.1,x_1.2.2.2.2.1,(x_1.2.2.2.2.2.1.set ((lost.toNat*6)+found.toNat) 0),x_1.2.2.2.2.2.2.1,()) 0).bind fun(x_9,y_10,y_11)=>
     br (decide (y_10<y_6))
      (some (1,0))
      (br (decide (y_11=y_7))
       (some (2,0))
       (some (0,0)))))))
 | .inr x_12=>
  (br (!decide (x_12=0))
   (some (0,x_12))
   (none)))
noncomputable def Aly(N:Nat):Spec:=mkS 57 ⟨[shG,shI,shI],[]⟩ [⟨[shI,shI],[]⟩] (fun p=>Jn N p.1.1.1 p.1.1.2.1 p.1.1.2.2.1 p.1.1.2.2.2.1 p.1.1.2.2.2.2.1 p.1.2.1 p.1.2.2.1) (fun k r=>k ((r.1,r.2,()),()))
theorem Aaz(N:Nat):A0 Tryz.prog (Aly N):=mkF (R:=Int×Int) (m0:=0) [⟨_,Aj N⟩,⟨_,Km N⟩,⟨_,Ch N⟩,⟨_,D9 N⟩] [] (fun r=>some (r.1.1,r.1.2.1)) [] Tryz.func57 (fun p=>by kernel_rfl) (by kernel_rfl) (fun _=>by kernel_rfl)

def Qd(N:Nat)(rec:Dk→Int→Int→Li→Option Li)(x:Dk)(u u2:Int)(out:Li):Option Li:=
 chk (u2+1)<|
 rec x u (u2+1) out
def Gc(N:Nat):Nat→Dk→Int→Int→Li→Option Li
 | 0,_,_,_,_=>none
 | n_+1,x,u,u2,out=>
  br (decide (u2<u))
   (grd (decide (0≤u2∧u2≤62))<|
   chk ((1:Int)*2 ^ u2.toNat)<|
   (C0 N x ((1:Int)*2 ^ u2.toNat)).bind fun(x_3,y_4,y_5)=>
   (C0 N x 0).bind fun(x_6,y_7,y_8)=>
   br (decide (y_4=y_7))
    (lim (out.length+[u2].length)<|
    Qd N (Gc N n_) x u u2 (out++[u2]))
    (Qd N (Gc N n_) x u u2 out))
   (some (out))
def Wf(N:Nat)(d:Li)(d2:Int)(d3 d4:Ll)(d5:Li):Option (Li×Int):=
 ((Aw N d d2 d3 d4 d5).bind fun e=>match e with
 | .inl (x_1,y_2)=>
  (br (!decide (y_2=0))
   (some ([],y_2))
   ((Gc N N x_1 (d4.length:Int) 0 []).bind fun out_9=>
   some (out_9,0)))
 | .inr x_10=>
  (br (!decide (x_10=0))
   (some ([],x_10))
   (none)))
noncomputable def Zf(N:Nat):Oks:=[⟨_,Aj N⟩,⟨_,D9 N⟩]
abbrev Ag2:List StSh:=[⟨[shL,shI],[]⟩]
noncomputable abbrev Agk:Body:=mkB Tryz.f59 Ag2 0
abbrev Ui:List PI:=[.c [1,1,1,1,0,1,0,0,0],.c [1,1,1,1,0,1,0,0,1],.l [1,1,1,1,0,1,0,0],.b 0,.c [1,1,1,1,1]]
abbrev Tz:Sta:=⟨[4,6,18,19],⟨[shD,.ols 0,shI,shI],[.lst (.int .i64)]⟩⟩
abbrev Ado(rec:Dk→Int→Int→Li→Option Li):Leaf Li:=⟨Ui,Tz,fun p=>rec p.1.1 p.1.2.2.1 p.1.2.2.2.1 p.2.1⟩
abbrev Ue:Leaf Li:=⟨[.c [1,1,1,1,1,0],.c [1,1,1,1,1,1]],⟨[6],⟨[.ols 0],[.lst (.int .i64)]⟩⟩,fun p=>some (p.2.1)⟩
noncomputable def Ael(N:Nat)(rec:Dk→Int→Int→Li→Option Li){top:Bool}:JnQ (Z:=Li) Agk top none [Ado rec,Ue]:=mkJ (Zf N) [] [] ⟨[.c [1,1,1,1,0,1,0,0,1,1,1],.l [1,1,1,1,0,1,0,0],.b 0,.c [1,1,1,1,1]],⟨[4,6,18,19],⟨[shD,.ols 0,shI,shI],[.lst (.int .i64)]⟩⟩,fun p=>Qd N rec p.1.1 p.1.2.2.1 p.1.2.2.2.1 p.2.1⟩ (fun p=>by kernel_rfl)
noncomputable def Af3(N:Nat){top:Bool}:LpQ Agk top:=mkL (Z:=Li) (Zf N) [] Ui Tz (fun m p=>Gc N m p.1.1 p.1.2.2.1 p.1.2.2.2.1 p.2.1) [Ue] (fun m=>[Ael N (Gc N m)]) (fun k e=>k (.inl (((),()),(e,())))) N (fun m p=>by kernel_rfl)
noncomputable def Ann(N:Nat):Spec:=mkS 59 ⟨[shG],[]⟩ Ag2 (fun p=>Wf N p.1.1.1 p.1.1.2.1 p.1.1.2.2.1 p.1.1.2.2.2.1 p.1.1.2.2.2.2.1) (fun k r=>k ((r.1,r.2,()),()))
theorem A76(N:Nat):A0 Tryz.prog (Ann N):=mkF (R:=Li×Int) (m0:=0) (Zf N) [Af3 N] (fun r=>some (r.1.1,r.1.2.1)) [] Tryz.func59 (fun p=>by kernel_rfl) (by kernel_rfl) (fun _=>by kernel_rfl)

def with__S(N:Nat)(d:Li)(d2:Int)(d3 d4:Ll)(d5:Li)(found trait value:Int):Option (Li×Int×Ll×Ll×Li×Int):=
 ((Aw N d d2 d3 d4 d5).bind fun e=>match e with
 | .inl (x_1,y_2)=>
  (br (!decide (y_2=0))
   (some ([],0,[],[],[],y_2))
   ((Cp N x_1 found).bind fun x_3=>
   br (!x_3)
    (some ([],0,[],[],[],1))
    (chk ((d.length:Int)-1)<|
    (Gi N trait 0 ((d.length:Int)-1)).bind fun x_4=>
    br (!x_4)
     (some ([],0,[],[],[],1))
     (idx d4 found fun x_5=>
     idx x_5 trait fun x_6=>
     br (!decide (x_6=-1))
      (some ([],0,[],[],[],5))
      ((Gi N value 0 5).bind fun x_7=>
      br (!x_7)
       (some ([],0,[],[],[],3))
       ((Ji N d d2 d3 d4 d5 found trait value).bind fun(x_8,y_9,y_10,y_11,y_12)=>
       some (x_8,y_9,y_10,y_11,y_12,0)))))))
 | .inr x_13=>
  (br (!decide (x_13=0))
   (some ([],0,[],[],[],x_13))
   (none)))
noncomputable def Amr(N:Nat):Spec:=mkS 40 ⟨[shG,shI,shI,shI],[]⟩ [⟨[shG,shI],[]⟩] (fun p=>with__S N p.1.1.1 p.1.1.2.1 p.1.1.2.2.1 p.1.1.2.2.2.1 p.1.1.2.2.2.2.1 p.1.2.1 p.1.2.2.1 p.1.2.2.2.1) (fun k r=>k (((r.1,r.2.1,r.2.2.1,r.2.2.2.1,r.2.2.2.2.1,()),r.2.2.2.2.2,()),()))
theorem Aa4(N:Nat):A0 Tryz.prog (Amr N):=mkF (R:=Li×Int×Ll×Ll×Li×Int) (m0:=0) [⟨_,Cf N⟩,⟨_,Aj N⟩,⟨_,Ch N⟩,⟨_,Vm N⟩] [] (fun r=>some (r.1.1.1,r.1.1.2.1,r.1.1.2.2.1,r.1.1.2.2.2.1,r.1.1.2.2.2.2.1,r.1.2.1)) [] Tryz.func40 (fun p=>by kernel_rfl) (by kernel_rfl) (fun _=>by kernel_rfl)

def O9(N:Nat)(rec:Int→Int→Int→Int→Ll→Int→Int→Li→Int→Int→Li→Int→Ll→Ll→Li→Option (Int×Int×Int×Ll×Int×Int×Li×Int×Ll×Ll×Li))(found trait most k:Int)(u:Ll)(u2 u3:Int)(u4:Li)(u5 u6:Int)(d:Li)(d2:Int)(d3 d4:Ll)(d5:Li):Option (Int×Int×Int×Ll×Int×Int×Li×Int×Ll×Ll×Li):=
 chk (u6+1)<|
 rec found trait most k u u2 u3 u4 u5 (u6+1) d d2 d3 d4 d5
def ask_l3(N:Nat):Nat→Int→Int→Int→Int→Int→Int→Ll→Int→Int→Li→Int→Int→Int→Li→Int→Ll→Ll→Li→Option (Int×Int×Int×Int×Int×Int×Ll×Int×Int×Li×Int×Int×Li×Int×Ll×Ll×Li)
 | 0,_,_,_,_,_,_,_,_,_,_,_,_,_,_,_,_,_,_=>none
 | n_+1,found,trait,most,k,t,n,u,u2,u3,u4,u5,u6,u7,d,d2,d3,d4,d5=>
  br (decide (u7<6))
   ((Ji N d d2 d3 d4 d5 k t u7).bind fun(x_4,y_5,y_6,y_7,y_8)=>
   ((Aw N x_4 y_5 y_6 y_7 y_8).bind fun e=>match e with
   | .inl (x_9,y_10)=>
    ((C0 N x_9 0).bind fun(x_11,y_12,y_13)=>
    chk (u7+1)<|
    ask_l3 N n_ found trait most k t (max n y_13) u u2 u3 u4 u5 u6 (u7+1) d d2 d3 d4 d5)
   | .inr x_14=>
    (none)))
   (some ((found,trait,most,k,t,n,u,u2,u3,u4,u5,u6,d,d2,d3,d4,d5)))
def ask_l2(N:Nat):Nat→Int→Int→Int→Int→Ll→Int→Int→Li→Int→Int→Li→Int→Ll→Ll→Li→Option (Int×Int×Int×Ll×Int×Int×Li×Int×Ll×Ll×Li)
 | 0,_,_,_,_,_,_,_,_,_,_,_,_,_,_,_=>none
 | n_+1,found,trait,most,k,u,u2,u3,u4,u5,u6,d,d2,d3,d4,d5=>
  br (decide (u6<u5))
   (idx u4 u6 fun x_3=>
   br (!decide (x_3=-1))
    (O9 N (ask_l2 N n_) found trait most k u u2 u3 u4 u5 u6 d d2 d3 d4 d5)
    ((ask_l3 N N found trait most k u6 0 u u2 u3 u4 u5 u6 0 d d2 d3 d4 d5).bind fun(found_15,trait_16,most_17,k_18,t_19,n_20,u_21,u2_22,u3_23,u4_24,u5_25,u6_26,d_27,d2_28,d3_29,d4_30,d5_31)=>
    br (decide (most_17=0))
     (O9 N (ask_l2 N n_) k_18 t_19 n_20 k_18 u_21 u2_22 u3_23 u4_24 u5_25 u6_26 d_27 d2_28 d3_29 d4_30 d5_31)
     (br (decide (n_20<most_17))
      (O9 N (ask_l2 N n_) k_18 t_19 n_20 k_18 u_21 u2_22 u3_23 u4_24 u5_25 u6_26 d_27 d2_28 d3_29 d4_30 d5_31)
      (O9 N (ask_l2 N n_) found_15 trait_16 most_17 k_18 u_21 u2_22 u3_23 u4_24 u5_25 u6_26 d_27 d2_28 d3_29 d4_30 d5_31))))
   (some ((found,trait,most,u,u2,u3,d,d2,d3,d4,d5)))
def ask_l1(N:Nat):Nat→Int→Int→Int→Ll→Int→Int→Li→Int→Ll→Ll→Li→Option (Int×Int×Int)
 | 0,_,_,_,_,_,_,_,_,_,_,_=>none
 | n_+1,found,trait,most,u,u2,u3,d,d2,d3,d4,d5=>
  br (decide (u3<u2))
   (idx u u3 fun x_2=>
   (ask_l2 N N found trait most u3 u u2 u3 x_2 (x_2.length:Int) 0 d d2 d3 d4 d5).bind fun(found_32,trait_33,most_34,u_35,u2_36,u3_37,d_38,d2_39,d3_40,d4_41,d5_42)=>
   chk (u3_37+1)<|
   ask_l1 N n_ found_32 trait_33 most_34 u_35 u2_36 (u3_37+1) d_38 d2_39 d3_40 d4_41 d5_42)
   (some ((found,trait,most)))
def A9d(N:Nat)(d:Li)(d2:Int)(d3 d4:Ll)(d5:Li):Option (Int×Int×Int×Int):=
 (Jy N d d2 d3 d4 d5).bind fun x_1=>
 br (!decide (x_1=0))
  (some (0,0,0,x_1))
  ((ask_l1 N N 0 0 0 d4 (d4.length:Int) 0 d d2 d3 d4 d5).bind fun(found_43,trait_44,most_45)=>
  br (decide (most_45=0))
   (some (0,0,0,6))
   (some (found_43,trait_44,most_45,0)))
noncomputable def Xf(N:Nat):Oks:=[⟨_,Hk N⟩,⟨_,Aj N⟩,⟨_,Vm N⟩,⟨_,D9 N⟩]
abbrev Apu:List StSh:=[⟨[shI,shI,shI,shI],[]⟩]
noncomputable abbrev Agt:Body:=mkB Tryz.f17 Apu 0
abbrev A2d:List PI:=[.c [1,1,0,1,0,0,1,1,0,0,1,1,0,0,0],.c [1,1,0,1,0,0,1,1,0,0,1,1,0,0,1],.l [1,1,0,1,0,0,1,1,0,0,1,1,0,0],.b 2,.b 1,.c [1,1,0,1,0,0,1,1,1],.l [1,1,0,1,0,0],.b 0,.c [1,1,1]]
abbrev A1q:Sta:=⟨[1,2,3,4,7,21,22,23,28,29,30],⟨[.own 0 0,shI,shI,shI,shI,shQ,shI,shI,shL,shI,shI],[.segs [shL,shI,shQ,shQ,shL]]⟩⟩
abbrev Aln(rec:Int→Int→Int→Int→Ll→Int→Int→Li→Int→Int→Li→Int→Ll→Ll→Li→Option (Int×Int×Int×Ll×Int×Int×Li×Int×Ll×Ll×Li)):Leaf (Int×Int×Int×Ll×Int×Int×Li×Int×Ll×Ll×Li):=⟨A2d,A1q,fun p=>rec p.1.2.1 p.1.2.2.1 p.1.2.2.2.1 p.1.2.2.2.2.1 p.1.2.2.2.2.2.1 p.1.2.2.2.2.2.2.1 p.1.2.2.2.2.2.2.2.1 p.1.2.2.2.2.2.2.2.2.1 p.1.2.2.2.2.2.2.2.2.2.1 p.1.2.2.2.2.2.2.2.2.2.2.1 p.2.1.1 p.2.1.2.1 p.2.1.2.2.1 p.2.1.2.2.2.1 p.2.1.2.2.2.2.1⟩
abbrev A2z:Leaf (Int×Int×Int×Ll×Int×Int×Li×Int×Ll×Ll×Li):=⟨[.c [1,1,0,1,0,0,1,1,1],.l [1,1,0,1,0,0],.b 0,.c [1,1,1]],⟨[1,2,3,4,21,22,23],⟨[.own 0 0,shI,shI,shI,shQ,shI,shI],[.segs [shL,shI,shQ,shQ,shL]]⟩⟩,fun p=>some ((p.1.2.1,p.1.2.2.1,p.1.2.2.2.1,p.1.2.2.2.2.1,p.1.2.2.2.2.2.1,p.1.2.2.2.2.2.2.1,p.2.1.1,p.2.1.2.1,p.2.1.2.2.1,p.2.1.2.2.2.1,p.2.1.2.2.2.2.1))⟩
noncomputable def Amv(N:Nat)(rec:Int→Int→Int→Int→Ll→Int→Int→Li→Int→Int→Li→Int→Ll→Ll→Li→Option (Int×Int×Int×Ll×Int×Int×Li×Int×Ll×Ll×Li)){top:Bool}:JnQ (Z:=Int×Int×Int×Ll×Int×Int×Li×Int×Ll×Ll×Li) Agt top none [Aln rec,A2z]:=mkJ (Xf N) [] [] ⟨[.c [1,1,0,1,0,0,1,1,0,0,1,1,0,0,1,1,1],.l [1,1,0,1,0,0,1,1,0,0,1,1,0,0],.b 2,.b 1,.c [1,1,0,1,0,0,1,1,1],.l [1,1,0,1,0,0],.b 0,.c [1,1,1]],⟨[1,2,3,4,7,21,22,23,28,29,30],⟨[.own 0 0,shI,shI,shI,shI,shQ,shI,shI,shL,shI,shI],[.segs [shL,shI,shQ,shQ,shL]]⟩⟩,fun p=>O9 N rec p.1.2.1 p.1.2.2.1 p.1.2.2.2.1 p.1.2.2.2.2.1 p.1.2.2.2.2.2.1 p.1.2.2.2.2.2.2.1 p.1.2.2.2.2.2.2.2.1 p.1.2.2.2.2.2.2.2.2.1 p.1.2.2.2.2.2.2.2.2.2.1 p.1.2.2.2.2.2.2.2.2.2.2.1 p.2.1.1 p.2.1.2.1 p.2.1.2.2.1 p.2.1.2.2.2.1 p.2.1.2.2.2.2.1⟩ (fun p=>by kernel_rfl)
noncomputable def Xy(N:Nat){top:Bool}:LpQ Agt top:=mkL (Z:=Int×Int×Int×Int×Int×Int×Ll×Int×Int×Li×Int×Int×Li×Int×Ll×Ll×Li) (Xf N) [] [.c [1,1,0,1,0,0,1,1,0,0,1,1,0,0,1,1,0,0,1,1,1,0,1,0,0,0],.c [1,1,0,1,0,0,1,1,0,0,1,1,0,0,1,1,0,0,1,1,1,0,1,0,0,1],.l [1,1,0,1,0,0,1,1,0,0,1,1,0,0,1,1,0,0,1,1,1,0,1,0,0],.b 4,.c [1,1,0,1,0,0,1,1,0,0,1,1,0,0,1,1,0,0,1,1,1,1],.b 3,.c [1,1,0,1,0,0,1,1,0,0,1,1,0,0,1,1,1],.l [1,1,0,1,0,0,1,1,0,0,1,1,0,0],.b 2,.b 1,.c [1,1,0,1,0,0,1,1,1],.l [1,1,0,1,0,0],.b 0,.c [1,1,1]] ⟨[1,2,3,4,7,9,11,21,22,23,28,29,30,37],⟨[.own 0 0,shI,shI,shI,shI,shI,shI,shQ,shI,shI,shL,shI,shI,shI],[.segs [shL,shI,shQ,shQ,shL]]⟩⟩ (fun m p=>ask_l3 N m p.1.2.1 p.1.2.2.1 p.1.2.2.2.1 p.1.2.2.2.2.1 p.1.2.2.2.2.2.1 p.1.2.2.2.2.2.2.1 p.1.2.2.2.2.2.2.2.1 p.1.2.2.2.2.2.2.2.2.1 p.1.2.2.2.2.2.2.2.2.2.1 p.1.2.2.2.2.2.2.2.2.2.2.1 p.1.2.2.2.2.2.2.2.2.2.2.2.1 p.1.2.2.2.2.2.2.2.2.2.2.2.2.1 p.1.2.2.2.2.2.2.2.2.2.2.2.2.2.1 p.2.1.1 p.2.1.2.1 p.2.1.2.2.1 p.2.1.2.2.2.1 p.2.1.2.2.2.2.1) [⟨[.c [1,1,0,1,0,0,1,1,0,0,1,1,0,0,1,1,0,0,1,1,1,1,0],.c [1,1,0,1,0,0,1,1,0,0,1,1,0,0,1,1,0,0,1,1,1,1,1],.b 3,.c [1,1,0,1,0,0,1,1,0,0,1,1,0,0,1,1,1],.l [1,1,0,1,0,0,1,1,0,0,1,1,0,0],.b 2,.b 1,.c [1,1,0,1,0,0,1,1,1],.l [1,1,0,1,0,0],.b 0,.c [1,1,1]],⟨[1,2,3,4,7,9,11,21,22,23,28,29,30],⟨[.own 0 0,shI,shI,shI,shI,shI,shI,shQ,shI,shI,shL,shI,shI],[.segs [shL,shI,shQ,shQ,shL]]⟩⟩,fun p=>some ((p.1.2.1,p.1.2.2.1,p.1.2.2.2.1,p.1.2.2.2.2.1,p.1.2.2.2.2.2.1,p.1.2.2.2.2.2.2.1,p.1.2.2.2.2.2.2.2.1,p.1.2.2.2.2.2.2.2.2.1,p.1.2.2.2.2.2.2.2.2.2.1,p.1.2.2.2.2.2.2.2.2.2.2.1,p.1.2.2.2.2.2.2.2.2.2.2.2.1,p.1.2.2.2.2.2.2.2.2.2.2.2.2.1,p.2.1.1,p.2.1.2.1,p.2.1.2.2.1,p.2.1.2.2.2.1,p.2.1.2.2.2.2.1))⟩] (fun _=>[]) (fun k e=>k (.inl (((),e.1,e.2.1,e.2.2.1,e.2.2.2.1,e.2.2.2.2.1,e.2.2.2.2.2.1,e.2.2.2.2.2.2.1,e.2.2.2.2.2.2.2.1,e.2.2.2.2.2.2.2.2.1,e.2.2.2.2.2.2.2.2.2.1,e.2.2.2.2.2.2.2.2.2.2.1,e.2.2.2.2.2.2.2.2.2.2.2.1,()),((e.2.2.2.2.2.2.2.2.2.2.2.2.1,e.2.2.2.2.2.2.2.2.2.2.2.2.2.1,e.2.2.2.2.2.2.2.2.2.2.2.2.2.2.1,e.2.2.2.2.2.2.2.2.2.2.2.2.2.2.2.1,e.2.2.2.2.2.2.2.2.2.2.2.2.2.2.2.2,()),())))) N (fun m p=>by kernel_rfl)
noncomputable def A7o(N:Nat){top:Bool}:LpQ Agt top:=mkL (Z:=Int×Int×Int×Ll×Int×Int×Li×Int×Ll×Ll×Li) (Xf N) [Xy N] A2d A1q (fun m p=>ask_l2 N m p.1.2.1 p.1.2.2.1 p.1.2.2.2.1 p.1.2.2.2.2.1 p.1.2.2.2.2.2.1 p.1.2.2.2.2.2.2.1 p.1.2.2.2.2.2.2.2.1 p.1.2.2.2.2.2.2.2.2.1 p.1.2.2.2.2.2.2.2.2.2.1 p.1.2.2.2.2.2.2.2.2.2.2.1 p.2.1.1 p.2.1.2.1 p.2.1.2.2.1 p.2.1.2.2.2.1 p.2.1.2.2.2.2.1) [A2z] (fun m=>[Amv N (ask_l2 N m)]) (fun k e=>k (.inl (((),e.1,e.2.1,e.2.2.1,e.2.2.2.1,e.2.2.2.2.1,e.2.2.2.2.2.1,()),((e.2.2.2.2.2.2.1,e.2.2.2.2.2.2.2.1,e.2.2.2.2.2.2.2.2.1,e.2.2.2.2.2.2.2.2.2.1,e.2.2.2.2.2.2.2.2.2.2,()),())))) N (fun m p=>by kernel_rfl)
noncomputable def Ajt(N:Nat){top:Bool}:LpQ Agt top:=mkL (Z:=Int×Int×Int) (Xf N) [Xy N,A7o N] [.c [1,1,0,1,0,0,0],.c [1,1,0,1,0,0,1],.l [1,1,0,1,0,0],.b 0,.c [1,1,1]] ⟨[1,2,3,4,21,22,23],⟨[.own 0 0,shI,shI,shI,shQ,shI,shI],[.segs [shL,shI,shQ,shQ,shL]]⟩⟩ (fun m p=>ask_l1 N m p.1.2.1 p.1.2.2.1 p.1.2.2.2.1 p.1.2.2.2.2.1 p.1.2.2.2.2.2.1 p.1.2.2.2.2.2.2.1 p.2.1.1 p.2.1.2.1 p.2.1.2.2.1 p.2.1.2.2.2.1 p.2.1.2.2.2.2.1) [⟨[.c [1,1,1,0,0],.c [1,1,1,0,1],.c [1,1,1,1]],⟨[2,3,4],⟨[shI,shI,shI],[]⟩⟩,fun p=>some ((p.1.1,p.1.2.1,p.1.2.2.1))⟩] (fun _=>[]) (fun k e=>k (.inl ((e.1,e.2.1,e.2.2,()),()))) N (fun m p=>by kernel_rfl)
noncomputable def Ara(N:Nat):Spec:=mkS 17 ⟨[shG],[]⟩ Apu (fun p=>A9d N p.1.1.1 p.1.1.2.1 p.1.1.2.2.1 p.1.1.2.2.2.1 p.1.1.2.2.2.2.1) (fun k r=>k ((r.1,r.2.1,r.2.2.1,r.2.2.2,()),()))
theorem A1s(N:Nat):A0 Tryz.prog (Ara N):=mkF (R:=Int×Int×Int×Int) (m0:=0) (Xf N) [Xy N,A7o N,Ajt N] (fun r=>some (r.1.1,r.1.2.1,r.1.2.2.1,r.1.2.2.2.1)) [] Tryz.func17 (fun p=>by kernel_rfl) (by kernel_rfl) (fun _=>by kernel_rfl)

def equali_l1(N:Nat):Nat→Li→Li→Int→Int→Option ((Unit)⊕(Unit))
 | 0,_,_,_,_=>none
 | n_+1,s1,s2,u,u2=>
  br (decide (u2<u))
   (idx s1 u2 fun x_1=>
   idx s2 u2 fun x_2=>
   br (!decide (x_1=x_2))
    (some (.inl ()))
    (chk (u2+1)<|
    equali_l1 N n_ s1 s2 u (u2+1)))
   (some (.inr ()))
def Ix(N:Nat)(s1 s2:Li):Option Bool:=
 br (!decide ((s1.length:Int)=(s2.length:Int)))
  (some false)
  ((equali_l1 N N s1 s2 (s1.length:Int) 0).bind fun e=>match e with
  | .inl _=>
   some false
  | .inr _=>
   some true)
noncomputable def A2v(N:Nat):Oks:=[]
abbrev Aal:List StSh:=[⟨[.b],[]⟩]
noncomputable abbrev Anl:Body:=mkB Tryz.f75 Aal 0
noncomputable def A6s(N:Nat){top:Bool}:LpQ Anl top:=mkL (Z:=(Unit)⊕(Unit)) (A2v N) [] [.c [1,1,0,1,0,0,0],.c [1,1,0,1,0,0,1],.l [1,1,0,1,0,0],.b 0,.c [1,1,1]] ⟨[0,1,12,13],⟨[shL,shL,shI,shI],[]⟩⟩ (fun m p=>equali_l1 N m p.1.1 p.1.2.1 p.1.2.2.1 p.1.2.2.2.1) [⟨[.c [1,1,0,1,0,0,1,1,0,0,1,1,0,0],.c [1,1,0,1,0,0,1,1,0,0,1,1,0,1],.b 1,.c [1,1,0,1,0,0,1,1,1],.l [1,1,0,1,0,0],.b 0,.c [1,1,1]],⟨[],⟨[],[]⟩⟩,fun p=>some (.inl ())⟩,⟨[.c [1,1,1,0],.c [1,1,1,1]],⟨[],⟨[],[]⟩⟩,fun p=>some (.inr ())⟩] (fun _=>[]) (fun k e=>match e with | .inl x=>k (.inl ((),())) | .inr x=>k (.inr (.inl ((),())))) N (fun m p=>by kernel_rfl) (hg:=(by rintro _ _ (_ | _)<;>rfl))
noncomputable def Ahn(N:Nat):Spec:=mkS 75 ⟨[shL,shL],[]⟩ Aal (fun p=>Ix N p.1.1 p.1.2.1) (fun k r=>k ((r,()),()))
theorem R2(N:Nat):A0 Tryz.prog (Ahn N):=mkF (R:=Bool) (m0:=0) (A2v N) [A6s N] (fun r=>some r.1.1) [] Tryz.func75 (fun p=>by kernel_rfl) (by kernel_rfl) (fun _=>by kernel_rfl)

def Bl(N:Nat)(a b:Li):Option Bool:=
 (Ix N a b).bind fun x_1=>
 some x_1
noncomputable def Aka(N:Nat):Spec:=mkS 25 ⟨[shL,shL],[]⟩ [⟨[.b],[]⟩] (fun p=>Bl N p.1.1 p.1.2.1) (fun k r=>k ((r,()),()))
theorem Em(N:Nat):A0 Tryz.prog (Aka N):=mkF (R:=Bool) (m0:=0) [⟨_,R2 N⟩] [] (fun r=>some r.1.1) [] Tryz.func25 (fun p=>by kernel_rfl) (by kernel_rfl) (fun _=>by kernel_rfl)

def Xd(N:Nat)(slips:Int):Option (Li×Int×Ll×Ll×Li):=
 some ([5,3,2],slips,[[1,1,1],[1,2,-1]],[[1,-1,-1],[1,1,-1]],[10,40])
noncomputable def Aqz(N:Nat):Spec:=mkS 4 ⟨[shI],[]⟩ [⟨[shG],[]⟩] (fun p=>Xd N p.1.1) (fun k r=>k (((r.1,r.2.1,r.2.2.1,r.2.2.2.1,r.2.2.2.2,()),()),()))
theorem Aiz(N:Nat):A0 Tryz.prog (Aqz N):=mkF (R:=Li×Int×Ll×Ll×Li) (m0:=0) [] [] (fun r=>some (r.1.1.1,r.1.1.2.1,r.1.1.2.2.1,r.1.1.2.2.2.1,r.1.1.2.2.2.2.1)) [] Tryz.func4 (fun p=>by kernel_rfl) (by kernel_rfl) (fun _=>by kernel_rfl)

def Ao(N:Nat)  : Option Bool:=
 (Xd N 0).bind fun(x_1,y_2,y_3,y_4,y_5)=>
 (X6 N x_1 y_2 y_3 y_4 y_5).bind fun(x_6,y_7,y_8)=>
 (Xd N 0).bind fun(x_9,y_10,y_11,y_12,y_13)=>
 (shows_S N x_9 y_10 y_11 y_12 y_13 [3,0] [5,5]).bind fun(x_14,y_15)=>
 (Xd N 0).bind fun(x_16,y_17,y_18,y_19,y_20)=>
 (count_S N x_16 y_17 y_18 y_19 y_20).bind fun(x_21,y_22)=>
 (Xd N 0).bind fun(x_23,y_24,y_25,y_26,y_27)=>
 (Lq N x_23 y_24 y_25 y_26 y_27 [0,-1]).bind fun(x_28,y_29)=>
 br (!decide (y_8=0))
  (some false)
  (br (!decide (y_15=0))
   (some false)
   (br (!decide (y_22=0))
    (some false)
    (br (!decide (y_29=0))
     (some false)
     ((Bl N x_6 [1,0]).bind fun x_30=>
     br (!x_30)
      (some false)
      (br (!decide (y_7=13))
       (some false)
       (br (!decide (x_14=13))
        (some false)
        (br (!decide (x_21=1))
         (some false)
         ((Bl N x_28 [1,-1]).bind fun x_31=>
         br (!x_31)
          (some false)
          ((Xd N 0).bind fun(x_32,y_33,y_34,y_35,y_36)=>
          (A9d N x_32 y_33 y_34 y_35 y_36).bind fun(x_37,y_38,y_39,y_40)=>
          (Xd N 1).bind fun(x_41,y_42,y_43,y_44,y_45)=>
          (Kr N x_41 y_42 y_43 y_44 y_45 1 1).bind fun(x_46,y_47,y_48,y_49)=>
          br (decide (y_40=0))
           (br (decide (y_49=0))
            (br (decide (x_37=0))
             (br (decide (y_38=2))
              (br (decide (y_39=1))
               (br (decide (x_46=5))
                (br (decide (y_47=1))
                 (some y_48)
                 (some false))
                (some false))
               (some false))
              (some false))
             (some false))
            (some false))
           (some false))))))))))
noncomputable def A9f(N:Nat):Spec:=mkS 11 ⟨[],[]⟩ [⟨[.b],[]⟩] (fun p=>Ao N) (fun k r=>k ((r,()),()))
theorem Cc(N:Nat):A0 Tryz.prog (A9f N):=mkF (R:=Bool) (m0:=0) [⟨_,Pg N⟩,⟨_,Tw N⟩,⟨_,Zh N⟩,⟨_,V9 N⟩,⟨_,P8 N⟩,⟨_,A1s N⟩,⟨_,Em N⟩,⟨_,Aiz N⟩] [] (fun r=>some r.1.1) [] Tryz.func11 (fun p=>by kernel_rfl) (by kernel_rfl) (fun _=>by kernel_rfl)

end Go.Proofs.YthncjilcflilcaaGreat

/-
  Parts of a proof, put together: PF1, PTG, PFIt, PFCl, PG2e, PG3, PGr, PGs.
  Conditions: none.
-/
import Derived.Test.YtgeijboidfadaaaZd
import Derived.Test.YtgeijboidfadaaaZe
namespace Go.Proofs.Ytgeijboidfadaaa.Fd
set_option linter.all false
open Go
abbrev Dk:=List Int×Int×List Qd×List Qd×List Int×List Int×List Int×Unit
abbrev shD:Sh:=.fz [.sl (.int .i64),.i .i64,.sl Qg,.sl Qg,.sl (.int .i64),.arr (.int .i64) 36,.arr (.int .i64) 36]
def Ap(N:Nat)(n:Int)(lo:Int)(hi:Int):Option Bool:=
 br (decide (lo≤n))
  (some (decide (n≤hi)))
  (some false)
noncomputable def Hv(N:Nat):List Spec:=[]
theorem Mh(N:Nat):AllP (A0 Try.prog) (Hv N):=trivial
noncomputable def A44:Code:=(Try.f69.body).getD .skip
noncomputable abbrev I9:Body:={ c:=A44,n:=15,res:=[.tmp 6],outs:=[⟨[.b],[]⟩],m0:=0 }
abbrev I6:altD I9.outs→Option Bool:=fun r=>some r.1.1
abbrev Iq:Sta:=⟨[0,1,2],⟨[.i .i64,.i .i64,.i .i64],[]⟩⟩
theorem Ts(N:Nat)(n:Int)(lo:Int)(hi:Int):ev (Z:=Bool) Try.prog (Hv N) I9 [] [] (some I6) 400 false [.c [0],.c [1]] (stL Iq ((n,lo,hi,()),())) (stH Iq ((n,lo,hi,()),()))=Ap N n lo hi:=by kernel_rfl
noncomputable def Bb(N:Nat):Spec:={ f:=69,ins:=⟨[.i .i64,.i .i64,.i .i64],[]⟩,outs:=[⟨[.b],[]⟩],run:=fun p k=>(Ap N p.1.1 p.1.2.1 p.1.2.2.1).bind fun r=>k ((r,()),()) }
theorem Am(N:Nat):A0 Try.prog (Bb N):=A1 (B:=I9) (loops:=[]) (leaves:=[]) (fun p=>Ap N p.1.1 p.1.2.1 p.1.2.2.1) (fun r=>((r,()),())) I6 (fun _ _ _=>rfl) (fun r z h=>by cases h;rfl) Try.func69 (by kernel_rfl) (by kernel_rfl) (by kernel_rfl) rfl rfl (by kernel_rfl) (fun args w=>Sem.pv_run _ _ _ (by kernel_rfl) w) (Mh N) mixed trivial (fun z E Xc hE hX hret=>trivial) (fun p=>Ts N p.1.1 p.1.2.1 p.1.2.2.1)

def sum_l1(N:Nat):Nat→Int→Qd→Int→Int→Option Int
 | 0,_,_,_,_=>none
 | n_+1,n,u,u2,u3=>
  br (decide (u3<u2))
   (idx u u3 fun x_1=>
   chk (n+x_1)<|
   chk (u3+1)<|
   sum_l1 N n_ (n+x_1) u u2 (u3+1))
   (some (n))
def Oe(N:Nat)(l:List Int):Option Int:=
 (sum_l1 N N 0 l (l.length:Int) 0).bind fun n_2=>
 some n_2
noncomputable def Tq(N:Nat):List Spec:=[]
theorem Vw(N:Nat):AllP (A0 Try.prog) (Tq N):=trivial
noncomputable def Azu:Code:=(Try.f87.body).getD .skip
noncomputable abbrev Gt:Body:={ c:=Azu,n:=17,res:=[.tmp 2],outs:=[⟨[.i .i64],[]⟩],m0:=0 }
abbrev A69:altD Gt.outs→Option Int:=fun r=>some r.1.1
abbrev Fh:List PI:=[.c [1,1,0,1,0,0,0],.c [1,1,0,1,0,0,1],.l [1,1,0,1,0,0],.b 0,.c [1,1,1]]
abbrev Dc:Sta:=⟨[3,6,7,8],⟨[.i .i64,.sl (.int .i64),.i .i64,.i .i64],[]⟩⟩
abbrev Pt(rec:Int→Qd→Int→Int→Option Int):Leaf Int:=⟨Fh,Dc,fun p=>rec p.1.1 p.1.2.1 p.1.2.2.1 p.1.2.2.2.1⟩
abbrev L7:Leaf Int:=⟨[.c [1,1,1,0],.c [1,1,1,1]],⟨[3],⟨[.i .i64],[]⟩⟩,fun p=>some (p.1.1)⟩
noncomputable def I4(N:Nat):Ai:={ at_:=Fh,sta:=Dc,exits:=[([.c [1,1,1,0],.c [1,1,1,1]],⟨[3],⟨[.i .i64],[]⟩⟩)],run:=fun p k=>(sum_l1 N N p.1.1 p.1.2.1 p.1.2.2.1 p.1.2.2.2.1).bind fun e=>k (.inl ((e,()),())) }
theorem Xu(N n_:Nat)(n:Int)(u:List Int)(u2:Int)(u3:Int):ev (Z:=Int) Try.prog (Tq N) Gt [] [Pt (sum_l1 N n_),L7] none 400 true Fh (stL Dc ((n,u,u2,u3,()),())) (stH Dc ((n,u,u2,u3,()),()))=sum_l1 N (n_+1) n u u2 u3:=by kernel_rfl
theorem Xv(N:Nat){top:Bool}:Ab Try.prog Gt.c Gt.n Gt.m0 top (I4 N):=A3 (Z:=Int) (N:=N) (fun m p=>sum_l1 N m p.1.1 p.1.2.1 p.1.2.2.1 p.1.2.2.2.1) (fun e=>.inl ((e,()),())) (fun _ _ _=>rfl) (fun _=>rfl) (fun m z E Xc hE hX hrec hx=>A2 (B:=Gt) (loops:=[]) (leaves:=[Pt (sum_l1 N m),L7]) (Vw N) mixed trivial hE hX ⟨hrec,(fun p hp=>by obtain rfl:=Option.some.inj hp;exact hx),trivial⟩ Aa.no (fun p=>Xu N m p.1.1 p.1.2.1 p.1.2.2.1 p.1.2.2.2.1))
abbrev A3z:Sta:=⟨[0],⟨[.sl (.int .i64)],[]⟩⟩
theorem Anl(N:Nat)(l:List Int):ev (Z:=Int) Try.prog (Tq N) Gt [I4 N] [] (some A69) 400 false [.c [0],.c [1]] (stL A3z ((l,()),())) (stH A3z ((l,()),()))=Oe N l:=by kernel_rfl
noncomputable def A33(N:Nat):Spec:={ f:=87,ins:=⟨[.sl (.int .i64)],[]⟩,outs:=[⟨[.i .i64],[]⟩],run:=fun p k=>(Oe N p.1.1).bind fun r=>k ((r,()),()) }
theorem Yd(N:Nat):A0 Try.prog (A33 N):=A1 (B:=Gt) (loops:=[I4 N]) (leaves:=[]) (fun p=>Oe N p.1.1) (fun r=>((r,()),())) A69 (fun _ _ _=>rfl) (fun r z h=>by cases h;rfl) Try.func87 (by kernel_rfl) (by kernel_rfl) (by kernel_rfl) rfl rfl (by kernel_rfl) (fun args w=>Sem.pv_run _ _ _ (by kernel_rfl) w) (Vw N) mixed ⟨Xv N,trivial⟩ (fun z E Xc hE hX hret=>trivial) (fun p=>Anl N p.1.1)

def Ao(N:Nat)(l:List Int)(u:Qo):Option Bool:=
 some (decide ((l.length:Int)=(u.1.length:Int)))
noncomputable def Bu(N:Nat):List Spec:=[]
theorem E7(N:Nat):AllP (A0 Try.prog) (Bu N):=trivial
noncomputable def J8:Code:=(Try.f99.body).getD .skip
noncomputable abbrev Bk:Body:={ c:=J8,n:=10,res:=[.tmp 3],outs:=[⟨[.b],[]⟩],m0:=0 }
abbrev C2:altD Bk.outs→Option Bool:=fun r=>some r.1.1
abbrev Bx:Sta:=⟨[0,1],⟨[.sl (.int .i64),.fe Qr],[]⟩⟩
theorem Fm(N:Nat)(l:List Int)(u:Qo):ev (Z:=Bool) Try.prog (Bu N) Bk [] [] (some C2) 400 false [.c [0],.c [1]] (stL Bx ((l,u,()),())) (stH Bx ((l,u,()),()))=Ao N l u:=by kernel_rfl
noncomputable def Bo(N:Nat):Spec:={ f:=99,ins:=⟨[.sl (.int .i64),.fe Qr],[]⟩,outs:=[⟨[.b],[]⟩],run:=fun p k=>(Ao N p.1.1 p.1.2.1).bind fun r=>k ((r,()),()) }
theorem Bp(N:Nat):A0 Try.prog (Bo N):=A1 (B:=Bk) (loops:=[]) (leaves:=[]) (fun p=>Ao N p.1.1 p.1.2.1) (fun r=>((r,()),())) C2 (fun _ _ _=>rfl) (fun r z h=>by cases h;rfl) Try.func99 (by kernel_rfl) (by kernel_rfl) (by kernel_rfl) rfl rfl (by kernel_rfl) (fun args w=>Sem.pv_run _ _ _ (by kernel_rfl) w) (E7 N) mixed trivial (fun z E Xc hE hX hret=>trivial) (fun p=>Fm N p.1.1 p.1.2.1)

def Hm(N:Nat)(n:Int):Option Bool:=
 (Ap N n (-1) 5).bind fun x_1=>
 some x_1
noncomputable def A5t(N:Nat):List Spec:=[Bb N]
theorem Ajj(N:Nat):AllP (A0 Try.prog) (A5t N):=⟨Am N,trivial⟩
noncomputable def Axu:Code:=(Try.f102.body).getD .skip
noncomputable abbrev Yp:Body:={ c:=Axu,n:=5,res:=[.tmp 2],outs:=[⟨[.b],[]⟩],m0:=0 }
abbrev A4v:altD Yp.outs→Option Bool:=fun r=>some r.1.1
abbrev A4f:Sta:=⟨[0],⟨[.i .i64],[]⟩⟩
theorem Arb(N:Nat)(n:Int):ev (Z:=Bool) Try.prog (A5t N) Yp [] [] (some A4v) 400 false [.c [0],.c [1]] (stL A4f ((n,()),())) (stH A4f ((n,()),()))=Hm N n:=by kernel_rfl
noncomputable def A4y(N:Nat):Spec:={ f:=102,ins:=⟨[.i .i64],[]⟩,outs:=[⟨[.b],[]⟩],run:=fun p k=>(Hm N p.1.1).bind fun r=>k ((r,()),()) }
theorem A9h(N:Nat):A0 Try.prog (A4y N):=A1 (B:=Yp) (loops:=[]) (leaves:=[]) (fun p=>Hm N p.1.1) (fun r=>((r,()),())) A4v (fun _ _ _=>rfl) (fun r z h=>by cases h;rfl) Try.func102 (by kernel_rfl) (by kernel_rfl) (by kernel_rfl) rfl rfl (by kernel_rfl) (fun args w=>Sem.pv_run _ _ _ (by kernel_rfl) w) (Ajj N) mixed trivial (fun z E Xc hE hX hret=>trivial) (fun p=>Arb N p.1.1)

def Le(N:Nat)(x:Int):Option Bool:=
 (Hm N x).bind fun x_1=>
 some (!x_1)
noncomputable def A5q(N:Nat):List Spec:=[A4y N]
theorem Am5(N:Nat):AllP (A0 Try.prog) (A5q N):=⟨A9h N,trivial⟩
noncomputable def Ax6:Code:=(Try.f130.body).getD .skip
noncomputable abbrev Zc:Body:={ c:=Ax6,n:=8,res:=[.tmp 3],outs:=[⟨[.b],[.segs [.fn 102 [] []]]⟩],m0:=1 }
abbrev A7g:altD Zc.outs→Option Bool:=fun r=>some r.1.1
abbrev A8j:Sta:=⟨[0,1],⟨[.i .i64,.own 0 0],[.segs [.fn 102 [] []]]⟩⟩
theorem Ar6(N:Nat)(x:Int):ev (Z:=Bool) Try.prog (A5q N) Zc [] [] (some A7g) 400 false [.c [0],.c [1]] (stL A8j ((x,(),()),((((),()),()),()))) (stH A8j ((x,(),()),((((),()),()),())))=Le N x:=by kernel_rfl
noncomputable def A30(N:Nat):Spec:={ f:=130,ins:=⟨[.i .i64,.own 0 0],[.segs [.fn 102 [] []]]⟩,outs:=[⟨[.b],[.segs [.fn 102 [] []]]⟩],run:=fun p k=>(Le N p.1.1).bind fun r=>k ((r,()),((((),()),()),())) }
theorem A96(N:Nat):A0 Try.prog (A30 N):=A1 (B:=Zc) (loops:=[]) (leaves:=[]) (fun p=>Le N p.1.1) (fun r=>((r,()),((((),()),()),()))) A7g (fun _ _ _=>rfl) (fun r z h=>by cases h;rfl) Try.func130 (by kernel_rfl) (by kernel_rfl) (by kernel_rfl) rfl rfl (by kernel_rfl) (fun args w=>Sem.pv_run _ _ _ (by kernel_rfl) w) (Am5 N) mixed trivial (fun z E Xc hE hX hret=>trivial) (fun p=>Ar6 N p.1.1)

def ixfv_l1(N:Nat):Nat→Qd→Int→Int→Option ((Int)⊕(Unit))
 | 0,_,_,_=>none
 | n_+1,s,u,u2=>
  br (decide (u2<u))
   (idx s u2 fun x_1=>
   (Le N x_1).bind fun x_2=>
   br x_2
    (some (.inl u2))
    (chk (u2+1)<|
    ixfv_l1 N n_ s u (u2+1)))
   (some (.inr ()))
def A8q(N:Nat)(s:List Int):Option Int:=
 (ixfv_l1 N N s (s.length:Int) 0).bind fun e=>match e with
 | .inl i_3=>
  some i_3
 | .inr _=>
  some (-1)
noncomputable def Ae6(N:Nat):List Spec:=[A30 N]
theorem Alv(N:Nat):AllP (A0 Try.prog) (Ae6 N):=⟨A96 N,trivial⟩
noncomputable def B73:Code:=(Try.f80.body).getD .skip
noncomputable abbrev Ol:Body:={ c:=B73,n:=19,res:=[.tmp 4],outs:=[⟨[.i .i64],[.segs [.fn 102 [] []]]⟩],m0:=1 }
abbrev Aty:altD Ol.outs→Option Int:=fun r=>some r.1.1
abbrev U1:List PI:=[.c [1,0,1,0,0,0],.c [1,0,1,0,0,1],.l [1,0,1,0,0],.b 0,.c [1,1]]
abbrev N4:Sta:=⟨[0,1,7,8],⟨[.sl (.int .i64),.fn 130 [] [.own 0 0],.i .i64,.i .i64],[.segs [.fn 102 [] []]]⟩⟩
abbrev Aaj(rec:Qd→Int→Int→Option ((Int)⊕(Unit))):Leaf ((Int)⊕(Unit)):=⟨U1,N4,fun p=>rec p.1.1 p.1.2.2.1 p.1.2.2.2.1⟩
abbrev A63:Leaf ((Int)⊕(Unit)):=⟨[.c [1,0,1,0,0,1,1,0,0,1,1,0,0],.c [1,0,1,0,0,1,1,0,0,1,1,0,1],.b 1,.c [1,0,1,0,0,1,1,1],.l [1,0,1,0,0],.b 0,.c [1,1]],⟨[5],⟨[.i .i64],[.segs [.fn 102 [] []]]⟩⟩,fun p=>some (.inl p.1.1)⟩
abbrev A3p:Leaf ((Int)⊕(Unit)):=⟨[.c [1,1,0],.c [1,1,1]],⟨[],⟨[],[.segs [.fn 102 [] []]]⟩⟩,fun p=>some (.inr ())⟩
noncomputable def Ya(N:Nat):Ai:={ at_:=U1,sta:=N4,exits:=[([.c [1,0,1,0,0,1,1,0,0,1,1,0,0],.c [1,0,1,0,0,1,1,0,0,1,1,0,1],.b 1,.c [1,0,1,0,0,1,1,1],.l [1,0,1,0,0],.b 0,.c [1,1]],⟨[5],⟨[.i .i64],[.segs [.fn 102 [] []]]⟩⟩),([.c [1,1,0],.c [1,1,1]],⟨[],⟨[],[.segs [.fn 102 [] []]]⟩⟩)],run:=fun p k=>(ixfv_l1 N N p.1.1 p.1.2.2.1 p.1.2.2.2.1).bind fun e=>match e with | .inl x=>k (.inl ((x,()),((((),()),()),()))) | .inr x=>k (.inr (.inl ((),((((),()),()),())))) }
theorem Aq9(N n_:Nat)(s:List Int)(u:Int)(u2:Int):ev (Z:=(Int)⊕(Unit)) Try.prog (Ae6 N) Ol [] [Aaj (ixfv_l1 N n_),A63,A3p] none 400 true U1 (stL N4 ((s,((),((),())),u,u2,()),((((),()),()),()))) (stH N4 ((s,((),((),())),u,u2,()),((((),()),()),())))=ixfv_l1 N (n_+1) s u u2:=by kernel_rfl
theorem Aod(N:Nat){top:Bool}:Ab Try.prog Ol.c Ol.n Ol.m0 top (Ya N):=A3 (Z:=(Int)⊕(Unit)) (N:=N) (fun m p=>ixfv_l1 N m p.1.1 p.1.2.2.1 p.1.2.2.2.1) (fun e=>match e with | .inl x=>.inl ((x,()),((((),()),()),())) | .inr x=>.inr (.inl ((),((((),()),()),())))) (fun _ p k=>A9 (ixfv_l1 N N p.1.1 p.1.2.2.1 p.1.2.2.2.1) _ _ (fun e=>by rcases e with x | x<;>rfl)) (fun _=>rfl) (fun m z E Xc hE hX hrec hx=>A2 (B:=Ol) (loops:=[]) (leaves:=[Aaj (ixfv_l1 N m),A63,A3p]) (Alv N) mixed trivial hE hX ⟨hrec,(fun p hp=>by obtain rfl:=Option.some.inj hp;exact hx),(fun p hp=>by obtain rfl:=Option.some.inj hp;exact hx),trivial⟩ Aa.no (fun p=>Aq9 N m p.1.1 p.1.2.2.1 p.1.2.2.2.1))
abbrev Au2:Sta:=⟨[0,1],⟨[.sl (.int .i64),.fn 130 [] [.own 0 0]],[.segs [.fn 102 [] []]]⟩⟩
theorem B3o(N:Nat)(s:List Int):ev (Z:=Int) Try.prog (Ae6 N) Ol [Ya N] [] (some Aty) 400 false [.c [0],.c [1]] (stL Au2 ((s,((),((),())),()),((((),()),()),()))) (stH Au2 ((s,((),((),())),()),((((),()),()),())))=A8q N s:=by kernel_rfl
noncomputable def Asu(N:Nat):Spec:={ f:=80,ins:=⟨[.sl (.int .i64),.fn 130 [] [.own 0 0]],[.segs [.fn 102 [] []]]⟩,outs:=[⟨[.i .i64],[.segs [.fn 102 [] []]]⟩],run:=fun p k=>(A8q N p.1.1).bind fun r=>k ((r,()),((((),()),()),())) }
theorem Aqi(N:Nat):A0 Try.prog (Asu N):=A1 (B:=Ol) (loops:=[Ya N]) (leaves:=[]) (fun p=>A8q N p.1.1) (fun r=>((r,()),((((),()),()),()))) Aty (fun _ _ _=>rfl) (fun r z h=>by cases h;rfl) Try.func80 (by kernel_rfl) (by kernel_rfl) (by kernel_rfl) rfl rfl (by kernel_rfl) (fun args w=>Sem.pv_run _ _ _ (by kernel_rfl) w) (Alv N) mixed ⟨Aod N,trivial⟩ (fun z E Xc hE hX hret=>trivial) (fun p=>B3o N p.1.1)

def A5x(N:Nat)(s:List Int):Option Bool:=
 (A8q N s).bind fun x_1=>
 some (decide (0≤x_1))
noncomputable def Avo(N:Nat):List Spec:=[Asu N]
theorem Ayq(N:Nat):AllP (A0 Try.prog) (Avo N):=⟨Aqi N,trivial⟩
noncomputable def B7c:Code:=(Try.f93.body).getD .skip
noncomputable abbrev Apr:Body:={ c:=B7c,n:=9,res:=[.tmp 4],outs:=[⟨[.b],[.segs [.fn 102 [] []]]⟩],m0:=1 }
abbrev Avg:altD Apr.outs→Option Bool:=fun r=>some r.1.1
abbrev Avd:Sta:=⟨[0,1],⟨[.sl (.int .i64),.fn 130 [] [.own 0 0]],[.segs [.fn 102 [] []]]⟩⟩
theorem B2v(N:Nat)(s:List Int):ev (Z:=Bool) Try.prog (Avo N) Apr [] [] (some Avg) 400 false [.c [0],.c [1]] (stL Avd ((s,((),((),())),()),((((),()),()),()))) (stH Avd ((s,((),((),())),()),((((),()),()),())))=A5x N s:=by kernel_rfl
noncomputable def Avn(N:Nat):Spec:={ f:=93,ins:=⟨[.sl (.int .i64),.fn 130 [] [.own 0 0]],[.segs [.fn 102 [] []]]⟩,outs:=[⟨[.b],[.segs [.fn 102 [] []]]⟩],run:=fun p k=>(A5x N p.1.1).bind fun r=>k ((r,()),((((),()),()),())) }
theorem Ary(N:Nat):A0 Try.prog (Avn N):=A1 (B:=Apr) (loops:=[]) (leaves:=[]) (fun p=>A5x N p.1.1) (fun r=>((r,()),((((),()),()),()))) Avg (fun _ _ _=>rfl) (fun r z h=>by cases h;rfl) Try.func93 (by kernel_rfl) (by kernel_rfl) (by kernel_rfl) rfl rfl (by kernel_rfl) (fun args w=>Sem.pv_run _ _ _ (by kernel_rfl) w) (Ayq N) mixed trivial (fun z E Xc hE hX hret=>trivial) (fun p=>B2v N p.1.1)

def Lc(N:Nat)(l:List Int):Option Bool:=
 (A5x N l).bind fun x_1=>
 some (!x_1)
noncomputable def Aal(N:Nat):List Spec:=[Avn N]
theorem Arw(N:Nat):AllP (A0 Try.prog) (Aal N):=⟨Ary N,trivial⟩
noncomputable def Az4:Code:=(Try.f101.body).getD .skip
noncomputable abbrev A4t:Body:={ c:=Az4,n:=9,res:=[.tmp 4],outs:=[⟨[.b],[]⟩],m0:=0 }
abbrev Aab:altD A4t.outs→Option Bool:=fun r=>some r.1.1
abbrev Adr:Sta:=⟨[0,1],⟨[.sl (.int .i64),.fn 102 [] []],[]⟩⟩
theorem Axm(N:Nat)(l:List Int):ev (Z:=Bool) Try.prog (Aal N) A4t [] [] (some Aab) 400 false [.c [0],.c [1]] (stL Adr ((l,((),()),()),())) (stH Adr ((l,((),()),()),()))=Lc N l:=by kernel_rfl
noncomputable def Ad7(N:Nat):Spec:={ f:=101,ins:=⟨[.sl (.int .i64),.fn 102 [] []],[]⟩,outs:=[⟨[.b],[]⟩],run:=fun p k=>(Lc N p.1.1).bind fun r=>k ((r,()),()) }
theorem Aeb(N:Nat):A0 Try.prog (Ad7 N):=A1 (B:=A4t) (loops:=[]) (leaves:=[]) (fun p=>Lc N p.1.1) (fun r=>((r,()),())) Aab (fun _ _ _=>rfl) (fun r z h=>by cases h;rfl) Try.func101 (by kernel_rfl) (by kernel_rfl) (by kernel_rfl) rfl rfl (by kernel_rfl) (fun args w=>Sem.pv_run _ _ _ (by kernel_rfl) w) (Arw N) mixed trivial (fun z E Xc hE hX hret=>trivial) (fun p=>Axm N p.1.1)

def B7(N:Nat)(l:List Int):Option Bool:=
 (Lc N l).bind fun x_1=>
 some x_1
noncomputable def En(N:Nat):List Spec:=[Ad7 N]
theorem Ia(N:Nat):AllP (A0 Try.prog) (En N):=⟨Aeb N,trivial⟩
noncomputable def Px:Code:=(Try.f100.body).getD .skip
noncomputable abbrev Cu:Body:={ c:=Px,n:=5,res:=[.tmp 2],outs:=[⟨[.b],[]⟩],m0:=0 }
abbrev Ef:altD Cu.outs→Option Bool:=fun r=>some r.1.1
abbrev Eo:Sta:=⟨[0],⟨[.sl (.int .i64)],[]⟩⟩
theorem L4(N:Nat)(l:List Int):ev (Z:=Bool) Try.prog (En N) Cu [] [] (some Ef) 400 false [.c [0],.c [1]] (stL Eo ((l,()),())) (stH Eo ((l,()),()))=B7 N l:=by kernel_rfl
noncomputable def Em(N:Nat):Spec:={ f:=100,ins:=⟨[.sl (.int .i64)],[]⟩,outs:=[⟨[.b],[]⟩],run:=fun p k=>(B7 N p.1.1).bind fun r=>k ((r,()),()) }
theorem F3(N:Nat):A0 Try.prog (Em N):=A1 (B:=Cu) (loops:=[]) (leaves:=[]) (fun p=>B7 N p.1.1) (fun r=>((r,()),())) Ef (fun _ _ _=>rfl) (fun r z h=>by cases h;rfl) Try.func100 (by kernel_rfl) (by kernel_rfl) (by kernel_rfl) rfl rfl (by kernel_rfl) (fun args w=>Sem.pv_run _ _ _ (by kernel_rfl) w) (Ia N) mixed trivial (fun z E Xc hE hX hret=>trivial) (fun p=>L4 N p.1.1)

def Fl(N:Nat)(x:List Int)(g:Qo):Option (Bool×Qo):=
 (Ao N x g).bind fun x_1=>
 some ((!x_1),g)
noncomputable def A19(N:Nat):List Spec:=[Bo N]
theorem Af8(N:Nat):AllP (A0 Try.prog) (A19 N):=⟨Bp N,trivial⟩
noncomputable def Aoh:Code:=(Try.f131.body).getD .skip
noncomputable abbrev Tp:Body:={ c:=Aoh,n:=8,res:=[.tmp 3],outs:=[⟨[.b],[.segs [.fn 99 [] [.fe Qr]]]⟩],m0:=1 }
abbrev Zw:altD Tp.outs→Option (Bool×Qo):=fun r=>some (r.1.1,r.2.1.1.2.1)
abbrev A0k:Sta:=⟨[0,1],⟨[.sl (.int .i64),.own 0 0],[.segs [.fn 99 [] [.fe Qr]]]⟩⟩
theorem Aig(N:Nat)(x:List Int)(g:Qo):ev (Z:=Bool×Qo) Try.prog (A19 N) Tp [] [] (some Zw) 400 false [.c [0],.c [1]] (stL A0k ((x,(),()),((((),(g,())),()),()))) (stH A0k ((x,(),()),((((),(g,())),()),())))=Fl N x g:=by kernel_rfl
noncomputable def A18(N:Nat):Spec:={ f:=131,ins:=⟨[.sl (.int .i64),.own 0 0],[.segs [.fn 99 [] [.fe Qr]]]⟩,outs:=[⟨[.b],[.segs [.fn 99 [] [.fe Qr]]]⟩],run:=fun p k=>(Fl N p.1.1 p.2.1.1.2.1).bind fun r=>k ((r.1,()),((((),(r.2,())),()),())) }
theorem A6v(N:Nat):A0 Try.prog (A18 N):=A1 (B:=Tp) (loops:=[]) (leaves:=[]) (fun p=>Fl N p.1.1 p.2.1.1.2.1) (fun r=>((r.1,()),((((),(r.2,())),()),()))) Zw (fun _ _ _=>rfl) (fun r z h=>by cases h;rfl) Try.func131 (by kernel_rfl) (by kernel_rfl) (by kernel_rfl) rfl rfl (by kernel_rfl) (fun args w=>Sem.pv_run _ _ _ (by kernel_rfl) w) (Af8 N) mixed trivial (fun z E Xc hE hX hret=>trivial) (fun p=>Aig N p.1.1 p.2.1.1.2.1)

def ixflo_l1(N:Nat):Nat→Qx→Int→Int→(Qo)→Option ((Int×Qo)⊕(Qo))
 | 0,_,_,_,_=>none
 | n_+1,s,u,u2,f=>
  br (decide (u2<u))
   (idx s u2 fun x_1=>
   (Fl N x_1 f).bind fun(x_2,y_3)=>
   br x_2
    (some (.inl (u2,y_3)))
    (chk (u2+1)<|
    ixflo_l1 N n_ s u (u2+1) y_3))
   (some (.inr f))
def ixflo_S(N:Nat)(s:List Qd)(f:Qo):Option (Int×Qo):=
 (ixflo_l1 N N s (s.length:Int) 0 f).bind fun e=>match e with
 | .inl (i_4,g_5)=>
  some (i_4,g_5)
 | .inr g_6=>
  some (-1,g_6)
noncomputable def A5v(N:Nat):List Spec:=[A18 N]
theorem Abg(N:Nat):AllP (A0 Try.prog) (A5v N):=⟨A6v N,trivial⟩
noncomputable def B45:Code:=(Try.f141.body).getD .skip
noncomputable abbrev K4:Body:={ c:=B45,n:=19,res:=[.tmp 4],outs:=[⟨[.i .i64],[.segs [.fn 99 [] [.fe Qr]]]⟩],m0:=1 }
abbrev Anb:altD K4.outs→Option (Int×Qo):=fun r=>some (r.1.1,r.2.1.1.2.1)
abbrev Pr:List PI:=[.c [1,0,1,0,0,0],.c [1,0,1,0,0,1],.l [1,0,1,0,0],.b 0,.c [1,1]]
abbrev Jq:Sta:=⟨[0,1,7,8],⟨[.sl Qg,.fn 131 [] [.own 0 0],.i .i64,.i .i64],[.segs [.fn 99 [] [.fe Qr]]]⟩⟩
abbrev A7w(rec:Qx→Int→Int→(Qo)→Option ((Int×Qo)⊕(Qo))):Leaf ((Int×Qo)⊕(Qo)):=⟨Pr,Jq,fun p=>rec p.1.1 p.1.2.2.1 p.1.2.2.2.1 p.2.1.1.2.1⟩
abbrev A0i:Leaf ((Int×Qo)⊕(Qo)):=⟨[.c [1,0,1,0,0,1,1,0,0,1,1,0,0],.c [1,0,1,0,0,1,1,0,0,1,1,0,1],.b 1,.c [1,0,1,0,0,1,1,1],.l [1,0,1,0,0],.b 0,.c [1,1]],⟨[5],⟨[.i .i64],[.segs [.fn 99 [] [.fe Qr]]]⟩⟩,fun p=>some (.inl (p.1.1,p.2.1.1.2.1))⟩
abbrev A0a:Leaf ((Int×Qo)⊕(Qo)):=⟨[.c [1,1,0],.c [1,1,1]],⟨[],⟨[],[.segs [.fn 99 [] [.fe Qr]]]⟩⟩,fun p=>some (.inr p.2.1.1.2.1)⟩
noncomputable def Sn(N:Nat):Ai:={ at_:=Pr,sta:=Jq,exits:=[([.c [1,0,1,0,0,1,1,0,0,1,1,0,0],.c [1,0,1,0,0,1,1,0,0,1,1,0,1],.b 1,.c [1,0,1,0,0,1,1,1],.l [1,0,1,0,0],.b 0,.c [1,1]],⟨[5],⟨[.i .i64],[.segs [.fn 99 [] [.fe Qr]]]⟩⟩),([.c [1,1,0],.c [1,1,1]],⟨[],⟨[],[.segs [.fn 99 [] [.fe Qr]]]⟩⟩)],run:=fun p k=>(ixflo_l1 N N p.1.1 p.1.2.2.1 p.1.2.2.2.1 p.2.1.1.2.1).bind fun e=>match e with | .inl x=>k (.inl ((x.1,()),((((),(x.2,())),()),()))) | .inr x=>k (.inr (.inl ((),((((),(x,())),()),())))) }
theorem Aj2(N n_:Nat)(s:List Qd)(u:Int)(u2:Int)(f:Qo):ev (Z:=(Int×Qo)⊕(Qo)) Try.prog (A5v N) K4 [] [A7w (ixflo_l1 N n_),A0i,A0a] none 400 true Pr (stL Jq ((s,((),((),())),u,u2,()),((((),(f,())),()),()))) (stH Jq ((s,((),((),())),u,u2,()),((((),(f,())),()),())))=ixflo_l1 N (n_+1) s u u2 f:=by kernel_rfl
theorem Akg(N:Nat){top:Bool}:Ab Try.prog K4.c K4.n K4.m0 top (Sn N):=A3 (Z:=(Int×Qo)⊕(Qo)) (N:=N) (fun m p=>ixflo_l1 N m p.1.1 p.1.2.2.1 p.1.2.2.2.1 p.2.1.1.2.1) (fun e=>match e with | .inl x=>.inl ((x.1,()),((((),(x.2,())),()),())) | .inr x=>.inr (.inl ((),((((),(x,())),()),())))) (fun _ p k=>A9 (ixflo_l1 N N p.1.1 p.1.2.2.1 p.1.2.2.2.1 p.2.1.1.2.1) _ _ (fun e=>by rcases e with x | x<;>rfl)) (fun _=>rfl) (fun m z E Xc hE hX hrec hx=>A2 (B:=K4) (loops:=[]) (leaves:=[A7w (ixflo_l1 N m),A0i,A0a]) (Abg N) mixed trivial hE hX ⟨hrec,(fun p hp=>by obtain rfl:=Option.some.inj hp;exact hx),(fun p hp=>by obtain rfl:=Option.some.inj hp;exact hx),trivial⟩ Aa.no (fun p=>Aj2 N m p.1.1 p.1.2.2.1 p.1.2.2.2.1 p.2.1.1.2.1))
abbrev Aj0:Sta:=⟨[0,1],⟨[.sl Qg,.fn 131 [] [.own 0 0]],[.segs [.fn 99 [] [.fe Qr]]]⟩⟩
theorem B24(N:Nat)(s:List Qd)(f:Qo):ev (Z:=Int×Qo) Try.prog (A5v N) K4 [Sn N] [] (some Anb) 400 false [.c [0],.c [1]] (stL Aj0 ((s,((),((),())),()),((((),(f,())),()),()))) (stH Aj0 ((s,((),((),())),()),((((),(f,())),()),())))=ixflo_S N s f:=by kernel_rfl
noncomputable def Amo(N:Nat):Spec:={ f:=141,ins:=⟨[.sl Qg,.fn 131 [] [.own 0 0]],[.segs [.fn 99 [] [.fe Qr]]]⟩,outs:=[⟨[.i .i64],[.segs [.fn 99 [] [.fe Qr]]]⟩],run:=fun p k=>(ixflo_S N p.1.1 p.2.1.1.2.1).bind fun r=>k ((r.1,()),((((),(r.2,())),()),())) }
theorem Amc(N:Nat):A0 Try.prog (Amo N):=A1 (B:=K4) (loops:=[Sn N]) (leaves:=[]) (fun p=>ixflo_S N p.1.1 p.2.1.1.2.1) (fun r=>((r.1,()),((((),(r.2,())),()),()))) Anb (fun _ _ _=>rfl) (fun r z h=>by cases h;rfl) Try.func141 (by kernel_rfl) (by kernel_rfl) (by kernel_rfl) rfl rfl (by kernel_rfl) (fun args w=>Sem.pv_run _ _ _ (by kernel_rfl) w) (Abg N) mixed ⟨Akg N,trivial⟩ (fun z E Xc hE hX hret=>trivial) (fun p=>B24 N p.1.1 p.2.1.1.2.1)

def Vj(N:Nat)(s:List Qd)(f:Qo):Option (Bool×Qo):=
 (ixflo_S N s f).bind fun(x_1,y_2)=>
 some ((decide (0≤x_1)),y_2)
noncomputable def Ajx(N:Nat):List Spec:=[Amo N]
theorem Axk(N:Nat):AllP (A0 Try.prog) (Ajx N):=⟨Amc N,trivial⟩
noncomputable def B3n:Code:=(Try.f125.body).getD .skip
noncomputable abbrev Ag6:Body:={ c:=B3n,n:=9,res:=[.tmp 4],outs:=[⟨[.b],[.segs [.fn 99 [] [.fe Qr]]]⟩],m0:=1 }
abbrev Ahv:altD Ag6.outs→Option (Bool×Qo):=fun r=>some (r.1.1,r.2.1.1.2.1)
abbrev Aj3:Sta:=⟨[0,1],⟨[.sl Qg,.fn 131 [] [.own 0 0]],[.segs [.fn 99 [] [.fe Qr]]]⟩⟩
theorem B0s(N:Nat)(s:List Qd)(f:Qo):ev (Z:=Bool×Qo) Try.prog (Ajx N) Ag6 [] [] (some Ahv) 400 false [.c [0],.c [1]] (stL Aj3 ((s,((),((),())),()),((((),(f,())),()),()))) (stH Aj3 ((s,((),((),())),()),((((),(f,())),()),())))=Vj N s f:=by kernel_rfl
noncomputable def Anc(N:Nat):Spec:={ f:=125,ins:=⟨[.sl Qg,.fn 131 [] [.own 0 0]],[.segs [.fn 99 [] [.fe Qr]]]⟩,outs:=[⟨[.b],[.segs [.fn 99 [] [.fe Qr]]]⟩],run:=fun p k=>(Vj N p.1.1 p.2.1.1.2.1).bind fun r=>k ((r.1,()),((((),(r.2,())),()),())) }
theorem Aix(N:Nat):A0 Try.prog (Anc N):=A1 (B:=Ag6) (loops:=[]) (leaves:=[]) (fun p=>Vj N p.1.1 p.2.1.1.2.1) (fun r=>((r.1,()),((((),(r.2,())),()),()))) Ahv (fun _ _ _=>rfl) (fun r z h=>by cases h;rfl) Try.func125 (by kernel_rfl) (by kernel_rfl) (by kernel_rfl) rfl rfl (by kernel_rfl) (fun args w=>Sem.pv_run _ _ _ (by kernel_rfl) w) (Axk N) mixed trivial (fun z E Xc hE hX hret=>trivial) (fun p=>B0s N p.1.1 p.2.1.1.2.1)

def Fs(N:Nat)(l:List Qd)(holds:Qo):Option Bool:=
 (Vj N l holds).bind fun(x_1,y_2)=>
 some (!x_1)
noncomputable def A8e(N:Nat):List Spec:=[Anc N]
theorem Alb(N:Nat):AllP (A0 Try.prog) (A8e N):=⟨Aix N,trivial⟩
noncomputable def Awf:Code:=(Try.f103.body).getD .skip
noncomputable abbrev Zb:Body:={ c:=Awf,n:=9,res:=[.tmp 4],outs:=[⟨[.b],[]⟩],m0:=0 }
abbrev A3q:altD Zb.outs→Option Bool:=fun r=>some r.1.1
abbrev A8n:Sta:=⟨[0,1],⟨[.sl Qg,.fn 99 [] [.fe Qr]],[]⟩⟩
theorem Aqu(N:Nat)(l:List Qd)(holds:Qo):ev (Z:=Bool) Try.prog (A8e N) Zb [] [] (some A3q) 400 false [.c [0],.c [1]] (stL A8n ((l,((),(holds,())),()),())) (stH A8n ((l,((),(holds,())),()),()))=Fs N l holds:=by kernel_rfl
noncomputable def A2v(N:Nat):Spec:={ f:=103,ins:=⟨[.sl Qg,.fn 99 [] [.fe Qr]],[]⟩,outs:=[⟨[.b],[]⟩],run:=fun p k=>(Fs N p.1.1 p.1.2.1.2.1).bind fun r=>k ((r,()),()) }
theorem A9s(N:Nat):A0 Try.prog (A2v N):=A1 (B:=Zb) (loops:=[]) (leaves:=[]) (fun p=>Fs N p.1.1 p.1.2.1.2.1) (fun r=>((r,()),())) A3q (fun _ _ _=>rfl) (fun r z h=>by cases h;rfl) Try.func103 (by kernel_rfl) (by kernel_rfl) (by kernel_rfl) rfl rfl (by kernel_rfl) (fun args w=>Sem.pv_run _ _ _ (by kernel_rfl) w) (Alb N) mixed trivial (fun z E Xc hE hX hret=>trivial) (fun p=>Aqu N p.1.1 p.1.2.1.2.1)

def I3(N:Nat)(x:List Int):Option Bool:=
 (B7 N x).bind fun x_1=>
 some (!x_1)
noncomputable def A0u(N:Nat):List Spec:=[Em N]
theorem Agu(N:Nat):AllP (A0 Try.prog) (A0u N):=⟨F3 N,trivial⟩
noncomputable def Aq6:Code:=(Try.f131.body).getD .skip
noncomputable abbrev T5:Body:={ c:=Aq6,n:=8,res:=[.tmp 3],outs:=[⟨[.b],[.segs [.fn 100 [] []]]⟩],m0:=1 }
abbrev A0w:altD T5.outs→Option Bool:=fun r=>some r.1.1
abbrev Zs:Sta:=⟨[0,1],⟨[.sl (.int .i64),.own 0 0],[.segs [.fn 100 [] []]]⟩⟩
theorem An7(N:Nat)(x:List Int):ev (Z:=Bool) Try.prog (A0u N) T5 [] [] (some A0w) 400 false [.c [0],.c [1]] (stL Zs ((x,(),()),((((),()),()),()))) (stH Zs ((x,(),()),((((),()),()),())))=I3 N x:=by kernel_rfl
noncomputable def Zv(N:Nat):Spec:={ f:=131,ins:=⟨[.sl (.int .i64),.own 0 0],[.segs [.fn 100 [] []]]⟩,outs:=[⟨[.b],[.segs [.fn 100 [] []]]⟩],run:=fun p k=>(I3 N p.1.1).bind fun r=>k ((r,()),((((),()),()),())) }
theorem A3y(N:Nat):A0 Try.prog (Zv N):=A1 (B:=T5) (loops:=[]) (leaves:=[]) (fun p=>I3 N p.1.1) (fun r=>((r,()),((((),()),()),()))) A0w (fun _ _ _=>rfl) (fun r z h=>by cases h;rfl) Try.func131 (by kernel_rfl) (by kernel_rfl) (by kernel_rfl) rfl rfl (by kernel_rfl) (fun args w=>Sem.pv_run _ _ _ (by kernel_rfl) w) (Agu N) mixed trivial (fun z E Xc hE hX hret=>trivial) (fun p=>An7 N p.1.1)

def ixfva_l1(N:Nat):Nat→Qx→Int→Int→Option ((Int)⊕(Unit))
 | 0,_,_,_=>none
 | n_+1,s,u,u2=>
  br (decide (u2<u))
   (idx s u2 fun x_1=>
   (I3 N x_1).bind fun x_2=>
   br x_2
    (some (.inl u2))
    (chk (u2+1)<|
    ixfva_l1 N n_ s u (u2+1)))
   (some (.inr ()))
def Vb(N:Nat)(s:List Qd):Option Int:=
 (ixfva_l1 N N s (s.length:Int) 0).bind fun e=>match e with
 | .inl i_3=>
  some i_3
 | .inr _=>
  some (-1)
noncomputable def A6n(N:Nat):List Spec:=[Zv N]
theorem Aas(N:Nat):AllP (A0 Try.prog) (A6n N):=⟨A3y N,trivial⟩
noncomputable def B3v:Code:=(Try.f141.body).getD .skip
noncomputable abbrev K0:Body:={ c:=B3v,n:=19,res:=[.tmp 4],outs:=[⟨[.i .i64],[.segs [.fn 100 [] []]]⟩],m0:=1 }
abbrev Akm:altD K0.outs→Option Int:=fun r=>some r.1.1
abbrev Ow:List PI:=[.c [1,0,1,0,0,0],.c [1,0,1,0,0,1],.l [1,0,1,0,0],.b 0,.c [1,1]]
abbrev Jl:Sta:=⟨[0,1,7,8],⟨[.sl Qg,.fn 131 [] [.own 0 0],.i .i64,.i .i64],[.segs [.fn 100 [] []]]⟩⟩
abbrev A5s(rec:Qx→Int→Int→Option ((Int)⊕(Unit))):Leaf ((Int)⊕(Unit)):=⟨Ow,Jl,fun p=>rec p.1.1 p.1.2.2.1 p.1.2.2.2.1⟩
abbrev A0m:Leaf ((Int)⊕(Unit)):=⟨[.c [1,0,1,0,0,1,1,0,0,1,1,0,0],.c [1,0,1,0,0,1,1,0,0,1,1,0,1],.b 1,.c [1,0,1,0,0,1,1,1],.l [1,0,1,0,0],.b 0,.c [1,1]],⟨[5],⟨[.i .i64],[.segs [.fn 100 [] []]]⟩⟩,fun p=>some (.inl p.1.1)⟩
abbrev Zm:Leaf ((Int)⊕(Unit)):=⟨[.c [1,1,0],.c [1,1,1]],⟨[],⟨[],[.segs [.fn 100 [] []]]⟩⟩,fun p=>some (.inr ())⟩
noncomputable def Up(N:Nat):Ai:={ at_:=Ow,sta:=Jl,exits:=[([.c [1,0,1,0,0,1,1,0,0,1,1,0,0],.c [1,0,1,0,0,1,1,0,0,1,1,0,1],.b 1,.c [1,0,1,0,0,1,1,1],.l [1,0,1,0,0],.b 0,.c [1,1]],⟨[5],⟨[.i .i64],[.segs [.fn 100 [] []]]⟩⟩),([.c [1,1,0],.c [1,1,1]],⟨[],⟨[],[.segs [.fn 100 [] []]]⟩⟩)],run:=fun p k=>(ixfva_l1 N N p.1.1 p.1.2.2.1 p.1.2.2.2.1).bind fun e=>match e with | .inl x=>k (.inl ((x,()),((((),()),()),()))) | .inr x=>k (.inr (.inl ((),((((),()),()),())))) }
theorem Akb(N n_:Nat)(s:List Qd)(u:Int)(u2:Int):ev (Z:=(Int)⊕(Unit)) Try.prog (A6n N) K0 [] [A5s (ixfva_l1 N n_),A0m,Zm] none 400 true Ow (stL Jl ((s,((),((),())),u,u2,()),((((),()),()),()))) (stH Jl ((s,((),((),())),u,u2,()),((((),()),()),())))=ixfva_l1 N (n_+1) s u u2:=by kernel_rfl
theorem Amb(N:Nat){top:Bool}:Ab Try.prog K0.c K0.n K0.m0 top (Up N):=A3 (Z:=(Int)⊕(Unit)) (N:=N) (fun m p=>ixfva_l1 N m p.1.1 p.1.2.2.1 p.1.2.2.2.1) (fun e=>match e with | .inl x=>.inl ((x,()),((((),()),()),())) | .inr x=>.inr (.inl ((),((((),()),()),())))) (fun _ p k=>A9 (ixfva_l1 N N p.1.1 p.1.2.2.1 p.1.2.2.2.1) _ _ (fun e=>by rcases e with x | x<;>rfl)) (fun _=>rfl) (fun m z E Xc hE hX hrec hx=>A2 (B:=K0) (loops:=[]) (leaves:=[A5s (ixfva_l1 N m),A0m,Zm]) (Aas N) mixed trivial hE hX ⟨hrec,(fun p hp=>by obtain rfl:=Option.some.inj hp;exact hx),(fun p hp=>by obtain rfl:=Option.some.inj hp;exact hx),trivial⟩ Aa.no (fun p=>Akb N m p.1.1 p.1.2.2.1 p.1.2.2.2.1))
abbrev Ama:Sta:=⟨[0,1],⟨[.sl Qg,.fn 131 [] [.own 0 0]],[.segs [.fn 100 [] []]]⟩⟩
theorem Azq(N:Nat)(s:List Qd):ev (Z:=Int) Try.prog (A6n N) K0 [Up N] [] (some Akm) 400 false [.c [0],.c [1]] (stL Ama ((s,((),((),())),()),((((),()),()),()))) (stH Ama ((s,((),((),())),()),((((),()),()),())))=Vb N s:=by kernel_rfl
noncomputable def Akc(N:Nat):Spec:={ f:=141,ins:=⟨[.sl Qg,.fn 131 [] [.own 0 0]],[.segs [.fn 100 [] []]]⟩,outs:=[⟨[.i .i64],[.segs [.fn 100 [] []]]⟩],run:=fun p k=>(Vb N p.1.1).bind fun r=>k ((r,()),((((),()),()),())) }
theorem Amm(N:Nat):A0 Try.prog (Akc N):=A1 (B:=K0) (loops:=[Up N]) (leaves:=[]) (fun p=>Vb N p.1.1) (fun r=>((r,()),((((),()),()),()))) Akm (fun _ _ _=>rfl) (fun r z h=>by cases h;rfl) Try.func141 (by kernel_rfl) (by kernel_rfl) (by kernel_rfl) rfl rfl (by kernel_rfl) (fun args w=>Sem.pv_run _ _ _ (by kernel_rfl) w) (Aas N) mixed ⟨Amb N,trivial⟩ (fun z E Xc hE hX hret=>trivial) (fun p=>Azq N p.1.1)

def Vn(N:Nat)(s:List Qd):Option Bool:=
 (Vb N s).bind fun x_1=>
 some (decide (0≤x_1))
noncomputable def Aiu(N:Nat):List Spec:=[Akc N]
theorem Aw7(N:Nat):AllP (A0 Try.prog) (Aiu N):=⟨Amm N,trivial⟩
noncomputable def B4r:Code:=(Try.f125.body).getD .skip
noncomputable abbrev Afj:Body:={ c:=B4r,n:=9,res:=[.tmp 4],outs:=[⟨[.b],[.segs [.fn 100 [] []]]⟩],m0:=1 }
abbrev Ahj:altD Afj.outs→Option Bool:=fun r=>some r.1.1
abbrev Amy:Sta:=⟨[0,1],⟨[.sl Qg,.fn 131 [] [.own 0 0]],[.segs [.fn 100 [] []]]⟩⟩
theorem B1a(N:Nat)(s:List Qd):ev (Z:=Bool) Try.prog (Aiu N) Afj [] [] (some Ahj) 400 false [.c [0],.c [1]] (stL Amy ((s,((),((),())),()),((((),()),()),()))) (stH Amy ((s,((),((),())),()),((((),()),()),())))=Vn N s:=by kernel_rfl
noncomputable def Akr(N:Nat):Spec:={ f:=125,ins:=⟨[.sl Qg,.fn 131 [] [.own 0 0]],[.segs [.fn 100 [] []]]⟩,outs:=[⟨[.b],[.segs [.fn 100 [] []]]⟩],run:=fun p k=>(Vn N p.1.1).bind fun r=>k ((r,()),((((),()),()),())) }
theorem Amn(N:Nat):A0 Try.prog (Akr N):=A1 (B:=Afj) (loops:=[]) (leaves:=[]) (fun p=>Vn N p.1.1) (fun r=>((r,()),((((),()),()),()))) Ahj (fun _ _ _=>rfl) (fun r z h=>by cases h;rfl) Try.func125 (by kernel_rfl) (by kernel_rfl) (by kernel_rfl) rfl rfl (by kernel_rfl) (fun args w=>Sem.pv_run _ _ _ (by kernel_rfl) w) (Aw7 N) mixed trivial (fun z E Xc hE hX hret=>trivial) (fun p=>B1a N p.1.1)

def Fy(N:Nat)(l:List Qd):Option Bool:=
 (Vn N l).bind fun x_1=>
 some (!x_1)
noncomputable def A7q(N:Nat):List Spec:=[Akr N]
theorem Ak5(N:Nat):AllP (A0 Try.prog) (A7q N):=⟨Amn N,trivial⟩
noncomputable def Ax0:Code:=(Try.f103.body).getD .skip
noncomputable abbrev Yj:Body:={ c:=Ax0,n:=9,res:=[.tmp 4],outs:=[⟨[.b],[]⟩],m0:=0 }
abbrev A8i:altD Yj.outs→Option Bool:=fun r=>some r.1.1
abbrev A82:Sta:=⟨[0,1],⟨[.sl Qg,.fn 100 [] []],[]⟩⟩
theorem Ao1(N:Nat)(l:List Qd):ev (Z:=Bool) Try.prog (A7q N) Yj [] [] (some A8i) 400 false [.c [0],.c [1]] (stL A82 ((l,((),()),()),())) (stH A82 ((l,((),()),()),()))=Fy N l:=by kernel_rfl
noncomputable def A5m(N:Nat):Spec:={ f:=103,ins:=⟨[.sl Qg,.fn 100 [] []],[]⟩,outs:=[⟨[.b],[]⟩],run:=fun p k=>(Fy N p.1.1).bind fun r=>k ((r,()),()) }
theorem A9e(N:Nat):A0 Try.prog (A5m N):=A1 (B:=Yj) (loops:=[]) (leaves:=[]) (fun p=>Fy N p.1.1) (fun r=>((r,()),())) A8i (fun _ _ _=>rfl) (fun r z h=>by cases h;rfl) Try.func103 (by kernel_rfl) (by kernel_rfl) (by kernel_rfl) rfl rfl (by kernel_rfl) (fun args w=>Sem.pv_run _ _ _ (by kernel_rfl) w) (Ak5 N) mixed trivial (fun z E Xc hE hX hret=>trivial) (fun p=>Ao1 N p.1.1)

def Cx(N:Nat)(n:Int):Option Bool:=
 (Ap N n 1 9).bind fun x_1=>
 some x_1
noncomputable def M3(N:Nat):List Spec:=[Bb N]
theorem Tk(N:Nat):AllP (A0 Try.prog) (M3 N):=⟨Am N,trivial⟩
noncomputable def A71:Code:=(Try.f104.body).getD .skip
noncomputable abbrev Hz:Body:={ c:=A71,n:=5,res:=[.tmp 2],outs:=[⟨[.b],[]⟩],m0:=0 }
abbrev M4:altD Hz.outs→Option Bool:=fun r=>some r.1.1
abbrev Kr:Sta:=⟨[0],⟨[.i .i64],[]⟩⟩
theorem Xf(N:Nat)(n:Int):ev (Z:=Bool) Try.prog (M3 N) Hz [] [] (some M4) 400 false [.c [0],.c [1]] (stL Kr ((n,()),())) (stH Kr ((n,()),()))=Cx N n:=by kernel_rfl
noncomputable def Lb(N:Nat):Spec:={ f:=104,ins:=⟨[.i .i64],[]⟩,outs:=[⟨[.b],[]⟩],run:=fun p k=>(Cx N p.1.1).bind fun r=>k ((r,()),()) }
theorem My(N:Nat):A0 Try.prog (Lb N):=A1 (B:=Hz) (loops:=[]) (leaves:=[]) (fun p=>Cx N p.1.1) (fun r=>((r,()),())) M4 (fun _ _ _=>rfl) (fun r z h=>by cases h;rfl) Try.func104 (by kernel_rfl) (by kernel_rfl) (by kernel_rfl) rfl rfl (by kernel_rfl) (fun args w=>Sem.pv_run _ _ _ (by kernel_rfl) w) (Tk N) mixed trivial (fun z E Xc hE hX hret=>trivial) (fun p=>Xf N p.1.1)

def Cw(N:Nat)(n:Int):Option Bool:=
 (Ap N n 0 99).bind fun x_1=>
 some x_1
noncomputable def Kv(N:Nat):List Spec:=[Bb N]
theorem Uk(N:Nat):AllP (A0 Try.prog) (Kv N):=⟨Am N,trivial⟩
noncomputable def A5k:Code:=(Try.f105.body).getD .skip
noncomputable abbrev Iu:Body:={ c:=A5k,n:=5,res:=[.tmp 2],outs:=[⟨[.b],[]⟩],m0:=0 }
abbrev M6:altD Iu.outs→Option Bool:=fun r=>some r.1.1
abbrev Kt:Sta:=⟨[0],⟨[.i .i64],[]⟩⟩
theorem Zd(N:Nat)(n:Int):ev (Z:=Bool) Try.prog (Kv N) Iu [] [] (some M6) 400 false [.c [0],.c [1]] (stL Kt ((n,()),())) (stH Kt ((n,()),()))=Cw N n:=by kernel_rfl
noncomputable def M0(N:Nat):Spec:={ f:=105,ins:=⟨[.i .i64],[]⟩,outs:=[⟨[.b],[]⟩],run:=fun p k=>(Cw N p.1.1).bind fun r=>k ((r,()),()) }
theorem N7(N:Nat):A0 Try.prog (M0 N):=A1 (B:=Iu) (loops:=[]) (leaves:=[]) (fun p=>Cw N p.1.1) (fun r=>((r,()),())) M6 (fun _ _ _=>rfl) (fun r z h=>by cases h;rfl) Try.func105 (by kernel_rfl) (by kernel_rfl) (by kernel_rfl) rfl rfl (by kernel_rfl) (fun args w=>Sem.pv_run _ _ _ (by kernel_rfl) w) (Uk N) mixed trivial (fun z E Xc hE hX hret=>trivial) (fun p=>Zd N p.1.1)

def Cm(N:Nat)(x:Int):Option Bool:=
 (Cx N x).bind fun x_1=>
 some (!x_1)
noncomputable def I1(N:Nat):List Spec:=[Lb N]
theorem Ph(N:Nat):AllP (A0 Try.prog) (I1 N):=⟨My N,trivial⟩
noncomputable def Xe:Code:=(Try.f130.body).getD .skip
noncomputable abbrev Fw:Body:={ c:=Xe,n:=8,res:=[.tmp 3],outs:=[⟨[.b],[.segs [.fn 104 [] []]]⟩],m0:=1 }
abbrev Iw:altD Fw.outs→Option Bool:=fun r=>some r.1.1
abbrev Ii:Sta:=⟨[0,1],⟨[.i .i64,.own 0 0],[.segs [.fn 104 [] []]]⟩⟩
theorem T0(N:Nat)(x:Int):ev (Z:=Bool) Try.prog (I1 N) Fw [] [] (some Iw) 400 false [.c [0],.c [1]] (stL Ii ((x,(),()),((((),()),()),()))) (stH Ii ((x,(),()),((((),()),()),())))=Cm N x:=by kernel_rfl
noncomputable def Je(N:Nat):Spec:={ f:=130,ins:=⟨[.i .i64,.own 0 0],[.segs [.fn 104 [] []]]⟩,outs:=[⟨[.b],[.segs [.fn 104 [] []]]⟩],run:=fun p k=>(Cm N p.1.1).bind fun r=>k ((r,()),((((),()),()),())) }
theorem Kc(N:Nat):A0 Try.prog (Je N):=A1 (B:=Fw) (loops:=[]) (leaves:=[]) (fun p=>Cm N p.1.1) (fun r=>((r,()),((((),()),()),()))) Iw (fun _ _ _=>rfl) (fun r z h=>by cases h;rfl) Try.func130 (by kernel_rfl) (by kernel_rfl) (by kernel_rfl) rfl rfl (by kernel_rfl) (fun args w=>Sem.pv_run _ _ _ (by kernel_rfl) w) (Ph N) mixed trivial (fun z E Xc hE hX hret=>trivial) (fun p=>T0 N p.1.1)

def Bf(N:Nat):Nat→Qd→Int→Int→Option ((Int)⊕(Unit))
 | 0,_,_,_=>none
 | n_+1,s,u,u2=>
  br (decide (u2<u))
   (idx s u2 fun x_1=>
   (Cm N x_1).bind fun x_2=>
   br x_2
    (some (.inl u2))
    (chk (u2+1)<|
    Bf N n_ s u (u2+1)))
   (some (.inr ()))
def Ka(N:Nat)(s:List Int):Option Int:=
 (Bf N N s (s.length:Int) 0).bind fun e=>match e with
 | .inl i_3=>
  some i_3
 | .inr _=>
  some (-1)
noncomputable def Ng(N:Nat):List Spec:=[Je N]
theorem Pw(N:Nat):AllP (A0 Try.prog) (Ng N):=⟨Kc N,trivial⟩
noncomputable def Aqq:Code:=(Try.f80.body).getD .skip
noncomputable abbrev D3:Body:={ c:=Aqq,n:=19,res:=[.tmp 4],outs:=[⟨[.i .i64],[.segs [.fn 104 [] []]]⟩],m0:=1 }
abbrev Vd:altD D3.outs→Option Int:=fun r=>some r.1.1
abbrev E2:List PI:=[.c [1,0,1,0,0,0],.c [1,0,1,0,0,1],.l [1,0,1,0,0],.b 0,.c [1,1]]
abbrev C7:Sta:=⟨[0,1,7,8],⟨[.sl (.int .i64),.fn 130 [] [.own 0 0],.i .i64,.i .i64],[.segs [.fn 104 [] []]]⟩⟩
abbrev Lk(rec:Qd→Int→Int→Option ((Int)⊕(Unit))):Leaf ((Int)⊕(Unit)):=⟨E2,C7,fun p=>rec p.1.1 p.1.2.2.1 p.1.2.2.2.1⟩
abbrev It:Leaf ((Int)⊕(Unit)):=⟨[.c [1,0,1,0,0,1,1,0,0,1,1,0,0],.c [1,0,1,0,0,1,1,0,0,1,1,0,1],.b 1,.c [1,0,1,0,0,1,1,1],.l [1,0,1,0,0],.b 0,.c [1,1]],⟨[5],⟨[.i .i64],[.segs [.fn 104 [] []]]⟩⟩,fun p=>some (.inl p.1.1)⟩
abbrev Jc:Leaf ((Int)⊕(Unit)):=⟨[.c [1,1,0],.c [1,1,1]],⟨[],⟨[],[.segs [.fn 104 [] []]]⟩⟩,fun p=>some (.inr ())⟩
noncomputable def Fp(N:Nat):Ai:={ at_:=E2,sta:=C7,exits:=[([.c [1,0,1,0,0,1,1,0,0,1,1,0,0],.c [1,0,1,0,0,1,1,0,0,1,1,0,1],.b 1,.c [1,0,1,0,0,1,1,1],.l [1,0,1,0,0],.b 0,.c [1,1]],⟨[5],⟨[.i .i64],[.segs [.fn 104 [] []]]⟩⟩),([.c [1,1,0],.c [1,1,1]],⟨[],⟨[],[.segs [.fn 104 [] []]]⟩⟩)],run:=fun p k=>(Bf N N p.1.1 p.1.2.2.1 p.1.2.2.2.1).bind fun e=>match e with | .inl x=>k (.inl ((x,()),((((),()),()),()))) | .inr x=>k (.inr (.inl ((),((((),()),()),())))) }
theorem Uf(N n_:Nat)(s:List Int)(u:Int)(u2:Int):ev (Z:=(Int)⊕(Unit)) Try.prog (Ng N) D3 [] [Lk (Bf N n_),It,Jc] none 400 true E2 (stL C7 ((s,((),((),())),u,u2,()),((((),()),()),()))) (stH C7 ((s,((),((),())),u,u2,()),((((),()),()),())))=Bf N (n_+1) s u u2:=by kernel_rfl
theorem Tt(N:Nat){top:Bool}:Ab Try.prog D3.c D3.n D3.m0 top (Fp N):=A3 (Z:=(Int)⊕(Unit)) (N:=N) (fun m p=>Bf N m p.1.1 p.1.2.2.1 p.1.2.2.2.1) (fun e=>match e with | .inl x=>.inl ((x,()),((((),()),()),())) | .inr x=>.inr (.inl ((),((((),()),()),())))) (fun _ p k=>A9 (Bf N N p.1.1 p.1.2.2.1 p.1.2.2.2.1) _ _ (fun e=>by rcases e with x | x<;>rfl)) (fun _=>rfl) (fun m z E Xc hE hX hrec hx=>A2 (B:=D3) (loops:=[]) (leaves:=[Lk (Bf N m),It,Jc]) (Pw N) mixed trivial hE hX ⟨hrec,(fun p hp=>by obtain rfl:=Option.some.inj hp;exact hx),(fun p hp=>by obtain rfl:=Option.some.inj hp;exact hx),trivial⟩ Aa.no (fun p=>Uf N m p.1.1 p.1.2.2.1 p.1.2.2.2.1))
abbrev Vk:Sta:=⟨[0,1],⟨[.sl (.int .i64),.fn 130 [] [.own 0 0]],[.segs [.fn 104 [] []]]⟩⟩
theorem Ag4(N:Nat)(s:List Int):ev (Z:=Int) Try.prog (Ng N) D3 [Fp N] [] (some Vd) 400 false [.c [0],.c [1]] (stL Vk ((s,((),((),())),()),((((),()),()),()))) (stH Vk ((s,((),((),())),()),((((),()),()),())))=Ka N s:=by kernel_rfl
noncomputable def V0(N:Nat):Spec:={ f:=80,ins:=⟨[.sl (.int .i64),.fn 130 [] [.own 0 0]],[.segs [.fn 104 [] []]]⟩,outs:=[⟨[.i .i64],[.segs [.fn 104 [] []]]⟩],run:=fun p k=>(Ka N p.1.1).bind fun r=>k ((r,()),((((),()),()),())) }
theorem Ug(N:Nat):A0 Try.prog (V0 N):=A1 (B:=D3) (loops:=[Fp N]) (leaves:=[]) (fun p=>Ka N p.1.1) (fun r=>((r,()),((((),()),()),()))) Vd (fun _ _ _=>rfl) (fun r z h=>by cases h;rfl) Try.func80 (by kernel_rfl) (by kernel_rfl) (by kernel_rfl) rfl rfl (by kernel_rfl) (fun args w=>Sem.pv_run _ _ _ (by kernel_rfl) w) (Pw N) mixed ⟨Tt N,trivial⟩ (fun z E Xc hE hX hret=>trivial) (fun p=>Ag4 N p.1.1)

def Ko(N:Nat)(s:List Int):Option Bool:=
 (Ka N s).bind fun x_1=>
 some (decide (0≤x_1))
noncomputable def Wn(N:Nat):List Spec:=[V0 N]
theorem A3g(N:Nat):AllP (A0 Try.prog) (Wn N):=⟨Ug N,trivial⟩
noncomputable def Apx:Code:=(Try.f93.body).getD .skip
noncomputable abbrev T9:Body:={ c:=Apx,n:=9,res:=[.tmp 4],outs:=[⟨[.b],[.segs [.fn 104 [] []]]⟩],m0:=1 }
abbrev Xb:altD T9.outs→Option Bool:=fun r=>some r.1.1
abbrev Ws:Sta:=⟨[0,1],⟨[.sl (.int .i64),.fn 130 [] [.own 0 0]],[.segs [.fn 104 [] []]]⟩⟩
theorem Aff(N:Nat)(s:List Int):ev (Z:=Bool) Try.prog (Wn N) T9 [] [] (some Xb) 400 false [.c [0],.c [1]] (stL Ws ((s,((),((),())),()),((((),()),()),()))) (stH Ws ((s,((),((),())),()),((((),()),()),())))=Ko N s:=by kernel_rfl
noncomputable def X5(N:Nat):Spec:={ f:=93,ins:=⟨[.sl (.int .i64),.fn 130 [] [.own 0 0]],[.segs [.fn 104 [] []]]⟩,outs:=[⟨[.b],[.segs [.fn 104 [] []]]⟩],run:=fun p k=>(Ko N p.1.1).bind fun r=>k ((r,()),((((),()),()),())) }
theorem T3(N:Nat):A0 Try.prog (X5 N):=A1 (B:=T9) (loops:=[]) (leaves:=[]) (fun p=>Ko N p.1.1) (fun r=>((r,()),((((),()),()),()))) Xb (fun _ _ _=>rfl) (fun r z h=>by cases h;rfl) Try.func93 (by kernel_rfl) (by kernel_rfl) (by kernel_rfl) rfl rfl (by kernel_rfl) (fun args w=>Sem.pv_run _ _ _ (by kernel_rfl) w) (A3g N) mixed trivial (fun z E Xc hE hX hret=>trivial) (fun p=>Aff N p.1.1)

def D1(N:Nat)(l:List Int):Option Bool:=
 (Ko N l).bind fun x_1=>
 some (!x_1)
noncomputable def Lv(N:Nat):List Spec:=[X5 N]
theorem Sv(N:Nat):AllP (A0 Try.prog) (Lv N):=⟨T3 N,trivial⟩
noncomputable def A6r:Code:=(Try.f101.body).getD .skip
noncomputable abbrev Im:Body:={ c:=A6r,n:=9,res:=[.tmp 4],outs:=[⟨[.b],[]⟩],m0:=0 }
abbrev L6:altD Im.outs→Option Bool:=fun r=>some r.1.1
abbrev Lr:Sta:=⟨[0,1],⟨[.sl (.int .i64),.fn 104 [] []],[]⟩⟩
theorem Z1(N:Nat)(l:List Int):ev (Z:=Bool) Try.prog (Lv N) Im [] [] (some L6) 400 false [.c [0],.c [1]] (stL Lr ((l,((),()),()),())) (stH Lr ((l,((),()),()),()))=D1 N l:=by kernel_rfl
noncomputable def M9(N:Nat):Spec:={ f:=101,ins:=⟨[.sl (.int .i64),.fn 104 [] []],[]⟩,outs:=[⟨[.b],[]⟩],run:=fun p k=>(D1 N p.1.1).bind fun r=>k ((r,()),()) }
theorem Nb(N:Nat):A0 Try.prog (M9 N):=A1 (B:=Im) (loops:=[]) (leaves:=[]) (fun p=>D1 N p.1.1) (fun r=>((r,()),())) L6 (fun _ _ _=>rfl) (fun r z h=>by cases h;rfl) Try.func101 (by kernel_rfl) (by kernel_rfl) (by kernel_rfl) rfl rfl (by kernel_rfl) (fun args w=>Sem.pv_run _ _ _ (by kernel_rfl) w) (Sv N) mixed trivial (fun z E Xc hE hX hret=>trivial) (fun p=>Z1 N p.1.1)

def Cn(N:Nat)(x:Int):Option Bool:=
 (Cw N x).bind fun x_1=>
 some (!x_1)
noncomputable def Jh(N:Nat):List Spec:=[M0 N]
theorem R6(N:Nat):AllP (A0 Try.prog) (Jh N):=⟨N7 N,trivial⟩
noncomputable def Yq:Code:=(Try.f130.body).getD .skip
noncomputable abbrev Fx:Body:={ c:=Yq,n:=8,res:=[.tmp 3],outs:=[⟨[.b],[.segs [.fn 105 [] []]]⟩],m0:=1 }
abbrev Ie:altD Fx.outs→Option Bool:=fun r=>some r.1.1
abbrev J2:Sta:=⟨[0,1],⟨[.i .i64,.own 0 0],[.segs [.fn 105 [] []]]⟩⟩
theorem U4(N:Nat)(x:Int):ev (Z:=Bool) Try.prog (Jh N) Fx [] [] (some Ie) 400 false [.c [0],.c [1]] (stL J2 ((x,(),()),((((),()),()),()))) (stH J2 ((x,(),()),((((),()),()),())))=Cn N x:=by kernel_rfl
noncomputable def Ij(N:Nat):Spec:={ f:=130,ins:=⟨[.i .i64,.own 0 0],[.segs [.fn 105 [] []]]⟩,outs:=[⟨[.b],[.segs [.fn 105 [] []]]⟩],run:=fun p k=>(Cn N p.1.1).bind fun r=>k ((r,()),((((),()),()),())) }
theorem Kb(N:Nat):A0 Try.prog (Ij N):=A1 (B:=Fx) (loops:=[]) (leaves:=[]) (fun p=>Cn N p.1.1) (fun r=>((r,()),((((),()),()),()))) Ie (fun _ _ _=>rfl) (fun r z h=>by cases h;rfl) Try.func130 (by kernel_rfl) (by kernel_rfl) (by kernel_rfl) rfl rfl (by kernel_rfl) (fun args w=>Sem.pv_run _ _ _ (by kernel_rfl) w) (R6 N) mixed trivial (fun z E Xc hE hX hret=>trivial) (fun p=>U4 N p.1.1)

def Bd(N:Nat):Nat→Qd→Int→Int→Option ((Int)⊕(Unit))
 | 0,_,_,_=>none
 | n_+1,s,u,u2=>
  br (decide (u2<u))
   (idx s u2 fun x_1=>
   (Cn N x_1).bind fun x_2=>
   br x_2
    (some (.inl u2))
    (chk (u2+1)<|
    Bd N n_ s u (u2+1)))
   (some (.inr ()))
def Kg(N:Nat)(s:List Int):Option Int:=
 (Bd N N s (s.length:Int) 0).bind fun e=>match e with
 | .inl i_3=>
  some i_3
 | .inr _=>
  some (-1)
noncomputable def Md(N:Nat):List Spec:=[Ij N]
theorem Ps(N:Nat):AllP (A0 Try.prog) (Md N):=⟨Kb N,trivial⟩
noncomputable def Ap7:Code:=(Try.f80.body).getD .skip
noncomputable abbrev D8:Body:={ c:=Ap7,n:=19,res:=[.tmp 4],outs:=[⟨[.i .i64],[.segs [.fn 105 [] []]]⟩],m0:=1 }
abbrev Wy:altD D8.outs→Option Int:=fun r=>some r.1.1
abbrev Dz:List PI:=[.c [1,0,1,0,0,0],.c [1,0,1,0,0,1],.l [1,0,1,0,0],.b 0,.c [1,1]]
abbrev C4:Sta:=⟨[0,1,7,8],⟨[.sl (.int .i64),.fn 130 [] [.own 0 0],.i .i64,.i .i64],[.segs [.fn 105 [] []]]⟩⟩
abbrev Ma(rec:Qd→Int→Int→Option ((Int)⊕(Unit))):Leaf ((Int)⊕(Unit)):=⟨Dz,C4,fun p=>rec p.1.1 p.1.2.2.1 p.1.2.2.2.1⟩
abbrev J1:Leaf ((Int)⊕(Unit)):=⟨[.c [1,0,1,0,0,1,1,0,0,1,1,0,0],.c [1,0,1,0,0,1,1,0,0,1,1,0,1],.b 1,.c [1,0,1,0,0,1,1,1],.l [1,0,1,0,0],.b 0,.c [1,1]],⟨[5],⟨[.i .i64],[.segs [.fn 105 [] []]]⟩⟩,fun p=>some (.inl p.1.1)⟩
abbrev Ic:Leaf ((Int)⊕(Unit)):=⟨[.c [1,1,0],.c [1,1,1]],⟨[],⟨[],[.segs [.fn 105 [] []]]⟩⟩,fun p=>some (.inr ())⟩
noncomputable def Fc(N:Nat):Ai:={ at_:=Dz,sta:=C4,exits:=[([.c [1,0,1,0,0,1,1,0,0,1,1,0,0],.c [1,0,1,0,0,1,1,0,0,1,1,0,1],.b 1,.c [1,0,1,0,0,1,1,1],.l [1,0,1,0,0],.b 0,.c [1,1]],⟨[5],⟨[.i .i64],[.segs [.fn 105 [] []]]⟩⟩),([.c [1,1,0],.c [1,1,1]],⟨[],⟨[],[.segs [.fn 105 [] []]]⟩⟩)],run:=fun p k=>(Bd N N p.1.1 p.1.2.2.1 p.1.2.2.2.1).bind fun e=>match e with | .inl x=>k (.inl ((x,()),((((),()),()),()))) | .inr x=>k (.inr (.inl ((),((((),()),()),())))) }
theorem Ur(N n_:Nat)(s:List Int)(u:Int)(u2:Int):ev (Z:=(Int)⊕(Unit)) Try.prog (Md N) D8 [] [Ma (Bd N n_),J1,Ic] none 400 true Dz (stL C4 ((s,((),((),())),u,u2,()),((((),()),()),()))) (stH C4 ((s,((),((),())),u,u2,()),((((),()),()),())))=Bd N (n_+1) s u u2:=by kernel_rfl
theorem Ud(N:Nat){top:Bool}:Ab Try.prog D8.c D8.n D8.m0 top (Fc N):=A3 (Z:=(Int)⊕(Unit)) (N:=N) (fun m p=>Bd N m p.1.1 p.1.2.2.1 p.1.2.2.2.1) (fun e=>match e with | .inl x=>.inl ((x,()),((((),()),()),())) | .inr x=>.inr (.inl ((),((((),()),()),())))) (fun _ p k=>A9 (Bd N N p.1.1 p.1.2.2.1 p.1.2.2.2.1) _ _ (fun e=>by rcases e with x | x<;>rfl)) (fun _=>rfl) (fun m z E Xc hE hX hrec hx=>A2 (B:=D8) (loops:=[]) (leaves:=[Ma (Bd N m),J1,Ic]) (Ps N) mixed trivial hE hX ⟨hrec,(fun p hp=>by obtain rfl:=Option.some.inj hp;exact hx),(fun p hp=>by obtain rfl:=Option.some.inj hp;exact hx),trivial⟩ Aa.no (fun p=>Ur N m p.1.1 p.1.2.2.1 p.1.2.2.2.1))
abbrev Wc:Sta:=⟨[0,1],⟨[.sl (.int .i64),.fn 130 [] [.own 0 0]],[.segs [.fn 105 [] []]]⟩⟩
theorem Afd(N:Nat)(s:List Int):ev (Z:=Int) Try.prog (Md N) D8 [Fc N] [] (some Wy) 400 false [.c [0],.c [1]] (stL Wc ((s,((),((),())),()),((((),()),()),()))) (stH Wc ((s,((),((),())),()),((((),()),()),())))=Kg N s:=by kernel_rfl
noncomputable def Va(N:Nat):Spec:={ f:=80,ins:=⟨[.sl (.int .i64),.fn 130 [] [.own 0 0]],[.segs [.fn 105 [] []]]⟩,outs:=[⟨[.i .i64],[.segs [.fn 105 [] []]]⟩],run:=fun p k=>(Kg N p.1.1).bind fun r=>k ((r,()),((((),()),()),())) }
theorem Ui(N:Nat):A0 Try.prog (Va N):=A1 (B:=D8) (loops:=[Fc N]) (leaves:=[]) (fun p=>Kg N p.1.1) (fun r=>((r,()),((((),()),()),()))) Wy (fun _ _ _=>rfl) (fun r z h=>by cases h;rfl) Try.func80 (by kernel_rfl) (by kernel_rfl) (by kernel_rfl) rfl rfl (by kernel_rfl) (fun args w=>Sem.pv_run _ _ _ (by kernel_rfl) w) (Ps N) mixed ⟨Ud N,trivial⟩ (fun z E Xc hE hX hret=>trivial) (fun p=>Afd N p.1.1)

def Ki(N:Nat)(s:List Int):Option Bool:=
 (Kg N s).bind fun x_1=>
 some (decide (0≤x_1))
noncomputable def Vy(N:Nat):List Spec:=[Va N]
theorem A8g(N:Nat):AllP (A0 Try.prog) (Vy N):=⟨Ui N,trivial⟩
noncomputable def As1:Code:=(Try.f93.body).getD .skip
noncomputable abbrev Uo:Body:={ c:=As1,n:=9,res:=[.tmp 4],outs:=[⟨[.b],[.segs [.fn 105 [] []]]⟩],m0:=1 }
abbrev Vo:altD Uo.outs→Option Bool:=fun r=>some r.1.1
abbrev Wt:Sta:=⟨[0,1],⟨[.sl (.int .i64),.fn 130 [] [.own 0 0]],[.segs [.fn 105 [] []]]⟩⟩
theorem Agh(N:Nat)(s:List Int):ev (Z:=Bool) Try.prog (Vy N) Uo [] [] (some Vo) 400 false [.c [0],.c [1]] (stL Wt ((s,((),((),())),()),((((),()),()),()))) (stH Wt ((s,((),((),())),()),((((),()),()),())))=Ki N s:=by kernel_rfl
noncomputable def Vm(N:Nat):Spec:={ f:=93,ins:=⟨[.sl (.int .i64),.fn 130 [] [.own 0 0]],[.segs [.fn 105 [] []]]⟩,outs:=[⟨[.b],[.segs [.fn 105 [] []]]⟩],run:=fun p k=>(Ki N p.1.1).bind fun r=>k ((r,()),((((),()),()),())) }
theorem Ta(N:Nat):A0 Try.prog (Vm N):=A1 (B:=Uo) (loops:=[]) (leaves:=[]) (fun p=>Ki N p.1.1) (fun r=>((r,()),((((),()),()),()))) Vo (fun _ _ _=>rfl) (fun r z h=>by cases h;rfl) Try.func93 (by kernel_rfl) (by kernel_rfl) (by kernel_rfl) rfl rfl (by kernel_rfl) (fun args w=>Sem.pv_run _ _ _ (by kernel_rfl) w) (A8g N) mixed trivial (fun z E Xc hE hX hret=>trivial) (fun p=>Agh N p.1.1)

def D0(N:Nat)(l:List Int):Option Bool:=
 (Ki N l).bind fun x_1=>
 some (!x_1)
noncomputable def Ln(N:Nat):List Spec:=[Vm N]
theorem Sk(N:Nat):AllP (A0 Try.prog) (Ln N):=⟨Ta N,trivial⟩
noncomputable def A6p:Code:=(Try.f101.body).getD .skip
noncomputable abbrev Jg:Body:={ c:=A6p,n:=9,res:=[.tmp 4],outs:=[⟨[.b],[]⟩],m0:=0 }
abbrev Lu:altD Jg.outs→Option Bool:=fun r=>some r.1.1
abbrev Mc:Sta:=⟨[0,1],⟨[.sl (.int .i64),.fn 105 [] []],[]⟩⟩
theorem Xo(N:Nat)(l:List Int):ev (Z:=Bool) Try.prog (Ln N) Jg [] [] (some Lu) 400 false [.c [0],.c [1]] (stL Mc ((l,((),()),()),())) (stH Mc ((l,((),()),()),()))=D0 N l:=by kernel_rfl
noncomputable def Lz(N:Nat):Spec:={ f:=101,ins:=⟨[.sl (.int .i64),.fn 105 [] []],[]⟩,outs:=[⟨[.b],[]⟩],run:=fun p k=>(D0 N p.1.1).bind fun r=>k ((r,()),()) }
theorem N2(N:Nat):A0 Try.prog (Lz N):=A1 (B:=Jg) (loops:=[]) (leaves:=[]) (fun p=>D0 N p.1.1) (fun r=>((r,()),())) Lu (fun _ _ _=>rfl) (fun r z h=>by cases h;rfl) Try.func101 (by kernel_rfl) (by kernel_rfl) (by kernel_rfl) rfl rfl (by kernel_rfl) (fun args w=>Sem.pv_run _ _ _ (by kernel_rfl) w) (Sk N) mixed trivial (fun z E Xc hE hX hret=>trivial) (fun p=>Xo N p.1.1)

def B2(N:Nat)(d:List Int)(d2:Int)(d3:List Qd)(d4:List Qd)(d5:List Int):Option Int:=
 (Ap N (d.length:Int) 1 5).bind fun x_1=>
 br (!x_1)
  (some 2)
  (br (decide (6<(d3.length:Int)))
   (some 2)
   (br (decide (6<(d4.length:Int)))
    (some 2)
    ((Fs N d3 (d,d2,d3,d4,d5)).bind fun x_2=>
    br (!x_2)
     (some 2)
     ((Fs N d4 (d,d2,d3,d4,d5)).bind fun x_3=>
     br (!x_3)
      (some 2)
      (br (!decide ((d5.length:Int)=(d3.length:Int)))
       (some 2)
       ((D1 N d).bind fun x_4=>
       br (!x_4)
        (some 3)
        ((Ap N d2 0 3).bind fun x_5=>
        br (!x_5)
         (some 3)
         ((D0 N d5).bind fun x_6=>
         br (!x_6)
          (some 3)
          ((Fy N d3).bind fun x_7=>
          br (!x_7)
           (some 3)
           ((Fy N d4).bind fun x_8=>
           br (!x_8)
            (some 3)
            (some 0)))))))))))
noncomputable def Bv(N:Nat):List Spec:=[Bb N,A2v N,A5m N,M9 N,Lz N]
theorem Db(N:Nat):AllP (A0 Try.prog) (Bv N):=⟨Am N,A9s N,A9e N,Nb N,N2 N,trivial⟩
noncomputable def N8:Code:=(Try.f68.body).getD .skip
noncomputable abbrev Az:Body:={ c:=N8,n:=75,res:=[.tmp 2],outs:=[⟨[.i .i64],[]⟩],m0:=0 }
abbrev D5:altD Az.outs→Option Int:=fun r=>some r.1.1
abbrev Da:Sta:=⟨[0],⟨[.agg [.sl (.int .i64),.i .i64,.sl Qg,.sl Qg,.sl (.int .i64)]],[]⟩⟩
theorem Ig(N:Nat)(d:List Int)(d2:Int)(d3:List Qd)(d4:List Qd)(d5:List Int):ev (Z:=Int) Try.prog (Bv N) Az [] [] (some D5) 400 false [.c [0],.c [1]] (stL Da (((d,d2,d3,d4,d5,()),()),())) (stH Da (((d,d2,d3,d4,d5,()),()),()))=B2 N d d2 d3 d4 d5:=by kernel_rfl
noncomputable def Cp(N:Nat):Spec:={ f:=68,ins:=⟨[.agg [.sl (.int .i64),.i .i64,.sl Qg,.sl Qg,.sl (.int .i64)]],[]⟩,outs:=[⟨[.i .i64],[]⟩],run:=fun p k=>(B2 N p.1.1.1 p.1.1.2.1 p.1.1.2.2.1 p.1.1.2.2.2.1 p.1.1.2.2.2.2.1).bind fun r=>k ((r,()),()) }
theorem D2(N:Nat):A0 Try.prog (Cp N):=A1 (B:=Az) (loops:=[]) (leaves:=[]) (fun p=>B2 N p.1.1.1 p.1.1.2.1 p.1.1.2.2.1 p.1.1.2.2.2.1 p.1.1.2.2.2.2.1) (fun r=>((r,()),())) D5 (fun _ _ _=>rfl) (fun r z h=>by cases h;rfl) Try.func68 (by kernel_rfl) (by kernel_rfl) (by kernel_rfl) rfl rfl (by kernel_rfl) (fun args w=>Sem.pv_run _ _ _ (by kernel_rfl) w) (Db N) mixed trivial (fun z E Xc hE hX hret=>trivial) (fun p=>Ig N p.1.1.1 p.1.1.2.1 p.1.1.2.2.1 p.1.1.2.2.2.1 p.1.1.2.2.2.2.1)

def Ei(N:Nat)(rec:Int→Qd→Int→Qd→Qx→Int→Int→Qx→Int→Int→Qd→Int→Int→Qd→Int→Qx→Qx→Qd→Qd→Int→Qx→Qx→Qd→Qd→Qd→Option Qn)(i:Int)(a:List Int)(k:Int)(b:List Int)(u:List Qd)(u2:Int)(u3:Int)(u4:List Qd)(u5:Int)(u6:Int)(u7:List Int)(u8:Int)(u9:Int)(d:List Int)(d2:Int)(d3:List Qd)(d4:List Qd)(d5:List Int)(out:List Int)(out2:Int)(out3:List Qd)(out4:List Qd)(out5:List Int)(out6:List Int)(out7:List Int):Option Qn:=
 chk (u9+1)<|
 rec i a k b u u2 u3 u4 u5 u6 u7 u8 (u9+1) d d2 d3 d4 d5 out out2 out3 out4 out5 out6 out7
def opened_l3(N:Nat):Nat→Int→Qd→Int→Qd→Qx→Int→Int→Qx→Int→Int→Qd→Int→Int→Qd→Int→Qx→Qx→Qd→Qd→Int→Qx→Qx→Qd→Qd→Qd→Option Qn
 | 0,_,_,_,_,_,_,_,_,_,_,_,_,_,_,_,_,_,_,_,_,_,_,_,_,_=>none
 | n_+1,i,a,k,b,u,u2,u3,u4,u5,u6,u7,u8,u9,d,d2,d3,d4,d5,out,out2,out3,out4,out5,out6,out7=>
  br (decide (u9<u8))
   (idx u7 u9 fun x_4=>
   br (decide (x_4=-1))
    (Ei N (opened_l3 N n_) i a k b u u2 u3 u4 u5 u6 u7 u8 u9 d d2 d3 d4 d5 out out2 out3 out4 out5 out6 out7)
    (idx b u9 fun x_5=>
    br (decide (x_5=-1))
     (Ei N (opened_l3 N n_) i a k b u u2 u3 u4 u5 u6 u7 u8 u9 d d2 d3 d4 d5 out out2 out3 out4 out5 out6 out7)
     (idx b u9 fun x_6=>
     br (decide (x_4=x_6))
      (rng i 6<|
      rng k 6<|
      get out6 ((i.toNat*6)+k.toNat) fun x_7=>
      idx d u9 fun x_8=>
      chk (x_7+x_8)<|
      rng i 6<|
      rng k 6<|
      get out6 ((i.toNat*6)+k.toNat) fun _=>
      Ei N (opened_l3 N n_) i a k b u u2 u3 u4 u5 u6 u7 u8 u9 d d2 d3 d4 d5 out out2 out3 out4 out5 (out6.set ((i.toNat*6)+k.toNat) (x_7+x_8)) out7)
      (rng i 6<|
      rng k 6<|
      get out7 ((i.toNat*6)+k.toNat) fun x_10=>
      chk (x_10+1)<|
      rng i 6<|
      rng k 6<|
      get out7 ((i.toNat*6)+k.toNat) fun _=>
      Ei N (opened_l3 N n_) i a k b u u2 u3 u4 u5 u6 u7 u8 u9 d d2 d3 d4 d5 out out2 out3 out4 out5 out6 (out7.set ((i.toNat*6)+k.toNat) (x_10+1))))))
   (some ((i,a,u,u2,u3,u4,u5,u6,d,d2,d3,d4,d5,out,out2,out3,out4,out5,out6,out7)))
def opened_l2(N:Nat):Nat→Int→Qd→Qx→Int→Int→Qx→Int→Int→Qd→Int→Qx→Qx→Qd→Qd→Int→Qx→Qx→Qd→Qd→Qd→Option QA
 | 0,_,_,_,_,_,_,_,_,_,_,_,_,_,_,_,_,_,_,_,_=>none
 | n_+1,i,a,u,u2,u3,u4,u5,u6,d,d2,d3,d4,d5,out,out2,out3,out4,out5,out6,out7=>
  br (decide (u6<u5))
   (idx u4 u6 fun x_3=>
   (opened_l3 N N i a u6 x_3 u u2 u3 u4 u5 u6 a (a.length:Int) 0 d d2 d3 d4 d5 out out2 out3 out4 out5 out6 out7).bind fun(i_12,a_13,u_14,u2_15,u3_16,u4_17,u5_18,u6_19,d_20,d2_21,d3_22,d4_23,d5_24,out_25,out2_26,out3_27,out4_28,out5_29,out6_30,out7_31)=>
   chk (u6_19+1)<|
   opened_l2 N n_ i_12 a_13 u_14 u2_15 u3_16 u4_17 u5_18 (u6_19+1) d_20 d2_21 d3_22 d4_23 d5_24 out_25 out2_26 out3_27 out4_28 out5_29 out6_30 out7_31)
   (some ((u,u2,u3,d,d2,d3,d4,d5,out,out2,out3,out4,out5,out6,out7)))
def opened_l1(N:Nat):Nat→Qx→Int→Int→Qd→Int→Qx→Qx→Qd→Qd→Int→Qx→Qx→Qd→Qd→Qd→Option (List Int×Int×List Qd×List Qd×List Int×List Int×List Int)
 | 0,_,_,_,_,_,_,_,_,_,_,_,_,_,_,_=>none
 | n_+1,u,u2,u3,d,d2,d3,d4,d5,out,out2,out3,out4,out5,out6,out7=>
  br (decide (u3<u2))
   (idx u u3 fun x_2=>
   (opened_l2 N N u3 x_2 u u2 u3 d4 (d4.length:Int) 0 d d2 d3 d4 d5 out out2 out3 out4 out5 out6 out7).bind fun(u_32,u2_33,u3_34,d_35,d2_36,d3_37,d4_38,d5_39,out_40,out2_41,out3_42,out4_43,out5_44,out6_45,out7_46)=>
   chk (u3_34+1)<|
   opened_l1 N n_ u_32 u2_33 (u3_34+1) d_35 d2_36 d3_37 d4_38 d5_39 out_40 out2_41 out3_42 out4_43 out5_44 out6_45 out7_46)
   (some ((out,out2,out3,out4,out5,out6,out7)))
def Al(N:Nat)(d:List Int)(d2:Int)(d3:List Qd)(d4:List Qd)(d5:List Int):Option ((Qb×Int)⊕(Int)):=
 (B2 N d d2 d3 d4 d5).bind fun x_1=>
 br (!decide (x_1=0))
  (some (.inr x_1))
  ((opened_l1 N N d3 (d3.length:Int) 0 d d2 d3 d4 d5 d d2 d3 d4 d5 (List.replicate 36 (0:Int)) (List.replicate 36 (0:Int))).bind fun(out_47,out2_48,out3_49,out4_50,out5_51,out6_52,out7_53)=>
  some (.inl ((out_47,out2_48,out3_49,out4_50,out5_51,out6_52,out7_53,()),0)))
noncomputable def B4(N:Nat):List Spec:=[Cp N]
theorem Ba(N:Nat):AllP (A0 Try.prog) (B4 N):=⟨D2 N,trivial⟩
noncomputable def J7:Code:=(Try.f33.body).getD .skip
noncomputable abbrev A7:Body:={ c:=J7,n:=95,res:=[.tmp 2,.tmp 3],outs:=[⟨[.fz [.sl (.int .i64),.i .i64,.sl Qg,.sl Qg,.sl (.int .i64),.arr (.int .i64) 36,.arr (.int .i64) 36],.i .i64],[]⟩,⟨[.nilp,.i .i64],[]⟩],m0:=0 }
abbrev Bs:altD A7.outs→Option ((Qb×Int)⊕(Int)):=fun r=>match r with | .inl r=>some (.inl (r.1.1,r.1.2.1)) | .inr r=>some (.inr r.1.2.1)
abbrev Mw:List PI:=[.c [1,1,1,0,1,0,0,1,1,0,0,1,1,0,0,1,1,0,0,1,1,0,0,0],.c [1,1,1,0,1,0,0,1,1,0,0,1,1,0,0,1,1,0,0,1,1,0,0,1],.l [1,1,1,0,1,0,0,1,1,0,0,1,1,0,0,1,1,0,0,1,1,0,0],.b 4,.b 3,.c [1,1,1,0,1,0,0,1,1,0,0,1,1,0,0,1,1,1],.l [1,1,1,0,1,0,0,1,1,0,0,1,1,0,0],.b 2,.b 1,.c [1,1,1,0,1,0,0,1,1,1],.l [1,1,1,0,1,0,0],.b 0,.c [1,1,1,1]]
abbrev Hh:Sta:=⟨[1,5,6,7,8,9,21,22,23,29,30,31,36,37,38],⟨[.own 0 0,.own 1 0,.i .i64,.sl (.int .i64),.i .i64,.sl (.int .i64),.sl Qg,.i .i64,.i .i64,.sl Qg,.i .i64,.i .i64,.sl (.int .i64),.i .i64,.i .i64],[.segs [.sl (.int .i64),.i .i64,.sl Qg,.sl Qg,.sl (.int .i64)],.segs [.sl (.int .i64),.i .i64,.sl Qg,.sl Qg,.sl (.int .i64),.arr (.int .i64) 36,.arr (.int .i64) 36]]⟩⟩
abbrev Gk(rec:Int→Qd→Int→Qd→Qx→Int→Int→Qx→Int→Int→Qd→Int→Int→Qd→Int→Qx→Qx→Qd→Qd→Int→Qx→Qx→Qd→Qd→Qd→Option Qn):Leaf Qn:=⟨Mw,Hh,fun p=>rec p.1.2.2.1 p.1.2.2.2.1 p.1.2.2.2.2.1 p.1.2.2.2.2.2.1 p.1.2.2.2.2.2.2.1 p.1.2.2.2.2.2.2.2.1 p.1.2.2.2.2.2.2.2.2.1 p.1.2.2.2.2.2.2.2.2.2.1 p.1.2.2.2.2.2.2.2.2.2.2.1 p.1.2.2.2.2.2.2.2.2.2.2.2.1 p.1.2.2.2.2.2.2.2.2.2.2.2.2.1 p.1.2.2.2.2.2.2.2.2.2.2.2.2.2.1 p.1.2.2.2.2.2.2.2.2.2.2.2.2.2.2.1 p.2.1.1 p.2.1.2.1 p.2.1.2.2.1 p.2.1.2.2.2.1 p.2.1.2.2.2.2.1 p.2.2.1.1 p.2.2.1.2.1 p.2.2.1.2.2.1 p.2.2.1.2.2.2.1 p.2.2.1.2.2.2.2.1 p.2.2.1.2.2.2.2.2.1 p.2.2.1.2.2.2.2.2.2.1⟩
abbrev F1:Leaf Qn:=⟨[.c [1,1,1,0,1,0,0,1,1,0,0,1,1,0,0,1,1,1],.l [1,1,1,0,1,0,0,1,1,0,0,1,1,0,0],.b 2,.b 1,.c [1,1,1,0,1,0,0,1,1,1],.l [1,1,1,0,1,0,0],.b 0,.c [1,1,1,1]],⟨[1,5,6,7,21,22,23,29,30,31],⟨[.own 0 0,.own 1 0,.i .i64,.sl (.int .i64),.sl Qg,.i .i64,.i .i64,.sl Qg,.i .i64,.i .i64],[.segs [.sl (.int .i64),.i .i64,.sl Qg,.sl Qg,.sl (.int .i64)],.segs [.sl (.int .i64),.i .i64,.sl Qg,.sl Qg,.sl (.int .i64),.arr (.int .i64) 36,.arr (.int .i64) 36]]⟩⟩,fun p=>some ((p.1.2.2.1,p.1.2.2.2.1,p.1.2.2.2.2.1,p.1.2.2.2.2.2.1,p.1.2.2.2.2.2.2.1,p.1.2.2.2.2.2.2.2.1,p.1.2.2.2.2.2.2.2.2.1,p.1.2.2.2.2.2.2.2.2.2.1,p.2.1.1,p.2.1.2.1,p.2.1.2.2.1,p.2.1.2.2.2.1,p.2.1.2.2.2.2.1,p.2.2.1.1,p.2.2.1.2.1,p.2.2.1.2.2.1,p.2.2.1.2.2.2.1,p.2.2.1.2.2.2.2.1,p.2.2.1.2.2.2.2.2.1,p.2.2.1.2.2.2.2.2.2.1))⟩
abbrev Vg:List PI:=[.c [1,1,1,0,1,0,0,1,1,0,0,1,1,0,0,1,1,0,0,1,1,0,0,1,1,1],.l [1,1,1,0,1,0,0,1,1,0,0,1,1,0,0,1,1,0,0,1,1,0,0],.b 4,.b 3,.c [1,1,1,0,1,0,0,1,1,0,0,1,1,0,0,1,1,1],.l [1,1,1,0,1,0,0,1,1,0,0,1,1,0,0],.b 2,.b 1,.c [1,1,1,0,1,0,0,1,1,1],.l [1,1,1,0,1,0,0],.b 0,.c [1,1,1,1]]
abbrev Mx:Sta:=⟨[1,5,6,7,8,9,21,22,23,29,30,31,36,37,38],⟨[.own 0 0,.own 1 0,.i .i64,.sl (.int .i64),.i .i64,.sl (.int .i64),.sl Qg,.i .i64,.i .i64,.sl Qg,.i .i64,.i .i64,.sl (.int .i64),.i .i64,.i .i64],[.segs [.sl (.int .i64),.i .i64,.sl Qg,.sl Qg,.sl (.int .i64)],.segs [.sl (.int .i64),.i .i64,.sl Qg,.sl Qg,.sl (.int .i64),.arr (.int .i64) 36,.arr (.int .i64) 36]]⟩⟩
abbrev Pl(N:Nat)(rec:Int→Qd→Int→Qd→Qx→Int→Int→Qx→Int→Int→Qd→Int→Int→Qd→Int→Qx→Qx→Qd→Qd→Int→Qx→Qx→Qd→Qd→Qd→Option Qn):Leaf Qn:=⟨Vg,Mx,fun p=>Ei N rec p.1.2.2.1 p.1.2.2.2.1 p.1.2.2.2.2.1 p.1.2.2.2.2.2.1 p.1.2.2.2.2.2.2.1 p.1.2.2.2.2.2.2.2.1 p.1.2.2.2.2.2.2.2.2.1 p.1.2.2.2.2.2.2.2.2.2.1 p.1.2.2.2.2.2.2.2.2.2.2.1 p.1.2.2.2.2.2.2.2.2.2.2.2.1 p.1.2.2.2.2.2.2.2.2.2.2.2.2.1 p.1.2.2.2.2.2.2.2.2.2.2.2.2.2.1 p.1.2.2.2.2.2.2.2.2.2.2.2.2.2.2.1 p.2.1.1 p.2.1.2.1 p.2.1.2.2.1 p.2.1.2.2.2.1 p.2.1.2.2.2.2.1 p.2.2.1.1 p.2.2.1.2.1 p.2.2.1.2.2.1 p.2.2.1.2.2.2.1 p.2.2.1.2.2.2.2.1 p.2.2.1.2.2.2.2.2.1 p.2.2.1.2.2.2.2.2.2.1⟩
theorem Aem(N:Nat)(rec:Int→Qd→Int→Qd→Qx→Int→Int→Qx→Int→Int→Qd→Int→Int→Qd→Int→Qx→Qx→Qd→Qd→Int→Qx→Qx→Qd→Qd→Qd→Option Qn)(i:Int)(a:List Int)(k:Int)(b:List Int)(u:List Qd)(u2:Int)(u3:Int)(u4:List Qd)(u5:Int)(u6:Int)(u7:List Int)(u8:Int)(u9:Int)(d:List Int)(d2:Int)(d3:List Qd)(d4:List Qd)(d5:List Int)(out:List Int)(out2:Int)(out3:List Qd)(out4:List Qd)(out5:List Int)(out6:List Int)(out7:List Int):ev (Z:=Int×List Int×List Qd×Int×Int×List Qd×Int×Int×List Int×Int×List Qd×List Qd×List Int×List Int×Int×List Qd×List Qd×List Int×List Int×List Int) Try.prog (B4 N) A7 [] [Gk rec,F1] none 400 true Vg (stL Mx (((),(),i,a,k,b,u,u2,u3,u4,u5,u6,u7,u8,u9,()),((d,d2,d3,d4,d5,()),(out,out2,out3,out4,out5,out6,out7,()),()))) (stH Mx (((),(),i,a,k,b,u,u2,u3,u4,u5,u6,u7,u8,u9,()),((d,d2,d3,d4,d5,()),(out,out2,out3,out4,out5,out6,out7,()),())))=Ei N rec i a k b u u2 u3 u4 u5 u6 u7 u8 u9 d d2 d3 d4 d5 out out2 out3 out4 out5 out6 out7:=by kernel_rfl
theorem Agn(N:Nat)(rec:Int→Qd→Int→Qd→Qx→Int→Int→Qx→Int→Int→Qd→Int→Int→Qd→Int→Qx→Qx→Qd→Qd→Int→Qx→Qx→Qd→Qd→Qd→Option Qn){z:Int×List Int×List Qd×Int×Int×List Qd×Int×Int×List Int×Int×List Qd×List Qd×List Int×List Int×Int×List Qd×List Qd×List Int×List Int×List Int}{top:Bool}{E:EE}{Xc:Ctx}(hE:EOK A7.m0 E)(hX:CxOK top Xc)(hrec:Ag Try.prog A7.c A7.n A7.m0 E Xc z (Gk rec))(h0:Ag Try.prog A7.c A7.n A7.m0 E Xc z F1):Ag Try.prog A7.c A7.n A7.m0 E Xc z (Pl N rec):=A2 (B:=A7) (loops:=[]) (leaves:=[Gk rec,F1]) (Ba N) mixed trivial hE hX ⟨hrec,h0,trivial⟩ Aa.no (fun p=>Aem N rec p.1.2.2.1 p.1.2.2.2.1 p.1.2.2.2.2.1 p.1.2.2.2.2.2.1 p.1.2.2.2.2.2.2.1 p.1.2.2.2.2.2.2.2.1 p.1.2.2.2.2.2.2.2.2.1 p.1.2.2.2.2.2.2.2.2.2.1 p.1.2.2.2.2.2.2.2.2.2.2.1 p.1.2.2.2.2.2.2.2.2.2.2.2.1 p.1.2.2.2.2.2.2.2.2.2.2.2.2.1 p.1.2.2.2.2.2.2.2.2.2.2.2.2.2.1 p.1.2.2.2.2.2.2.2.2.2.2.2.2.2.2.1 p.2.1.1 p.2.1.2.1 p.2.1.2.2.1 p.2.1.2.2.2.1 p.2.1.2.2.2.2.1 p.2.2.1.1 p.2.2.1.2.1 p.2.2.1.2.2.1 p.2.2.1.2.2.2.1 p.2.2.1.2.2.2.2.1 p.2.2.1.2.2.2.2.2.1 p.2.2.1.2.2.2.2.2.2.1)
noncomputable def Cr(N:Nat):Ai:={ at_:=Mw,sta:=Hh,exits:=[([.c [1,1,1,0,1,0,0,1,1,0,0,1,1,0,0,1,1,1],.l [1,1,1,0,1,0,0,1,1,0,0,1,1,0,0],.b 2,.b 1,.c [1,1,1,0,1,0,0,1,1,1],.l [1,1,1,0,1,0,0],.b 0,.c [1,1,1,1]],⟨[1,5,6,7,21,22,23,29,30,31],⟨[.own 0 0,.own 1 0,.i .i64,.sl (.int .i64),.sl Qg,.i .i64,.i .i64,.sl Qg,.i .i64,.i .i64],[.segs [.sl (.int .i64),.i .i64,.sl Qg,.sl Qg,.sl (.int .i64)],.segs [.sl (.int .i64),.i .i64,.sl Qg,.sl Qg,.sl (.int .i64),.arr (.int .i64) 36,.arr (.int .i64) 36]]⟩⟩)],run:=fun p k=>(opened_l3 N N p.1.2.2.1 p.1.2.2.2.1 p.1.2.2.2.2.1 p.1.2.2.2.2.2.1 p.1.2.2.2.2.2.2.1 p.1.2.2.2.2.2.2.2.1 p.1.2.2.2.2.2.2.2.2.1 p.1.2.2.2.2.2.2.2.2.2.1 p.1.2.2.2.2.2.2.2.2.2.2.1 p.1.2.2.2.2.2.2.2.2.2.2.2.1 p.1.2.2.2.2.2.2.2.2.2.2.2.2.1 p.1.2.2.2.2.2.2.2.2.2.2.2.2.2.1 p.1.2.2.2.2.2.2.2.2.2.2.2.2.2.2.1 p.2.1.1 p.2.1.2.1 p.2.1.2.2.1 p.2.1.2.2.2.1 p.2.1.2.2.2.2.1 p.2.2.1.1 p.2.2.1.2.1 p.2.2.1.2.2.1 p.2.2.1.2.2.2.1 p.2.2.1.2.2.2.2.1 p.2.2.1.2.2.2.2.2.1 p.2.2.1.2.2.2.2.2.2.1).bind fun e=>k (.inl (((),(),e.1,e.2.1,e.2.2.1,e.2.2.2.1,e.2.2.2.2.1,e.2.2.2.2.2.1,e.2.2.2.2.2.2.1,e.2.2.2.2.2.2.2.1,()),((e.2.2.2.2.2.2.2.2.1,e.2.2.2.2.2.2.2.2.2.1,e.2.2.2.2.2.2.2.2.2.2.1,e.2.2.2.2.2.2.2.2.2.2.2.1,e.2.2.2.2.2.2.2.2.2.2.2.2.1,()),(e.2.2.2.2.2.2.2.2.2.2.2.2.2.1,e.2.2.2.2.2.2.2.2.2.2.2.2.2.2.1,e.2.2.2.2.2.2.2.2.2.2.2.2.2.2.2.1,e.2.2.2.2.2.2.2.2.2.2.2.2.2.2.2.2.1,e.2.2.2.2.2.2.2.2.2.2.2.2.2.2.2.2.2.1,e.2.2.2.2.2.2.2.2.2.2.2.2.2.2.2.2.2.2.1,e.2.2.2.2.2.2.2.2.2.2.2.2.2.2.2.2.2.2.2,()),()))) }
theorem Aes(N n_:Nat)(i:Int)(a:List Int)(k:Int)(b:List Int)(u:List Qd)(u2:Int)(u3:Int)(u4:List Qd)(u5:Int)(u6:Int)(u7:List Int)(u8:Int)(u9:Int)(d:List Int)(d2:Int)(d3:List Qd)(d4:List Qd)(d5:List Int)(out:List Int)(out2:Int)(out3:List Qd)(out4:List Qd)(out5:List Int)(out6:List Int)(out7:List Int):ev (Z:=Int×List Int×List Qd×Int×Int×List Qd×Int×Int×List Int×Int×List Qd×List Qd×List Int×List Int×Int×List Qd×List Qd×List Int×List Int×List Int) Try.prog (B4 N) A7 [] [Gk (opened_l3 N n_),F1,Pl N (opened_l3 N n_)] none 400 true Mw (stL Hh (((),(),i,a,k,b,u,u2,u3,u4,u5,u6,u7,u8,u9,()),((d,d2,d3,d4,d5,()),(out,out2,out3,out4,out5,out6,out7,()),()))) (stH Hh (((),(),i,a,k,b,u,u2,u3,u4,u5,u6,u7,u8,u9,()),((d,d2,d3,d4,d5,()),(out,out2,out3,out4,out5,out6,out7,()),())))=opened_l3 N (n_+1) i a k b u u2 u3 u4 u5 u6 u7 u8 u9 d d2 d3 d4 d5 out out2 out3 out4 out5 out6 out7:=by kernel_rfl
theorem N5(N:Nat){top:Bool}:Ab Try.prog A7.c A7.n A7.m0 top (Cr N):=A3 (Z:=Int×List Int×List Qd×Int×Int×List Qd×Int×Int×List Int×Int×List Qd×List Qd×List Int×List Int×Int×List Qd×List Qd×List Int×List Int×List Int) (N:=N) (fun m p=>opened_l3 N m p.1.2.2.1 p.1.2.2.2.1 p.1.2.2.2.2.1 p.1.2.2.2.2.2.1 p.1.2.2.2.2.2.2.1 p.1.2.2.2.2.2.2.2.1 p.1.2.2.2.2.2.2.2.2.1 p.1.2.2.2.2.2.2.2.2.2.1 p.1.2.2.2.2.2.2.2.2.2.2.1 p.1.2.2.2.2.2.2.2.2.2.2.2.1 p.1.2.2.2.2.2.2.2.2.2.2.2.2.1 p.1.2.2.2.2.2.2.2.2.2.2.2.2.2.1 p.1.2.2.2.2.2.2.2.2.2.2.2.2.2.2.1 p.2.1.1 p.2.1.2.1 p.2.1.2.2.1 p.2.1.2.2.2.1 p.2.1.2.2.2.2.1 p.2.2.1.1 p.2.2.1.2.1 p.2.2.1.2.2.1 p.2.2.1.2.2.2.1 p.2.2.1.2.2.2.2.1 p.2.2.1.2.2.2.2.2.1 p.2.2.1.2.2.2.2.2.2.1) (fun e=>.inl (((),(),e.1,e.2.1,e.2.2.1,e.2.2.2.1,e.2.2.2.2.1,e.2.2.2.2.2.1,e.2.2.2.2.2.2.1,e.2.2.2.2.2.2.2.1,()),((e.2.2.2.2.2.2.2.2.1,e.2.2.2.2.2.2.2.2.2.1,e.2.2.2.2.2.2.2.2.2.2.1,e.2.2.2.2.2.2.2.2.2.2.2.1,e.2.2.2.2.2.2.2.2.2.2.2.2.1,()),(e.2.2.2.2.2.2.2.2.2.2.2.2.2.1,e.2.2.2.2.2.2.2.2.2.2.2.2.2.2.1,e.2.2.2.2.2.2.2.2.2.2.2.2.2.2.2.1,e.2.2.2.2.2.2.2.2.2.2.2.2.2.2.2.2.1,e.2.2.2.2.2.2.2.2.2.2.2.2.2.2.2.2.2.1,e.2.2.2.2.2.2.2.2.2.2.2.2.2.2.2.2.2.2.1,e.2.2.2.2.2.2.2.2.2.2.2.2.2.2.2.2.2.2.2,()),()))) (fun _ _ _=>rfl) (fun _=>rfl) (fun m z E Xc hE hX hrec hx=>A2 (B:=A7) (loops:=[]) (leaves:=[Gk (opened_l3 N m),F1,Pl N (opened_l3 N m)]) (Ba N) mixed trivial hE hX ⟨hrec,(fun p hp=>by obtain rfl:=Option.some.inj hp;exact hx),Agn N _ hE hX hrec (fun p hp=>by obtain rfl:=Option.some.inj hp;exact hx),trivial⟩ Aa.no (fun p=>Aes N m p.1.2.2.1 p.1.2.2.2.1 p.1.2.2.2.2.1 p.1.2.2.2.2.2.1 p.1.2.2.2.2.2.2.1 p.1.2.2.2.2.2.2.2.1 p.1.2.2.2.2.2.2.2.2.1 p.1.2.2.2.2.2.2.2.2.2.1 p.1.2.2.2.2.2.2.2.2.2.2.1 p.1.2.2.2.2.2.2.2.2.2.2.2.1 p.1.2.2.2.2.2.2.2.2.2.2.2.2.1 p.1.2.2.2.2.2.2.2.2.2.2.2.2.2.1 p.1.2.2.2.2.2.2.2.2.2.2.2.2.2.2.1 p.2.1.1 p.2.1.2.1 p.2.1.2.2.1 p.2.1.2.2.2.1 p.2.1.2.2.2.2.1 p.2.2.1.1 p.2.2.1.2.1 p.2.2.1.2.2.1 p.2.2.1.2.2.2.1 p.2.2.1.2.2.2.2.1 p.2.2.1.2.2.2.2.2.1 p.2.2.1.2.2.2.2.2.2.1))
abbrev Mq:List PI:=[.c [1,1,1,0,1,0,0,1,1,0,0,1,1,0,0,0],.c [1,1,1,0,1,0,0,1,1,0,0,1,1,0,0,1],.l [1,1,1,0,1,0,0,1,1,0,0,1,1,0,0],.b 2,.b 1,.c [1,1,1,0,1,0,0,1,1,1],.l [1,1,1,0,1,0,0],.b 0,.c [1,1,1,1]]
abbrev Hf:Sta:=⟨[1,5,6,7,21,22,23,29,30,31],⟨[.own 0 0,.own 1 0,.i .i64,.sl (.int .i64),.sl Qg,.i .i64,.i .i64,.sl Qg,.i .i64,.i .i64],[.segs [.sl (.int .i64),.i .i64,.sl Qg,.sl Qg,.sl (.int .i64)],.segs [.sl (.int .i64),.i .i64,.sl Qg,.sl Qg,.sl (.int .i64),.arr (.int .i64) 36,.arr (.int .i64) 36]]⟩⟩
abbrev A0b(rec:Int→Qd→Qx→Int→Int→Qx→Int→Int→Qd→Int→Qx→Qx→Qd→Qd→Int→Qx→Qx→Qd→Qd→Qd→Option QA):Leaf QA:=⟨Mq,Hf,fun p=>rec p.1.2.2.1 p.1.2.2.2.1 p.1.2.2.2.2.1 p.1.2.2.2.2.2.1 p.1.2.2.2.2.2.2.1 p.1.2.2.2.2.2.2.2.1 p.1.2.2.2.2.2.2.2.2.1 p.1.2.2.2.2.2.2.2.2.2.1 p.2.1.1 p.2.1.2.1 p.2.1.2.2.1 p.2.1.2.2.2.1 p.2.1.2.2.2.2.1 p.2.2.1.1 p.2.2.1.2.1 p.2.2.1.2.2.1 p.2.2.1.2.2.2.1 p.2.2.1.2.2.2.2.1 p.2.2.1.2.2.2.2.2.1 p.2.2.1.2.2.2.2.2.2.1⟩
abbrev X4:Leaf QA:=⟨[.c [1,1,1,0,1,0,0,1,1,1],.l [1,1,1,0,1,0,0],.b 0,.c [1,1,1,1]],⟨[1,5,21,22,23],⟨[.own 0 0,.own 1 0,.sl Qg,.i .i64,.i .i64],[.segs [.sl (.int .i64),.i .i64,.sl Qg,.sl Qg,.sl (.int .i64)],.segs [.sl (.int .i64),.i .i64,.sl Qg,.sl Qg,.sl (.int .i64),.arr (.int .i64) 36,.arr (.int .i64) 36]]⟩⟩,fun p=>some ((p.1.2.2.1,p.1.2.2.2.1,p.1.2.2.2.2.1,p.2.1.1,p.2.1.2.1,p.2.1.2.2.1,p.2.1.2.2.2.1,p.2.1.2.2.2.2.1,p.2.2.1.1,p.2.2.1.2.1,p.2.2.1.2.2.1,p.2.2.1.2.2.2.1,p.2.2.1.2.2.2.2.1,p.2.2.1.2.2.2.2.2.1,p.2.2.1.2.2.2.2.2.2.1))⟩
noncomputable def Gb(N:Nat):Ai:={ at_:=Mq,sta:=Hf,exits:=[([.c [1,1,1,0,1,0,0,1,1,1],.l [1,1,1,0,1,0,0],.b 0,.c [1,1,1,1]],⟨[1,5,21,22,23],⟨[.own 0 0,.own 1 0,.sl Qg,.i .i64,.i .i64],[.segs [.sl (.int .i64),.i .i64,.sl Qg,.sl Qg,.sl (.int .i64)],.segs [.sl (.int .i64),.i .i64,.sl Qg,.sl Qg,.sl (.int .i64),.arr (.int .i64) 36,.arr (.int .i64) 36]]⟩⟩)],run:=fun p k=>(opened_l2 N N p.1.2.2.1 p.1.2.2.2.1 p.1.2.2.2.2.1 p.1.2.2.2.2.2.1 p.1.2.2.2.2.2.2.1 p.1.2.2.2.2.2.2.2.1 p.1.2.2.2.2.2.2.2.2.1 p.1.2.2.2.2.2.2.2.2.2.1 p.2.1.1 p.2.1.2.1 p.2.1.2.2.1 p.2.1.2.2.2.1 p.2.1.2.2.2.2.1 p.2.2.1.1 p.2.2.1.2.1 p.2.2.1.2.2.1 p.2.2.1.2.2.2.1 p.2.2.1.2.2.2.2.1 p.2.2.1.2.2.2.2.2.1 p.2.2.1.2.2.2.2.2.2.1).bind fun e=>k (.inl (((),(),e.1,e.2.1,e.2.2.1,()),((e.2.2.2.1,e.2.2.2.2.1,e.2.2.2.2.2.1,e.2.2.2.2.2.2.1,e.2.2.2.2.2.2.2.1,()),(e.2.2.2.2.2.2.2.2.1,e.2.2.2.2.2.2.2.2.2.1,e.2.2.2.2.2.2.2.2.2.2.1,e.2.2.2.2.2.2.2.2.2.2.2.1,e.2.2.2.2.2.2.2.2.2.2.2.2.1,e.2.2.2.2.2.2.2.2.2.2.2.2.2.1,e.2.2.2.2.2.2.2.2.2.2.2.2.2.2,()),()))) }
theorem Ae1(N n_:Nat)(i:Int)(a:List Int)(u:List Qd)(u2:Int)(u3:Int)(u4:List Qd)(u5:Int)(u6:Int)(d:List Int)(d2:Int)(d3:List Qd)(d4:List Qd)(d5:List Int)(out:List Int)(out2:Int)(out3:List Qd)(out4:List Qd)(out5:List Int)(out6:List Int)(out7:List Int):ev (Z:=List Qd×Int×Int×List Int×Int×List Qd×List Qd×List Int×List Int×Int×List Qd×List Qd×List Int×List Int×List Int) Try.prog (B4 N) A7 [Cr N] [A0b (opened_l2 N n_),X4] none 400 true Mq (stL Hf (((),(),i,a,u,u2,u3,u4,u5,u6,()),((d,d2,d3,d4,d5,()),(out,out2,out3,out4,out5,out6,out7,()),()))) (stH Hf (((),(),i,a,u,u2,u3,u4,u5,u6,()),((d,d2,d3,d4,d5,()),(out,out2,out3,out4,out5,out6,out7,()),())))=opened_l2 N (n_+1) i a u u2 u3 u4 u5 u6 d d2 d3 d4 d5 out out2 out3 out4 out5 out6 out7:=by kernel_rfl
theorem X6(N:Nat){top:Bool}:Ab Try.prog A7.c A7.n A7.m0 top (Gb N):=A3 (Z:=List Qd×Int×Int×List Int×Int×List Qd×List Qd×List Int×List Int×Int×List Qd×List Qd×List Int×List Int×List Int) (N:=N) (fun m p=>opened_l2 N m p.1.2.2.1 p.1.2.2.2.1 p.1.2.2.2.2.1 p.1.2.2.2.2.2.1 p.1.2.2.2.2.2.2.1 p.1.2.2.2.2.2.2.2.1 p.1.2.2.2.2.2.2.2.2.1 p.1.2.2.2.2.2.2.2.2.2.1 p.2.1.1 p.2.1.2.1 p.2.1.2.2.1 p.2.1.2.2.2.1 p.2.1.2.2.2.2.1 p.2.2.1.1 p.2.2.1.2.1 p.2.2.1.2.2.1 p.2.2.1.2.2.2.1 p.2.2.1.2.2.2.2.1 p.2.2.1.2.2.2.2.2.1 p.2.2.1.2.2.2.2.2.2.1) (fun e=>.inl (((),(),e.1,e.2.1,e.2.2.1,()),((e.2.2.2.1,e.2.2.2.2.1,e.2.2.2.2.2.1,e.2.2.2.2.2.2.1,e.2.2.2.2.2.2.2.1,()),(e.2.2.2.2.2.2.2.2.1,e.2.2.2.2.2.2.2.2.2.1,e.2.2.2.2.2.2.2.2.2.2.1,e.2.2.2.2.2.2.2.2.2.2.2.1,e.2.2.2.2.2.2.2.2.2.2.2.2.1,e.2.2.2.2.2.2.2.2.2.2.2.2.2.1,e.2.2.2.2.2.2.2.2.2.2.2.2.2.2,()),()))) (fun _ _ _=>rfl) (fun _=>rfl) (fun m z E Xc hE hX hrec hx=>A2 (B:=A7) (loops:=[Cr N]) (leaves:=[A0b (opened_l2 N m),X4]) (Ba N) mixed ⟨N5 N,trivial⟩ hE hX ⟨hrec,(fun p hp=>by obtain rfl:=Option.some.inj hp;exact hx),trivial⟩ Aa.no (fun p=>Ae1 N m p.1.2.2.1 p.1.2.2.2.1 p.1.2.2.2.2.1 p.1.2.2.2.2.2.1 p.1.2.2.2.2.2.2.1 p.1.2.2.2.2.2.2.2.1 p.1.2.2.2.2.2.2.2.2.1 p.1.2.2.2.2.2.2.2.2.2.1 p.2.1.1 p.2.1.2.1 p.2.1.2.2.1 p.2.1.2.2.2.1 p.2.1.2.2.2.2.1 p.2.2.1.1 p.2.2.1.2.1 p.2.2.1.2.2.1 p.2.2.1.2.2.2.1 p.2.2.1.2.2.2.2.1 p.2.2.1.2.2.2.2.2.1 p.2.2.1.2.2.2.2.2.2.1))
abbrev C5:List PI:=[.c [1,1,1,0,1,0,0,0],.c [1,1,1,0,1,0,0,1],.l [1,1,1,0,1,0,0],.b 0,.c [1,1,1,1]]
abbrev Bc:Sta:=⟨[1,5,21,22,23],⟨[.own 0 0,.own 1 0,.sl Qg,.i .i64,.i .i64],[.segs [.sl (.int .i64),.i .i64,.sl Qg,.sl Qg,.sl (.int .i64)],.segs [.sl (.int .i64),.i .i64,.sl Qg,.sl Qg,.sl (.int .i64),.arr (.int .i64) 36,.arr (.int .i64) 36]]⟩⟩
abbrev Gu(rec:Qx→Int→Int→Qd→Int→Qx→Qx→Qd→Qd→Int→Qx→Qx→Qd→Qd→Qd→Option (List Int×Int×List Qd×List Qd×List Int×List Int×List Int)):Leaf (List Int×Int×List Qd×List Qd×List Int×List Int×List Int):=⟨C5,Bc,fun p=>rec p.1.2.2.1 p.1.2.2.2.1 p.1.2.2.2.2.1 p.2.1.1 p.2.1.2.1 p.2.1.2.2.1 p.2.1.2.2.2.1 p.2.1.2.2.2.2.1 p.2.2.1.1 p.2.2.1.2.1 p.2.2.1.2.2.1 p.2.2.1.2.2.2.1 p.2.2.1.2.2.2.2.1 p.2.2.1.2.2.2.2.2.1 p.2.2.1.2.2.2.2.2.2.1⟩
abbrev Ev:Leaf (List Int×Int×List Qd×List Qd×List Int×List Int×List Int):=⟨[.c [1,1,1,1,0],.c [1,1,1,1,1]],⟨[5],⟨[.own 0 0],[.segs [.sl (.int .i64),.i .i64,.sl Qg,.sl Qg,.sl (.int .i64),.arr (.int .i64) 36,.arr (.int .i64) 36]]⟩⟩,fun p=>some ((p.2.1.1,p.2.1.2.1,p.2.1.2.2.1,p.2.1.2.2.2.1,p.2.1.2.2.2.2.1,p.2.1.2.2.2.2.2.1,p.2.1.2.2.2.2.2.2.1))⟩
noncomputable def Cv(N:Nat):Ai:={ at_:=C5,sta:=Bc,exits:=[([.c [1,1,1,1,0],.c [1,1,1,1,1]],⟨[5],⟨[.own 0 0],[.segs [.sl (.int .i64),.i .i64,.sl Qg,.sl Qg,.sl (.int .i64),.arr (.int .i64) 36,.arr (.int .i64) 36]]⟩⟩)],run:=fun p k=>(opened_l1 N N p.1.2.2.1 p.1.2.2.2.1 p.1.2.2.2.2.1 p.2.1.1 p.2.1.2.1 p.2.1.2.2.1 p.2.1.2.2.2.1 p.2.1.2.2.2.2.1 p.2.2.1.1 p.2.2.1.2.1 p.2.2.1.2.2.1 p.2.2.1.2.2.2.1 p.2.2.1.2.2.2.2.1 p.2.2.1.2.2.2.2.2.1 p.2.2.1.2.2.2.2.2.2.1).bind fun e=>k (.inl (((),()),((e.1,e.2.1,e.2.2.1,e.2.2.2.1,e.2.2.2.2.1,e.2.2.2.2.2.1,e.2.2.2.2.2.2,()),()))) }
theorem Mi(N n_:Nat)(u:List Qd)(u2:Int)(u3:Int)(d:List Int)(d2:Int)(d3:List Qd)(d4:List Qd)(d5:List Int)(out:List Int)(out2:Int)(out3:List Qd)(out4:List Qd)(out5:List Int)(out6:List Int)(out7:List Int):ev (Z:=List Int×Int×List Qd×List Qd×List Int×List Int×List Int) Try.prog (B4 N) A7 [Cr N,Gb N] [Gu (opened_l1 N n_),Ev] none 400 true C5 (stL Bc (((),(),u,u2,u3,()),((d,d2,d3,d4,d5,()),(out,out2,out3,out4,out5,out6,out7,()),()))) (stH Bc (((),(),u,u2,u3,()),((d,d2,d3,d4,d5,()),(out,out2,out3,out4,out5,out6,out7,()),())))=opened_l1 N (n_+1) u u2 u3 d d2 d3 d4 d5 out out2 out3 out4 out5 out6 out7:=by kernel_rfl
theorem Mu(N:Nat){top:Bool}:Ab Try.prog A7.c A7.n A7.m0 top (Cv N):=A3 (Z:=List Int×Int×List Qd×List Qd×List Int×List Int×List Int) (N:=N) (fun m p=>opened_l1 N m p.1.2.2.1 p.1.2.2.2.1 p.1.2.2.2.2.1 p.2.1.1 p.2.1.2.1 p.2.1.2.2.1 p.2.1.2.2.2.1 p.2.1.2.2.2.2.1 p.2.2.1.1 p.2.2.1.2.1 p.2.2.1.2.2.1 p.2.2.1.2.2.2.1 p.2.2.1.2.2.2.2.1 p.2.2.1.2.2.2.2.2.1 p.2.2.1.2.2.2.2.2.2.1) (fun e=>.inl (((),()),((e.1,e.2.1,e.2.2.1,e.2.2.2.1,e.2.2.2.2.1,e.2.2.2.2.2.1,e.2.2.2.2.2.2,()),()))) (fun _ _ _=>rfl) (fun _=>rfl) (fun m z E Xc hE hX hrec hx=>A2 (B:=A7) (loops:=[Cr N,Gb N]) (leaves:=[Gu (opened_l1 N m),Ev]) (Ba N) mixed ⟨N5 N,X6 N,trivial⟩ hE hX ⟨hrec,(fun p hp=>by obtain rfl:=Option.some.inj hp;exact hx),trivial⟩ Aa.no (fun p=>Mi N m p.1.2.2.1 p.1.2.2.2.1 p.1.2.2.2.2.1 p.2.1.1 p.2.1.2.1 p.2.1.2.2.1 p.2.1.2.2.2.1 p.2.1.2.2.2.2.1 p.2.2.1.1 p.2.2.1.2.1 p.2.2.1.2.2.1 p.2.2.1.2.2.2.1 p.2.2.1.2.2.2.2.1 p.2.2.1.2.2.2.2.2.1 p.2.2.1.2.2.2.2.2.2.1))
abbrev Bz:Sta:=⟨[0],⟨[.agg [.sl (.int .i64),.i .i64,.sl Qg,.sl Qg,.sl (.int .i64)]],[]⟩⟩
theorem Ft(N:Nat)(d:List Int)(d2:Int)(d3:List Qd)(d4:List Qd)(d5:List Int):ev (Z:=(Qb×Int)⊕(Int)) Try.prog (B4 N) A7 [Cr N,Gb N,Cv N] [] (some Bs) 400 false [.c [0],.c [1]] (stL Bz (((d,d2,d3,d4,d5,()),()),())) (stH Bz (((d,d2,d3,d4,d5,()),()),()))=Al N d d2 d3 d4 d5:=by kernel_rfl
noncomputable def Bw(N:Nat):Spec:={ f:=33,ins:=⟨[.agg [.sl (.int .i64),.i .i64,.sl Qg,.sl Qg,.sl (.int .i64)]],[]⟩,outs:=[⟨[.fz [.sl (.int .i64),.i .i64,.sl Qg,.sl Qg,.sl (.int .i64),.arr (.int .i64) 36,.arr (.int .i64) 36],.i .i64],[]⟩,⟨[.nilp,.i .i64],[]⟩],run:=fun p k=>(Al N p.1.1.1 p.1.1.2.1 p.1.1.2.2.1 p.1.1.2.2.2.1 p.1.1.2.2.2.2.1).bind fun r=>match r with | .inl r=>k (.inl ((r.1,r.2,()),())) | .inr r=>k (.inr (((),r,()),())) }
theorem Cb(N:Nat):A0 Try.prog (Bw N):=A1 (B:=A7) (loops:=[Cr N,Gb N,Cv N]) (leaves:=[]) (fun p=>Al N p.1.1.1 p.1.1.2.1 p.1.1.2.2.1 p.1.1.2.2.2.1 p.1.1.2.2.2.2.1) (fun r=>match r with | .inl r=>(.inl ((r.1,r.2,()),())) | .inr r=>(.inr (((),r,()),()))) Bs (fun _ p k=>A9 (Al N p.1.1.1 p.1.1.2.1 p.1.1.2.2.1 p.1.1.2.2.2.1 p.1.1.2.2.2.2.1) _ _ (fun e=>by rcases e with x | x<;>rfl)) (fun r z h=>by rcases r with x | x<;>(cases h;rfl)) Try.func33 (by kernel_rfl) (by kernel_rfl) (by kernel_rfl) rfl rfl (by kernel_rfl) (fun args w=>Sem.pv_run _ _ _ (by kernel_rfl) w) (Ba N) mixed ⟨N5 N,X6 N,Mu N,trivial⟩ (fun z E Xc hE hX hret=>trivial) (fun p=>Ft N p.1.1.1 p.1.1.2.1 p.1.1.2.2.1 p.1.1.2.2.2.1 p.1.1.2.2.2.2.1)

def Acr(N:Nat)(d:List Int×Int×List Qd×List Qd×List Int×List Int×List Int×Unit)(lost:Int)(found:Int):Option Bool:=
 rng lost 6<|
 rng found 6<|
 get d.2.2.2.2.2.1 ((lost.toNat*6)+found.toNat) fun x_1=>
 br (decide (0<x_1))
  (rng lost 6<|
  rng found 6<|
  get d.2.2.2.2.2.2.1 ((lost.toNat*6)+found.toNat) fun x_2=>
  some (decide (x_2≤d.2.1)))
  (some false)
noncomputable def B1c(N:Nat):List Spec:=[]
theorem B3t(N:Nat):AllP (A0 Try.prog) (B1c N):=trivial
noncomputable def B7i:Code:=(Try.f38.body).getD .skip
noncomputable abbrev B2a:Body:={ c:=B7i,n:=32,res:=[.tmp 6],outs:=[⟨[.b],[]⟩],m0:=0 }
abbrev B28:altD B2a.outs→Option Bool:=fun r=>some r.1.1
abbrev B17:Sta:=⟨[0,1,2],⟨[.fz [.sl (.int .i64),.i .i64,.sl Qg,.sl Qg,.sl (.int .i64),.arr (.int .i64) 36,.arr (.int .i64) 36],.i .i64,.i .i64],[]⟩⟩
theorem B5r(N:Nat)(d:List Int×Int×List Qd×List Qd×List Int×List Int×List Int×Unit)(lost:Int)(found:Int):ev (Z:=Bool) Try.prog (B1c N) B2a [] [] (some B28) 400 false [.c [0],.c [1]] (stL B17 ((d,lost,found,()),())) (stH B17 ((d,lost,found,()),()))=Acr N d lost found:=by kernel_rfl
noncomputable def B6s(N:Nat):Spec:={ f:=38,ins:=⟨[.fz [.sl (.int .i64),.i .i64,.sl Qg,.sl Qg,.sl (.int .i64),.arr (.int .i64) 36,.arr (.int .i64) 36],.i .i64,.i .i64],[]⟩,outs:=[⟨[.b],[]⟩],run:=fun p k=>(Acr N p.1.1 p.1.2.1 p.1.2.2.1).bind fun r=>k ((r,()),()) }
theorem Aw4(N:Nat):A0 Try.prog (B6s N):=A1 (B:=B2a) (loops:=[]) (leaves:=[]) (fun p=>Acr N p.1.1 p.1.2.1 p.1.2.2.1) (fun r=>((r,()),())) B28 (fun _ _ _=>rfl) (fun r z h=>by cases h;rfl) Try.func38 (by kernel_rfl) (by kernel_rfl) (by kernel_rfl) rfl rfl (by kernel_rfl) (fun args w=>Sem.pv_run _ _ _ (by kernel_rfl) w) (B3t N) mixed trivial (fun z E Xc hE hX hret=>trivial) (fun p=>B5r N p.1.1 p.1.2.1 p.1.2.2.1)

def Fu(N:Nat)(rec:Qb→Qd→Int→Int→Qd→Option Qd)(d:List Int×Int×List Qd×List Qd×List Int×List Int×List Int×Unit)(u:List Int)(u2:Int)(u3:Int)(l:List Int):Option Qd:=
 chk (u3+1)<|
 rec d u u2 (u3+1) l
def dreward_l1(N:Nat):Nat→Qb→Qd→Int→Int→Qd→Option Qd
 | 0,_,_,_,_,_=>none
 | n_+1,d,u,u2,u3,l=>
  br (decide (u3<u2))
   (idx u u3 fun x_1=>
   br (!decide (x_1=-1))
    (idx d.2.2.2.2.1 u3 fun x_2=>
    lim (l.length+[x_2].length)<|
    Fu N (dreward_l1 N n_) d u u2 u3 (l++[x_2]))
    (Fu N (dreward_l1 N n_) d u u2 u3 l))
   (some (l))
def Hq(N:Nat)(d:List Int×Int×List Qd×List Qd×List Int×List Int×List Int×Unit)(joins:List Int):Option Int:=
 (dreward_l1 N N d joins (joins.length:Int) 0 []).bind fun l_3=>
 (Oe N l_3).bind fun x_4=>
 some x_4
noncomputable def Nx(N:Nat):List Spec:=[A33 N]
theorem P9(N:Nat):AllP (A0 Try.prog) (Nx N):=⟨Yd N,trivial⟩
noncomputable def Avx:Code:=(Try.f56.body).getD .skip
noncomputable abbrev Aq:Body:={ c:=Avx,n:=31,res:=[.tmp 4],outs:=[⟨[.i .i64],[]⟩],m0:=0 }
abbrev A55:altD Aq.outs→Option Int:=fun r=>some r.1.1
abbrev Kk:List PI:=[.c [1,1,0,1,0,0,0],.c [1,1,0,1,0,0,1],.l [1,1,0,1,0,0],.b 0,.c [1,1,1]]
abbrev G6:Sta:=⟨[0,5,8,9,10],⟨[.fz [.sl (.int .i64),.i .i64,.sl Qg,.sl Qg,.sl (.int .i64),.arr (.int .i64) 36,.arr (.int .i64) 36],.ols 0,.sl (.int .i64),.i .i64,.i .i64],[.lst (.int .i64)]⟩⟩
abbrev F2(rec:Qb→Qd→Int→Int→Qd→Option Qd):Leaf Qd:=⟨Kk,G6,fun p=>rec p.1.1 p.1.2.2.1 p.1.2.2.2.1 p.1.2.2.2.2.1 p.2.1⟩
abbrev Du:Leaf Qd:=⟨[.c [1,1,1,0],.c [1,1,1,1]],⟨[5],⟨[.ols 0],[.lst (.int .i64)]⟩⟩,fun p=>some (p.2.1)⟩
abbrev S8:List PI:=[.c [1,1,0,1,0,0,1,1,1],.l [1,1,0,1,0,0],.b 0,.c [1,1,1]]
abbrev Kh:Sta:=⟨[0,5,8,9,10],⟨[.fz [.sl (.int .i64),.i .i64,.sl Qg,.sl Qg,.sl (.int .i64),.arr (.int .i64) 36,.arr (.int .i64) 36],.ols 0,.sl (.int .i64),.i .i64,.i .i64],[.lst (.int .i64)]⟩⟩
abbrev Mg(N:Nat)(rec:Qb→Qd→Int→Int→Qd→Option Qd):Leaf Qd:=⟨S8,Kh,fun p=>Fu N rec p.1.1 p.1.2.2.1 p.1.2.2.2.1 p.1.2.2.2.2.1 p.2.1⟩
theorem Aa0(N:Nat)(rec:Qb→Qd→Int→Int→Qd→Option Qd)(d:List Int×Int×List Qd×List Qd×List Int×List Int×List Int×Unit)(u:List Int)(u2:Int)(u3:Int)(l:List Int):ev (Z:=List Int) Try.prog (Nx N) Aq [] [F2 rec,Du] none 400 true S8 (stL Kh ((d,(),u,u2,u3,()),(l,()))) (stH Kh ((d,(),u,u2,u3,()),(l,())))=Fu N rec d u u2 u3 l:=by kernel_rfl
theorem A8z(N:Nat)(rec:Qb→Qd→Int→Int→Qd→Option Qd){z:List Int}{top:Bool}{E:EE}{Xc:Ctx}(hE:EOK Aq.m0 E)(hX:CxOK top Xc)(hrec:Ag Try.prog Aq.c Aq.n Aq.m0 E Xc z (F2 rec))(h0:Ag Try.prog Aq.c Aq.n Aq.m0 E Xc z Du):Ag Try.prog Aq.c Aq.n Aq.m0 E Xc z (Mg N rec):=A2 (B:=Aq) (loops:=[]) (leaves:=[F2 rec,Du]) (P9 N) mixed trivial hE hX ⟨hrec,h0,trivial⟩ Aa.no (fun p=>Aa0 N rec p.1.1 p.1.2.2.1 p.1.2.2.2.1 p.1.2.2.2.2.1 p.2.1)
noncomputable def Mm(N:Nat):Ai:={ at_:=Kk,sta:=G6,exits:=[([.c [1,1,1,0],.c [1,1,1,1]],⟨[5],⟨[.ols 0],[.lst (.int .i64)]⟩⟩)],run:=fun p k=>(dreward_l1 N N p.1.1 p.1.2.2.1 p.1.2.2.2.1 p.1.2.2.2.2.1 p.2.1).bind fun e=>k (.inl (((),()),(e,()))) }
theorem A9t(N n_:Nat)(d:List Int×Int×List Qd×List Qd×List Int×List Int×List Int×Unit)(u:List Int)(u2:Int)(u3:Int)(l:List Int):ev (Z:=List Int) Try.prog (Nx N) Aq [] [F2 (dreward_l1 N n_),Du,Mg N (dreward_l1 N n_)] none 400 true Kk (stL G6 ((d,(),u,u2,u3,()),(l,()))) (stH G6 ((d,(),u,u2,u3,()),(l,())))=dreward_l1 N (n_+1) d u u2 u3 l:=by kernel_rfl
theorem A91(N:Nat){top:Bool}:Ab Try.prog Aq.c Aq.n Aq.m0 top (Mm N):=A3 (Z:=List Int) (N:=N) (fun m p=>dreward_l1 N m p.1.1 p.1.2.2.1 p.1.2.2.2.1 p.1.2.2.2.2.1 p.2.1) (fun e=>.inl (((),()),(e,()))) (fun _ _ _=>rfl) (fun _=>rfl) (fun m z E Xc hE hX hrec hx=>A2 (B:=Aq) (loops:=[]) (leaves:=[F2 (dreward_l1 N m),Du,Mg N (dreward_l1 N m)]) (P9 N) mixed trivial hE hX ⟨hrec,(fun p hp=>by obtain rfl:=Option.some.inj hp;exact hx),A8z N _ hE hX hrec (fun p hp=>by obtain rfl:=Option.some.inj hp;exact hx),trivial⟩ Aa.no (fun p=>A9t N m p.1.1 p.1.2.2.1 p.1.2.2.2.1 p.1.2.2.2.2.1 p.2.1))
abbrev A8s:Sta:=⟨[0,1],⟨[.fz [.sl (.int .i64),.i .i64,.sl Qg,.sl Qg,.sl (.int .i64),.arr (.int .i64) 36,.arr (.int .i64) 36],.sl (.int .i64)],[]⟩⟩
theorem Aon(N:Nat)(d:List Int×Int×List Qd×List Qd×List Int×List Int×List Int×Unit)(joins:List Int):ev (Z:=Int) Try.prog (Nx N) Aq [Mm N] [] (some A55) 400 false [.c [0],.c [1]] (stL A8s ((d,joins,()),())) (stH A8s ((d,joins,()),()))=Hq N d joins:=by kernel_rfl
noncomputable def A3l(N:Nat):Spec:={ f:=56,ins:=⟨[.fz [.sl (.int .i64),.i .i64,.sl Qg,.sl Qg,.sl (.int .i64),.arr (.int .i64) 36,.arr (.int .i64) 36],.sl (.int .i64)],[]⟩,outs:=[⟨[.i .i64],[]⟩],run:=fun p k=>(Hq N p.1.1 p.1.2.1).bind fun r=>k ((r,()),()) }
theorem A9n(N:Nat):A0 Try.prog (A3l N):=A1 (B:=Aq) (loops:=[Mm N]) (leaves:=[]) (fun p=>Hq N p.1.1 p.1.2.1) (fun r=>((r,()),())) A55 (fun _ _ _=>rfl) (fun r z h=>by cases h;rfl) Try.func56 (by kernel_rfl) (by kernel_rfl) (by kernel_rfl) rfl rfl (by kernel_rfl) (fun args w=>Sem.pv_run _ _ _ (by kernel_rfl) w) (P9 N) mixed ⟨A91 N,trivial⟩ (fun z E Xc hE hX hret=>trivial) (fun p=>Aon N p.1.1 p.1.2.1)

def made1_S(N:Nat)(often:Int)(g:List Int)(g2:Int)(g3:Int):Option (Int×List Int×Int×Int):=
 (Jb N often g g2 g3).bind fun(x_1,y_2,y_3,y_4)=>
 br x_1
  (some (-1,y_2,y_3,y_4))
  ((B8 N 2 y_2 y_3 y_4).bind fun(x_5,y_6,y_7,y_8)=>
  some (x_5,y_6,y_7,y_8))
noncomputable def Amp(N:Nat):List Spec:=[Hs N,Ym N]
theorem Awq(N:Nat):AllP (A0 Try.prog) (Amp N):=⟨F7 N,Vv N,trivial⟩
noncomputable def B33:Code:=(Try.f32.body).getD .skip
noncomputable abbrev Aew:Body:={ c:=B33,n:=9,res:=[.tmp 3],outs:=[⟨[.i .i64],[.segs [.own 1 0],.segs [.sl (.int .u8),.i .i64,.i .u32]]⟩],m0:=2 }
abbrev Aic:altD Aew.outs→Option (Int×List Int×Int×Int):=fun r=>some (r.1.1,r.2.2.1.1,r.2.2.1.2.1,r.2.2.1.2.2.1)
abbrev Ahz:Sta:=⟨[0,1],⟨[.i .i64,.own 0 0],[.segs [.own 1 0],.segs [.sl (.int .u8),.i .i64,.i .u32]]⟩⟩
theorem B1l(N:Nat)(often:Int)(g:List Int)(g2:Int)(g3:Int):ev (Z:=Int×List Int×Int×Int) Try.prog (Amp N) Aew [] [] (some Aic) 400 false [.c [0],.c [1]] (stL Ahz ((often,(),()),(((),()),(g,g2,g3,()),()))) (stH Ahz ((often,(),()),(((),()),(g,g2,g3,()),())))=made1_S N often g g2 g3:=by kernel_rfl
noncomputable def Aki(N:Nat):Spec:={ f:=32,ins:=⟨[.i .i64,.own 0 0],[.segs [.own 1 0],.segs [.sl (.int .u8),.i .i64,.i .u32]]⟩,outs:=[⟨[.i .i64],[.segs [.own 1 0],.segs [.sl (.int .u8),.i .i64,.i .u32]]⟩],run:=fun p k=>(made1_S N p.1.1 p.2.2.1.1 p.2.2.1.2.1 p.2.2.1.2.2.1).bind fun r=>k ((r.1,()),(((),()),(r.2.1,r.2.2.1,r.2.2.2,()),())) }
theorem Aho(N:Nat):A0 Try.prog (Aki N):=A1 (B:=Aew) (loops:=[]) (leaves:=[]) (fun p=>made1_S N p.1.1 p.2.2.1.1 p.2.2.1.2.1 p.2.2.1.2.2.1) (fun r=>((r.1,()),(((),()),(r.2.1,r.2.2.1,r.2.2.2,()),()))) Aic (fun _ _ _=>rfl) (fun r z h=>by cases h;rfl) Try.func32 (by kernel_rfl) (by kernel_rfl) (by kernel_rfl) rfl rfl (by kernel_rfl) (fun args w=>Sem.pv_run _ _ _ (by kernel_rfl) w) (Awq N) mixed trivial (fun z E Xc hE hX hret=>trivial) (fun p=>B1l N p.1.1 p.2.2.1.1 p.2.2.1.2.1 p.2.2.1.2.2.1)

def made_l1(N:Nat):Nat→Int→Int→Int→Qd→Int→Int→Int→Int→Qd→Option (Int×List Int×Int×Int×Int×Int×List Int)
 | 0,_,_,_,_,_,_,_,_,_=>none
 | n_+1,things,u,u2,b,b2,b3,g,d,d2=>
  br (decide (u2<u))
   ((D6 N 1 9 b b2 b3).bind fun(x_9,y_10,y_11,y_12)=>
   lim (d2.length+[x_9].length)<|
   chk (u2+1)<|
   made_l1 N n_ things u (u2+1) y_10 y_11 y_12 g d (d2++[x_9]))
   (some ((things,b,b2,b3,g,d,d2)))
def made_l3(N:Nat):Nat→Int→Int→Int→Int→Int→Int→Qd→Int→Int→Int→Int→Qd→Qd→Qx→Qd→Option QJ
 | 0,_,_,_,_,_,_,_,_,_,_,_,_,_,_,_=>none
 | n_+1,many,often,u,u2,u3,u4,b,b2,b3,g,d,l,d2,d3,d4=>
  br (decide (u4<u3))
   ((made1_S N often b b2 b3).bind fun(x_32,y_33,y_34,y_35)=>
   lim (l.length+[x_32].length)<|
   chk (u4+1)<|
   made_l3 N n_ many often u u2 u3 (u4+1) y_33 y_34 y_35 g d (l++[x_32]) d2 d3 d4)
   (some ((many,often,u,u2,b,b2,b3,g,d,l,d2,d3,d4)))
def made_l2(N:Nat):Nat→Int→Int→Int→Int→Qd→Int→Int→Int→Int→Qd→Qx→Qd→Option (Int×Int×List Int×Int×Int×Int×Int×List Int×List Qd×List Int)
 | 0,_,_,_,_,_,_,_,_,_,_,_,_=>none
 | n_+1,many,often,u,u2,b,b2,b3,g,d,d2,d3,d4=>
  br (decide (u2<u))
   ((made_l3 N N many often u u2 (d2.length:Int) 0 b b2 b3 g d [] d2 d3 d4).bind fun(many_36,often_37,u_38,u2_39,b_40,b2_41,b3_42,g_43,d_44,l_45,d2_46,d3_47,d4_48)=>
   lim (d3_47.length+[l_45].length)<|
   (B8 N 30 b_40 b2_41 b3_42).bind fun(x_49,y_50,y_51,y_52)=>
   lim (d4_48.length+[x_49].length)<|
   chk (u2_39+1)<|
   made_l2 N n_ many_36 often_37 u_38 (u2_39+1) y_50 y_51 y_52 g_43 d_44 d2_46 (d3_47++[l_45]) (d4_48++[x_49]))
   (some ((many,often,b,b2,b3,g,d,d2,d3,d4)))
def made_l5(N:Nat):Nat→Int→Int→Int→Int→Int→Qd→Int→Int→Int→Int→Qd→Qd→Qx→Qx→Qd→Option QH
 | 0,_,_,_,_,_,_,_,_,_,_,_,_,_,_,_=>none
 | n_+1,often,u,u2,u3,u4,value,value2,value3,g,d,l,d2,d3,d4,d5=>
  br (decide (u4<u3))
   ((made1_S N often value value2 value3).bind fun(x_63,y_64,y_65,y_66)=>
   lim (l.length+[x_63].length)<|
   chk (u4+1)<|
   made_l5 N n_ often u u2 u3 (u4+1) y_64 y_65 y_66 g d (l++[x_63]) d2 d3 d4 d5)
   (some ((often,u,u2,value,value2,value3,g,d,l,d2,d3,d4,d5)))
def made_l4(N:Nat):Nat→Int→Int→Int→Qd→Int→Int→Int→Int→Qd→Qx→Qx→Qd→Option (List Int×Int×Int×Int×Int×List Int×List Qd×List Qd×List Int)
 | 0,_,_,_,_,_,_,_,_,_,_,_,_=>none
 | n_+1,often,u,u2,value,value2,value3,g,d,d2,d3,d4,d5=>
  br (decide (u2<u))
   ((made_l5 N N often u u2 (d2.length:Int) 0 value value2 value3 g d [] d2 d3 d4 d5).bind fun(often_67,u_68,u2_69,value_70,value2_71,value3_72,g_73,d_74,l_75,d2_76,d3_77,d4_78,d5_79)=>
   lim (d4_78.length+[l_75].length)<|
   chk (u2_69+1)<|
   made_l4 N n_ often_67 u_68 (u2_69+1) value_70 value2_71 value3_72 g_73 d_74 d2_76 d3_77 (d4_78++[l_75]) d5_79)
   (some ((value,value2,value3,g,d,d2,d3,d4,d5)))
def Km(N:Nat)(things:Int)(b:List Int)(b2:Int)(b3:Int):Option (List Int×Int×List Qd×List Qd×List Int×List Int×Int×Int):=
 (B8 N 2 b b2 b3).bind fun(x_1,y_2,y_3,y_4)=>
 (D6 N 1 5 y_2 y_3 y_4).bind fun(x_5,y_6,y_7,y_8)=>
 (made_l1 N N things x_5 0 y_6 y_7 y_8 0 x_1 []).bind fun(things_13,b_14,b2_15,b3_16,g_17,d_18,d2_19)=>
 (B8 N things_13 b_14 b2_15 b3_16).bind fun(x_20,y_21,y_22,y_23)=>
 (D6 N 2 5 y_21 y_22 y_23).bind fun(x_24,y_25,y_26,y_27)=>
 (B8 N things_13 y_25 y_26 y_27).bind fun(x_28,y_29,y_30,y_31)=>
 (made_l2 N N x_20 x_24 x_28 0 y_29 y_30 y_31 g_17 d_18 d2_19 [] []).bind fun(many_53,often_54,value_55,value2_56,value3_57,g_58,d_59,d2_60,d3_61,d4_62)=>
 (made_l4 N N often_54 many_53 0 value_55 value2_56 value3_57 g_58 d_59 d2_60 d3_61 [] d4_62).bind fun(g_80,g2_81,g3_82,g4_83,d_84,d2_85,d3_86,d4_87,d5_88)=>
 some (d2_85,d_84,d3_86,d4_87,d5_88,g_80,g2_81,g3_82)
noncomputable def Dd(N:Nat):List Spec:=[Hs N,Xw N,Aki N]
theorem Cq(N:Nat):AllP (A0 Try.prog) (Dd N):=⟨F7 N,Uz N,Aho N,trivial⟩
noncomputable def Ap1:Code:=(Try.f7.body).getD .skip
noncomputable abbrev Ac:Body:={ c:=Ap1,n:=86,res:=[.cell 4 26],outs:=[⟨[.agg [.sl (.int .i64),.i .i64,.sl Qg,.sl Qg,.sl (.int .i64)]],[.segs [.sl (.int .u8),.i .i64,.i .u32]]⟩],m0:=1 }
abbrev Wk:altD Ac.outs→Option (List Int×Int×List Qd×List Qd×List Int×List Int×Int×Int):=fun r=>some (r.1.1.1,r.1.1.2.1,r.1.1.2.2.1,r.1.1.2.2.2.1,r.1.1.2.2.2.2.1,r.2.1.1,r.2.1.2.1,r.2.1.2.2.1)
abbrev E3:List PI:=[.c [1,1,0,1,0,0,0],.c [1,1,0,1,0,0,1],.l [1,1,0,1,0,0],.b 0,.c [1,1,1]]
abbrev C6:Sta:=⟨[1,2,4,5,15,16],⟨[.i .i64,.own 1 0,.own 2 0,.own 3 0,.i .i64,.i .i64],[.segs [.sl (.int .u8),.i .i64,.i .u32],.segs [.own 0 0],.segs [.nils,.i .i64,.nils,.nils,.nils],.segs [.ols 4,.i .i64,.nils,.nils,.nils],.lst (.int .i64)]⟩⟩
abbrev Ld(rec:Int→Int→Int→Qd→Int→Int→Int→Int→Qd→Option (Int×List Int×Int×Int×Int×Int×List Int)):Leaf (Int×List Int×Int×Int×Int×Int×List Int):=⟨E3,C6,fun p=>rec p.1.1 p.1.2.2.2.2.1 p.1.2.2.2.2.2.1 p.2.1.1 p.2.1.2.1 p.2.1.2.2.1 p.2.2.2.1.2.1 p.2.2.2.2.1.2.1 p.2.2.2.2.2.1⟩
abbrev Il:Leaf (Int×List Int×Int×Int×Int×Int×List Int):=⟨[.c [1,1,1,0],.c [1,1,1,1]],⟨[1,2,4,5],⟨[.i .i64,.own 1 0,.own 2 0,.own 3 0],[.segs [.sl (.int .u8),.i .i64,.i .u32],.segs [.own 0 0],.segs [.nils,.i .i64,.nils,.nils,.nils],.segs [.ols 4,.i .i64,.nils,.nils,.nils],.lst (.int .i64)]⟩⟩,fun p=>some ((p.1.1,p.2.1.1,p.2.1.2.1,p.2.1.2.2.1,p.2.2.2.1.2.1,p.2.2.2.2.1.2.1,p.2.2.2.2.2.1))⟩
noncomputable def B5(N:Nat):Ai:={ at_:=E3,sta:=C6,exits:=[([.c [1,1,1,0],.c [1,1,1,1]],⟨[1,2,4,5],⟨[.i .i64,.own 1 0,.own 2 0,.own 3 0],[.segs [.sl (.int .u8),.i .i64,.i .u32],.segs [.own 0 0],.segs [.nils,.i .i64,.nils,.nils,.nils],.segs [.ols 4,.i .i64,.nils,.nils,.nils],.lst (.int .i64)]⟩⟩)],run:=fun p k=>(made_l1 N N p.1.1 p.1.2.2.2.2.1 p.1.2.2.2.2.2.1 p.2.1.1 p.2.1.2.1 p.2.1.2.2.1 p.2.2.2.1.2.1 p.2.2.2.2.1.2.1 p.2.2.2.2.2.1).bind fun e=>k (.inl ((e.1,(),(),(),()),((e.2.1,e.2.2.1,e.2.2.2.1,()),((),()),((),e.2.2.2.2.1,(),(),(),()),((),e.2.2.2.2.2.1,(),(),(),()),e.2.2.2.2.2.2,()))) }
theorem Tj(N n_:Nat)(things:Int)(u:Int)(u2:Int)(b:List Int)(b2:Int)(b3:Int)(g:Int)(d:Int)(d2:List Int):ev (Z:=Int×List Int×Int×Int×Int×Int×List Int) Try.prog (Dd N) Ac [] [Ld (made_l1 N n_),Il] none 400 true E3 (stL C6 ((things,(),(),(),u,u2,()),((b,b2,b3,()),((),()),((),g,(),(),(),()),((),d,(),(),(),()),d2,()))) (stH C6 ((things,(),(),(),u,u2,()),((b,b2,b3,()),((),()),((),g,(),(),(),()),((),d,(),(),(),()),d2,())))=made_l1 N (n_+1) things u u2 b b2 b3 g d d2:=by kernel_rfl
theorem E8(N:Nat){top:Bool}:Ab Try.prog Ac.c Ac.n Ac.m0 top (B5 N):=A3 (Z:=Int×List Int×Int×Int×Int×Int×List Int) (N:=N) (fun m p=>made_l1 N m p.1.1 p.1.2.2.2.2.1 p.1.2.2.2.2.2.1 p.2.1.1 p.2.1.2.1 p.2.1.2.2.1 p.2.2.2.1.2.1 p.2.2.2.2.1.2.1 p.2.2.2.2.2.1) (fun e=>.inl ((e.1,(),(),(),()),((e.2.1,e.2.2.1,e.2.2.2.1,()),((),()),((),e.2.2.2.2.1,(),(),(),()),((),e.2.2.2.2.2.1,(),(),(),()),e.2.2.2.2.2.2,()))) (fun _ _ _=>rfl) (fun _=>rfl) (fun m z E Xc hE hX hrec hx=>A2 (B:=Ac) (loops:=[]) (leaves:=[Ld (made_l1 N m),Il]) (Cq N) mixed trivial hE hX ⟨hrec,(fun p hp=>by obtain rfl:=Option.some.inj hp;exact hx),trivial⟩ Aa.no (fun p=>Tj N m p.1.1 p.1.2.2.2.2.1 p.1.2.2.2.2.2.1 p.2.1.1 p.2.1.2.1 p.2.1.2.2.1 p.2.2.2.1.2.1 p.2.2.2.2.1.2.1 p.2.2.2.2.2.1))
abbrev Uq:List PI:=[.c [1,1,1,1,1,0,1,0,0,1,1,0,0,1,0,1,0,0,0],.c [1,1,1,1,1,0,1,0,0,1,1,0,0,1,0,1,0,0,1],.l [1,1,1,1,1,0,1,0,0,1,1,0,0,1,0,1,0,0],.b 4,.c [1,1,1,1,1,0,1,0,0,1,1,0,0,1,1],.b 3,.c [1,1,1,1,1,0,1,0,0,1,1,1],.l [1,1,1,1,1,0,1,0,0],.b 2,.c [1,1,1,1,1,1]]
abbrev Ny:Sta:=⟨[2,4,5,6,7,8,9,34,35,39,40],⟨[.own 1 0,.own 2 0,.own 3 0,.fn 32 [] [.own 1 0],.i .i64,.i .i64,.ols 4,.i .i64,.i .i64,.i .i64,.i .i64],[.segs [.sl (.int .u8),.i .i64,.i .u32],.segs [.own 0 0],.segs [.nils,.i .i64,.nils,.nils,.nils],.segs [.ols 5,.i .i64,.ols 6,.nils,.ols 7],.lst (.int .i64),.lst (.int .i64),.lst Qg,.lst (.int .i64)]⟩⟩
abbrev Ado(rec:Int→Int→Int→Int→Int→Int→Qd→Int→Int→Int→Int→Qd→Qd→Qx→Qd→Option QJ):Leaf QJ:=⟨Uq,Ny,fun p=>rec p.1.2.2.2.2.1 p.1.2.2.2.2.2.1 p.1.2.2.2.2.2.2.2.1 p.1.2.2.2.2.2.2.2.2.1 p.1.2.2.2.2.2.2.2.2.2.1 p.1.2.2.2.2.2.2.2.2.2.2.1 p.2.1.1 p.2.1.2.1 p.2.1.2.2.1 p.2.2.2.1.2.1 p.2.2.2.2.1.2.1 p.2.2.2.2.2.1 p.2.2.2.2.2.2.1 p.2.2.2.2.2.2.2.1 p.2.2.2.2.2.2.2.2.1⟩
abbrev A52:Leaf QJ:=⟨[.c [1,1,1,1,1,0,1,0,0,1,1,0,0,1,1],.b 3,.c [1,1,1,1,1,0,1,0,0,1,1,1],.l [1,1,1,1,1,0,1,0,0],.b 2,.c [1,1,1,1,1,1]],⟨[2,4,5,6,7,8,9,34,35],⟨[.own 1 0,.own 2 0,.own 3 0,.fn 32 [] [.own 1 0],.i .i64,.i .i64,.ols 4,.i .i64,.i .i64],[.segs [.sl (.int .u8),.i .i64,.i .u32],.segs [.own 0 0],.segs [.nils,.i .i64,.nils,.nils,.nils],.segs [.ols 5,.i .i64,.ols 6,.nils,.ols 7],.lst (.int .i64),.lst (.int .i64),.lst Qg,.lst (.int .i64)]⟩⟩,fun p=>some ((p.1.2.2.2.2.1,p.1.2.2.2.2.2.1,p.1.2.2.2.2.2.2.2.1,p.1.2.2.2.2.2.2.2.2.1,p.2.1.1,p.2.1.2.1,p.2.1.2.2.1,p.2.2.2.1.2.1,p.2.2.2.2.1.2.1,p.2.2.2.2.2.1,p.2.2.2.2.2.2.1,p.2.2.2.2.2.2.2.1,p.2.2.2.2.2.2.2.2.1))⟩
noncomputable def De(N:Nat):Ai:={ at_:=Uq,sta:=Ny,exits:=[([.c [1,1,1,1,1,0,1,0,0,1,1,0,0,1,1],.b 3,.c [1,1,1,1,1,0,1,0,0,1,1,1],.l [1,1,1,1,1,0,1,0,0],.b 2,.c [1,1,1,1,1,1]],⟨[2,4,5,6,7,8,9,34,35],⟨[.own 1 0,.own 2 0,.own 3 0,.fn 32 [] [.own 1 0],.i .i64,.i .i64,.ols 4,.i .i64,.i .i64],[.segs [.sl (.int .u8),.i .i64,.i .u32],.segs [.own 0 0],.segs [.nils,.i .i64,.nils,.nils,.nils],.segs [.ols 5,.i .i64,.ols 6,.nils,.ols 7],.lst (.int .i64),.lst (.int .i64),.lst Qg,.lst (.int .i64)]⟩⟩)],run:=fun p k=>(made_l3 N N p.1.2.2.2.2.1 p.1.2.2.2.2.2.1 p.1.2.2.2.2.2.2.2.1 p.1.2.2.2.2.2.2.2.2.1 p.1.2.2.2.2.2.2.2.2.2.1 p.1.2.2.2.2.2.2.2.2.2.2.1 p.2.1.1 p.2.1.2.1 p.2.1.2.2.1 p.2.2.2.1.2.1 p.2.2.2.2.1.2.1 p.2.2.2.2.2.1 p.2.2.2.2.2.2.1 p.2.2.2.2.2.2.2.1 p.2.2.2.2.2.2.2.2.1).bind fun e=>k (.inl (((),(),(),((),((),())),e.1,e.2.1,(),e.2.2.1,e.2.2.2.1,()),((e.2.2.2.2.1,e.2.2.2.2.2.1,e.2.2.2.2.2.2.1,()),((),()),((),e.2.2.2.2.2.2.2.1,(),(),(),()),((),e.2.2.2.2.2.2.2.2.1,(),(),(),()),e.2.2.2.2.2.2.2.2.2.1,e.2.2.2.2.2.2.2.2.2.2.1,e.2.2.2.2.2.2.2.2.2.2.2.1,e.2.2.2.2.2.2.2.2.2.2.2.2,()))) }
theorem Aoq(N n_:Nat)(many:Int)(often:Int)(u:Int)(u2:Int)(u3:Int)(u4:Int)(b:List Int)(b2:Int)(b3:Int)(g:Int)(d:Int)(l:List Int)(d2:List Int)(d3:List Qd)(d4:List Int):ev (Z:=Int×Int×Int×Int×List Int×Int×Int×Int×Int×List Int×List Int×List Qd×List Int) Try.prog (Dd N) Ac [B5 N] [Ado (made_l3 N n_),A52] none 400 true Uq (stL Ny (((),(),(),((),((),())),many,often,(),u,u2,u3,u4,()),((b,b2,b3,()),((),()),((),g,(),(),(),()),((),d,(),(),(),()),l,d2,d3,d4,()))) (stH Ny (((),(),(),((),((),())),many,often,(),u,u2,u3,u4,()),((b,b2,b3,()),((),()),((),g,(),(),(),()),((),d,(),(),(),()),l,d2,d3,d4,())))=made_l3 N (n_+1) many often u u2 u3 u4 b b2 b3 g d l d2 d3 d4:=by kernel_rfl
theorem Mj(N:Nat){top:Bool}:Ab Try.prog Ac.c Ac.n Ac.m0 top (De N):=A3 (Z:=Int×Int×Int×Int×List Int×Int×Int×Int×Int×List Int×List Int×List Qd×List Int) (N:=N) (fun m p=>made_l3 N m p.1.2.2.2.2.1 p.1.2.2.2.2.2.1 p.1.2.2.2.2.2.2.2.1 p.1.2.2.2.2.2.2.2.2.1 p.1.2.2.2.2.2.2.2.2.2.1 p.1.2.2.2.2.2.2.2.2.2.2.1 p.2.1.1 p.2.1.2.1 p.2.1.2.2.1 p.2.2.2.1.2.1 p.2.2.2.2.1.2.1 p.2.2.2.2.2.1 p.2.2.2.2.2.2.1 p.2.2.2.2.2.2.2.1 p.2.2.2.2.2.2.2.2.1) (fun e=>.inl (((),(),(),((),((),())),e.1,e.2.1,(),e.2.2.1,e.2.2.2.1,()),((e.2.2.2.2.1,e.2.2.2.2.2.1,e.2.2.2.2.2.2.1,()),((),()),((),e.2.2.2.2.2.2.2.1,(),(),(),()),((),e.2.2.2.2.2.2.2.2.1,(),(),(),()),e.2.2.2.2.2.2.2.2.2.1,e.2.2.2.2.2.2.2.2.2.2.1,e.2.2.2.2.2.2.2.2.2.2.2.1,e.2.2.2.2.2.2.2.2.2.2.2.2,()))) (fun _ _ _=>rfl) (fun _=>rfl) (fun m z E Xc hE hX hrec hx=>A2 (B:=Ac) (loops:=[B5 N]) (leaves:=[Ado (made_l3 N m),A52]) (Cq N) mixed ⟨E8 N,trivial⟩ hE hX ⟨hrec,(fun p hp=>by obtain rfl:=Option.some.inj hp;exact hx),trivial⟩ Aa.no (fun p=>Aoq N m p.1.2.2.2.2.1 p.1.2.2.2.2.2.1 p.1.2.2.2.2.2.2.2.1 p.1.2.2.2.2.2.2.2.2.1 p.1.2.2.2.2.2.2.2.2.2.1 p.1.2.2.2.2.2.2.2.2.2.2.1 p.2.1.1 p.2.1.2.1 p.2.1.2.2.1 p.2.2.2.1.2.1 p.2.2.2.2.1.2.1 p.2.2.2.2.2.1 p.2.2.2.2.2.2.1 p.2.2.2.2.2.2.2.1 p.2.2.2.2.2.2.2.2.1))
abbrev E0:List PI:=[.c [1,1,1,1,1,0,1,0,0,0],.c [1,1,1,1,1,0,1,0,0,1],.l [1,1,1,1,1,0,1,0,0],.b 2,.c [1,1,1,1,1,1]]
abbrev Cc:Sta:=⟨[2,4,5,6,7,8,34,35],⟨[.own 1 0,.own 2 0,.own 3 0,.fn 32 [] [.own 1 0],.i .i64,.i .i64,.i .i64,.i .i64],[.segs [.sl (.int .u8),.i .i64,.i .u32],.segs [.own 0 0],.segs [.nils,.i .i64,.nils,.nils,.nils],.segs [.ols 4,.i .i64,.ols 5,.nils,.ols 6],.lst (.int .i64),.lst Qg,.lst (.int .i64)]⟩⟩
abbrev Er(rec:Int→Int→Int→Int→Qd→Int→Int→Int→Int→Qd→Qx→Qd→Option (Int×Int×List Int×Int×Int×Int×Int×List Int×List Qd×List Int)):Leaf (Int×Int×List Int×Int×Int×Int×Int×List Int×List Qd×List Int):=⟨E0,Cc,fun p=>rec p.1.2.2.2.2.1 p.1.2.2.2.2.2.1 p.1.2.2.2.2.2.2.1 p.1.2.2.2.2.2.2.2.1 p.2.1.1 p.2.1.2.1 p.2.1.2.2.1 p.2.2.2.1.2.1 p.2.2.2.2.1.2.1 p.2.2.2.2.2.1 p.2.2.2.2.2.2.1 p.2.2.2.2.2.2.2.1⟩
abbrev Cs:Leaf (Int×Int×List Int×Int×Int×Int×Int×List Int×List Qd×List Int):=⟨[.c [1,1,1,1,1,1,0,0],.c [1,1,1,1,1,1,0,1],.c [1,1,1,1,1,1,1]],⟨[4,5,6,7,8],⟨[.own 1 0,.own 2 0,.fn 32 [] [.own 3 0],.i .i64,.i .i64],[.segs [.sl (.int .u8),.i .i64,.i .u32],.segs [.nils,.i .i64,.nils,.nils,.nils],.segs [.ols 4,.i .i64,.ols 5,.nils,.ols 6],.segs [.own 0 0],.lst (.int .i64),.lst Qg,.lst (.int .i64)]⟩⟩,fun p=>some ((p.1.2.2.2.1,p.1.2.2.2.2.1,p.2.1.1,p.2.1.2.1,p.2.1.2.2.1,p.2.2.1.2.1,p.2.2.2.1.2.1,p.2.2.2.2.2.1,p.2.2.2.2.2.2.1,p.2.2.2.2.2.2.2.1))⟩
noncomputable def Bg(N:Nat):Ai:={ at_:=E0,sta:=Cc,exits:=[([.c [1,1,1,1,1,1,0,0],.c [1,1,1,1,1,1,0,1],.c [1,1,1,1,1,1,1]],⟨[4,5,6,7,8],⟨[.own 1 0,.own 2 0,.fn 32 [] [.own 3 0],.i .i64,.i .i64],[.segs [.sl (.int .u8),.i .i64,.i .u32],.segs [.nils,.i .i64,.nils,.nils,.nils],.segs [.ols 4,.i .i64,.ols 5,.nils,.ols 6],.segs [.own 0 0],.lst (.int .i64),.lst Qg,.lst (.int .i64)]⟩⟩)],run:=fun p k=>(made_l2 N N p.1.2.2.2.2.1 p.1.2.2.2.2.2.1 p.1.2.2.2.2.2.2.1 p.1.2.2.2.2.2.2.2.1 p.2.1.1 p.2.1.2.1 p.2.1.2.2.1 p.2.2.2.1.2.1 p.2.2.2.2.1.2.1 p.2.2.2.2.2.1 p.2.2.2.2.2.2.1 p.2.2.2.2.2.2.2.1).bind fun e=>k (.inl (((),(),((),((),())),e.1,e.2.1,()),((e.2.2.1,e.2.2.2.1,e.2.2.2.2.1,()),((),e.2.2.2.2.2.1,(),(),(),()),((),e.2.2.2.2.2.2.1,(),(),(),()),((),()),e.2.2.2.2.2.2.2.1,e.2.2.2.2.2.2.2.2.1,e.2.2.2.2.2.2.2.2.2,()))) }
theorem Tz(N n_:Nat)(many:Int)(often:Int)(u:Int)(u2:Int)(b:List Int)(b2:Int)(b3:Int)(g:Int)(d:Int)(d2:List Int)(d3:List Qd)(d4:List Int):ev (Z:=Int×Int×List Int×Int×Int×Int×Int×List Int×List Qd×List Int) Try.prog (Dd N) Ac [B5 N,De N] [Er (made_l2 N n_),Cs] none 400 true E0 (stL Cc (((),(),(),((),((),())),many,often,u,u2,()),((b,b2,b3,()),((),()),((),g,(),(),(),()),((),d,(),(),(),()),d2,d3,d4,()))) (stH Cc (((),(),(),((),((),())),many,often,u,u2,()),((b,b2,b3,()),((),()),((),g,(),(),(),()),((),d,(),(),(),()),d2,d3,d4,())))=made_l2 N (n_+1) many often u u2 b b2 b3 g d d2 d3 d4:=by kernel_rfl
theorem Fb(N:Nat){top:Bool}:Ab Try.prog Ac.c Ac.n Ac.m0 top (Bg N):=A3 (Z:=Int×Int×List Int×Int×Int×Int×Int×List Int×List Qd×List Int) (N:=N) (fun m p=>made_l2 N m p.1.2.2.2.2.1 p.1.2.2.2.2.2.1 p.1.2.2.2.2.2.2.1 p.1.2.2.2.2.2.2.2.1 p.2.1.1 p.2.1.2.1 p.2.1.2.2.1 p.2.2.2.1.2.1 p.2.2.2.2.1.2.1 p.2.2.2.2.2.1 p.2.2.2.2.2.2.1 p.2.2.2.2.2.2.2.1) (fun e=>.inl (((),(),((),((),())),e.1,e.2.1,()),((e.2.2.1,e.2.2.2.1,e.2.2.2.2.1,()),((),e.2.2.2.2.2.1,(),(),(),()),((),e.2.2.2.2.2.2.1,(),(),(),()),((),()),e.2.2.2.2.2.2.2.1,e.2.2.2.2.2.2.2.2.1,e.2.2.2.2.2.2.2.2.2,()))) (fun _ _ _=>rfl) (fun _=>rfl) (fun m z E Xc hE hX hrec hx=>A2 (B:=Ac) (loops:=[B5 N,De N]) (leaves:=[Er (made_l2 N m),Cs]) (Cq N) mixed ⟨E8 N,Mj N,trivial⟩ hE hX ⟨hrec,(fun p hp=>by obtain rfl:=Option.some.inj hp;exact hx),trivial⟩ Aa.no (fun p=>Tz N m p.1.2.2.2.2.1 p.1.2.2.2.2.2.1 p.1.2.2.2.2.2.2.1 p.1.2.2.2.2.2.2.2.1 p.2.1.1 p.2.1.2.1 p.2.1.2.2.1 p.2.2.2.1.2.1 p.2.2.2.2.1.2.1 p.2.2.2.2.2.1 p.2.2.2.2.2.2.1 p.2.2.2.2.2.2.2.1))
abbrev Sq:List PI:=[.c [1,1,1,1,1,1,0,1,0,0,1,1,0,0,1,0,1,0,0,0],.c [1,1,1,1,1,1,0,1,0,0,1,1,0,0,1,0,1,0,0,1],.l [1,1,1,1,1,1,0,1,0,0,1,1,0,0,1,0,1,0,0],.b 8,.c [1,1,1,1,1,1,0,1,0,0,1,1,0,0,1,1],.b 7,.c [1,1,1,1,1,1,0,1,0,0,1,1,1],.l [1,1,1,1,1,1,0,1,0,0],.b 6,.c [1,1,1,1,1,1,1]]
abbrev Nj:Sta:=⟨[4,5,6,8,10,63,64,68,69],⟨[.own 1 0,.own 2 0,.fn 32 [] [.own 3 0],.i .i64,.ols 4,.i .i64,.i .i64,.i .i64,.i .i64],[.segs [.sl (.int .u8),.i .i64,.i .u32],.segs [.nils,.i .i64,.nils,.nils,.nils],.segs [.ols 5,.i .i64,.ols 6,.ols 7,.ols 8],.segs [.own 0 0],.lst (.int .i64),.lst (.int .i64),.lst Qg,.lst Qg,.lst (.int .i64)]⟩⟩
abbrev Adl(rec:Int→Int→Int→Int→Int→Qd→Int→Int→Int→Int→Qd→Qd→Qx→Qx→Qd→Option QH):Leaf QH:=⟨Sq,Nj,fun p=>rec p.1.2.2.2.1 p.1.2.2.2.2.2.1 p.1.2.2.2.2.2.2.1 p.1.2.2.2.2.2.2.2.1 p.1.2.2.2.2.2.2.2.2.1 p.2.1.1 p.2.1.2.1 p.2.1.2.2.1 p.2.2.1.2.1 p.2.2.2.1.2.1 p.2.2.2.2.2.1 p.2.2.2.2.2.2.1 p.2.2.2.2.2.2.2.1 p.2.2.2.2.2.2.2.2.1 p.2.2.2.2.2.2.2.2.2.1⟩
abbrev A8c:Leaf QH:=⟨[.c [1,1,1,1,1,1,0,1,0,0,1,1,0,0,1,1],.b 7,.c [1,1,1,1,1,1,0,1,0,0,1,1,1],.l [1,1,1,1,1,1,0,1,0,0],.b 6,.c [1,1,1,1,1,1,1]],⟨[4,5,6,8,10,63,64],⟨[.own 1 0,.own 2 0,.fn 32 [] [.own 3 0],.i .i64,.ols 4,.i .i64,.i .i64],[.segs [.sl (.int .u8),.i .i64,.i .u32],.segs [.nils,.i .i64,.nils,.nils,.nils],.segs [.ols 5,.i .i64,.ols 6,.ols 7,.ols 8],.segs [.own 0 0],.lst (.int .i64),.lst (.int .i64),.lst Qg,.lst Qg,.lst (.int .i64)]⟩⟩,fun p=>some ((p.1.2.2.2.1,p.1.2.2.2.2.2.1,p.1.2.2.2.2.2.2.1,p.2.1.1,p.2.1.2.1,p.2.1.2.2.1,p.2.2.1.2.1,p.2.2.2.1.2.1,p.2.2.2.2.2.1,p.2.2.2.2.2.2.1,p.2.2.2.2.2.2.2.1,p.2.2.2.2.2.2.2.2.1,p.2.2.2.2.2.2.2.2.2.1))⟩
noncomputable def M5(N:Nat):Ai:={ at_:=Sq,sta:=Nj,exits:=[([.c [1,1,1,1,1,1,0,1,0,0,1,1,0,0,1,1],.b 7,.c [1,1,1,1,1,1,0,1,0,0,1,1,1],.l [1,1,1,1,1,1,0,1,0,0],.b 6,.c [1,1,1,1,1,1,1]],⟨[4,5,6,8,10,63,64],⟨[.own 1 0,.own 2 0,.fn 32 [] [.own 3 0],.i .i64,.ols 4,.i .i64,.i .i64],[.segs [.sl (.int .u8),.i .i64,.i .u32],.segs [.nils,.i .i64,.nils,.nils,.nils],.segs [.ols 5,.i .i64,.ols 6,.ols 7,.ols 8],.segs [.own 0 0],.lst (.int .i64),.lst (.int .i64),.lst Qg,.lst Qg,.lst (.int .i64)]⟩⟩)],run:=fun p k=>(made_l5 N N p.1.2.2.2.1 p.1.2.2.2.2.2.1 p.1.2.2.2.2.2.2.1 p.1.2.2.2.2.2.2.2.1 p.1.2.2.2.2.2.2.2.2.1 p.2.1.1 p.2.1.2.1 p.2.1.2.2.1 p.2.2.1.2.1 p.2.2.2.1.2.1 p.2.2.2.2.2.1 p.2.2.2.2.2.2.1 p.2.2.2.2.2.2.2.1 p.2.2.2.2.2.2.2.2.1 p.2.2.2.2.2.2.2.2.2.1).bind fun e=>k (.inl (((),(),((),((),())),e.1,(),e.2.1,e.2.2.1,()),((e.2.2.2.1,e.2.2.2.2.1,e.2.2.2.2.2.1,()),((),e.2.2.2.2.2.2.1,(),(),(),()),((),e.2.2.2.2.2.2.2.1,(),(),(),()),((),()),e.2.2.2.2.2.2.2.2.1,e.2.2.2.2.2.2.2.2.2.1,e.2.2.2.2.2.2.2.2.2.2.1,e.2.2.2.2.2.2.2.2.2.2.2.1,e.2.2.2.2.2.2.2.2.2.2.2.2,()))) }
theorem Apl(N n_:Nat)(often:Int)(u:Int)(u2:Int)(u3:Int)(u4:Int)(value:List Int)(value2:Int)(value3:Int)(g:Int)(d:Int)(l:List Int)(d2:List Int)(d3:List Qd)(d4:List Qd)(d5:List Int):ev (Z:=Int×Int×Int×List Int×Int×Int×Int×Int×List Int×List Int×List Qd×List Qd×List Int) Try.prog (Dd N) Ac [B5 N,De N,Bg N] [Adl (made_l5 N n_),A8c] none 400 true Sq (stL Nj (((),(),((),((),())),often,(),u,u2,u3,u4,()),((value,value2,value3,()),((),g,(),(),(),()),((),d,(),(),(),()),((),()),l,d2,d3,d4,d5,()))) (stH Nj (((),(),((),((),())),often,(),u,u2,u3,u4,()),((value,value2,value3,()),((),g,(),(),(),()),((),d,(),(),(),()),((),()),l,d2,d3,d4,d5,())))=made_l5 N (n_+1) often u u2 u3 u4 value value2 value3 g d l d2 d3 d4 d5:=by kernel_rfl
theorem A62(N:Nat){top:Bool}:Ab Try.prog Ac.c Ac.n Ac.m0 top (M5 N):=A3 (Z:=Int×Int×Int×List Int×Int×Int×Int×Int×List Int×List Int×List Qd×List Qd×List Int) (N:=N) (fun m p=>made_l5 N m p.1.2.2.2.1 p.1.2.2.2.2.2.1 p.1.2.2.2.2.2.2.1 p.1.2.2.2.2.2.2.2.1 p.1.2.2.2.2.2.2.2.2.1 p.2.1.1 p.2.1.2.1 p.2.1.2.2.1 p.2.2.1.2.1 p.2.2.2.1.2.1 p.2.2.2.2.2.1 p.2.2.2.2.2.2.1 p.2.2.2.2.2.2.2.1 p.2.2.2.2.2.2.2.2.1 p.2.2.2.2.2.2.2.2.2.1) (fun e=>.inl (((),(),((),((),())),e.1,(),e.2.1,e.2.2.1,()),((e.2.2.2.1,e.2.2.2.2.1,e.2.2.2.2.2.1,()),((),e.2.2.2.2.2.2.1,(),(),(),()),((),e.2.2.2.2.2.2.2.1,(),(),(),()),((),()),e.2.2.2.2.2.2.2.2.1,e.2.2.2.2.2.2.2.2.2.1,e.2.2.2.2.2.2.2.2.2.2.1,e.2.2.2.2.2.2.2.2.2.2.2.1,e.2.2.2.2.2.2.2.2.2.2.2.2,()))) (fun _ _ _=>rfl) (fun _=>rfl) (fun m z E Xc hE hX hrec hx=>A2 (B:=Ac) (loops:=[B5 N,De N,Bg N]) (leaves:=[Adl (made_l5 N m),A8c]) (Cq N) mixed ⟨E8 N,Mj N,Fb N,trivial⟩ hE hX ⟨hrec,(fun p hp=>by obtain rfl:=Option.some.inj hp;exact hx),trivial⟩ Aa.no (fun p=>Apl N m p.1.2.2.2.1 p.1.2.2.2.2.2.1 p.1.2.2.2.2.2.2.1 p.1.2.2.2.2.2.2.2.1 p.1.2.2.2.2.2.2.2.2.1 p.2.1.1 p.2.1.2.1 p.2.1.2.2.1 p.2.2.1.2.1 p.2.2.2.1.2.1 p.2.2.2.2.2.1 p.2.2.2.2.2.2.1 p.2.2.2.2.2.2.2.1 p.2.2.2.2.2.2.2.2.1 p.2.2.2.2.2.2.2.2.2.1))
abbrev Ul:List PI:=[.c [1,1,1,1,1,1,0,1,0,0,0],.c [1,1,1,1,1,1,0,1,0,0,1],.l [1,1,1,1,1,1,0,1,0,0],.b 6,.c [1,1,1,1,1,1,1]]
abbrev O1:Sta:=⟨[4,5,6,8,63,64],⟨[.own 1 0,.own 2 0,.fn 32 [] [.own 3 0],.i .i64,.i .i64,.i .i64],[.segs [.sl (.int .u8),.i .i64,.i .u32],.segs [.nils,.i .i64,.nils,.nils,.nils],.segs [.ols 4,.i .i64,.ols 5,.ols 6,.ols 7],.segs [.own 0 0],.lst (.int .i64),.lst Qg,.lst Qg,.lst (.int .i64)]⟩⟩
abbrev Ad8(rec:Int→Int→Int→Qd→Int→Int→Int→Int→Qd→Qx→Qx→Qd→Option (List Int×Int×Int×Int×Int×List Int×List Qd×List Qd×List Int)):Leaf (List Int×Int×Int×Int×Int×List Int×List Qd×List Qd×List Int):=⟨Ul,O1,fun p=>rec p.1.2.2.2.1 p.1.2.2.2.2.1 p.1.2.2.2.2.2.1 p.2.1.1 p.2.1.2.1 p.2.1.2.2.1 p.2.2.1.2.1 p.2.2.2.1.2.1 p.2.2.2.2.2.1 p.2.2.2.2.2.2.1 p.2.2.2.2.2.2.2.1 p.2.2.2.2.2.2.2.2.1⟩
abbrev A5i:Leaf (List Int×Int×Int×Int×Int×List Int×List Qd×List Qd×List Int):=⟨[.c [1,1,1,1,1,1,1,0],.c [1,1,1,1,1,1,1,1]],⟨[4,5],⟨[.own 1 0,.own 2 0],[.segs [.sl (.int .u8),.i .i64,.i .u32],.segs [.nils,.i .i64,.nils,.nils,.nils],.segs [.ols 3,.i .i64,.ols 4,.ols 5,.ols 6],.lst (.int .i64),.lst Qg,.lst Qg,.lst (.int .i64)]⟩⟩,fun p=>some ((p.2.1.1,p.2.1.2.1,p.2.1.2.2.1,p.2.2.1.2.1,p.2.2.2.1.2.1,p.2.2.2.2.1,p.2.2.2.2.2.1,p.2.2.2.2.2.2.1,p.2.2.2.2.2.2.2.1))⟩
noncomputable def Z9(N:Nat):Ai:={ at_:=Ul,sta:=O1,exits:=[([.c [1,1,1,1,1,1,1,0],.c [1,1,1,1,1,1,1,1]],⟨[4,5],⟨[.own 1 0,.own 2 0],[.segs [.sl (.int .u8),.i .i64,.i .u32],.segs [.nils,.i .i64,.nils,.nils,.nils],.segs [.ols 3,.i .i64,.ols 4,.ols 5,.ols 6],.lst (.int .i64),.lst Qg,.lst Qg,.lst (.int .i64)]⟩⟩)],run:=fun p k=>(made_l4 N N p.1.2.2.2.1 p.1.2.2.2.2.1 p.1.2.2.2.2.2.1 p.2.1.1 p.2.1.2.1 p.2.1.2.2.1 p.2.2.1.2.1 p.2.2.2.1.2.1 p.2.2.2.2.2.1 p.2.2.2.2.2.2.1 p.2.2.2.2.2.2.2.1 p.2.2.2.2.2.2.2.2.1).bind fun e=>k (.inl (((),(),()),((e.1,e.2.1,e.2.2.1,()),((),e.2.2.2.1,(),(),(),()),((),e.2.2.2.2.1,(),(),(),()),e.2.2.2.2.2.1,e.2.2.2.2.2.2.1,e.2.2.2.2.2.2.2.1,e.2.2.2.2.2.2.2.2,()))) }
theorem Aq5(N n_:Nat)(often:Int)(u:Int)(u2:Int)(value:List Int)(value2:Int)(value3:Int)(g:Int)(d:Int)(d2:List Int)(d3:List Qd)(d4:List Qd)(d5:List Int):ev (Z:=List Int×Int×Int×Int×Int×List Int×List Qd×List Qd×List Int) Try.prog (Dd N) Ac [B5 N,De N,Bg N,M5 N] [Ad8 (made_l4 N n_),A5i] none 400 true Ul (stL O1 (((),(),((),((),())),often,u,u2,()),((value,value2,value3,()),((),g,(),(),(),()),((),d,(),(),(),()),((),()),d2,d3,d4,d5,()))) (stH O1 (((),(),((),((),())),often,u,u2,()),((value,value2,value3,()),((),g,(),(),(),()),((),d,(),(),(),()),((),()),d2,d3,d4,d5,())))=made_l4 N (n_+1) often u u2 value value2 value3 g d d2 d3 d4 d5:=by kernel_rfl
theorem Ao6(N:Nat){top:Bool}:Ab Try.prog Ac.c Ac.n Ac.m0 top (Z9 N):=A3 (Z:=List Int×Int×Int×Int×Int×List Int×List Qd×List Qd×List Int) (N:=N) (fun m p=>made_l4 N m p.1.2.2.2.1 p.1.2.2.2.2.1 p.1.2.2.2.2.2.1 p.2.1.1 p.2.1.2.1 p.2.1.2.2.1 p.2.2.1.2.1 p.2.2.2.1.2.1 p.2.2.2.2.2.1 p.2.2.2.2.2.2.1 p.2.2.2.2.2.2.2.1 p.2.2.2.2.2.2.2.2.1) (fun e=>.inl (((),(),()),((e.1,e.2.1,e.2.2.1,()),((),e.2.2.2.1,(),(),(),()),((),e.2.2.2.2.1,(),(),(),()),e.2.2.2.2.2.1,e.2.2.2.2.2.2.1,e.2.2.2.2.2.2.2.1,e.2.2.2.2.2.2.2.2,()))) (fun _ _ _=>rfl) (fun _=>rfl) (fun m z E Xc hE hX hrec hx=>A2 (B:=Ac) (loops:=[B5 N,De N,Bg N,M5 N]) (leaves:=[Ad8 (made_l4 N m),A5i]) (Cq N) mixed ⟨E8 N,Mj N,Fb N,A62 N,trivial⟩ hE hX ⟨hrec,(fun p hp=>by obtain rfl:=Option.some.inj hp;exact hx),trivial⟩ Aa.no (fun p=>Aq5 N m p.1.2.2.2.1 p.1.2.2.2.2.1 p.1.2.2.2.2.2.1 p.2.1.1 p.2.1.2.1 p.2.1.2.2.1 p.2.2.1.2.1 p.2.2.2.1.2.1 p.2.2.2.2.2.1 p.2.2.2.2.2.2.1 p.2.2.2.2.2.2.2.1 p.2.2.2.2.2.2.2.2.1))
abbrev Ww:Sta:=⟨[0,1],⟨[.own 0 0,.i .i64],[.segs [.sl (.int .u8),.i .i64,.i .u32]]⟩⟩
theorem Aen(N:Nat)(things:Int)(b:List Int)(b2:Int)(b3:Int):ev (Z:=List Int×Int×List Qd×List Qd×List Int×List Int×Int×Int) Try.prog (Dd N) Ac [B5 N,De N,Bg N,M5 N,Z9 N] [] (some Wk) 400 false [.c [0],.c [1]] (stL Ww (((),things,()),((b,b2,b3,()),()))) (stH Ww (((),things,()),((b,b2,b3,()),())))=Km N things b b2 b3:=by kernel_rfl
noncomputable def A2n(N:Nat):Spec:={ f:=7,ins:=⟨[.own 0 0,.i .i64],[.segs [.sl (.int .u8),.i .i64,.i .u32]]⟩,outs:=[⟨[.agg [.sl (.int .i64),.i .i64,.sl Qg,.sl Qg,.sl (.int .i64)]],[.segs [.sl (.int .u8),.i .i64,.i .u32]]⟩],run:=fun p k=>(Km N p.1.2.1 p.2.1.1 p.2.1.2.1 p.2.1.2.2.1).bind fun r=>k (((r.1,r.2.1,r.2.2.1,r.2.2.2.1,r.2.2.2.2.1,()),()),((r.2.2.2.2.2.1,r.2.2.2.2.2.2.1,r.2.2.2.2.2.2.2,()),())) }
theorem A6f(N:Nat):A0 Try.prog (A2n N):=A1 (B:=Ac) (loops:=[B5 N,De N,Bg N,M5 N,Z9 N]) (leaves:=[]) (fun p=>Km N p.1.2.1 p.2.1.1 p.2.1.2.1 p.2.1.2.2.1) (fun r=>(((r.1,r.2.1,r.2.2.1,r.2.2.2.1,r.2.2.2.2.1,()),()),((r.2.2.2.2.2.1,r.2.2.2.2.2.2.1,r.2.2.2.2.2.2.2,()),()))) Wk (fun _ _ _=>rfl) (fun r z h=>by cases h;rfl) Try.func7 (by kernel_rfl) (by kernel_rfl) (by kernel_rfl) rfl rfl (by kernel_rfl) (fun args w=>Sem.pv_run _ _ _ (by kernel_rfl) w) (Cq N) mixed ⟨E8 N,Mj N,Fb N,A62 N,Ao6 N,trivial⟩ (fun z E Xc hE hX hret=>trivial) (fun p=>Aen N p.1.2.1 p.2.1.1 p.2.1.2.1 p.2.1.2.2.1)

end Go.Proofs.Ytgeijboidfadaaa.Fd

namespace Go.Proofs.Ytgeijboidfadaaa.Fd
set_option linter.all false
open Go
def Ok{α:Type}(o:Option α)(Q:α→Prop):Prop:=∃x,o=some x∧Q x
section
variable {α β Z:Type} {Q:Z→Prop} {x y:Option Z}
theorem Ok.some{z:Z}(h:Q z):Ok (some z) Q:=⟨z,rfl,h⟩
theorem Ok.bind{o:Option α}{P:α→Prop}{f:α→Option Z}(h:Ok o P)(k:∀a,P a→Ok (f a) Q):Ok (o.bind f) Q:=by
 obtain⟨a,rfl,ha⟩:=h
 exact k a ha
theorem Ok.eqb{o:Option α}{a:α}{f:α→Option Z}(h:o=Option.some a)(k:Ok (f a) Q):Ok (o.bind f) Q:=by subst h;exact k
theorem Ok.mono{P:Z→Prop}(h:Ok x P)(k:∀a,P a→Q a):Ok x Q:=let ⟨a,e,p⟩:=h;⟨a,e,k a p⟩
theorem Ok.br{c:Bool}(h1:c=true→Ok x Q)(h2:c=false→Ok y Q):Ok (br c x y) Q:=by
 cases c
 ·exact h2 rfl
 ·exact h1 rfl
theorem Ok.brd{p:Prop}[Decidable p](h1:p→Ok x Q)(h2:¬p→Ok y Q):Ok (Proofs.Ytgeijboidfadaaa.br (decide p) x y) Q:=by
 by_cases h:p
 ·simpa [h,Proofs.Ytgeijboidfadaaa.br]using h1 h
 ·simpa [h,Proofs.Ytgeijboidfadaaa.br]using h2 h
theorem Af{n:Int}(hn:-9223372036854775808≤n∧n≤9223372036854775807):chk n x=x:=by unfold chk;rw[Ah1.2 hn]
theorem Ok.chk{n:Int}(hn:-9223372036854775808≤n∧n≤9223372036854775807)(h:Ok x Q):Ok (chk n x) Q:=by rw[Af hn];exact h
theorem Gz{c:Bool}(hc:c=true):grd c x=x:=by subst hc;rfl
theorem Ok.grd{c:Bool}(hc:c=true)(h:Ok x Q):Ok (grd c x) Q:=by subst hc;exact h
theorem B3{i:Int}{n:Nat}(hi:0≤i∧i<n):rng i n x=x:=by unfold rng;rw[if_pos hi]
theorem Ok.rng{i:Int}{n:Nat}(hi:0≤i∧i<n)(h:Ok x Q):Ok (rng i n x) Q:=by rw[B3 hi];exact h
theorem No{n:Nat}(hn:n≤1000000):lim n x=x:=by unfold lim;rw[if_pos hn]
theorem Ok.lim{n:Nat}(hn:n≤1000000)(h:Ok x Q):Ok (lim n x) Q:=by rw[No hn];exact h
theorem idx_eq{l:List α}{i:Int}{f:α→Option Z}{a:α}(h0:0≤i)(h:l[i.toNat]?=Option.some a):idx l i f=f a:=by unfold idx;rw[if_pos h0,h]
theorem Agq{l:List α}{i:Int}{f:α→Option Z}(d:α)(h0:0≤i)(h:i<l.length):idx l i f=f (l.getD i.toNat d):=by
 refine idx_eq h0 ?_
 have:i.toNat<l.length:=by omega
 simp[List.getD,this]
theorem Ok.idx{l:List α}{i:Int}{f:α→Option Z}(h0:0≤i)(h:i<l.length)(k:∀a,l[i.toNat]?=Option.some a→a∈l→Ok (f a) Q):Ok (idx l i f) Q:=by
 have hlt:i.toNat<l.length:=by omega
 have e:l[i.toNat]?=Option.some l[i.toNat]:=List.getElem?_eq_getElem hlt
 rw[idx_eq h0 e]
 exact k _ e (List.getElem_mem hlt)
theorem get_eq{l:List α}{k:Nat}{f:α→Option Z}{a:α}(h:l[k]?=Option.some a):get l k f=f a:=by unfold get;rw[h]
theorem Nn{l:List α}{k:Nat}{f:α→Option Z}(d:α)(h:k<l.length):get l k f=f (l.getD k d):=get_eq (by simp[List.getD,h])
theorem Ok.get{l:List α}{k:Nat}{f:α→Option Z}(h:k<l.length)(c:∀a,l[k]?=Option.some a→a∈l→Ok (f a) Q):Ok (get l k f) Q:=by
 have e:l[k]?=Option.some l[k]:=List.getElem?_eq_getElem h
 rw[get_eq e]
 exact c _ e (List.getElem_mem h)
theorem Ah9:br true x y=x:=rfl
theorem Bq:br false x y=y:=rfl
theorem Ax{p:Prop}[Decidable p](h:p):br (decide p) x y=x:=by simp[h,br]
theorem Ae{p:Prop}[Decidable p](h:¬p):br (decide p) x y=y:=by simp[h,br]
theorem Gg{p:Prop}[Decidable p](h:p):br (!decide p) x y=y:=by simp[h,br]
theorem Ue{p:Prop}[Decidable p](h:¬p):br (!decide p) x y=x:=by simp[h,br]
end
def InR(lo hi:Int)(l:List Int):Prop:=∀x∈l,lo≤x∧x≤hi
theorem InR.append{lo hi:Int}{l:List Int}(h:InR lo hi l){x:Int}(hx:lo≤x∧x≤hi):InR lo hi (l++[x]):=by
 intro y hy
 rcases List.mem_append.1 hy with hy | hy
 ·exact h y hy
 ·simp at hy;subst hy;exact hx
theorem InR.drop{lo hi:Int}{l:List Int}(h:InR lo hi l)(n:Nat):InR lo hi (l.drop n):=fun x hx=>h x (List.mem_of_mem_drop hx)
theorem InR.nil{lo hi:Int}:InR lo hi []:=fun _ h=>by cases h
theorem InR.mono{lo hi lo' hi':Int}{l:List Int}(h:InR lo hi l)(h1:lo'≤lo)(h2:hi≤hi'):InR lo' hi' l:=fun x hx=>by have:=h x hx;omega

def ixL{α:Type}(f:α→Option Bool):Nat→List α→Int→Int→Option (Int⊕Unit)
 | 0,_,_,_=>none
 | n+1,s,u,u2=>br (decide (u2<u)) (idx s u2 fun x=>(f x).bind fun c=>br c (some (.inl u2)) (chk (u2+1)<|ixL f n s u (u2+1))) (some (.inr ()))
def ixS{α:Type}(f:α→Option Bool)(N:Nat)(s:List α):Option Int:=(ixL f N s (s.length:Int) 0).bind fun e=>match e with
 | .inl i=>some i
 | .inr _=>some (-1)
theorem A78{α:Type}{f:α→Option Bool}{p:α→Bool}{s:List α}(hf:∀x∈s,f x=some (p x))(hs:s.length≤1000000):∀(n k:Nat),s.length<n+k→k≤s.length →
  Ok (ixL f n s (s.length:Int) (k:Int)) fun r=>match r with | .inl i=>(0≤i∧i<s.length)∧(s.drop k).any p=true | .inr _=>(s.drop k).any p=false
 | 0,k,h,hk=>by omega
 | n+1,k,h,hk=>by
  unfold ixL
  refine Ok.brd (fun h1=>?_) (fun h1=>Ok.some ?_)
  ·have hlt:k<s.length:=by omega
   refine Ok.idx (by omega) h1 (fun a ha hm=>?_)
   have hd:s.drop k=a::s.drop (k+1):=by
    rw[List.drop_eq_getElem_cons hlt]
    have:s[k]?=some a:=by simpa using ha
    rw[List.getElem?_eq_getElem hlt]at this
    simp only[Option.some.injEq]at this
    rw[this]
   refine Ok.eqb (hf a hm) (Ok.br (fun hp=>Ok.some ?_) (fun hp=>Ok.chk (by omega) ?_))
   ·exact⟨⟨by omega,by omega⟩,by rw[hd];simp[hp]⟩
   ·have:=A78 hf hs n (k+1) (by omega) (by omega)
    rw[show((k+1:Nat):Int)=(k:Int)+1 by omega]at this
    refine this.mono (fun r hr=>?_)
    rw[hd]
    cases r<;>simpa [hp]using hr
  ·have:s.drop k=[]:=List.drop_of_length_le (by omega)
   simp[this]
theorem Vp{α:Type}{f:α→Option Bool}{p:α→Bool}{s:List α}{N:Nat}(hf:∀x∈s,f x=some (p x))(hs:s.length≤1000000)(hN:s.length<N):((ixS f N s).bind fun x=>some (decide (0≤x)))=some (s.any p):=by
 obtain⟨r,h1,h2⟩:=A78 hf hs N 0 (by omega) (by omega)
 unfold ixS
 rw[show((0:Nat):Int)=0 from rfl]at h1
 rw[h1]
 cases r with
 | inl i=>simp only[List.drop_zero]at h2;simp[h2.1.1,h2.2]
 | inr u=>simp only[List.drop_zero]at h2;simp[h2]
theorem V4{α:Type}(p:α→Bool)(s:List α):(!(s.any fun x=>!p x))=s.all p:=by
 induction s with
 | nil=>rfl
 | cons a s ih=>simp only[List.any_cons,List.all_cons,Bool.not_or,Bool.not_not,ih]
end Go.Proofs.Ytgeijboidfadaaa.Fd

namespace Go.Proofs.Ytgeijboidfadaaa.Fd
set_option linter.all false
open Go

theorem Axz{P:Program}{s:Spec}(hok:A0 P s)(hb:s.ins.blks=[]){p:s.ins.den}{r:altD s.outs}(hr:s.run p some=some r){M:Nat→Option Obj}{w:World}(hM:∀b o,M b=some o→w.heap[b]?=some o)
  {vs:List Value} (hv:RepVs ⟨fun _=>none,M⟩ (encs id s.ins.avs p.1) vs):Fn P s.f vs.toArray w (fun v w'=>Ext w w'∧∃g',RepV g' (resVal (encs id (altOf s.outs r).1.avs (altOf s.outs r).2.1)) v):=by
 have hh:∀i,hOf p.2 i=Option.none:=fun i=>by
  unfold hOf
  rw[List.getElem?_eq_none]
  rw[Ah,hb];exact Nat.zero_le _
 have hs:Sim ⟨fun _=>none,M⟩ (hOf p.2) w:=⟨fun b o h=>hM b o h,fun i k hk=>(by rw[hh i]at hk;cases hk),fun i j ki kj b ci ni cj nj h1=>(by rw[hh i]at h1;cases h1)⟩
 refine Fn.mono (hok.fn p r hr ⟨fun _=>none,M⟩ w vs hv hs (fun _ _=>rfl)) ?_
 rintro v w' ⟨g',st,_,hv'⟩
 refine⟨⟨st.os,st.tape,st.output,st.size,fun k hk _=>st.same k hk ?_⟩,g',hv'⟩
 rintro ⟨i,hi,_⟩
 rw[hb]at hi;simp at hi
def Cl(w:World)(b o:Nat)(vs:List Value):Prop:=∀(i:Nat) (v:Value),vs[i]?=some v→w.cell? ⟨b,o+i,none⟩=some v
theorem Cl.cell{w:World}{b o i:Nat}{vs:List Value}{v:Value}(h:Cl w b o vs)(hi:vs[i]?=some v):w.cell? ⟨b,o+i,none⟩=some v:=h i v hi
theorem Cl.of_seg{w:World}{b o:Nat}{ws us:List Value}{ty:TypeId}{z:Nat×Nat}(hb:w.heap[b]?=some (.cells ws.toArray ty z))(h:Seg ws o us):Cl w b o us:=fun i v hi=>by
 have:=Seg.row hb h i v hi
 rwa [Au]at this
def mayF(R:Nat→Bool)(m k:Nat):List Nat:=(List.range' k (m-k)).filter R
theorem B1f{R:Nat→Bool}{m k:Nat}(h:k<m)(e:R k=true):mayF R m k=k::mayF R m (k+1):=by
 unfold mayF
 rw[show m-k=(m-(k+1))+1 by omega,List.range'_succ,List.filter_cons,if_pos e]
theorem B3f{R:Nat→Bool}{m k:Nat}(h:k<m)(e:R k=false):mayF R m k=mayF R m (k+1):=by
 unfold mayF
 rw[show m-k=(m-(k+1))+1 by omega,List.range'_succ,List.filter_cons,if_neg (by simp[e])]
theorem Ayo{R:Nat→Bool}{m k:Nat}(h:m≤k):mayF R m k=[]:=by
 unfold mayF
 rw[show m-k=0 by omega];rfl
theorem Alm{R:Nat→Bool}{m k j:Nat}:j∈mayF R m k↔k≤j∧j<m∧R j=true:=by
 unfold mayF
 rw[List.mem_filter,List.mem_range'_1]
 constructor
 ·rintro ⟨⟨h1,h2⟩,h3⟩;exact⟨h1,by omega,h3⟩
 ·rintro ⟨h1,h2,h3⟩;exact⟨⟨h1,by omega⟩,h3⟩
noncomputable def c123:Code:=(Try.f71.body).getD .skip
noncomputable def Ap0:List Item:=[.code (sub c123 [0]),.code (sub c123 [1])]
noncomputable def Z2:List Item:=[.code (sub c123 [1,0,0,0]),.code (sub c123 [1,0,0,1]),.inLoop (sub c123 [1,0,0]),.inBlock 0]
noncomputable def As2:List Item:=[.code (sub c123 [1,0,0,1,0]),.code (sub c123 [1,0,0,1,1]),.inLoop (sub c123 [1,0,0]),.inBlock 0]
noncomputable def B6a:List Item:=[.code (sub c123 [1,0,0,1,1,0,0,0]),.code (sub c123 [1,0,0,1,1,0,0,1]),.inBlock 1,.code (sub c123 [1,0,0,1,1,1]),.inLoop (sub c123 [1,0,0]),.inBlock 0]
noncomputable def B6u:List Item:=[]
noncomputable def B6t:List Item:=[.code (sub c123 [1,0,0,1,1,0,0,1,0]),.code (sub c123 [1,0,0,1,1,0,0,1,1]),.inBlock 1,.code (sub c123 [1,0,0,1,1,1]),.inLoop (sub c123 [1,0,0]),.inBlock 0]
noncomputable def B5j:List Item:=[.code (sub c123 [1,0,0,1,1,0,0,1,1]),.inBlock 1,.code (sub c123 [1,0,0,1,1,1]),.inLoop (sub c123 [1,0,0]),.inBlock 0]
noncomputable def Aqv:List Item:=[.code (sub c123 [1,0,0,1,1,0,0,1,1,0]),.inBlock 1,.code (sub c123 [1,0,0,1,1,1]),.inLoop (sub c123 [1,0,0]),.inBlock 0]
noncomputable def Ap8:List Item:=[.code (sub c123 [1,0,0,1,1,1]),.inLoop (sub c123 [1,0,0]),.inBlock 0]
set_option maxHeartbeats 400000 in
theorem B41(l bd od bc oc bl ol:Nat)(vd vd2:Addr)(lost:Int)(m:Nat)(fs:Option Addr)(fc:Nat)(R:Nat→Bool)(S:List Nat)(J:List Nat→World→Prop)(Q:World→Prop)(w:World)
  (hbd:∀w',Upd (l::S) w w'→Cl w' bd od [.pointer (some vd)]) (hbc:∀w',Upd (l::S) w w'→Cl w' bc oc [(.func (.func 38) #[.pointer (some vd2)] #[])]) (hbl:∀w',Upd (l::S) w w'→Cl w' bl ol [.int .i64 lost])
  (hfo:∀w',Upd (l::S) w w'→w'.cell? (vd.add 3)=some (.slice fs m fc))
  (hcan:∀(k:Nat) w',k<m→Upd (l::S) w w'→Fn Try.prog 38 #[.pointer (some vd2),.int .i64 lost,.int .i64 (↑k:Int)] w' (fun v w2=>Ext w' w2∧v=.bool (R k)))
  (hm:m≤1000000) (hJ:J (mayF R m 0) w) (hxJ:∀r,Bl w.heap.size (J r))
  (hy:∀k r w1,k∈mayF R m 0→J (k::r) w1→Upd (l::S) w w1→Dl Try.prog l #[.int .i64 ↑k] w1 (fun v w2=>Upd (l::S) w1 w2∧((v=.bool true∧J r w2)∨(v=.bool false∧Q w2)))) :
  Fn Try.prog 71 #[(.func (.yield l) #[] #[]),(.pointer (some ⟨bd,od,none⟩)),(.pointer (some ⟨bc,oc,none⟩)),(.pointer (some ⟨bl,ol,none⟩))] w (fun _ w'=>Upd (l::S) w w'∧(J [] w'∨Q w')):=by
 refine Fn.ofSt (c:=c123) 26 Ap0 [(0,(.func (.yield l) #[] #[])),(1,(.pointer (some ⟨bd,od,none⟩))),(2,(.pointer (some ⟨bc,oc,none⟩))),(3,(.pointer (some ⟨bl,ol,none⟩)))] Try.func71 (by kernel_rfl) ⟨⟨rfl,by kernel_rfl⟩,by kernel_rfl⟩ (by kernel_rfl) ?_
 intro cs
 refine St.reg Z2 [(0,true),(1,true),(2,true),(3,true),(4,true),(5,true),(6,true)] (by kernel_rfl) (by kernel_rfl) ?_
 refine RX.q 7 [(0,true,(.pointer (some vd))),(4,true,(.slice fs m fc))] [(0,(.func (.yield l) #[] #[])),(1,(.pointer (some ⟨bd,od,none⟩))),(2,(.pointer (some ⟨bc,oc,none⟩))),(3,(.pointer (some ⟨bl,ol,none⟩))),(11,(.int .i64 (↑m:Int))),(12,(.int .i64 0))] [.cell ⟨bd,od+0,none⟩ (.pointer (some vd)),.cell (vd.add 3) (.slice fs m fc)] (by kernel_rfl) ⟨Cl.cell (hbd w (Upd.refl _ w)) rfl,hfo w (Upd.refl _ w)⟩ ?_
 refine RX.done [(0,(.func (.yield l) #[] #[])),(1,(.pointer (some ⟨bd,od,none⟩))),(2,(.pointer (some ⟨bc,oc,none⟩))),(3,(.pointer (some ⟨bl,ol,none⟩))),(11,(.int .i64 (↑m:Int))),(12,(.int .i64 0))] (by kernel_rfl) (by kernel_rfl) ?_
 have loop1:∀(N:Nat) (k:Nat) (w2:World),k≤m→(J (mayF R m k) w2)→(Upd (l::S) w w2)→N=m-k→St Try.prog (fctx Try.prog 71 (fun _ w'=>Upd (l::S) w w'∧(J [] w'∨Q w')) cs) 26 Z2 [(12,(.int .i64 (↑k:Int))),(11,(.int .i64 (↑m:Int))),(0,(.func (.yield l) #[] #[])),(1,(.pointer (some ⟨bd,od,none⟩))),(2,(.pointer (some ⟨bc,oc,none⟩))),(3,(.pointer (some ⟨bl,ol,none⟩)))] [] w2:=by
  intro N3
  induction N3 using Nat.strongRecOn with
  | ind N3 ih4=>?_
  intro k w2 hk hJk hE hN5
  refine St.reg As2 [(0,true)] (by kernel_rfl) (by kernel_rfl) ?_
  refine RX.q 1 [] [(0,(.func (.yield l) #[] #[])),(1,(.pointer (some ⟨bd,od,none⟩))),(2,(.pointer (some ⟨bc,oc,none⟩))),(3,(.pointer (some ⟨bl,ol,none⟩))),(11,(.int .i64 (↑m:Int))),(12,(.int .i64 (↑k:Int))),(13,(.bool (decide ((↑k:Int)<(↑m:Int)))))] [] (by kernel_rfl) trivial ?_
  refine RX.done [(0,(.func (.yield l) #[] #[])),(1,(.pointer (some ⟨bd,od,none⟩))),(2,(.pointer (some ⟨bc,oc,none⟩))),(3,(.pointer (some ⟨bl,ol,none⟩))),(11,(.int .i64 (↑m:Int))),(12,(.int .i64 (↑k:Int))),(13,(.bool (decide ((↑k:Int)<(↑m:Int)))))] (by kernel_rfl) (by kernel_rfl) ?_
  refine St.cond (k1:=B6a) (k2:=B6u) (decide ((↑k:Int)<(↑m:Int))) (by kernel_rfl) (fun hc7=>?_) (fun hc7=>?_)
  ·have hh8:(↑k:Int)<(↑m:Int):=by simpa using hc7
   clear hc7
   refine St.weak (L':=[(12,(.int .i64 (↑k:Int))),(11,(.int .i64 (↑m:Int))),(0,(.func (.yield l) #[] #[])),(1,(.pointer (some ⟨bd,od,none⟩))),(2,(.pointer (some ⟨bc,oc,none⟩))),(3,(.pointer (some ⟨bl,ol,none⟩)))]) (by kernel_rfl) ?_
   refine St.reg B6t [(0,true),(1,true)] (by kernel_rfl) (by kernel_rfl) ?_
   refine RX.q 2 [] [(0,(.func (.yield l) #[] #[])),(1,(.pointer (some ⟨bd,od,none⟩))),(2,(.pointer (some ⟨bc,oc,none⟩))),(3,(.pointer (some ⟨bl,ol,none⟩))),(11,(.int .i64 (↑m:Int))),(12,(.int .i64 (↑k:Int))),(5,(.int .i64 (↑k:Int)))] [] (by kernel_rfl) trivial ?_
   refine RX.done [(0,(.func (.yield l) #[] #[])),(1,(.pointer (some ⟨bd,od,none⟩))),(2,(.pointer (some ⟨bc,oc,none⟩))),(3,(.pointer (some ⟨bl,ol,none⟩))),(11,(.int .i64 (↑m:Int))),(12,(.int .i64 (↑k:Int))),(5,(.int .i64 (↑k:Int)))] (by kernel_rfl) (by kernel_rfl) ?_
   refine St.reg B5j [(0,true),(1,true),(2,true),(3,false),(4,true),(5,true),(6,true),(7,false),(8,true),(9,true)] (by kernel_rfl) (by kernel_rfl) ?_
   refine RX.q 3 [(0,true,(.func (.func 38) #[.pointer (some vd2)] #[])),(1,true,(.int .i64 lost))] [(0,(.func (.yield l) #[] #[])),(1,(.pointer (some ⟨bd,od,none⟩))),(2,(.pointer (some ⟨bc,oc,none⟩))),(3,(.pointer (some ⟨bl,ol,none⟩))),(11,(.int .i64 (↑m:Int))),(12,(.int .i64 (↑k:Int))),(5,(.int .i64 (↑k:Int))),(15,(.func (.func 38) #[.pointer (some vd2)] #[])),(16,(.int .i64 lost)),(17,(.int .i64 (↑k:Int)))] [.cell ⟨bc,oc+0,none⟩ (.func (.func 38) #[.pointer (some vd2)] #[]),.cell ⟨bl,ol+0,none⟩ (.int .i64 lost)] (by kernel_rfl) ⟨Cl.cell (hbc w2 hE) rfl,Cl.cell (hbl w2 hE) rfl⟩ ?_
   refine RX.call 18 38 #[.pointer (some vd2),(.int .i64 lost),(.int .i64 (↑k:Int))] [(0,(.func (.yield l) #[] #[])),(1,(.pointer (some ⟨bd,od,none⟩))),(2,(.pointer (some ⟨bc,oc,none⟩))),(3,(.pointer (some ⟨bl,ol,none⟩))),(11,(.int .i64 (↑m:Int))),(12,(.int .i64 (↑k:Int))),(5,(.int .i64 (↑k:Int))),(15,(.func (.func 38) #[.pointer (some vd2)] #[])),(16,(.int .i64 lost)),(17,(.int .i64 (↑k:Int)))] (fun _=>by kernel_rfl) (by kernel_rfl) ?_
   refine Fn.mono (hcan k w2 (by omega) hE) ?_
   rintro _ w4 ⟨hx4,rfl⟩
   have hE4:Upd (l::S) w w4:=Upd.ext hE hx4
   have hJ4:J (mayF R m k) w4:=Bl.ext (hxJ _) hJk hx4
   cases hR:R k with
   | true=>
    refine RX.q 3 [] [(0,(.func (.yield l) #[] #[])),(1,(.pointer (some ⟨bd,od,none⟩))),(2,(.pointer (some ⟨bc,oc,none⟩))),(3,(.pointer (some ⟨bl,ol,none⟩))),(11,(.int .i64 (↑m:Int))),(12,(.int .i64 (↑k:Int))),(19,(.bool true)),(20,(.func (.yield l) #[] #[])),(21,(.int .i64 (↑k:Int)))] [] (by kernel_rfl) trivial ?_
    rw[B1f (by omega) hR]at hJ4
    refine RX.yield 22 l #[(.int .i64 (↑k:Int))] [(0,(.func (.yield l) #[] #[])),(1,(.pointer (some ⟨bd,od,none⟩))),(2,(.pointer (some ⟨bc,oc,none⟩))),(3,(.pointer (some ⟨bl,ol,none⟩))),(11,(.int .i64 (↑m:Int))),(12,(.int .i64 (↑k:Int))),(19,(.bool true)),(20,(.func (.yield l) #[] #[])),(21,(.int .i64 (↑k:Int)))] (by kernel_rfl) ?_
    refine Dl.mono (hy k _ w4 (Alm.2 ⟨by omega,by omega,hR⟩) hJ4 hE4) ?_
    rintro _ w5 ⟨hu5,⟨rfl,hv⟩ | ⟨rfl,hv⟩⟩
    ·refine RX.q 2 [] [(0,(.func (.yield l) #[] #[])),(1,(.pointer (some ⟨bd,od,none⟩))),(2,(.pointer (some ⟨bc,oc,none⟩))),(3,(.pointer (some ⟨bl,ol,none⟩))),(11,(.int .i64 (↑m:Int))),(12,(.int .i64 (↑k:Int))),(24,(.bool false))] [] (by kernel_rfl) trivial ?_
     refine RX.done [(0,(.func (.yield l) #[] #[])),(1,(.pointer (some ⟨bd,od,none⟩))),(2,(.pointer (some ⟨bc,oc,none⟩))),(3,(.pointer (some ⟨bl,ol,none⟩))),(11,(.int .i64 (↑m:Int))),(12,(.int .i64 (↑k:Int))),(24,(.bool false))] (by kernel_rfl) (by kernel_rfl) ?_
     refine St.cond (k1:=Aqv) (k2:=Ap8) false (by kernel_rfl) (fun hc=>?_) (fun hc=>?_)
     ·cases hc
     ·clear hc
      refine St.weak (L':=[(12,(.int .i64 (↑k:Int))),(11,(.int .i64 (↑m:Int))),(0,(.func (.yield l) #[] #[])),(1,(.pointer (some ⟨bd,od,none⟩))),(2,(.pointer (some ⟨bc,oc,none⟩))),(3,(.pointer (some ⟨bl,ol,none⟩)))]) (by kernel_rfl) ?_
      refine St.reg Z2 [(0,true),(1,true)] (by kernel_rfl) (by kernel_rfl) ?_
      refine RX.q 2 [(0,false,(.int .i64 ((↑k:Int)+1)))] [(0,(.func (.yield l) #[] #[])),(1,(.pointer (some ⟨bd,od,none⟩))),(2,(.pointer (some ⟨bc,oc,none⟩))),(3,(.pointer (some ⟨bl,ol,none⟩))),(11,(.int .i64 (↑m:Int))),(12,(.int .i64 ((↑k:Int)+1)))] [.eq (.int .i64 (IntKind.i64.wrap ((↑k:Int)+1))) (.int .i64 ((↑k:Int)+1))] (by kernel_rfl) (int64 (by omega)) ?_
      refine RX.done [(0,(.func (.yield l) #[] #[])),(1,(.pointer (some ⟨bd,od,none⟩))),(2,(.pointer (some ⟨bc,oc,none⟩))),(3,(.pointer (some ⟨bl,ol,none⟩))),(11,(.int .i64 (↑m:Int))),(12,(.int .i64 ((↑k:Int)+1)))] (by kernel_rfl) (by kernel_rfl) ?_
      refine St.weak (by kernel_rfl) (ih4 _ ?_ (k+1) w5 (by omega) hv (Upd.trans hE4 hu5) rfl)
      omega
    ·refine RX.q 2 [] [(0,(.func (.yield l) #[] #[])),(1,(.pointer (some ⟨bd,od,none⟩))),(2,(.pointer (some ⟨bc,oc,none⟩))),(3,(.pointer (some ⟨bl,ol,none⟩))),(11,(.int .i64 (↑m:Int))),(12,(.int .i64 (↑k:Int))),(24,(.bool true))] [] (by kernel_rfl) trivial ?_
     refine RX.done [(0,(.func (.yield l) #[] #[])),(1,(.pointer (some ⟨bd,od,none⟩))),(2,(.pointer (some ⟨bc,oc,none⟩))),(3,(.pointer (some ⟨bl,ol,none⟩))),(11,(.int .i64 (↑m:Int))),(12,(.int .i64 (↑k:Int))),(24,(.bool true))] (by kernel_rfl) (by kernel_rfl) ?_
     refine St.cond (k1:=Aqv) (k2:=Ap8) true (by kernel_rfl) (fun hc=>?_) (fun hc=>?_)
     ·clear hc
      refine St.weak (L':=[]) (by kernel_rfl) ?_
      refine St.ret [] [] (by kernel_rfl) Try.func71 (by kernel_rfl) .nil ?_
      exact⟨Upd.trans hE4 hu5,.inr hv⟩
     ·cases hc
   | false=>
    refine RX.q 3 [] [(0,(.func (.yield l) #[] #[])),(1,(.pointer (some ⟨bd,od,none⟩))),(2,(.pointer (some ⟨bc,oc,none⟩))),(3,(.pointer (some ⟨bl,ol,none⟩))),(11,(.int .i64 (↑m:Int))),(12,(.int .i64 (↑k:Int))),(19,(.bool false)),(20,undef),(21,undef)] [] (by kernel_rfl) trivial ?_
    refine RX.skip [(0,(.func (.yield l) #[] #[])),(1,(.pointer (some ⟨bd,od,none⟩))),(2,(.pointer (some ⟨bc,oc,none⟩))),(3,(.pointer (some ⟨bl,ol,none⟩))),(11,(.int .i64 (↑m:Int))),(12,(.int .i64 (↑k:Int))),(19,(.bool false)),(20,undef),(21,undef),(22,undef)] (by kernel_rfl) ?_
    refine RX.q 2 [] [(0,(.func (.yield l) #[] #[])),(1,(.pointer (some ⟨bd,od,none⟩))),(2,(.pointer (some ⟨bc,oc,none⟩))),(3,(.pointer (some ⟨bl,ol,none⟩))),(11,(.int .i64 (↑m:Int))),(12,(.int .i64 (↑k:Int))),(24,(.bool false))] [] (by kernel_rfl) trivial ?_
    refine RX.done [(0,(.func (.yield l) #[] #[])),(1,(.pointer (some ⟨bd,od,none⟩))),(2,(.pointer (some ⟨bc,oc,none⟩))),(3,(.pointer (some ⟨bl,ol,none⟩))),(11,(.int .i64 (↑m:Int))),(12,(.int .i64 (↑k:Int))),(24,(.bool false))] (by kernel_rfl) (by kernel_rfl) ?_
    refine St.cond (k1:=Aqv) (k2:=Ap8) false (by kernel_rfl) (fun hc=>?_) (fun hc=>?_)
    ·cases hc
    ·clear hc
     refine St.weak (L':=[(12,(.int .i64 (↑k:Int))),(11,(.int .i64 (↑m:Int))),(0,(.func (.yield l) #[] #[])),(1,(.pointer (some ⟨bd,od,none⟩))),(2,(.pointer (some ⟨bc,oc,none⟩))),(3,(.pointer (some ⟨bl,ol,none⟩)))]) (by kernel_rfl) ?_
     refine St.reg Z2 [(0,true),(1,true)] (by kernel_rfl) (by kernel_rfl) ?_
     refine RX.q 2 [(0,false,(.int .i64 ((↑k:Int)+1)))] [(0,(.func (.yield l) #[] #[])),(1,(.pointer (some ⟨bd,od,none⟩))),(2,(.pointer (some ⟨bc,oc,none⟩))),(3,(.pointer (some ⟨bl,ol,none⟩))),(11,(.int .i64 (↑m:Int))),(12,(.int .i64 ((↑k:Int)+1)))] [.eq (.int .i64 (IntKind.i64.wrap ((↑k:Int)+1))) (.int .i64 ((↑k:Int)+1))] (by kernel_rfl) (int64 (by omega)) ?_
     refine RX.done [(0,(.func (.yield l) #[] #[])),(1,(.pointer (some ⟨bd,od,none⟩))),(2,(.pointer (some ⟨bc,oc,none⟩))),(3,(.pointer (some ⟨bl,ol,none⟩))),(11,(.int .i64 (↑m:Int))),(12,(.int .i64 ((↑k:Int)+1)))] (by kernel_rfl) (by kernel_rfl) ?_
     refine St.weak (by kernel_rfl) (ih4 _ ?_ (k+1) w4 (by omega) (by rw[←B3f (by omega) hR];exact hJ4) hE4 rfl)
     omega
  ·have hh52:(↑m:Int)≤(↑k:Int):=by simpa using hc7
   clear hc7
   refine St.weak (L':=[]) (by kernel_rfl) ?_
   refine St.ret [] [] (by kernel_rfl) Try.func71 (by kernel_rfl) .nil ?_
   refine⟨hE,.inl ?_⟩
   rw[←Ayo (R:=R) (m:=m) (k:=k) (by omega)];exact hJk
 exact St.weak (by kernel_rfl) (loop1 _ 0 w (by omega) hJ (Upd.refl (l::S) w) rfl)
def agD(d:Dk)(i k:Nat):Int:=d.2.2.2.2.2.1.getD (i*6+k) 0
def slD(d:Dk)(i k:Nat):Int:=d.2.2.2.2.2.2.1.getD (i*6+k) 0
def canD(d:Dk)(i k:Nat):Bool:=decide (0<agD d i k)&&decide (slD d i k≤d.2.1)
theorem B7m{N:Nat}{d:Dk}(hA:d.2.2.2.2.2.1.length=36)(hS:d.2.2.2.2.2.2.1.length=36){i k:Nat}(hi:i<6)(hk:k<6):Acr N d i k=some (canD d i k):=by
 unfold Acr canD agD slD
 rw[B3 (by omega),B3 (by omega)]
 simp only[Int.toNat_natCast]
 rw[Nn 0 (by omega)]
 by_cases c:0<d.2.2.2.2.2.1.getD (i*6+k) 0
 ·rw[Ax c,B3 (by omega),B3 (by omega),Nn 0 (by omega),decide_eq_true c];rfl
 ·rw[Ae c,decide_eq_false c];rfl
def mayR(d d':Dk)(lost:Int):Option (List (Int×Unit)):=
 if(0≤lost∧lost<6)∧d.2.2.2.1.length≤6∧d'.2.2.2.2.2.1.length=36∧d'.2.2.2.2.2.2.1.length=36 then some ((mayF (canD d' lost.toNat) d.2.2.2.1.length 0).map fun(j:Nat)=>((j:Int),()))else none
abbrev Arn:Avr:={ f:=71,cap:=[.fz [shD],.fz [.fn 38 [shD] []],.fe (.int .i64)],elem:=[.i .i64],run:=fun p=>mayR p.1.1 p.2.1.1.1.1 p.2.2.1 }
theorem Df{n:Int}(h:-1000000≤n∧n≤1000000):inR .i64 n:=Fz.2 (by omega)
theorem Aw8:Aei Try.prog Arn:=by
 refine⟨by rfl,fun _=>by kernel_rfl,fun p es hes g vs hvs l S J Q w hM hS hJ hxJ hxQ hy=>?_⟩
 obtain⟨⟨d,⟨⟩⟩,⟨⟨⟨d',⟨⟩⟩,⟨⟩⟩,⟨⟩⟩,lost,⟨⟩⟩:=p
 simp only[mayR]at hes
 split at hes
 rotate_left
 ·cases hes
 rename_i hc
 simp only[Option.some.injEq]at hes
 subst hes
 obtain⟨⟨ha0,ha1⟩,hf,hA,hS'⟩:=hc
 obtain⟨i,rfl⟩:∃n:Nat,lost=n:=⟨lost.toNat,(Int.toNat_of_nonneg ha0).symm⟩
 simp only[Int.toNat_natCast]at hJ ⊢
 simp only[encs,enc,RepVs,RepV]at hvs
 obtain⟨v1,r1,rfl,⟨bd,od,wd,td,ud,rfl,hbd,hsd,hcd⟩,v2,r2,rfl,⟨bc,oc,wc,tc,uc,rfl,hbc,hsc,hcc⟩,v3,r3,rfl,⟨bl,ol,wl,tl,ul,rfl,hbl,hsl,hcl⟩,rfl⟩:=hvs
 obtain⟨rfl,hin⟩:=hcl
 obtain⟨x1,x2,rfl,⟨x3,rfl,hx⟩,rfl⟩:=hcd
 simp only[RepV]at hx
 obtain⟨bo,oo,wo,to,uo,rfl,hbo,hso,hco⟩:=hx
 obtain⟨y1,y2,rfl,⟨y3,rfl,hy'⟩,rfl⟩:=hcc
 simp only[RepV,RepVs]at hy'
 obtain⟨va,vc,rfl,⟨z1,z2,rfl,⟨be,oe,we,te,ue,rfl,hbe,hse,hce⟩,rfl⟩,rfl⟩:=hy'
 simp only[A4,PartOf,RepV]at hco
 obtain⟨p1,q1,rfl,⟨e1,rfl,h1⟩,p2,q2,rfl,⟨e2,rfl,h2⟩,p3,q3,rfl,⟨e3,rfl,h3⟩,p4,q4,rfl,⟨e4,rfl,h4⟩,hrest⟩:=hco
 obtain⟨hl4,fa,fc,rfl,hfc,hf4⟩:=h4
 have hmem:∀w',Upd (l::S) w w'→∀b o,g.M b=some o→w'.heap[b]?=some o:=fun w' hu b o hb=>hu.blk (hM b o hb).2 (hM b o hb).1
 have hrd:RepV ⟨fun _=>none,g.M⟩ (enc id shD d') (.pointer (some ⟨be,oe,none⟩)):=⟨be,oe,we,te,ue,rfl,hbe,hse,hce⟩
 have hfn:=B41 l bd od bc oc bl ol ⟨bo,oo,none⟩ ⟨be,oe,none⟩ (i:Int) d.2.2.2.1.length fa fc (canD d' i) S (fun r=>J (r.map fun(j:Nat)=>((j:Int),()))) Q w
  (fun w' hu=>Cl.of_seg (hmem w' hu _ _ hbd) hsd) (fun w' hu=>Cl.of_seg (hmem w' hu _ _ hbc) hsc) (fun w' hu=>Cl.of_seg (hmem w' hu _ _ hbl) hsl)
  (fun w' hu=>Cl.cell (Cl.of_seg (hmem w' hu _ _ hbo) hso) (i:=3) rfl)
  (fun k w' h1 hu=>Fn.mono (Axz (Aw4 200) rfl (p:=((d',((i:Int),((k:Int),()))),())) (r:=((canD d' i k,()),())) (by
    show((Acr 200 d' i k).bind fun r=>some ((r,()),()))=_
    rw[B7m hA hS' (by omega) (by omega)];rfl) (hmem w' hu) ⟨_,_,rfl,hrd,_,_,rfl,⟨rfl,(show inR .i64 (i:Int)from Df (by omega))⟩,_,_,rfl,⟨rfl,(show inR .i64 (k:Int)from Df (by omega))⟩,rfl⟩) (fun v w2 ⟨h1,g',h2⟩=>⟨h1,by
   simp only[altOf,encs,enc,resVal,RepV]at h2
   exact h2⟩))
  (by omega) hJ (fun r=>hxJ _) (fun m r w1 hm hj hu=>hy ((m:Int),()) (r.map fun(j:Nat)=>((j:Int),())) w1 [.int .i64 (m:Int)] hj hu ⟨_,_,rfl,⟨rfl,Df (by have:=(Alm.1 hm).2.1;omega)⟩,rfl⟩)
 exact hfn
end Go.Proofs.Ytgeijboidfadaaa.Fd

namespace Go.Proofs.Ytgeijboidfadaaa.Fd
set_option linter.all false
open Go
theorem B3p{y:Ty}{g:Gh}{w w':World}{l:List y.den}{v:Value}{h0:Nat→Option Blk'}(hs:Sim g h0 w)(hρ:∀i,g.ρ i=none)(hE:Ext w w')(hl:l.length≤1000000)
  (hv:(v=.slice none 0 0∧l=[])∨∃b c vs rest ty,v=.slice (some ⟨b,0,none⟩) l.length c∧w.heap.size≤b∧Blk w' b (vs++rest) ty∧RepL g.M y l vs∧(l.length≤c∧c≤9223372036854775807)∧rest.length=(c-l.length)*y.cells) :
  ∃g',Stp (Sw g h0 (List.range 0)) (fun i=>0≤i∧i<1) g w g' w'∧Sim g' (fun i=>([.lst y l]:List Blk')[i]?) w'∧RepV g' (.ols 0) v:=by
 have hlt:∀b o,g.M b=some o→b<w.heap.size:=fun b o h=>A5 (hs.mem b o h)
 have hsame:∀i,i<w.heap.size→w'.heap[i]?=w.heap[i]?:=fun i hi=>hE.same i hi (by simp)
 have key:∀x:Option (Nat×Nat×Nat),(∀b c n,x=some (b,c,n)→w.heap.size≤b)→RepBlk (newG g 0 x) w' 0 (.lst y l)→RepV (newG g 0 x) (.ols 0) v →
   ∃g',Stp (Sw g h0 (List.range 0)) (fun i=>0≤i∧i<1) g w g' w'∧Sim g' (fun i=>([.lst y l]:List Blk')[i]?) w'∧RepV g' (.ols 0) v:=by
  intro x hx hB hV
  refine⟨newG g 0 x,⟨hE.os,hE.tape,hE.output,hE.size,fun i hi _=>hsame i hi,Mr (hρ 0),fun i h2 h3=>?_,fun i b' c' n' h2 h3=>?_,fun b' o h2=>.inl h2⟩,⟨fun b' o h2=>?_,fun i k hk=>?_,fun i j ki kj b ci ni cj nj hi hj mi mj ei ej=>?_⟩,hV⟩
  ·by_cases e:i=0
   ·omega
   ·simp only[newG,if_neg e]at h3
    exact absurd h2 h3
  ·by_cases e:i=0
   ·subst e
    rw[Ak]at h3
    exact .inl (hx _ _ _ (Option.some.inj h3))
   ·simp only[newG,if_neg e]at h3
    rw[h2]at h3;cases h3
  ·have h2':g.M b'=some o:=h2
   rw[hsame b' (hlt b' o h2')]
   exact hs.mem b' o h2'
  ·match i,hk with
   | 0,hk=>simp at hk;subst hk;exact hB
   | i+1,hk=>simp at hk
  ·match i,j,hi,hj with
   | 0,0,_,_=>rfl
   | i+1,_,hi,_=>simp at hi
   | _,j+1,_,hj=>simp at hj
 rcases hv with⟨rfl,rfl⟩ | ⟨b,c,vs,rest,ty,rfl,hb,hB,hR,hc,hr⟩
 ·exact key none (fun _ _ _ h=>by cases h) ⟨by simp,.inl ⟨Ak _ _ _,rfl⟩⟩ (.inl ⟨Ak _ _ _,rfl⟩)
 ·have hMb:g.M b=none:=by
   cases e:g.M b with
   | none=>rfl
   | some o=>have:=hlt b o e;omega
  refine key (some (b,c,l.length)) (fun b' c' n' h=>?_) ⟨hl,.inr ⟨b,c,vs,rest,ty,Ak _ _ _,hB,hR,hc,hr,hMb⟩⟩ (.inr ⟨b,c,l.length,Ak _ _ _,rfl⟩)
  simp only[Option.some.injEq,Prod.mk.injEq]at h
  omega

end Go.Proofs.Ytgeijboidfadaaa.Fd

namespace Go.Proofs.Ytgeijboidfadaaa.Fe
open Go Fd
noncomputable def c59:Code:=(Try.f59.body).getD .skip
noncomputable def B7q:List Item:=[.code (sub c59 [0]),.code (sub c59 [1])]
noncomputable def B80:List Item:=[.code (sub c59 [1,0,0]),.code (sub c59 [1,0,1]),.code (sub c59 [1,1])]
noncomputable def B50:List Item:=[.code (sub c59 [1,0,1]),.code (sub c59 [1,1])]
noncomputable def B54:List Item:=[.code (sub c59 [1,0,1,0,0]),.code (sub c59 [1,0,1,0,1]),.code (sub c59 [1,1])]
noncomputable def B4y:List Item:=[.code (sub c59 [1,1,0]),.code (sub c59 [1,1,1])]
noncomputable def B83:List Item:=[.code (sub c59 [1,0,1,0,1]),.code (sub c59 [1,1])]
noncomputable def B7z:List Item:=[.code (sub c59 [1,1,1])]
theorem Aoc(a:Option Addr)(c:Nat)(w:World):Fn Try.prog 59 #[.slice a 0 c] w (fun v w'=>Ext w w'∧∃ab,Acc 3 1 w.heap.size w' v 0 [] ab):=by
 refine Fn.ofSt (c:=c59) 8 B7q [(0,.slice a 0 c)] Try.func59 (by kernel_rfl) ⟨⟨rfl,by kernel_rfl⟩,by kernel_rfl⟩ (by kernel_rfl) ?_
 intro cs
 refine St.reg B80 [(0,true)] (by kernel_rfl) (by kernel_rfl) ?_
 refine RX.q 1 [] [(0,.slice a 0 c)] [] (by kernel_rfl) trivial ?_
 refine RX.done [(0,.slice a 0 c)] (by kernel_rfl) (by kernel_rfl) ?_
 cases a with
 | none=>
  refine St.reg B50 [(0,true),(1,true)] (by kernel_rfl) (by kernel_rfl) ?_
  refine RX.q 2 [] [(4,.bool true)] [] (by kernel_rfl) trivial ?_
  refine RX.done [(4,.bool true)] (by kernel_rfl) (by kernel_rfl) ?_
  refine St.cond (k1:=B54) (k2:=B4y) true (by kernel_rfl) (fun _=>?_) (fun hc=>by cases hc)
  refine St.weak (L':=[]) (by kernel_rfl) ?_
  refine St.reg B83 [(0,true)] (by kernel_rfl) (by kernel_rfl) ?_
  refine RX.q 1 [] [(2,.slice none 0 0)] [] (by kernel_rfl) trivial ?_
  refine RX.done [(2,.slice none 0 0)] (by kernel_rfl) (by kernel_rfl) ?_
  refine St.ret [.tmp 2] [.slice none 0 0] (by kernel_rfl) Try.func59 (by kernel_rfl) (.cons (.tmp (by kernel_rfl)) .nil) ?_
  exact⟨Upd.refl _ _,[],Acc.nil _ _ _ _⟩
 | some p=>
  refine St.reg B50 [(0,true),(1,true)] (by kernel_rfl) (by kernel_rfl) ?_
  refine RX.q 2 [] [(4,.bool false),(0,.slice (some p) 0 c)] [] (by kernel_rfl) trivial ?_
  refine RX.done [(4,.bool false),(0,.slice (some p) 0 c)] (by kernel_rfl) (by kernel_rfl) ?_
  refine St.cond (k1:=B54) (k2:=B4y) false (by kernel_rfl) (fun hc=>by cases hc) (fun _=>?_)
  refine St.weak (L':=[(0,.slice (some p) 0 c)]) (by kernel_rfl) ?_
  obtain⟨hue,hel,by_,zv,hT,hZ⟩:=Ci (P:=Try.prog) (t:=23) (e:=3) (y:=.int .i64) (by kernel_rfl)
  have hT:Pm Try.prog 23 3 1 by_ zv:=hT
  refine St.reg B7z [(0,false),(1,true),(2,false),(3,true)] (by kernel_rfl) (by kernel_rfl) ?_
  refine RX.new 5 (.cells #[] 3) (.sl 0) [(0,.slice (some p) 0 c)] (by kernel_rfl) ?_
  intro b w1 hn
  have hsz:=hn.size;have hat:=hn.at_
  have hb:Blk w1 b [] 3:=hn.blk
  refine RX.q 1 [] [(5,.slice (some ⟨b,0,none⟩) 0 0),(6,.slice (some p) 0 c)] [] (by kernel_rfl) trivial ?_
  obtain⟨v',w2,ab',hr,hA,hU,-,-⟩:=append_run (P:=Try.prog) (u:=23) (ty:=23) (lo:=b) (lo2:=0) (w:=w1) (v:=.slice (some ⟨b,0,none⟩) 0 0) (x:=.slice (some p) 0 c) (n:=0) (m:=0) (cs:=[]) (xs:=[]) (ab:=[b]) hT (by kernel_rfl) ⟨rfl,.inr ⟨b,0,[],rfl,rfl,Nat.le_refl _,⟨Nat.le_refl _,by omega⟩,rfl,3,hb⟩⟩ ⟨some p,c,rfl,Nat.zero_le _,rfl,.inl rfl⟩ (fun _ h=>by cases h) (by omega) (by omega)
  refine RX.run 7 (Builtin.append_ #[23,23] 23 #[.slice (some ⟨b,0,none⟩) 0 0,.slice (some p) 0 c]) [(5,.slice (some ⟨b,0,none⟩) 0 0),(6,.slice (some p) 0 c)] (by kernel_rfl) hr ?_
  refine RX.q 1 [] [(2,v')] [] (by kernel_rfl) trivial ?_
  refine RX.done [(2,v')] (by kernel_rfl) (by kernel_rfl) ?_
  refine St.ret [.tmp 2] [v'] (by kernel_rfl) Try.func59 (by kernel_rfl) (.cons (.tmp (by kernel_rfl)) .nil) ?_
  rw[hat]at hA
  refine⟨?_,ab',hA⟩
  exact(hn.ext.trans_old hU (fun k hk=>by simp at hk;subst hk;omega))
def J5(_N:Nat)(s:List Int):Option (List Int):=lim s.length (some s)
noncomputable def Ac7(N:Nat):Spec:={ f:=59,ins:=⟨[.sl (.int .i64)],[]⟩,outs:=[⟨[.ols 0],[.lst (.int .i64)]⟩],run:=fun p k=>(J5 N p.1.1).bind fun r=>k (((),()),(r,())) }
theorem Agj(N:Nat):A0 Try.prog (Ac7 N):=by
 refine⟨fun Z p κ=>?_,fun args w=>Sem.pv_run _ _ _ (by kernel_rfl) w,fun p r hpr g w vs hv hs hρ=>?_⟩
 ·show((J5 N p.1.1).bind _)=((J5 N p.1.1).bind _).bind κ
  cases J5 N p.1.1<;>rfl
 ·obtain⟨⟨(l:List Int),⟨⟩⟩,⟨⟩⟩:=p
  have hpr':(lim l.length (some l)).bind (fun r:List Int=>some ((((),()),(r,())):(Unit×Unit)×(List Int×Unit)))=some r:=hpr
  by_cases h:l=[]
  ·subst h
   simp only[encs,enc,RepVs,RepV]at hv
   have e:((((),()),(([]:List Int),())):(Unit×Unit)×(List Int×Unit))=r:=Option.some.inj hpr'
   subst e
   obtain⟨v,us,rfl,hv,rfl⟩:=hv
   obtain⟨_,a,c,rfl,_⟩:=hv
   refine Fn.mono (Aoc a c w) ?_
   rintro v' w' ⟨hE,ab,h1,h2⟩
   refine B3p (y:=.int .i64) (l:=[]) hs (fun i=>hρ i (Nat.zero_le _)) hE (Nat.zero_le _) ?_
   rcases h2 with⟨rfl,_,_⟩ | ⟨b,cap,rest,rfl,_,h3,h4,h5,ty,h6⟩
   ·exact .inl ⟨rfl,rfl⟩
   ·exact .inr ⟨b,cap,[],rest,ty,rfl,h3,h6,rfl,h4,h5⟩
  ·refine(X9 N).fn ((l,()),()) r ?_ g w vs hv hs hρ
   show((Ir N l).bind fun r=>some (((),()),(r,())))=some r
   unfold Ir
   rw[Gz (by simp[h])]
   simpa using hpr'
end Go.Proofs.Ytgeijboidfadaaa.Fe

namespace Go.Proofs.Ytgeijboidfadaaa.Fe
set_option linter.all false
open Go

def A60(N:Nat)(n:Int):Option Bool:=
 (Ap N n (-100000) 100000).bind fun x_1=>
 some x_1
noncomputable def Avj(N:Nat):List Spec:=[Bb N]
theorem Azr(N:Nat):AllP (A0 Try.prog) (Avj N):=⟨Am N,trivial⟩
noncomputable def B7a:Code:=(Try.f88.body).getD .skip
noncomputable abbrev Ann:Body:={ c:=B7a,n:=5,res:=[.tmp 2],outs:=[⟨[.b],[]⟩],m0:=0 }
abbrev Av3:altD Ann.outs→Option Bool:=fun r=>some r.1.1
abbrev Aum:Sta:=⟨[0],⟨[.i .i64],[]⟩⟩
theorem B3h(N:Nat)(n:Int):ev (Z:=Bool) Try.prog (Avj N) Ann [] [] (some Av3) 400 false [.c [0],.c [1]] (stL Aum ((n,()),())) (stH Aum ((n,()),()))=A60 N n:=by kernel_rfl
noncomputable def Asn(N:Nat):Spec:={ f:=88,ins:=⟨[.i .i64],[]⟩,outs:=[⟨[.b],[]⟩],run:=fun p k=>(A60 N p.1.1).bind fun r=>k ((r,()),()) }
theorem Api(N:Nat):A0 Try.prog (Asn N):=A1 (B:=Ann) (loops:=[]) (leaves:=[]) (fun p=>A60 N p.1.1) (fun r=>((r,()),())) Av3 (fun _ _ _=>rfl) (fun r z h=>by cases h;rfl) Try.func88 (by kernel_rfl) (by kernel_rfl) (by kernel_rfl) rfl rfl (by kernel_rfl) (fun args w=>Sem.pv_run _ _ _ (by kernel_rfl) w) (Azr N) mixed trivial (fun z E Xc hE hX hret=>trivial) (fun p=>B3h N p.1.1)

def B9(N:Nat)(x:Int):Option Bool:=
 (A60 N x).bind fun x_1=>
 some (!x_1)
noncomputable def Is(N:Nat):List Spec:=[Asn N]
theorem Q6(N:Nat):AllP (A0 Try.prog) (Is N):=⟨Api N,trivial⟩
noncomputable def Yi:Code:=(Try.f94.body).getD .skip
noncomputable abbrev Fk:Body:={ c:=Yi,n:=8,res:=[.tmp 3],outs:=[⟨[.b],[.segs [.fn 88 [] []]]⟩],m0:=1 }
abbrev Ja:altD Fk.outs→Option Bool:=fun r=>some r.1.1
abbrev J9:Sta:=⟨[0,1],⟨[.i .i64,.own 0 0],[.segs [.fn 88 [] []]]⟩⟩
theorem Tb(N:Nat)(x:Int):ev (Z:=Bool) Try.prog (Is N) Fk [] [] (some Ja) 400 false [.c [0],.c [1]] (stL J9 ((x,(),()),((((),()),()),()))) (stH J9 ((x,(),()),((((),()),()),())))=B9 N x:=by kernel_rfl
noncomputable def I5(N:Nat):Spec:={ f:=94,ins:=⟨[.i .i64,.own 0 0],[.segs [.fn 88 [] []]]⟩,outs:=[⟨[.b],[.segs [.fn 88 [] []]]⟩],run:=fun p k=>(B9 N p.1.1).bind fun r=>k ((r,()),((((),()),()),())) }
theorem Kl(N:Nat):A0 Try.prog (I5 N):=A1 (B:=Fk) (loops:=[]) (leaves:=[]) (fun p=>B9 N p.1.1) (fun r=>((r,()),((((),()),()),()))) Ja (fun _ _ _=>rfl) (fun r z h=>by cases h;rfl) Try.func94 (by kernel_rfl) (by kernel_rfl) (by kernel_rfl) rfl rfl (by kernel_rfl) (fun args w=>Sem.pv_run _ _ _ (by kernel_rfl) w) (Q6 N) mixed trivial (fun z E Xc hE hX hret=>trivial) (fun p=>Tb N p.1.1)

def ixfb_l1(N:Nat):Nat→Qd→Int→Int→Option ((Int)⊕(Unit))
 | 0,_,_,_=>none
 | n_+1,s,u,u2=>
  br (decide (u2<u))
   (idx s u2 fun x_1=>
   (B9 N x_1).bind fun x_2=>
   br x_2
    (some (.inl u2))
    (chk (u2+1)<|
    ixfb_l1 N n_ s u (u2+1)))
   (some (.inr ()))
def H7(N:Nat)(s:List Int):Option Int:=
 (ixfb_l1 N N s (s.length:Int) 0).bind fun e=>match e with
 | .inl i_3=>
  some i_3
 | .inr _=>
  some (-1)
noncomputable def Nf(N:Nat):List Spec:=[I5 N]
theorem Pj(N:Nat):AllP (A0 Try.prog) (Nf N):=⟨Kl N,trivial⟩
noncomputable def Apg:Code:=(Try.f80.body).getD .skip
noncomputable abbrev Ct:Body:={ c:=Apg,n:=19,res:=[.tmp 4],outs:=[⟨[.i .i64],[.segs [.fn 88 [] []]]⟩],m0:=1 }
abbrev X3:altD Ct.outs→Option Int:=fun r=>some r.1.1
abbrev E9:List PI:=[.c [1,0,1,0,0,0],.c [1,0,1,0,0,1],.l [1,0,1,0,0],.b 0,.c [1,1]]
abbrev C8:Sta:=⟨[0,1,7,8],⟨[.sl (.int .i64),.fn 94 [] [.own 0 0],.i .i64,.i .i64],[.segs [.fn 88 [] []]]⟩⟩
abbrev Kz(rec:Qd→Int→Int→Option ((Int)⊕(Unit))):Leaf ((Int)⊕(Unit)):=⟨E9,C8,fun p=>rec p.1.1 p.1.2.2.1 p.1.2.2.2.1⟩
abbrev J0:Leaf ((Int)⊕(Unit)):=⟨[.c [1,0,1,0,0,1,1,0,0,1,1,0,0],.c [1,0,1,0,0,1,1,0,0,1,1,0,1],.b 1,.c [1,0,1,0,0,1,1,1],.l [1,0,1,0,0],.b 0,.c [1,1]],⟨[5],⟨[.i .i64],[.segs [.fn 88 [] []]]⟩⟩,fun p=>some (.inl p.1.1)⟩
abbrev Hy:Leaf ((Int)⊕(Unit)):=⟨[.c [1,1,0],.c [1,1,1]],⟨[],⟨[],[.segs [.fn 88 [] []]]⟩⟩,fun p=>some (.inr ())⟩
noncomputable def Fj(N:Nat):Ai:={ at_:=E9,sta:=C8,exits:=[([.c [1,0,1,0,0,1,1,0,0,1,1,0,0],.c [1,0,1,0,0,1,1,0,0,1,1,0,1],.b 1,.c [1,0,1,0,0,1,1,1],.l [1,0,1,0,0],.b 0,.c [1,1]],⟨[5],⟨[.i .i64],[.segs [.fn 88 [] []]]⟩⟩),([.c [1,1,0],.c [1,1,1]],⟨[],⟨[],[.segs [.fn 88 [] []]]⟩⟩)],run:=fun p k=>(ixfb_l1 N N p.1.1 p.1.2.2.1 p.1.2.2.2.1).bind fun e=>match e with | .inl x=>k (.inl ((x,()),((((),()),()),()))) | .inr x=>k (.inr (.inl ((),((((),()),()),())))) }
theorem To(N n_:Nat)(s:List Int)(u:Int)(u2:Int):ev (Z:=(Int)⊕(Unit)) Try.prog (Nf N) Ct [] [Kz (ixfb_l1 N n_),J0,Hy] none 400 true E9 (stL C8 ((s,((),((),())),u,u2,()),((((),()),()),()))) (stH C8 ((s,((),((),())),u,u2,()),((((),()),()),())))=ixfb_l1 N (n_+1) s u u2:=by kernel_rfl
theorem Sr(N:Nat){top:Bool}:Ab Try.prog Ct.c Ct.n Ct.m0 top (Fj N):=A3 (Z:=(Int)⊕(Unit)) (N:=N) (fun m p=>ixfb_l1 N m p.1.1 p.1.2.2.1 p.1.2.2.2.1) (fun e=>match e with | .inl x=>.inl ((x,()),((((),()),()),())) | .inr x=>.inr (.inl ((),((((),()),()),())))) (fun _ p k=>A9 (ixfb_l1 N N p.1.1 p.1.2.2.1 p.1.2.2.2.1) _ _ (fun e=>by rcases e with x | x<;>rfl)) (fun _=>rfl) (fun m z E Xc hE hX hrec hx=>A2 (B:=Ct) (loops:=[]) (leaves:=[Kz (ixfb_l1 N m),J0,Hy]) (Pj N) mixed trivial hE hX ⟨hrec,(fun p hp=>by obtain rfl:=Option.some.inj hp;exact hx),(fun p hp=>by obtain rfl:=Option.some.inj hp;exact hx),trivial⟩ Aa.no (fun p=>To N m p.1.1 p.1.2.2.1 p.1.2.2.2.1))
abbrev Wd:Sta:=⟨[0,1],⟨[.sl (.int .i64),.fn 94 [] [.own 0 0]],[.segs [.fn 88 [] []]]⟩⟩
theorem Af4(N:Nat)(s:List Int):ev (Z:=Int) Try.prog (Nf N) Ct [Fj N] [] (some X3) 400 false [.c [0],.c [1]] (stL Wd ((s,((),((),())),()),((((),()),()),()))) (stH Wd ((s,((),((),())),()),((((),()),()),())))=H7 N s:=by kernel_rfl
noncomputable def Uy(N:Nat):Spec:={ f:=80,ins:=⟨[.sl (.int .i64),.fn 94 [] [.own 0 0]],[.segs [.fn 88 [] []]]⟩,outs:=[⟨[.i .i64],[.segs [.fn 88 [] []]]⟩],run:=fun p k=>(H7 N p.1.1).bind fun r=>k ((r,()),((((),()),()),())) }
theorem Un(N:Nat):A0 Try.prog (Uy N):=A1 (B:=Ct) (loops:=[Fj N]) (leaves:=[]) (fun p=>H7 N p.1.1) (fun r=>((r,()),((((),()),()),()))) X3 (fun _ _ _=>rfl) (fun r z h=>by cases h;rfl) Try.func80 (by kernel_rfl) (by kernel_rfl) (by kernel_rfl) rfl rfl (by kernel_rfl) (fun args w=>Sem.pv_run _ _ _ (by kernel_rfl) w) (Pj N) mixed ⟨Sr N,trivial⟩ (fun z E Xc hE hX hret=>trivial) (fun p=>Af4 N p.1.1)

def Ik(N:Nat)(s:List Int):Option Bool:=
 (H7 N s).bind fun x_1=>
 some (decide (0≤x_1))
noncomputable def Wm(N:Nat):List Spec:=[Uy N]
theorem A4s(N:Nat):AllP (A0 Try.prog) (Wm N):=⟨Un N,trivial⟩
noncomputable def Aqa:Code:=(Try.f93.body).getD .skip
noncomputable abbrev Sz:Body:={ c:=Aqa,n:=9,res:=[.tmp 4],outs:=[⟨[.b],[.segs [.fn 88 [] []]]⟩],m0:=1 }
abbrev X8:altD Sz.outs→Option Bool:=fun r=>some r.1.1
abbrev Wz:Sta:=⟨[0,1],⟨[.sl (.int .i64),.fn 94 [] [.own 0 0]],[.segs [.fn 88 [] []]]⟩⟩
theorem Aea(N:Nat)(s:List Int):ev (Z:=Bool) Try.prog (Wm N) Sz [] [] (some X8) 400 false [.c [0],.c [1]] (stL Wz ((s,((),((),())),()),((((),()),()),()))) (stH Wz ((s,((),((),())),()),((((),()),()),())))=Ik N s:=by kernel_rfl
noncomputable def W1(N:Nat):Spec:={ f:=93,ins:=⟨[.sl (.int .i64),.fn 94 [] [.own 0 0]],[.segs [.fn 88 [] []]]⟩,outs:=[⟨[.b],[.segs [.fn 88 [] []]]⟩],run:=fun p k=>(Ik N p.1.1).bind fun r=>k ((r,()),((((),()),()),())) }
theorem U7(N:Nat):A0 Try.prog (W1 N):=A1 (B:=Sz) (loops:=[]) (leaves:=[]) (fun p=>Ik N p.1.1) (fun r=>((r,()),((((),()),()),()))) X8 (fun _ _ _=>rfl) (fun r z h=>by cases h;rfl) Try.func93 (by kernel_rfl) (by kernel_rfl) (by kernel_rfl) rfl rfl (by kernel_rfl) (fun args w=>Sem.pv_run _ _ _ (by kernel_rfl) w) (A4s N) mixed trivial (fun z E Xc hE hX hret=>trivial) (fun p=>Aea N p.1.1)

def Ck(N:Nat)(l:List Int):Option Bool:=
 (Ik N l).bind fun x_1=>
 some (!x_1)
noncomputable def L9(N:Nat):List Spec:=[W1 N]
theorem U2(N:Nat):AllP (A0 Try.prog) (L9 N):=⟨U7 N,trivial⟩
noncomputable def A74:Code:=(Try.f61.body).getD .skip
noncomputable abbrev J3:Body:={ c:=A74,n:=9,res:=[.tmp 4],outs:=[⟨[.b],[]⟩],m0:=0 }
abbrev L5:altD J3.outs→Option Bool:=fun r=>some r.1.1
abbrev Lt:Sta:=⟨[0,1],⟨[.sl (.int .i64),.fn 88 [] []],[]⟩⟩
theorem Z7(N:Nat)(l:List Int):ev (Z:=Bool) Try.prog (L9 N) J3 [] [] (some L5) 400 false [.c [0],.c [1]] (stL Lt ((l,((),()),()),())) (stH Lt ((l,((),()),()),()))=Ck N l:=by kernel_rfl
noncomputable def Ll(N:Nat):Spec:={ f:=61,ins:=⟨[.sl (.int .i64),.fn 88 [] []],[]⟩,outs:=[⟨[.b],[]⟩],run:=fun p k=>(Ck N p.1.1).bind fun r=>k ((r,()),()) }
theorem N0(N:Nat):A0 Try.prog (Ll N):=A1 (B:=J3) (loops:=[]) (leaves:=[]) (fun p=>Ck N p.1.1) (fun r=>((r,()),())) L5 (fun _ _ _=>rfl) (fun r z h=>by cases h;rfl) Try.func61 (by kernel_rfl) (by kernel_rfl) (by kernel_rfl) rfl rfl (by kernel_rfl) (fun args w=>Sem.pv_run _ _ _ (by kernel_rfl) w) (U2 N) mixed trivial (fun z E Xc hE hX hret=>trivial) (fun p=>Z7 N p.1.1)

def sum_l1(N:Nat):Nat→Int→Qd→Int→Int→Option Int
 | 0,_,_,_,_=>none
 | n_+1,n,u,u2,u3=>
  br (decide (u3<u2))
   (idx u u3 fun x_1=>
   chk (n+x_1)<|
   chk (u3+1)<|
   sum_l1 N n_ (n+x_1) u u2 (u3+1))
   (some (n))
def Oe(N:Nat)(l:List Int):Option Int:=
 (sum_l1 N N 0 l (l.length:Int) 0).bind fun n_2=>
 some n_2
noncomputable def Tq(N:Nat):List Spec:=[]
theorem Vw(N:Nat):AllP (A0 Try.prog) (Tq N):=trivial
noncomputable def Azu:Code:=(Try.f89.body).getD .skip
noncomputable abbrev Gt:Body:={ c:=Azu,n:=17,res:=[.tmp 2],outs:=[⟨[.i .i64],[]⟩],m0:=0 }
abbrev A69:altD Gt.outs→Option Int:=fun r=>some r.1.1
abbrev Fh:List PI:=[.c [1,1,0,1,0,0,0],.c [1,1,0,1,0,0,1],.l [1,1,0,1,0,0],.b 0,.c [1,1,1]]
abbrev Dc:Sta:=⟨[3,6,7,8],⟨[.i .i64,.sl (.int .i64),.i .i64,.i .i64],[]⟩⟩
abbrev Pt(rec:Int→Qd→Int→Int→Option Int):Leaf Int:=⟨Fh,Dc,fun p=>rec p.1.1 p.1.2.1 p.1.2.2.1 p.1.2.2.2.1⟩
abbrev L7:Leaf Int:=⟨[.c [1,1,1,0],.c [1,1,1,1]],⟨[3],⟨[.i .i64],[]⟩⟩,fun p=>some (p.1.1)⟩
noncomputable def I4(N:Nat):Ai:={ at_:=Fh,sta:=Dc,exits:=[([.c [1,1,1,0],.c [1,1,1,1]],⟨[3],⟨[.i .i64],[]⟩⟩)],run:=fun p k=>(sum_l1 N N p.1.1 p.1.2.1 p.1.2.2.1 p.1.2.2.2.1).bind fun e=>k (.inl ((e,()),())) }
theorem Xu(N n_:Nat)(n:Int)(u:List Int)(u2:Int)(u3:Int):ev (Z:=Int) Try.prog (Tq N) Gt [] [Pt (sum_l1 N n_),L7] none 400 true Fh (stL Dc ((n,u,u2,u3,()),())) (stH Dc ((n,u,u2,u3,()),()))=sum_l1 N (n_+1) n u u2 u3:=by kernel_rfl
theorem Xv(N:Nat){top:Bool}:Ab Try.prog Gt.c Gt.n Gt.m0 top (I4 N):=A3 (Z:=Int) (N:=N) (fun m p=>sum_l1 N m p.1.1 p.1.2.1 p.1.2.2.1 p.1.2.2.2.1) (fun e=>.inl ((e,()),())) (fun _ _ _=>rfl) (fun _=>rfl) (fun m z E Xc hE hX hrec hx=>A2 (B:=Gt) (loops:=[]) (leaves:=[Pt (sum_l1 N m),L7]) (Vw N) mixed trivial hE hX ⟨hrec,(fun p hp=>by obtain rfl:=Option.some.inj hp;exact hx),trivial⟩ Aa.no (fun p=>Xu N m p.1.1 p.1.2.1 p.1.2.2.1 p.1.2.2.2.1))
abbrev A3z:Sta:=⟨[0],⟨[.sl (.int .i64)],[]⟩⟩
theorem Anl(N:Nat)(l:List Int):ev (Z:=Int) Try.prog (Tq N) Gt [I4 N] [] (some A69) 400 false [.c [0],.c [1]] (stL A3z ((l,()),())) (stH A3z ((l,()),()))=Oe N l:=by kernel_rfl
noncomputable def A33(N:Nat):Spec:={ f:=89,ins:=⟨[.sl (.int .i64)],[]⟩,outs:=[⟨[.i .i64],[]⟩],run:=fun p k=>(Oe N p.1.1).bind fun r=>k ((r,()),()) }
theorem Yd(N:Nat):A0 Try.prog (A33 N):=A1 (B:=Gt) (loops:=[I4 N]) (leaves:=[]) (fun p=>Oe N p.1.1) (fun r=>((r,()),())) A69 (fun _ _ _=>rfl) (fun r z h=>by cases h;rfl) Try.func89 (by kernel_rfl) (by kernel_rfl) (by kernel_rfl) rfl rfl (by kernel_rfl) (fun args w=>Sem.pv_run _ _ _ (by kernel_rfl) w) (Vw N) mixed ⟨Xv N,trivial⟩ (fun z E Xc hE hX hret=>trivial) (fun p=>Anl N p.1.1)

def Eb(N:Nat)(l:List Int):Option Int:=
 br (decide (8<(l.length:Int)))
  (some 2)
  ((Ck N l).bind fun x_1=>
  br (!x_1)
   (some 3)
   ((Oe N l).bind fun x_2=>
   br (!decide (x_2=0))
    (some 8)
    (some 0)))
noncomputable def A03(N:Nat):List Spec:=[Ll N,A33 N]
theorem Afx(N:Nat):AllP (A0 Try.prog) (A03 N):=⟨N0 N,Yd N,trivial⟩
noncomputable def Ar8:Code:=(Try.f57.body).getD .skip
noncomputable abbrev U3:Body:={ c:=Ar8,n:=15,res:=[.tmp 2],outs:=[⟨[.i .i64],[]⟩],m0:=0 }
abbrev A0r:altD U3.outs→Option Int:=fun r=>some r.1.1
abbrev A10:Sta:=⟨[0],⟨[.sl (.int .i64)],[]⟩⟩
theorem Aky(N:Nat)(l:List Int):ev (Z:=Int) Try.prog (A03 N) U3 [] [] (some A0r) 400 false [.c [0],.c [1]] (stL A10 ((l,()),())) (stH A10 ((l,()),()))=Eb N l:=by kernel_rfl
noncomputable def Pg(N:Nat):Spec:={ f:=57,ins:=⟨[.sl (.int .i64)],[]⟩,outs:=[⟨[.i .i64],[]⟩],run:=fun p k=>(Eb N p.1.1).bind fun r=>k ((r,()),()) }
theorem R4(N:Nat):A0 Try.prog (Pg N):=A1 (B:=U3) (loops:=[]) (leaves:=[]) (fun p=>Eb N p.1.1) (fun r=>((r,()),())) A0r (fun _ _ _=>rfl) (fun r z h=>by cases h;rfl) Try.func57 (by kernel_rfl) (by kernel_rfl) (by kernel_rfl) rfl rfl (by kernel_rfl) (fun args w=>Sem.pv_run _ _ _ (by kernel_rfl) w) (Afx N) mixed trivial (fun z E Xc hE hX hret=>trivial) (fun p=>Aky N p.1.1)

def Iz(N:Nat)(rec:Qd→Qd→Int→Qx→Int→Int→Qd→Int→Int→(List Qe)→Option QC)(balances:List Int)(l:List Int)(n:Int)(u:List Qd)(u2:Int)(u3:Int)(u4:List Int)(u5:Int)(u6:Int)(out:List Qe):Option QC:=
 chk (u6+1)<|
 rec balances l n u u2 u3 u4 u5 (u6+1) out
def clear_l2(N:Nat):Nat→Qd→Qd→Int→Qx→Int→Int→Qd→Int→Int→(List Qe)→Option QC
 | 0,_,_,_,_,_,_,_,_,_,_=>none
 | n_+1,balances,l,n,u,u2,u3,u4,u5,u6,out=>
  br (decide (u6<u5))
   (idx u4 u6 fun x_4=>
   idx balances x_4 fun x_5=>
   chk (n+x_5)<|
   br (decide (0<(n+x_5)))
    (chk (u6+1)<|
    idx l (u6+1) fun x_6=>
    lim (out.length+[(x_6,x_4,(n+x_5))].length)<|
    Iz N (clear_l2 N n_) balances l (n+x_5) u u2 u3 u4 u5 u6 (out++[(x_6,x_4,(n+x_5))]))
    (br (decide ((n+x_5)<0))
     (chk (u6+1)<|
     idx l (u6+1) fun x_7=>
     chk (0-(n+x_5))<|
     lim (out.length+[(x_4,x_7,(0-(n+x_5)))].length)<|
     Iz N (clear_l2 N n_) balances l (n+x_5) u u2 u3 u4 u5 u6 (out++[(x_4,x_7,(0-(n+x_5)))]))
     (Iz N (clear_l2 N n_) balances l (n+x_5) u u2 u3 u4 u5 u6 out)))
   (some ((balances,u,u2,u3,out)))
def clear_l1(N:Nat):Nat→Qd→Qx→Int→Int→(List Qe)→Option (List Qe)
 | 0,_,_,_,_,_=>none
 | n_+1,balances,u,u2,u3,out=>
  br (decide (u3<u2))
   (idx u u3 fun x_3=>
   chk ((x_3.length:Int)-1)<|
   grd (decide ((0:Int)≤((x_3.length:Int)-1)∧((x_3.length:Int)-1)≤(x_3.length:Int)))<|
   (clear_l2 N N balances x_3 0 u u2 u3 (x_3.take (((x_3.length:Int)-1).toNat)) ((x_3.take (((x_3.length:Int)-1).toNat)).length:Int) 0 out).bind fun(balances_8,u_9,u2_10,u3_11,out_12)=>
   chk (u3_11+1)<|
   clear_l1 N n_ balances_8 u_9 u2_10 (u3_11+1) out_12)
   (some (out))
def Rn(N:Nat)(balances:List Int):Option ((List Qe)×Int):=
 (Eb N balances).bind fun x_1=>
 br (!decide (x_1=0))
  (some ([],x_1))
  ((G8 N balances).bind fun x_2=>
  (clear_l1 N N balances x_2 (x_2.length:Int) 0 []).bind fun out_13=>
  some (out_13,0))
noncomputable def Oi(N:Nat):List Spec:=[Pg N,Acn N]
theorem Rp(N:Nat):AllP (A0 Try.prog) (Oi N):=⟨R4 N,Afi N,trivial⟩
noncomputable def B2y:Code:=(Try.f24.body).getD .skip
noncomputable abbrev Ay:Body:={ c:=B2y,n:=72,res:=[.tmp 2,.tmp 3],outs:=[⟨[.sl Qf,.i .i64],[]⟩],m0:=0 }
abbrev Amk:altD Ay.outs→Option ((List Qe)×Int):=fun r=>some (r.1.1,r.1.2.1)
abbrev Pa:List PI:=[.c [1,1,1,0,1,0,0,1,1,0,0,1,1,1,0,0,0],.c [1,1,1,0,1,0,0,1,1,0,0,1,1,1,0,0,1],.l [1,1,1,0,1,0,0,1,1,0,0,1,1,1,0,0],.b 2,.b 1,.c [1,1,1,0,1,0,0,1,1,1],.l [1,1,1,0,1,0,0],.b 0,.c [1,1,1,1]]
abbrev K6:Sta:=⟨[0,5,7,8,17,18,19,27,28,29],⟨[.sl (.int .i64),.ols 0,.sl (.int .i64),.i .i64,.sl Qg,.i .i64,.i .i64,.sl (.int .i64),.i .i64,.i .i64],[.lst Qf]⟩⟩
abbrev Ix(rec:Qd→Qd→Int→Qx→Int→Int→Qd→Int→Int→(List Qe)→Option QC):Leaf QC:=⟨Pa,K6,fun p=>rec p.1.1 p.1.2.2.1 p.1.2.2.2.1 p.1.2.2.2.2.1 p.1.2.2.2.2.2.1 p.1.2.2.2.2.2.2.1 p.1.2.2.2.2.2.2.2.1 p.1.2.2.2.2.2.2.2.2.1 p.1.2.2.2.2.2.2.2.2.2.1 p.2.1⟩
abbrev Gf:Leaf QC:=⟨[.c [1,1,1,0,1,0,0,1,1,1],.l [1,1,1,0,1,0,0],.b 0,.c [1,1,1,1]],⟨[0,5,17,18,19],⟨[.sl (.int .i64),.ols 0,.sl Qg,.i .i64,.i .i64],[.lst Qf]⟩⟩,fun p=>some ((p.1.1,p.1.2.2.1,p.1.2.2.2.1,p.1.2.2.2.2.1,p.2.1))⟩
abbrev A0x:List PI:=[.c [1,1,1,0,1,0,0,1,1,0,0,1,1,1,0,0,1,1,1],.l [1,1,1,0,1,0,0,1,1,0,0,1,1,1,0,0],.b 2,.b 1,.c [1,1,1,0,1,0,0,1,1,1],.l [1,1,1,0,1,0,0],.b 0,.c [1,1,1,1]]
abbrev P0:Sta:=⟨[0,5,7,8,17,18,19,27,28,29],⟨[.sl (.int .i64),.ols 0,.sl (.int .i64),.i .i64,.sl Qg,.i .i64,.i .i64,.sl (.int .i64),.i .i64,.i .i64],[.lst Qf]⟩⟩
abbrev Uc(N:Nat)(rec:Qd→Qd→Int→Qx→Int→Int→Qd→Int→Int→(List Qe)→Option QC):Leaf QC:=⟨A0x,P0,fun p=>Iz N rec p.1.1 p.1.2.2.1 p.1.2.2.2.1 p.1.2.2.2.2.1 p.1.2.2.2.2.2.1 p.1.2.2.2.2.2.2.1 p.1.2.2.2.2.2.2.2.1 p.1.2.2.2.2.2.2.2.2.1 p.1.2.2.2.2.2.2.2.2.2.1 p.2.1⟩
theorem Amd(N:Nat)(rec:Qd→Qd→Int→Qx→Int→Int→Qd→Int→Int→(List Qe)→Option QC)(balances:List Int)(l:List Int)(n:Int)(u:List Qd)(u2:Int)(u3:Int)(u4:List Int)(u5:Int)(u6:Int)(out:List Qe):ev (Z:=List Int×List Qd×Int×Int×(List Qe)) Try.prog (Oi N) Ay [] [Ix rec,Gf] none 400 true A0x (stL P0 ((balances,(),l,n,u,u2,u3,u4,u5,u6,()),(out,()))) (stH P0 ((balances,(),l,n,u,u2,u3,u4,u5,u6,()),(out,())))=Iz N rec balances l n u u2 u3 u4 u5 u6 out:=by kernel_rfl
theorem Alx(N:Nat)(rec:Qd→Qd→Int→Qx→Int→Int→Qd→Int→Int→(List Qe)→Option QC){z:List Int×List Qd×Int×Int×(List Qe)}{top:Bool}{E:EE}{Xc:Ctx}(hE:EOK Ay.m0 E)(hX:CxOK top Xc)(hrec:Ag Try.prog Ay.c Ay.n Ay.m0 E Xc z (Ix rec))(h0:Ag Try.prog Ay.c Ay.n Ay.m0 E Xc z Gf):Ag Try.prog Ay.c Ay.n Ay.m0 E Xc z (Uc N rec):=A2 (B:=Ay) (loops:=[]) (leaves:=[Ix rec,Gf]) (Rp N) mixed trivial hE hX ⟨hrec,h0,trivial⟩ Aa.no (fun p=>Amd N rec p.1.1 p.1.2.2.1 p.1.2.2.2.1 p.1.2.2.2.2.1 p.1.2.2.2.2.2.1 p.1.2.2.2.2.2.2.1 p.1.2.2.2.2.2.2.2.1 p.1.2.2.2.2.2.2.2.2.1 p.1.2.2.2.2.2.2.2.2.2.1 p.2.1)
noncomputable def I2(N:Nat):Ai:={ at_:=Pa,sta:=K6,exits:=[([.c [1,1,1,0,1,0,0,1,1,1],.l [1,1,1,0,1,0,0],.b 0,.c [1,1,1,1]],⟨[0,5,17,18,19],⟨[.sl (.int .i64),.ols 0,.sl Qg,.i .i64,.i .i64],[.lst Qf]⟩⟩)],run:=fun p k=>(clear_l2 N N p.1.1 p.1.2.2.1 p.1.2.2.2.1 p.1.2.2.2.2.1 p.1.2.2.2.2.2.1 p.1.2.2.2.2.2.2.1 p.1.2.2.2.2.2.2.2.1 p.1.2.2.2.2.2.2.2.2.1 p.1.2.2.2.2.2.2.2.2.2.1 p.2.1).bind fun e=>k (.inl ((e.1,(),e.2.1,e.2.2.1,e.2.2.2.1,()),(e.2.2.2.2,()))) }
theorem Ak8(N n_:Nat)(balances:List Int)(l:List Int)(n:Int)(u:List Qd)(u2:Int)(u3:Int)(u4:List Int)(u5:Int)(u6:Int)(out:List Qe):ev (Z:=List Int×List Qd×Int×Int×(List Qe)) Try.prog (Oi N) Ay [] [Ix (clear_l2 N n_),Gf,Uc N (clear_l2 N n_)] none 400 true Pa (stL K6 ((balances,(),l,n,u,u2,u3,u4,u5,u6,()),(out,()))) (stH K6 ((balances,(),l,n,u,u2,u3,u4,u5,u6,()),(out,())))=clear_l2 N (n_+1) balances l n u u2 u3 u4 u5 u6 out:=by kernel_rfl
theorem A1f(N:Nat){top:Bool}:Ab Try.prog Ay.c Ay.n Ay.m0 top (I2 N):=A3 (Z:=List Int×List Qd×Int×Int×(List Qe)) (N:=N) (fun m p=>clear_l2 N m p.1.1 p.1.2.2.1 p.1.2.2.2.1 p.1.2.2.2.2.1 p.1.2.2.2.2.2.1 p.1.2.2.2.2.2.2.1 p.1.2.2.2.2.2.2.2.1 p.1.2.2.2.2.2.2.2.2.1 p.1.2.2.2.2.2.2.2.2.2.1 p.2.1) (fun e=>.inl ((e.1,(),e.2.1,e.2.2.1,e.2.2.2.1,()),(e.2.2.2.2,()))) (fun _ _ _=>rfl) (fun _=>rfl) (fun m z E Xc hE hX hrec hx=>A2 (B:=Ay) (loops:=[]) (leaves:=[Ix (clear_l2 N m),Gf,Uc N (clear_l2 N m)]) (Rp N) mixed trivial hE hX ⟨hrec,(fun p hp=>by obtain rfl:=Option.some.inj hp;exact hx),Alx N _ hE hX hrec (fun p hp=>by obtain rfl:=Option.some.inj hp;exact hx),trivial⟩ Aa.no (fun p=>Ak8 N m p.1.1 p.1.2.2.1 p.1.2.2.2.1 p.1.2.2.2.2.1 p.1.2.2.2.2.2.1 p.1.2.2.2.2.2.2.1 p.1.2.2.2.2.2.2.2.1 p.1.2.2.2.2.2.2.2.2.1 p.1.2.2.2.2.2.2.2.2.2.1 p.2.1))
abbrev Q5:List PI:=[.c [1,1,1,0,1,0,0,0],.c [1,1,1,0,1,0,0,1],.l [1,1,1,0,1,0,0],.b 0,.c [1,1,1,1]]
abbrev Ji:Sta:=⟨[0,5,17,18,19],⟨[.sl (.int .i64),.ols 0,.sl Qg,.i .i64,.i .i64],[.lst Qf]⟩⟩
abbrev A3s(rec:Qd→Qx→Int→Int→(List Qe)→Option (List Qe)):Leaf (List Qe):=⟨Q5,Ji,fun p=>rec p.1.1 p.1.2.2.1 p.1.2.2.2.1 p.1.2.2.2.2.1 p.2.1⟩
abbrev A09:Leaf (List Qe):=⟨[.c [1,1,1,1,0],.c [1,1,1,1,1]],⟨[5],⟨[.ols 0],[.lst Qf]⟩⟩,fun p=>some (p.2.1)⟩
noncomputable def T2(N:Nat):Ai:={ at_:=Q5,sta:=Ji,exits:=[([.c [1,1,1,1,0],.c [1,1,1,1,1]],⟨[5],⟨[.ols 0],[.lst Qf]⟩⟩)],run:=fun p k=>(clear_l1 N N p.1.1 p.1.2.2.1 p.1.2.2.2.1 p.1.2.2.2.2.1 p.2.1).bind fun e=>k (.inl (((),()),(e,()))) }
theorem Ai4(N n_:Nat)(balances:List Int)(u:List Qd)(u2:Int)(u3:Int)(out:List Qe):ev (Z:=(List Qe)) Try.prog (Oi N) Ay [I2 N] [A3s (clear_l1 N n_),A09] none 400 true Q5 (stL Ji ((balances,(),u,u2,u3,()),(out,()))) (stH Ji ((balances,(),u,u2,u3,()),(out,())))=clear_l1 N (n_+1) balances u u2 u3 out:=by kernel_rfl
theorem An6(N:Nat){top:Bool}:Ab Try.prog Ay.c Ay.n Ay.m0 top (T2 N):=A3 (Z:=(List Qe)) (N:=N) (fun m p=>clear_l1 N m p.1.1 p.1.2.2.1 p.1.2.2.2.1 p.1.2.2.2.2.1 p.2.1) (fun e=>.inl (((),()),(e,()))) (fun _ _ _=>rfl) (fun _=>rfl) (fun m z E Xc hE hX hrec hx=>A2 (B:=Ay) (loops:=[I2 N]) (leaves:=[A3s (clear_l1 N m),A09]) (Rp N) mixed ⟨A1f N,trivial⟩ hE hX ⟨hrec,(fun p hp=>by obtain rfl:=Option.some.inj hp;exact hx),trivial⟩ Aa.no (fun p=>Ai4 N m p.1.1 p.1.2.2.1 p.1.2.2.2.1 p.1.2.2.2.2.1 p.2.1))
abbrev Ais:Sta:=⟨[0],⟨[.sl (.int .i64)],[]⟩⟩
theorem B0f(N:Nat)(balances:List Int):ev (Z:=(List Qe)×Int) Try.prog (Oi N) Ay [I2 N,T2 N] [] (some Amk) 400 false [.c [0],.c [1]] (stL Ais ((balances,()),())) (stH Ais ((balances,()),()))=Rn N balances:=by kernel_rfl
noncomputable def Ajf(N:Nat):Spec:={ f:=24,ins:=⟨[.sl (.int .i64)],[]⟩,outs:=[⟨[.sl Qf,.i .i64],[]⟩],run:=fun p k=>(Rn N p.1.1).bind fun r=>k ((r.1,r.2,()),()) }
theorem Ahs(N:Nat):A0 Try.prog (Ajf N):=A1 (B:=Ay) (loops:=[I2 N,T2 N]) (leaves:=[]) (fun p=>Rn N p.1.1) (fun r=>((r.1,r.2,()),())) Amk (fun _ _ _=>rfl) (fun r z h=>by cases h;rfl) Try.func24 (by kernel_rfl) (by kernel_rfl) (by kernel_rfl) rfl rfl (by kernel_rfl) (fun args w=>Sem.pv_run _ _ _ (by kernel_rfl) w) (Rp N) mixed ⟨A1f N,An6 N,trivial⟩ (fun z E Xc hE hX hret=>trivial) (fun p=>B0f N p.1.1)

def Ky(N:Nat)(n:Int):Option Bool:=
 some (decide (n=0))
noncomputable def A36(N:Nat):List Spec:=[]
theorem Aif(N:Nat):AllP (A0 Try.prog) (A36 N):=trivial
noncomputable def Axh:Code:=(Try.f62.body).getD .skip
noncomputable abbrev Y2:Body:={ c:=Axh,n:=5,res:=[.tmp 2],outs:=[⟨[.b],[]⟩],m0:=0 }
abbrev A6t:altD Y2.outs→Option Bool:=fun r=>some r.1.1
abbrev A8b:Sta:=⟨[0],⟨[.i .i64],[]⟩⟩
theorem Aoz(N:Nat)(n:Int):ev (Z:=Bool) Try.prog (A36 N) Y2 [] [] (some A6t) 400 false [.c [0],.c [1]] (stL A8b ((n,()),())) (stH A8b ((n,()),()))=Ky N n:=by kernel_rfl
noncomputable def A6x(N:Nat):Spec:={ f:=62,ins:=⟨[.i .i64],[]⟩,outs:=[⟨[.b],[]⟩],run:=fun p k=>(Ky N p.1.1).bind fun r=>k ((r,()),()) }
theorem A9y(N:Nat):A0 Try.prog (A6x N):=A1 (B:=Y2) (loops:=[]) (leaves:=[]) (fun p=>Ky N p.1.1) (fun r=>((r,()),())) A6t (fun _ _ _=>rfl) (fun r z h=>by cases h;rfl) Try.func62 (by kernel_rfl) (by kernel_rfl) (by kernel_rfl) rfl rfl (by kernel_rfl) (fun args w=>Sem.pv_run _ _ _ (by kernel_rfl) w) (Aif N) mixed trivial (fun z E Xc hE hX hret=>trivial) (fun p=>Aoz N p.1.1)

def Lq(N:Nat)(x:Int):Option Bool:=
 (Ky N x).bind fun x_1=>
 some (!x_1)
noncomputable def A64(N:Nat):List Spec:=[A6x N]
theorem Ahl(N:Nat):AllP (A0 Try.prog) (A64 N):=⟨A9y N,trivial⟩
noncomputable def Axt:Code:=(Try.f94.body).getD .skip
noncomputable abbrev Y8:Body:={ c:=Axt,n:=8,res:=[.tmp 3],outs:=[⟨[.b],[.segs [.fn 62 [] []]]⟩],m0:=1 }
abbrev A5l:altD Y8.outs→Option Bool:=fun r=>some r.1.1
abbrev A59:Sta:=⟨[0,1],⟨[.i .i64,.own 0 0],[.segs [.fn 62 [] []]]⟩⟩
theorem Aql(N:Nat)(x:Int):ev (Z:=Bool) Try.prog (A64 N) Y8 [] [] (some A5l) 400 false [.c [0],.c [1]] (stL A59 ((x,(),()),((((),()),()),()))) (stH A59 ((x,(),()),((((),()),()),())))=Lq N x:=by kernel_rfl
noncomputable def A8v(N:Nat):Spec:={ f:=94,ins:=⟨[.i .i64,.own 0 0],[.segs [.fn 62 [] []]]⟩,outs:=[⟨[.b],[.segs [.fn 62 [] []]]⟩],run:=fun p k=>(Lq N p.1.1).bind fun r=>k ((r,()),((((),()),()),())) }
theorem A8x(N:Nat):A0 Try.prog (A8v N):=A1 (B:=Y8) (loops:=[]) (leaves:=[]) (fun p=>Lq N p.1.1) (fun r=>((r,()),((((),()),()),()))) A5l (fun _ _ _=>rfl) (fun r z h=>by cases h;rfl) Try.func94 (by kernel_rfl) (by kernel_rfl) (by kernel_rfl) rfl rfl (by kernel_rfl) (fun args w=>Sem.pv_run _ _ _ (by kernel_rfl) w) (Ahl N) mixed trivial (fun z E Xc hE hX hret=>trivial) (fun p=>Aql N p.1.1)

def G2(N:Nat):Nat→Qd→Int→Int→Option ((Int)⊕(Unit))
 | 0,_,_,_=>none
 | n_+1,s,u,u2=>
  br (decide (u2<u))
   (idx s u2 fun x_1=>
   (Lq N x_1).bind fun x_2=>
   br x_2
    (some (.inl u2))
    (chk (u2+1)<|
    G2 N n_ s u (u2+1)))
   (some (.inr ()))
def A8u(N:Nat)(s:List Int):Option Int:=
 (G2 N N s (s.length:Int) 0).bind fun e=>match e with
 | .inl i_3=>
  some i_3
 | .inr _=>
  some (-1)
noncomputable def Ae5(N:Nat):List Spec:=[A8v N]
theorem Alg(N:Nat):AllP (A0 Try.prog) (Ae5 N):=⟨A8x N,trivial⟩
noncomputable def B65:Code:=(Try.f80.body).getD .skip
noncomputable abbrev P7:Body:={ c:=B65,n:=19,res:=[.tmp 4],outs:=[⟨[.i .i64],[.segs [.fn 62 [] []]]⟩],m0:=1 }
abbrev Au9:altD P7.outs→Option Int:=fun r=>some r.1.1
abbrev U8:List PI:=[.c [1,0,1,0,0,0],.c [1,0,1,0,0,1],.l [1,0,1,0,0],.b 0,.c [1,1]]
abbrev Nq:Sta:=⟨[0,1,7,8],⟨[.sl (.int .i64),.fn 94 [] [.own 0 0],.i .i64,.i .i64],[.segs [.fn 62 [] []]]⟩⟩
abbrev Abz(rec:Qd→Int→Int→Option ((Int)⊕(Unit))):Leaf ((Int)⊕(Unit)):=⟨U8,Nq,fun p=>rec p.1.1 p.1.2.2.1 p.1.2.2.2.1⟩
abbrev A4x:Leaf ((Int)⊕(Unit)):=⟨[.c [1,0,1,0,0,1,1,0,0,1,1,0,0],.c [1,0,1,0,0,1,1,0,0,1,1,0,1],.b 1,.c [1,0,1,0,0,1,1,1],.l [1,0,1,0,0],.b 0,.c [1,1]],⟨[5],⟨[.i .i64],[.segs [.fn 62 [] []]]⟩⟩,fun p=>some (.inl p.1.1)⟩
abbrev A6l:Leaf ((Int)⊕(Unit)):=⟨[.c [1,1,0],.c [1,1,1]],⟨[],⟨[],[.segs [.fn 62 [] []]]⟩⟩,fun p=>some (.inr ())⟩
noncomputable def Z6(N:Nat):Ai:={ at_:=U8,sta:=Nq,exits:=[([.c [1,0,1,0,0,1,1,0,0,1,1,0,0],.c [1,0,1,0,0,1,1,0,0,1,1,0,1],.b 1,.c [1,0,1,0,0,1,1,1],.l [1,0,1,0,0],.b 0,.c [1,1]],⟨[5],⟨[.i .i64],[.segs [.fn 62 [] []]]⟩⟩),([.c [1,1,0],.c [1,1,1]],⟨[],⟨[],[.segs [.fn 62 [] []]]⟩⟩)],run:=fun p k=>(G2 N N p.1.1 p.1.2.2.1 p.1.2.2.2.1).bind fun e=>match e with | .inl x=>k (.inl ((x,()),((((),()),()),()))) | .inr x=>k (.inr (.inl ((),((((),()),()),())))) }
theorem Aou(N n_:Nat)(s:List Int)(u:Int)(u2:Int):ev (Z:=(Int)⊕(Unit)) Try.prog (Ae5 N) P7 [] [Abz (G2 N n_),A4x,A6l] none 400 true U8 (stL Nq ((s,((),((),())),u,u2,()),((((),()),()),()))) (stH Nq ((s,((),((),())),u,u2,()),((((),()),()),())))=G2 N (n_+1) s u u2:=by kernel_rfl
theorem Aot(N:Nat){top:Bool}:Ab Try.prog P7.c P7.n P7.m0 top (Z6 N):=A3 (Z:=(Int)⊕(Unit)) (N:=N) (fun m p=>G2 N m p.1.1 p.1.2.2.1 p.1.2.2.2.1) (fun e=>match e with | .inl x=>.inl ((x,()),((((),()),()),())) | .inr x=>.inr (.inl ((),((((),()),()),())))) (fun _ p k=>A9 (G2 N N p.1.1 p.1.2.2.1 p.1.2.2.2.1) _ _ (fun e=>by rcases e with x | x<;>rfl)) (fun _=>rfl) (fun m z E Xc hE hX hrec hx=>A2 (B:=P7) (loops:=[]) (leaves:=[Abz (G2 N m),A4x,A6l]) (Alg N) mixed trivial hE hX ⟨hrec,(fun p hp=>by obtain rfl:=Option.some.inj hp;exact hx),(fun p hp=>by obtain rfl:=Option.some.inj hp;exact hx),trivial⟩ Aa.no (fun p=>Aou N m p.1.1 p.1.2.2.1 p.1.2.2.2.1))
abbrev Atu:Sta:=⟨[0,1],⟨[.sl (.int .i64),.fn 94 [] [.own 0 0]],[.segs [.fn 62 [] []]]⟩⟩
theorem B4u(N:Nat)(s:List Int):ev (Z:=Int) Try.prog (Ae5 N) P7 [Z6 N] [] (some Au9) 400 false [.c [0],.c [1]] (stL Atu ((s,((),((),())),()),((((),()),()),()))) (stH Atu ((s,((),((),())),()),((((),()),()),())))=A8u N s:=by kernel_rfl
noncomputable def Au6(N:Nat):Spec:={ f:=80,ins:=⟨[.sl (.int .i64),.fn 94 [] [.own 0 0]],[.segs [.fn 62 [] []]]⟩,outs:=[⟨[.i .i64],[.segs [.fn 62 [] []]]⟩],run:=fun p k=>(A8u N p.1.1).bind fun r=>k ((r,()),((((),()),()),())) }
theorem Aqm(N:Nat):A0 Try.prog (Au6 N):=A1 (B:=P7) (loops:=[Z6 N]) (leaves:=[]) (fun p=>A8u N p.1.1) (fun r=>((r,()),((((),()),()),()))) Au9 (fun _ _ _=>rfl) (fun r z h=>by cases h;rfl) Try.func80 (by kernel_rfl) (by kernel_rfl) (by kernel_rfl) rfl rfl (by kernel_rfl) (fun args w=>Sem.pv_run _ _ _ (by kernel_rfl) w) (Alg N) mixed ⟨Aot N,trivial⟩ (fun z E Xc hE hX hret=>trivial) (fun p=>B4u N p.1.1)

def A5d(N:Nat)(s:List Int):Option Bool:=
 (A8u N s).bind fun x_1=>
 some (decide (0≤x_1))
noncomputable def Avp(N:Nat):List Spec:=[Au6 N]
theorem B0n(N:Nat):AllP (A0 Try.prog) (Avp N):=⟨Aqm N,trivial⟩
noncomputable def B6z:Code:=(Try.f93.body).getD .skip
noncomputable abbrev Ar5:Body:={ c:=B6z,n:=9,res:=[.tmp 4],outs:=[⟨[.b],[.segs [.fn 62 [] []]]⟩],m0:=1 }
abbrev Au8:altD Ar5.outs→Option Bool:=fun r=>some r.1.1
abbrev Avh:Sta:=⟨[0,1],⟨[.sl (.int .i64),.fn 94 [] [.own 0 0]],[.segs [.fn 62 [] []]]⟩⟩
theorem B2q(N:Nat)(s:List Int):ev (Z:=Bool) Try.prog (Avp N) Ar5 [] [] (some Au8) 400 false [.c [0],.c [1]] (stL Avh ((s,((),((),())),()),((((),()),()),()))) (stH Avh ((s,((),((),())),()),((((),()),()),())))=A5d N s:=by kernel_rfl
noncomputable def Aso(N:Nat):Spec:={ f:=93,ins:=⟨[.sl (.int .i64),.fn 94 [] [.own 0 0]],[.segs [.fn 62 [] []]]⟩,outs:=[⟨[.b],[.segs [.fn 62 [] []]]⟩],run:=fun p k=>(A5d N p.1.1).bind fun r=>k ((r,()),((((),()),()),())) }
theorem Ao3(N:Nat):A0 Try.prog (Aso N):=A1 (B:=Ar5) (loops:=[]) (leaves:=[]) (fun p=>A5d N p.1.1) (fun r=>((r,()),((((),()),()),()))) Au8 (fun _ _ _=>rfl) (fun r z h=>by cases h;rfl) Try.func93 (by kernel_rfl) (by kernel_rfl) (by kernel_rfl) rfl rfl (by kernel_rfl) (fun args w=>Sem.pv_run _ _ _ (by kernel_rfl) w) (B0n N) mixed trivial (fun z E Xc hE hX hret=>trivial) (fun p=>B2q N p.1.1)

def Oo(N:Nat)(l:List Int):Option Bool:=
 (A5d N l).bind fun x_1=>
 some (!x_1)
noncomputable def Ab3(N:Nat):List Spec:=[Aso N]
theorem Arh(N:Nat):AllP (A0 Try.prog) (Ab3 N):=⟨Ao3 N,trivial⟩
noncomputable def Ayg:Code:=(Try.f61.body).getD .skip
noncomputable abbrev A39:Body:={ c:=Ayg,n:=9,res:=[.tmp 4],outs:=[⟨[.b],[]⟩],m0:=0 }
abbrev Acw:altD A39.outs→Option Bool:=fun r=>some r.1.1
abbrev Adi:Sta:=⟨[0,1],⟨[.sl (.int .i64),.fn 62 [] []],[]⟩⟩
theorem Awj(N:Nat)(l:List Int):ev (Z:=Bool) Try.prog (Ab3 N) A39 [] [] (some Acw) 400 false [.c [0],.c [1]] (stL Adi ((l,((),()),()),())) (stH Adi ((l,((),()),()),()))=Oo N l:=by kernel_rfl
noncomputable def Ab0(N:Nat):Spec:={ f:=61,ins:=⟨[.sl (.int .i64),.fn 62 [] []],[]⟩,outs:=[⟨[.b],[]⟩],run:=fun p k=>(Oo N p.1.1).bind fun r=>k ((r,()),()) }
theorem Aev(N:Nat):A0 Try.prog (Ab0 N):=A1 (B:=A39) (loops:=[]) (leaves:=[]) (fun p=>Oo N p.1.1) (fun r=>((r,()),())) Acw (fun _ _ _=>rfl) (fun r z h=>by cases h;rfl) Try.func61 (by kernel_rfl) (by kernel_rfl) (by kernel_rfl) rfl rfl (by kernel_rfl) (fun args w=>Sem.pv_run _ _ _ (by kernel_rfl) w) (Arh N) mixed trivial (fun z E Xc hE hX hret=>trivial) (fun p=>Awj N p.1.1)

def clears_l1(N:Nat):Nat→(List Qe)→Int→Int→Qd→Option ((Unit)⊕Qd)
 | 0,_,_,_,_=>none
 | n_+1,u,u2,u3,own=>
  br (decide (u3<u2))
   (idx u u3 fun x_3=>
   chk ((own.length:Int)-1)<|
   (Ap N x_3.1 0 ((own.length:Int)-1)).bind fun x_4=>
   br (!x_4)
    (some (.inl ()))
    (chk ((own.length:Int)-1)<|
    (Ap N x_3.2.1 0 ((own.length:Int)-1)).bind fun x_5=>
    br (!x_5)
     (some (.inl ()))
     (br (decide (x_3.1=x_3.2.1))
      (some (.inl ()))
      ((Ap N x_3.2.2 1 1000000).bind fun x_6=>
      br (!x_6)
       (some (.inl ()))
       (rng x_3.1 own.length<|
       get own x_3.1.toNat fun x_7=>
       chk (x_7+x_3.2.2)<|
       rng x_3.1 own.length<|
       get own x_3.1.toNat fun _=>
       rng x_3.2.1 (own.set x_3.1.toNat (x_7+x_3.2.2)).length<|
       get (own.set x_3.1.toNat (x_7+x_3.2.2)) x_3.2.1.toNat fun x_9=>
       chk (x_9-x_3.2.2)<|
       rng x_3.2.1 (own.set x_3.1.toNat (x_7+x_3.2.2)).length<|
       get (own.set x_3.1.toNat (x_7+x_3.2.2)) x_3.2.1.toNat fun _=>
       chk (u3+1)<|
       clears_l1 N n_ u u2 (u3+1) ((own.set x_3.1.toNat (x_7+x_3.2.2)).set x_3.2.1.toNat (x_9-x_3.2.2)))))))
   (some (.inr own))
def clears_S(N:Nat)(balances:List Int)(l:List Qe):Option (Bool×Int):=
 (Eb N balances).bind fun x_1=>
 br (!decide (x_1=0))
  (some (false,x_1))
  ((J5 N balances).bind fun x_2=>
  (clears_l1 N N l (l.length:Int) 0 x_2).bind fun e=>match e with
  | .inl _=>
   some (false,0)
  | .inr own_11=>
   (Oo N own_11).bind fun x_12=>
   some (x_12,0))
noncomputable def Z5(N:Nat):List Spec:=[Ac7 N,Bb N,Pg N,Ab0 N]
theorem A43(N:Nat):AllP (A0 Try.prog) (Z5 N):=⟨Agj N,Am N,R4 N,Aev N,trivial⟩
noncomputable def B27:Code:=(Try.f25.body).getD .skip
noncomputable abbrev Gm:Body:={ c:=B27,n:=73,res:=[.tmp 4,.tmp 5],outs:=[⟨[.b,.i .i64],[]⟩],m0:=0 }
abbrev Ab2:altD Gm.outs→Option (Bool×Int):=fun r=>some (r.1.1,r.1.2.1)
abbrev Nc:List PI:=[.c [1,1,1,0,1,0,0,0],.c [1,1,1,0,1,0,0,1],.l [1,1,1,0,1,0,0],.b 0,.c [1,1,1,1]]
abbrev Hc:Sta:=⟨[7,17,18,19],⟨[.ols 0,.sl Qf,.i .i64,.i .i64],[.lst (.int .i64)]⟩⟩
abbrev A1e(rec:(List Qe)→Int→Int→Qd→Option ((Unit)⊕Qd)):Leaf ((Unit)⊕Qd):=⟨Nc,Hc,fun p=>rec p.1.2.1 p.1.2.2.1 p.1.2.2.2.1 p.2.1⟩
abbrev Vf:Leaf ((Unit)⊕Qd):=⟨[.c [1,1,1,0,1,0,0,1,1,0,0,1,0,1,0,0],.c [1,1,1,0,1,0,0,1,1,0,0,1,0,1,0,1],.c [1,1,1,0,1,0,0,1,1,0,0,1,1],.b 1,.c [1,1,1,0,1,0,0,1,1,1],.l [1,1,1,0,1,0,0],.b 0,.c [1,1,1,1]],⟨[],⟨[],[]⟩⟩,fun p=>some (.inl ())⟩
abbrev W8:Leaf ((Unit)⊕Qd):=⟨[.c [1,1,1,1,0],.c [1,1,1,1,1]],⟨[7],⟨[.ols 0],[.lst (.int .i64)]⟩⟩,fun p=>some (.inr p.2.1)⟩
noncomputable def On(N:Nat):Ai:={ at_:=Nc,sta:=Hc,exits:=[([.c [1,1,1,0,1,0,0,1,1,0,0,1,0,1,0,0],.c [1,1,1,0,1,0,0,1,1,0,0,1,0,1,0,1],.c [1,1,1,0,1,0,0,1,1,0,0,1,1],.b 1,.c [1,1,1,0,1,0,0,1,1,1],.l [1,1,1,0,1,0,0],.b 0,.c [1,1,1,1]],⟨[],⟨[],[]⟩⟩),([.c [1,1,1,1,0],.c [1,1,1,1,1]],⟨[7],⟨[.ols 0],[.lst (.int .i64)]⟩⟩)],run:=fun p k=>(clears_l1 N N p.1.2.1 p.1.2.2.1 p.1.2.2.2.1 p.2.1).bind fun e=>match e with | .inl x=>k (.inl ((),())) | .inr x=>k (.inr (.inl (((),()),(x,())))) }
theorem Ael(N n_:Nat)(u:List Qe)(u2:Int)(u3:Int)(own:List Int):ev (Z:=(Unit)⊕Qd) Try.prog (Z5 N) Gm [] [A1e (clears_l1 N n_),Vf,W8] none 400 true Nc (stL Hc (((),u,u2,u3,()),(own,()))) (stH Hc (((),u,u2,u3,()),(own,())))=clears_l1 N (n_+1) u u2 u3 own:=by kernel_rfl
theorem Ae9(N:Nat){top:Bool}:Ab Try.prog Gm.c Gm.n Gm.m0 top (On N):=A3 (Z:=(Unit)⊕Qd) (N:=N) (fun m p=>clears_l1 N m p.1.2.1 p.1.2.2.1 p.1.2.2.2.1 p.2.1) (fun e=>match e with | .inl x=>.inl ((),()) | .inr x=>.inr (.inl (((),()),(x,())))) (fun _ p k=>A9 (clears_l1 N N p.1.2.1 p.1.2.2.1 p.1.2.2.2.1 p.2.1) _ _ (fun e=>by rcases e with x | x<;>rfl)) (fun _=>rfl) (fun m z E Xc hE hX hrec hx=>A2 (B:=Gm) (loops:=[]) (leaves:=[A1e (clears_l1 N m),Vf,W8]) (A43 N) mixed trivial hE hX ⟨hrec,(fun p hp=>by obtain rfl:=Option.some.inj hp;exact hx),(fun p hp=>by obtain rfl:=Option.some.inj hp;exact hx),trivial⟩ Aa.no (fun p=>Ael N m p.1.2.1 p.1.2.2.1 p.1.2.2.2.1 p.2.1))
abbrev Adg:Sta:=⟨[0,1],⟨[.sl (.int .i64),.sl Qf],[]⟩⟩
theorem Aw9(N:Nat)(balances:List Int)(l:List Qe):ev (Z:=Bool×Int) Try.prog (Z5 N) Gm [On N] [] (some Ab2) 400 false [.c [0],.c [1]] (stL Adg ((balances,l,()),())) (stH Adg ((balances,l,()),()))=clears_S N balances l:=by kernel_rfl
noncomputable def Acy(N:Nat):Spec:={ f:=25,ins:=⟨[.sl (.int .i64),.sl Qf],[]⟩,outs:=[⟨[.b,.i .i64],[]⟩],run:=fun p k=>(clears_S N p.1.1 p.1.2.1).bind fun r=>k ((r.1,r.2,()),()) }
theorem Afy(N:Nat):A0 Try.prog (Acy N):=A1 (B:=Gm) (loops:=[On N]) (leaves:=[]) (fun p=>clears_S N p.1.1 p.1.2.1) (fun r=>((r.1,r.2,()),())) Ab2 (fun _ _ _=>rfl) (fun r z h=>by cases h;rfl) Try.func25 (by kernel_rfl) (by kernel_rfl) (by kernel_rfl) rfl rfl (by kernel_rfl) (fun args w=>Sem.pv_run _ _ _ (by kernel_rfl) w) (A43 N) mixed ⟨Ae9 N,trivial⟩ (fun z E Xc hE hX hret=>trivial) (fun p=>Aw9 N p.1.1 p.1.2.1)

end Go.Proofs.Ytgeijboidfadaaa.Fe

namespace Go.Proofs.Ytgeijboidfadaaa.Fe
set_option linter.all false
open Go

abbrev Pay:=Int×(Int×Int)
def payG(bal:List Int):Int→List Int→List Pay
 | n,p::q::l=>(if 0<n+bal.getD p.toNat 0 then [(q,p,n+bal.getD p.toNat 0)]else if n+bal.getD p.toNat 0<0 then [(p,q,0-(n+bal.getD p.toNat 0))]else [])++payG bal (n+bal.getD p.toNat 0) (q::l)
 | _,_=>[]
def dlt(x:Int):List Pay→Int
 | []=>0
 | p::l=>(if x=p.1 then p.2.2 else 0)-(if x=p.2.1 then p.2.2 else 0)+dlt x l
theorem A23(x:Int):∀a b:List Pay,dlt x (a++b)=dlt x a+dlt x b
 | [],b=>by simp[dlt]
 | p::a,b=>by rw[List.cons_append,dlt,dlt,A23 x a b];omega
section
variable {bal:List Int} {N:Nat}
theorem A3n:∀(n:Int) (l:List Int),(payG bal n l).length≤l.length-1
 | n,[]=>by simp[payG]
 | n,[_]=>by simp[payG]
 | n,p::q::l=>by
  have:=A3n (n+bal.getD p.toNat 0) (q::l)
  rw[payG,List.length_append]
  simp only[List.length_cons]at this ⊢
  split
  ·simp only[List.length_cons,List.length_nil];omega
  ·split<;>simp only[List.length_cons,List.length_nil]<;>omega
theorem Amr(x:Int):∀(l:List Int) (n p:Int),n+grpS bal (p::l)=0→(p::l).Nodup→dlt x (payG bal n (p::l))=-(if x∈p::l then bal.getD x.toNat 0 else 0)-(if x=p then n else 0)
 | [],n,p,h,hd=>by
  simp only[grpS]at h
  simp only[payG,dlt,List.mem_singleton]
  by_cases e:x=p
  ·subst e;rw[if_pos rfl,if_pos rfl];omega
  ·rw[if_neg e,if_neg e];rfl
 | q::l,n,p,h,hd=>by
  rw[grpS]at h
  have hd':=List.nodup_cons.1 hd
  have ih:=Amr x l (n+bal.getD p.toNat 0) q (by omega) hd'.2
  have hpq:p≠q:=fun e=>hd'.1 (by rw[e];exact List.mem_cons_self ..)
  rw[payG,A23,ih]
  have h1:dlt x (if 0<n+bal.getD p.toNat 0 then [(q,p,n+bal.getD p.toNat 0)]else if n+bal.getD p.toNat 0<0 then [(p,q,0-(n+bal.getD p.toNat 0))]else [])=(if x=q then n+bal.getD p.toNat 0 else 0)-(if x=p then n+bal.getD p.toNat 0 else 0):=by
   split
   ·simp only[dlt];omega
   ·split
    ·simp only[dlt]
     by_cases e1:x=p<;>by_cases e2:x=q<;>simp only[e1,e2,if_true,if_false,if_pos,if_neg,hpq,hpq.symm,ne_eq,not_false_eq_true]<;>omega
    ·have h0:n+bal.getD p.toNat 0=0:=by omega
     rw[h0];simp[dlt]
  rw[h1]
  by_cases e1:x=p
  ·subst e1
   rw[if_pos (List.mem_cons_self ..),if_neg hpq,if_neg hd'.1,if_pos rfl,if_pos rfl]
   omega
  ·rw[if_neg e1,if_neg e1]
   by_cases e2:x∈q::l
   ·rw[if_pos e2,if_pos (List.mem_cons_of_mem _ e2)];omega
   ·have e3:¬x∈p::q::l:=fun h=>by
     rcases List.mem_cons.1 h with h | h
     ·exact e1 h
     ·exact e2 h
    rw[if_neg e2,if_neg e3];omega
theorem Aii(hr:∀x∈bal,-100000≤x∧x≤100000):∀(l:List Int) (n:Int) (m:Nat),l.Nodup→-100000*(m:Int)≤n∧n≤100000*(m:Int)→∀z∈payG bal n l,z.1∈l∧z.2.1∈l∧z.1≠z.2.1∧1≤z.2.2∧z.2.2≤100000*((m+l.length:Nat):Int)
 | [],n,m,hd,hn,z,hz=>by simp[payG]at hz
 | [_],n,m,hd,hn,z,hz=>by simp[payG]at hz
 | p::q::l,n,m,hd,hn,z,hz=>by
  have hd':=List.nodup_cons.1 hd
  have hpq:p≠q:=fun e=>hd'.1 (by rw[e];exact List.mem_cons_self ..)
  have hb:=Ut hr (by decide) p.toNat
  rw[payG]at hz
  rcases List.mem_append.1 hz with h | h
  ·have hl:(p::q::l).length=l.length+2:=rfl
   rw[hl]
   split at h
   ·simp only[List.mem_singleton]at h;subst h
    exact⟨by simp,by simp,hpq.symm,by dsimp only;omega,by dsimp only;omega⟩
   ·split at h
    ·simp only[List.mem_singleton]at h;subst h
     exact⟨by simp,by simp,hpq,by dsimp only;omega,by dsimp only;omega⟩
    ·cases h
  ·obtain⟨h1,h2,h3,h4,h5⟩:=Aii hr (q::l) _ (m+1) hd'.2 (by omega) z h
   refine⟨List.mem_cons_of_mem _ h1,List.mem_cons_of_mem _ h2,h3,h4,?_⟩
   simp only[List.length_cons]at h5 ⊢
   omega
theorem A75(hr:∀x∈bal,-100000≤x∧x≤100000){l:List Int}(hl:l.length≤1000)(hx:∀x∈l,0≤x∧x<(bal.length:Int)){u:Gl}{u2 u3:Int} :
  ∀(f k:Nat) (n:Int) (out:List Pay),l.length<f+k→k+1≤l.length→-100000*(k:Int)≤n∧n≤100000*(k:Int)→out.length+(l.length-k)≤1000000 →
   clear_l2 N f bal l n u u2 u3 (l.take (l.length-1)) ((l.length-1:Nat):Int) k out=some (bal,u,u2,u3,out++payG bal n (l.drop k))
 | 0,k,n,out,h,hk,_,_=>by omega
 | f+1,k,n,out,h,hk,hn,ho=>by
  unfold clear_l2
  by_cases c:k<l.length-1
  ·have hb:=Ut hr (by decide) (l.getD k 0).toNat
   have hxk:=hx _ (Av (d:=0) (show k<l.length by omega))
   have hbm:bal[(l.getD k 0).toNat]?=some (bal.getD (l.getD k 0).toNat 0):=by
    rw[List.getD_eq_getElem?_getD (l:=bal),List.getElem?_eq_getElem (by omega)];rfl
   have htk:(l.take (l.length-1))[((k:Nat):Int).toNat]?=some (l.getD k 0):=by
    rw[show((k:Nat):Int).toNat=k by omega,List.getElem?_take,if_pos c,List.getD_eq_getElem?_getD,List.getElem?_eq_getElem (by omega)];rfl
   have hd2:l.drop k=l.getD k 0::l.getD (k+1) 0::l.drop (k+1+1):=by rw[Nw (by omega),Nw (by omega)]
   have ih:=fun(out':List Pay) (ho':out'.length≤out.length+1)=>A75 hr hl hx (u:=u) (u2:=u2) (u3:=u3) f (k+1) (n+bal.getD (l.getD k 0).toNat 0) out' (by omega) (by omega) (by omega) (by omega)
   have hj:∀out':List Pay,out'.length≤out.length+1→Iz N (clear_l2 N f) bal l (n+bal.getD (l.getD k 0).toNat 0) u u2 u3 (l.take (l.length-1)) ((l.length-1:Nat):Int) k out'=some (bal,u,u2,u3,out'++payG bal (n+bal.getD (l.getD k 0).toNat 0) (l.drop (k+1))):=fun out' ho'=>by
    unfold Iz
    rw[Af (by omega),←O8]
    exact ih out' ho'
   have hl1:l[((k:Nat)+1:Int).toNat]?=some (l.getD (k+1) 0):=by
    rw[show((k:Nat)+1:Int).toNat=k+1 by omega,List.getD_eq_getElem?_getD,List.getElem?_eq_getElem (by omega)];rfl
   rw[Ax (by omega),idx_eq (by omega) htk,idx_eq hxk.1 hbm,Af (by omega),hd2,payG]
   by_cases c1:0<n+bal.getD (l.getD k 0).toNat 0
   ·rw[Ax c1,Af (by omega),idx_eq (by omega) hl1,No (by simp;omega),hj _ (by simp),if_pos c1,Nw (show k+1<l.length by omega),List.append_assoc]
   ·rw[Ae c1,if_neg c1]
    by_cases c2:n+bal.getD (l.getD k 0).toNat 0<0
    ·rw[Ax c2,Af (by omega),idx_eq (by omega) hl1,Af (by omega),No (by simp;omega),hj _ (by simp),if_pos c2,Nw (show k+1<l.length by omega),List.append_assoc]
    ·rw[Ae c2,if_neg c2,hj _ (by omega),Nw (show k+1<l.length by omega),List.nil_append]
  ·have hk1:k=l.length-1:=by omega
   have:payG bal n (l.drop k)=[]:=by
    rw[Nw (by omega),List.drop_of_length_le (by omega)];rfl
   rw[Ae (by omega),this,List.append_nil]
def payA(bal:List Int)(G:Gl):List Pay:=G.flatMap (payG bal 0)
theorem A2y(hN:1010≤N)(hr:∀x∈bal,-100000≤x∧x≤100000){G:Gl}(hG:G.length≤1000)(hx:∀r∈G,r≠[]∧r.length≤1000∧∀x∈r,0≤x∧x<(bal.length:Int)) :
  ∀(f k:Nat) (out:List Pay),G.length<f+k→k≤G.length→out.length≤1000*k→clear_l1 N f bal G (G.length:Int) k out=some (out++payA bal (G.drop k))
 | 0,k,out,h,hk,_=>by omega
 | f+1,k,out,h,hk,ho=>by
  unfold clear_l1
  by_cases c:k<G.length
  ·have hrk:=hx _ (Av (d:=[]) c)
   have hpos:0<(G.getD k []).length:=List.length_pos_iff.2 hrk.1
   have hd:G.drop k=G.getD k []::G.drop (k+1):=by
    rw[List.drop_eq_getElem_cons c,List.getD_eq_getElem?_getD,List.getElem?_eq_getElem c];rfl
   have hpl:=A3n (bal:=bal) 0 (G.getD k [])
   have e1:(((G.getD k []).length:Int)-1).toNat=(G.getD k []).length-1:=by omega
   have e2:(((G.getD k []).take ((G.getD k []).length-1)).length:Int)=(((G.getD k []).length-1:Nat):Int):=by
    rw[List.length_take,Nat.min_eq_left (by omega)]
   rw[Ax (by omega),idx_eq (by omega) (gets c []),Af (by omega),Gz (by simp only[decide_eq_true_eq];omega),e1,e2]
   have h2:=A75 (N:=N) hr hrk.2.1 hrk.2.2 (u:=G) (u2:=(G.length:Int)) (u3:=(k:Int)) N 0 0 out (by omega) (by omega) (by omega) (by omega)
   rw[show((0:Nat):Int)=0 from rfl,List.drop_zero]at h2
   rw[h2]
   simp only[Option.bind_some]
   rw[Af (by omega),←O8,A2y hN hr hG hx f (k+1) _ (by omega) (by omega) (by rw[List.length_append];omega),hd]
   unfold payA
   rw[List.flatMap_cons,List.append_assoc]
  ·rw[Ae (by omega),List.drop_of_length_le (by omega)]
   simp[payA]

theorem Ati(N:Nat)(n lo hi:Int):Ap N n lo hi=some (decide (lo≤n∧n≤hi)):=by
 unfold Ap br
 by_cases h:lo≤n<;>simp[h]
theorem Ada{l:List Int}(hl:l.length≤1000)(hr:∀x∈l,-100000≤x∧x≤100000):∀(n k:Nat),l.length<n+k→k≤l.length→ixfb_l1 N n l (l.length:Int) k=some (.inr ())
 | 0,k,h,hk=>by omega
 | n+1,k,h,hk=>by
  unfold ixfb_l1
  by_cases c:k<l.length
  ·have hx:=hr _ (Av (d:=0) c)
   rw[Ax (by omega),idx_eq (by omega) (gets c 0)]
   unfold B9 A60
   rw[Ati,decide_eq_true hx]
   simp only[Option.bind_some,Bool.not_true]
   rw[Bq,Af (by omega),←O8]
   exact Ada hl hr n (k+1) (by omega) (by omega)
  ·rw[Ae (by omega)]
theorem Akl{l:List Int}(hl:l.length≤1000)(hr:∀x∈l,-100000≤x∧x≤100000):∀(n k:Nat) (s:Int),l.length<n+k→k≤l.length→-100000*(k:Int)≤s∧s≤100000*(k:Int)→sum_l1 N n s l (l.length:Int) k=some (s+(l.drop k).sum)
 | 0,k,s,h,hk,_=>by omega
 | n+1,k,s,h,hk,hs=>by
  unfold sum_l1
  by_cases c:k<l.length
  ·have hx:=hr _ (Av (d:=0) c)
   rw[Ax (by omega),idx_eq (by omega) (gets c 0),Af (by omega),Af (by omega),←O8,Akl hl hr n (k+1) _ (by omega) (by omega) (by omega),Nw c,List.sum_cons,Int.add_assoc]
  ·rw[Ae (by omega),List.drop_of_length_le (by omega)]
   simp
theorem A79(hN:1010≤N)(hl:bal.length≤8)(hr:∀x∈bal,-100000≤x∧x≤100000)(hs:bal.sum=0):Eb N bal=some 0:=by
 unfold Eb
 rw[Ae (by omega)]
 unfold Ck Ik H7 Oe
 have h1:ixfb_l1 N N bal (bal.length:Int) 0=some (.inr ()):=Ada (by omega) hr N 0 (by omega) (by omega)
 have h2:sum_l1 N N 0 bal (bal.length:Int) 0=some (0+(bal.drop 0).sum):=Akl (by omega) hr N 0 0 (by omega) (by omega) (by omega)
 rw[h1,h2,List.drop_zero,hs]
 rfl
structure Bals (bal:List Int):Prop where
 n:bal.length≤8
 r:∀x∈bal,-100000≤x∧x≤100000
 s:bal.sum=0
structure Grps (bal:List Int) (G:Gl):Prop where
 gp:GP bal bal.length G
 z:allZ bal G=true
theorem Grps.mem{G:Gl}(h:Grps bal G){r:List Int}(hr:r∈G):r≠[]∧r.Nodup∧grpS bal r=0∧∀x∈r,(0≤x∧x<(bal.length:Int)):=by
 have hfl:∀x∈r,x∈nzL bal bal.length:=fun x hx=>h.gp.pm.mem_iff.1 (List.mem_flatten.2 ⟨r,hr,hx⟩)
 refine⟨h.gp.ne r hr,?_,?_,fun x hx=>?_⟩
 ·have hn:G.flatten.Nodup:=h.gp.pm.nodup_iff.2 (Abd _)
  exact List.Nodup.sublist (List.sublist_flatten_of_mem hr) hn
 ·have:=h.z
  unfold allZ at this
  simpa using List.all_eq_true.1 this r hr
 ·obtain⟨p,rfl,h1,_⟩:=As3.1 (hfl x hx)
  omega
theorem B4i(hN:1010≤N)(hb:Bals bal){G:Gl}(hG:putF bal bal.length 0 [] []=G)(hg:Grps bal G)(hn:G.length≤8):Rn N bal=some (payA bal G,0):=by
 unfold Rn
 rw[A79 hN hb.n hb.r hb.s]
 simp only[Option.bind_some]
 rw[Gg (by trivial)]
 unfold G8
 rw[if_pos ⟨by have:=hb.n;omega,hb.r⟩,hG]
 simp only[Option.bind_some]
 have hx:∀r∈G,r≠[]∧r.length≤1000∧∀x∈r,0≤x∧x<(bal.length:Int):=fun r hr=>by
  have h1:=hg.mem hr
  refine⟨h1.1,?_,h1.2.2.2⟩
  have h2:r.length≤G.flatten.length:=(List.sublist_flatten_of_mem hr).length_le
  have h3:G.flatten.length=(nzL bal bal.length).length:=hg.gp.pm.length_eq
  have h4:(nzL bal bal.length).length≤bal.length:=by
   unfold nzL;rw[List.length_map];exact Nat.le_trans (List.length_filter_le _ _) (by simp)
  have:=hb.n;omega
 have h1:=A2y (N:=N) hN hb.r (G:=G) (by omega) hx N 0 [] (by omega) (by omega) (by simp)
 rw[show((0:Nat):Int)=0 from rfl,List.drop_zero,List.nil_append]at h1
 rw[h1]
 rfl
end
end Go.Proofs.Ytgeijboidfadaaa.Fe

namespace Go.Proofs.Ytgeijboidfadaaa.Fe
set_option linter.all false
open Go

section
variable {bal:List Int} {N:Nat}
theorem Ana:∀G:Gl,(∀r∈G,r≠[])→(payA bal G).length+G.length≤G.flatten.length
 | [],_=>by simp[payA]
 | r::G,h=>by
  have h1:=Ana G (fun x hx=>h x (List.mem_cons_of_mem _ hx))
  have h2:=A3n (bal:=bal) 0 r
  have h3:=List.length_pos_iff.2 (h r (List.mem_cons_self ..))
  unfold payA at h1 ⊢
  rw[List.flatMap_cons,List.length_append,List.length_cons,List.flatten_cons,List.length_append]
  omega
theorem Ai1(x:Int):∀G:Gl,(∀r∈G,r≠[]∧grpS bal r=0)→G.flatten.Nodup→dlt x (payA bal G)=-(if x∈G.flatten then bal.getD x.toNat 0 else 0)
 | [],_,_=>by simp[payA,dlt]
 | r::G,h,hd=>by
  rw[List.flatten_cons]at hd
  obtain⟨d1,d2,d3⟩:=List.nodup_append.1 hd
  have ih:=Ai1 x G (fun y hy=>h y (List.mem_cons_of_mem _ hy)) d2
  have hr:=h r (List.mem_cons_self ..)
  have e:payA bal (r::G)=payG bal 0 r++payA bal G:=by unfold payA;rw[List.flatMap_cons]
  rw[e,A23,ih,List.flatten_cons]
  obtain⟨p,l,rfl⟩:∃p l,r=p::l:=by
   cases r with
   | nil=>exact absurd rfl hr.1
   | cons p l=>exact⟨p,l,rfl⟩
  rw[Amr x l 0 p (by omega) d1]
  by_cases e1:x∈p::l
  ·have e2:¬x∈G.flatten:=fun h2=>d3 x e1 x h2 rfl
   rw[if_pos e1,if_neg e2,if_pos (List.mem_append_left _ e1)]
   split<;>omega
  ·rw[if_neg e1]
   by_cases e2:x∈G.flatten
   ·rw[if_pos e2,if_pos (List.mem_append_right _ e2)];split<;>omega
   ·have e3:¬x∈p::l++G.flatten:=fun h3=>by
     rcases List.mem_append.1 h3 with h3 | h3
     ·exact e1 h3
     ·exact e2 h3
    rw[if_neg e2,if_neg e3];split<;>omega
def Aat(n:Nat)(l:List Pay):Prop:=∀z∈l,(0≤z.1∧z.1<(n:Int))∧(0≤z.2.1∧z.2.1<(n:Int))∧z.1≠z.2.1∧1≤z.2.2∧z.2.2≤1000000
theorem B2r(hb:Bals bal){G:Gl}(hg:Grps bal G):Aat bal.length (payA bal G):=fun z hz=>by
 unfold payA at hz
 obtain⟨r,hr,hz⟩:=List.mem_flatMap.1 hz
 obtain⟨h1,h2,h3,h4⟩:=hg.mem hr
 obtain⟨k1,k2,k3,k4,k5⟩:=Aii hb.r r 0 0 h2 (by omega) z hz
 have h6:r.length≤G.flatten.length:=(List.sublist_flatten_of_mem hr).length_le
 have h7:G.flatten.length=(nzL bal bal.length).length:=hg.gp.pm.length_eq
 have h8:(nzL bal bal.length).length≤bal.length:=by
  unfold nzL;rw[List.length_map];exact Nat.le_trans (List.length_filter_le _ _) (by simp)
 have:=hb.n
 exact⟨h4 _ k1,h4 _ k2,k3,k4,by omega⟩
def setI(l:List Int)(i:Int)(x:Int):List Int:=l.set i.toNat x
theorem Q8(l:List Int)(i x:Int):(setI l i x).length=l.length:=by simp[setI]
theorem A3w{l:List Int}{i:Int}(h0:0≤i)(h:i<(l.length:Int))(x:Int)(j:Nat):(setI l i x).getD j 0=if(j:Int)=i then x else l.getD j 0:=by
 unfold setI
 rw[Br _ _ _ _ _ (by omega)]
 by_cases e:(j:Int)=i
 ·rw[if_pos e,if_pos (by omega)]
 ·rw[if_neg e,if_neg (by omega)]
def pay1(f:Int)(l:List Int)(z:Pay):List Int:=setI (setI l z.1 (l.getD z.1.toNat 0+f*z.2.2)) z.2.1 (l.getD z.2.1.toNat 0-f*z.2.2)
theorem Wf(f:Int)(l:List Int)(z:Pay):(pay1 f l z).length=l.length:=by simp[pay1,Q8]
theorem Amf{f:Int}{l:List Int}{z:Pay}(h1:0≤z.1∧z.1<(l.length:Int))(h2:0≤z.2.1∧z.2.1<(l.length:Int))(h3:z.1≠z.2.1)(j:Nat):(pay1 f l z).getD j 0=l.getD j 0+f*dlt j [z]:=by
 unfold pay1
 rw[A3w h2.1 (by rw[Q8];exact h2.2),A3w h1.1 h1.2]
 simp only[dlt]
 by_cases e1:(j:Int)=z.2.1
 ·have e2:¬(j:Int)=z.1:=by omega
  have e3:z.2.1.toNat=j:=by omega
  rw[if_pos e1,if_neg e2,if_pos e1,e3]
  rw[show(0:Int)-z.2.2+0=-z.2.2 by omega,Int.mul_neg];omega
 ·by_cases e2:(j:Int)=z.1
  ·have e3:z.1.toNat=j:=by omega
   rw[if_neg e1,if_pos e2,if_pos e2,if_neg e1,e3,show z.2.2-0+0=z.2.2 by omega]
  ·rw[if_neg e1,if_neg e2,if_neg e2,if_neg e1];simp
theorem Vi(f:Int):∀(l:List Pay) (own:List Int),(l.foldl (pay1 f) own).length=own.length
 | [],own=>rfl
 | z::l,own=>by rw[List.foldl_cons,Vi f l,Wf]
theorem A4g(f:Int):∀(l:List Pay) (own:List Int),Aat own.length l→∀j,(l.foldl (pay1 f) own).getD j 0=own.getD j 0+f*dlt j l
 | [],own,_,j=>by simp[dlt]
 | z::l,own,h,j=>by
  have hz:=h z (List.mem_cons_self ..)
  rw[List.foldl_cons,A4g f l _ (by rw[Wf];exact fun y hy=>h y (List.mem_cons_of_mem _ hy)) j,Amf hz.1 hz.2.1 hz.2.2.1,show dlt j (z::l)=dlt j [z]+dlt j l from A23 j [z] l,Int.mul_add]
  omega
def Bnd(m:Int)(l:List Int):Prop:=∀j:Nat,-m≤l.getD j 0∧l.getD j 0≤m
theorem Aj4{f m:Int}(hf:f=1∨f=-1){l:List Int}{z:Pay}(h1:0≤z.1∧z.1<(l.length:Int))(h2:0≤z.2.1∧z.2.1<(l.length:Int))(h3:z.1≠z.2.1)(h4:1≤z.2.2∧z.2.2≤1000000)(hb:Bnd m l):Bnd (m+1000000) (pay1 f l z):=fun j=>by
 have:=hb j
 rw[Amf h1 h2 h3]
 have hd:-1000000≤dlt j [z]∧dlt j [z]≤1000000:=by
  simp only[dlt]
  split<;>split<;>omega
 rcases hf with rfl | rfl
 ·rw[Int.one_mul];omega
 ·rw[Int.neg_mul,Int.one_mul];omega
theorem getI{l:List Int}{i:Int}(h:0≤i∧i<(l.length:Int)):l[i.toNat]?=some (l.getD i.toNat 0):=by
 rw[List.getD_eq_getElem?_getD,List.getElem?_eq_getElem (by omega)];rfl
theorem A1d{n:Nat}{l:List Pay}(hn:n≤1000)(hl:l.length≤1000)(hp:Aat n l):∀(f k:Nat) (own:List Int),l.length<f+k→k≤l.length→own.length=n→Bnd (100000+1000000*(k:Int)) own →
  clears_l1 N f l (l.length:Int) k own=some (.inr ((l.drop k).foldl (pay1 1) own))
 | 0,k,own,h,hk,_,_=>by omega
 | f+1,k,own,h,hk,ho,hb=>by
  unfold clears_l1
  by_cases c:k<l.length
  ·have hz:=hp _ (Av (d:=(0,0,0)) c)
   have hd:l.drop k=l.getD k (0,0,0)::l.drop (k+1):=by
    rw[List.drop_eq_getElem_cons c,List.getD_eq_getElem?_getD,List.getElem?_eq_getElem c];rfl
   rw[Ax (by omega),idx_eq (by omega) (gets c (0,0,0)),hd]
   generalize l.getD k (0,0,0)=z at hz ⊢
   obtain⟨z1,z2,z3,z4,z5⟩:=hz
   have b1:=hb z.1.toNat
   have b2:=hb z.2.1.toNat
   have g2:(setI own z.1 (own.getD z.1.toNat 0+z.2.2)).getD z.2.1.toNat 0=own.getD z.2.1.toNat 0:=by
    rw[A3w z1.1 (by omega),if_neg (by omega)]
   have e1:(setI own z.1 (own.getD z.1.toNat 0+z.2.2))[z.2.1.toNat]?=some (own.getD z.2.1.toNat 0):=by
    rw[getI (by rw[Q8];omega),g2]
   have e0:own.set z.1.toNat (own.getD z.1.toNat 0+z.2.2)=setI own z.1 (own.getD z.1.toNat 0+z.2.2):=rfl
   have ih:=A1d hn hl hp f (k+1) (pay1 1 own z) (by omega) (by omega) (by rw[Wf];exact ho) (by
    have h6:=Aj4 (f:=1) (.inl rfl) (l:=own) (z:=z) (by omega) (by omega) z3 ⟨z4,z5⟩ hb
    have e:(100000+1000000*((k+1:Nat):Int))=100000+1000000*(k:Int)+1000000:=by omega
    rw[e];exact h6)
   rw[Af (by omega),Ati,decide_eq_true (by omega)]
   simp only[Option.bind_some,Bool.not_true,Bq]
   rw[Af (by omega),Ati,decide_eq_true (by omega)]
   simp only[Option.bind_some,Bool.not_true,Bq]
   rw[Ae z3,Ati,decide_eq_true (by omega)]
   simp only[Option.bind_some,Bool.not_true,Bq]
   rw[B3 (by omega),get_eq (getI (by omega)),Af (by omega),B3 (by omega),get_eq (getI (by omega)),e0,B3 (by rw[Q8];omega),get_eq e1,Af (by omega),B3 (by rw[Q8];omega),get_eq e1,Af (by omega),←O8]
   have e3:(setI own z.1 (own.getD z.1.toNat 0+z.2.2)).set z.2.1.toNat (own.getD z.2.1.toNat 0-z.2.2)=pay1 1 own z:=by
    unfold pay1;rw[Int.one_mul];rfl
   rw[e3,ih,List.foldl_cons]
  ·rw[Ae (by omega),List.drop_of_length_le (by omega)];rfl
theorem Aak{l:List Int}(hl:l.length≤1000)(hz:∀j:Nat,l.getD j 0=0):∀(n k:Nat),l.length<n+k→k≤l.length→G2 N n l (l.length:Int) k=some (.inr ())
 | 0,k,h,hk=>by omega
 | n+1,k,h,hk=>by
  unfold G2
  by_cases c:k<l.length
  ·rw[Ax (by omega),idx_eq (by omega) (gets c 0)]
   unfold Lq Ky
   rw[hz k]
   simp only[Option.bind_some]
   rw[Gg (by trivial),Af (by omega),←O8]
   exact Aak hl hz n (k+1) (by omega) (by omega)
  ·rw[Ae (by omega)]
theorem B0g(hb:Bals bal)(j:Nat):-100000≤bal.getD j 0∧bal.getD j 0≤100000:=Ut hb.r (by decide) j
theorem Ayu(hN:1010≤N)(hb:Bals bal){l:List Pay}(hl:l.length≤1000)(hp:Aat bal.length l)(hd:∀j:Nat,dlt j l=-bal.getD j 0):clears_S N bal l=some (true,0):=by
 unfold clears_S
 rw[A79 hN hb.n hb.r hb.s]
 simp only[Option.bind_some]
 rw[Gg (by trivial)]
 have hn:=hb.n
 have e1:J5 N bal=some bal:=by
  unfold J5
  rw[No (by omega)]
 rw[e1]
 simp only[Option.bind_some]
 have h1:=A1d (N:=N) (n:=bal.length) (by omega) hl hp N 0 bal (by omega) (by omega) rfl (fun j=>by have:=B0g hb j;omega)
 rw[show((0:Nat):Int)=0 from rfl,List.drop_zero]at h1
 rw[h1]
 simp only[Option.bind_some]
 have hz:∀j:Nat,(l.foldl (pay1 1) bal).getD j 0=0:=fun j=>by
  rw[A4g 1 l bal hp j,hd j];omega
 unfold Oo A5d A8u
 have h2:=Aak (N:=N) (l:=l.foldl (pay1 1) bal) (by rw[Vi];omega) hz N 0 (by rw[Vi];omega) (by omega)
 rw[show((0:Nat):Int)=0 from rfl]at h2
 rw[h2];rfl
end
end Go.Proofs.Ytgeijboidfadaaa.Fe

/-
  Parts of a proof, put together: PE1, PE2, PED, PG2b, PGq, PG2c, PG2d, PG2.
  Conditions: none.
-/
import Derived.Test.YtgeijboidfadaaaZd
namespace Go.Proofs.Ytgeijboidfadaaa
set_option linter.all false
open Go

def Ap(N:Nat)(n:Int)(lo:Int)(hi:Int):Option Bool:=
 br (decide (lo≤n))
  (some (decide (n≤hi)))
  (some false)
noncomputable def Hv(N:Nat):List Spec:=[]
theorem Mh(N:Nat):AllP (A0 Try.prog) (Hv N):=trivial
noncomputable def A44:Code:=(Try.f109.body).getD .skip
noncomputable abbrev I9:Body:={ c:=A44,n:=15,res:=[.tmp 6],outs:=[⟨[.b],[]⟩],m0:=0 }
abbrev I6:altD I9.outs→Option Bool:=fun r=>some r.1.1
abbrev Iq:Sta:=⟨[0,1,2],⟨[.i .i64,.i .i64,.i .i64],[]⟩⟩
theorem Ts(N:Nat)(n:Int)(lo:Int)(hi:Int):ev (Z:=Bool) Try.prog (Hv N) I9 [] [] (some I6) 400 false [.c [0],.c [1]] (stL Iq ((n,lo,hi,()),())) (stH Iq ((n,lo,hi,()),()))=Ap N n lo hi:=by kernel_rfl
noncomputable def Bb(N:Nat):Spec:={ f:=109,ins:=⟨[.i .i64,.i .i64,.i .i64],[]⟩,outs:=[⟨[.b],[]⟩],run:=fun p k=>(Ap N p.1.1 p.1.2.1 p.1.2.2.1).bind fun r=>k ((r,()),()) }
theorem Am(N:Nat):A0 Try.prog (Bb N):=A1 (B:=I9) (loops:=[]) (leaves:=[]) (fun p=>Ap N p.1.1 p.1.2.1 p.1.2.2.1) (fun r=>((r,()),())) I6 (fun _ _ _=>rfl) (fun r z h=>by cases h;rfl) Try.func109 (by kernel_rfl) (by kernel_rfl) (by kernel_rfl) rfl rfl (by kernel_rfl) (fun args w=>Sem.pv_run _ _ _ (by kernel_rfl) w) (Mh N) mixed trivial (fun z E Xc hE hX hret=>trivial) (fun p=>Ts N p.1.1 p.1.2.1 p.1.2.2.1)

def most_l1(N:Nat):Nat→Int→Qd→Int→Int→Option Int
 | 0,_,_,_,_=>none
 | n_+1,n,u,u2,u3=>
  br (decide (u3<u2))
   (idx u u3 fun x_1=>
   chk (u3+1)<|
   most_l1 N n_ (max n x_1) u u2 (u3+1))
   (some (n))
def P2(N:Nat)(n:Int)(l:List Int):Option Int:=
 (most_l1 N N n l (l.length:Int) 0).bind fun n_2=>
 some n_2
noncomputable def S4(N:Nat):List Spec:=[]
theorem Xd(N:Nat):AllP (A0 Try.prog) (S4 N):=trivial
noncomputable def Ao2:Code:=(Try.f74.body).getD .skip
noncomputable abbrev H2:Body:={ c:=Ao2,n:=18,res:=[.tmp 4],outs:=[⟨[.i .i64],[]⟩],m0:=0 }
abbrev Xa:altD H2.outs→Option Int:=fun r=>some r.1.1
abbrev U6:List PI:=[.c [1,0,1,0,0,0],.c [1,0,1,0,0,1],.l [1,0,1,0,0],.b 0,.c [1,1]]
abbrev Np:Sta:=⟨[0,7,8,9],⟨[.i .i64,.sl (.int .i64),.i .i64,.i .i64],[]⟩⟩
abbrev Adt(rec:Int→Qd→Int→Int→Option Int):Leaf Int:=⟨U6,Np,fun p=>rec p.1.1 p.1.2.1 p.1.2.2.1 p.1.2.2.2.1⟩
abbrev A6z:Leaf Int:=⟨[.c [1,1,0],.c [1,1,1]],⟨[0],⟨[.i .i64],[]⟩⟩,fun p=>some (p.1.1)⟩
noncomputable def Y7(N:Nat):Ai:={ at_:=U6,sta:=Np,exits:=[([.c [1,1,0],.c [1,1,1]],⟨[0],⟨[.i .i64],[]⟩⟩)],run:=fun p k=>(most_l1 N N p.1.1 p.1.2.1 p.1.2.2.1 p.1.2.2.2.1).bind fun e=>k (.inl ((e,()),())) }
theorem Apz(N n_:Nat)(n:Int)(u:List Int)(u2:Int)(u3:Int):ev (Z:=Int) Try.prog (S4 N) H2 [] [Adt (most_l1 N n_),A6z] none 400 true U6 (stL Np ((n,u,u2,u3,()),())) (stH Np ((n,u,u2,u3,()),()))=most_l1 N (n_+1) n u u2 u3:=by kernel_rfl
theorem Ao5(N:Nat){top:Bool}:Ab Try.prog H2.c H2.n H2.m0 top (Y7 N):=A3 (Z:=Int) (N:=N) (fun m p=>most_l1 N m p.1.1 p.1.2.1 p.1.2.2.1 p.1.2.2.2.1) (fun e=>.inl ((e,()),())) (fun _ _ _=>rfl) (fun _=>rfl) (fun m z E Xc hE hX hrec hx=>A2 (B:=H2) (loops:=[]) (leaves:=[Adt (most_l1 N m),A6z]) (Xd N) mixed trivial hE hX ⟨hrec,(fun p hp=>by obtain rfl:=Option.some.inj hp;exact hx),trivial⟩ Aa.no (fun p=>Apz N m p.1.1 p.1.2.1 p.1.2.2.1 p.1.2.2.2.1))
abbrev Wg:Sta:=⟨[0,1],⟨[.i .i64,.sl (.int .i64)],[]⟩⟩
theorem Ag9(N:Nat)(n:Int)(l:List Int):ev (Z:=Int) Try.prog (S4 N) H2 [Y7 N] [] (some Xa) 400 false [.c [0],.c [1]] (stL Wg ((n,l,()),())) (stH Wg ((n,l,()),()))=P2 N n l:=by kernel_rfl
noncomputable def A26(N:Nat):Spec:={ f:=74,ins:=⟨[.i .i64,.sl (.int .i64)],[]⟩,outs:=[⟨[.i .i64],[]⟩],run:=fun p k=>(P2 N p.1.1 p.1.2.1).bind fun r=>k ((r,()),()) }
theorem A7o(N:Nat):A0 Try.prog (A26 N):=A1 (B:=H2) (loops:=[Y7 N]) (leaves:=[]) (fun p=>P2 N p.1.1 p.1.2.1) (fun r=>((r,()),())) Xa (fun _ _ _=>rfl) (fun r z h=>by cases h;rfl) Try.func74 (by kernel_rfl) (by kernel_rfl) (by kernel_rfl) rfl rfl (by kernel_rfl) (fun args w=>Sem.pv_run _ _ _ (by kernel_rfl) w) (Xd N) mixed ⟨Ao5 N,trivial⟩ (fun z E Xc hE hX hret=>trivial) (fun p=>Ag9 N p.1.1 p.1.2.1)

def A4j(N:Nat)(e_:List Qd)(e_2:List Int)(e_3:Int)(n:Int):Option Bool:=
 chk ((e_.length:Int)-1)<|
 (Ap N n 0 ((e_.length:Int)-1)).bind fun x_1=>
 some x_1
noncomputable def Av9(N:Nat):List Spec:=[Bb N]
theorem B02(N:Nat):AllP (A0 Try.prog) (Av9 N):=⟨Am N,trivial⟩
noncomputable def B6c:Code:=(Try.f73.body).getD .skip
noncomputable abbrev Apb:Body:={ c:=B6c,n:=11,res:=[.tmp 4],outs:=[⟨[.b],[]⟩],m0:=0 }
abbrev At0:altD Apb.outs→Option Bool:=fun r=>some r.1.1
abbrev Av2:Sta:=⟨[0,1],⟨[.agg [.sl Qg,.sl (.int .i64),.i .i64],.i .i64],[]⟩⟩
theorem B4k(N:Nat)(e_:List Qd)(e_2:List Int)(e_3:Int)(n:Int):ev (Z:=Bool) Try.prog (Av9 N) Apb [] [] (some At0) 400 false [.c [0],.c [1]] (stL Av2 (((e_,e_2,e_3,()),n,()),())) (stH Av2 (((e_,e_2,e_3,()),n,()),()))=A4j N e_ e_2 e_3 n:=by kernel_rfl
noncomputable def Au4(N:Nat):Spec:={ f:=73,ins:=⟨[.agg [.sl Qg,.sl (.int .i64),.i .i64],.i .i64],[]⟩,outs:=[⟨[.b],[]⟩],run:=fun p k=>(A4j N p.1.1.1 p.1.1.2.1 p.1.1.2.2.1 p.1.2.1).bind fun r=>k ((r,()),()) }
theorem Aoj(N:Nat):A0 Try.prog (Au4 N):=A1 (B:=Apb) (loops:=[]) (leaves:=[]) (fun p=>A4j N p.1.1.1 p.1.1.2.1 p.1.1.2.2.1 p.1.2.1) (fun r=>((r,()),())) At0 (fun _ _ _=>rfl) (fun r z h=>by cases h;rfl) Try.func73 (by kernel_rfl) (by kernel_rfl) (by kernel_rfl) rfl rfl (by kernel_rfl) (fun args w=>Sem.pv_run _ _ _ (by kernel_rfl) w) (B02 N) mixed trivial (fun z E Xc hE hX hret=>trivial) (fun p=>B4k N p.1.1.1 p.1.1.2.1 p.1.1.2.2.1 p.1.2.1)

def Kq(N:Nat)(w:Int):Option Bool:=
 (Ap N w 0 9).bind fun x_1=>
 some x_1
noncomputable def A66(N:Nat):List Spec:=[Bb N]
theorem An8(N:Nat):AllP (A0 Try.prog) (A66 N):=⟨Am N,trivial⟩
noncomputable def Aww:Code:=(Try.f108.body).getD .skip
noncomputable abbrev Ys:Body:={ c:=Aww,n:=5,res:=[.tmp 2],outs:=[⟨[.b],[]⟩],m0:=0 }
abbrev A5a:altD Ys.outs→Option Bool:=fun r=>some r.1.1
abbrev A5p:Sta:=⟨[0],⟨[.i .i64],[]⟩⟩
theorem Arv(N:Nat)(w:Int):ev (Z:=Bool) Try.prog (A66 N) Ys [] [] (some A5a) 400 false [.c [0],.c [1]] (stL A5p ((w,()),())) (stH A5p ((w,()),()))=Kq N w:=by kernel_rfl
noncomputable def A80(N:Nat):Spec:={ f:=108,ins:=⟨[.i .i64],[]⟩,outs:=[⟨[.b],[]⟩],run:=fun p k=>(Kq N p.1.1).bind fun r=>k ((r,()),()) }
theorem A9p(N:Nat):A0 Try.prog (A80 N):=A1 (B:=Ys) (loops:=[]) (leaves:=[]) (fun p=>Kq N p.1.1) (fun r=>((r,()),())) A5a (fun _ _ _=>rfl) (fun r z h=>by cases h;rfl) Try.func108 (by kernel_rfl) (by kernel_rfl) (by kernel_rfl) rfl rfl (by kernel_rfl) (fun args w=>Sem.pv_run _ _ _ (by kernel_rfl) w) (An8 N) mixed trivial (fun z E Xc hE hX hret=>trivial) (fun p=>Arv N p.1.1)

def B7(N:Nat)(l:List Int):Option Bool:=
 (Ap N (l.length:Int) 1 6).bind fun x_1=>
 some x_1
noncomputable def En(N:Nat):List Spec:=[Bb N]
theorem Ia(N:Nat):AllP (A0 Try.prog) (En N):=⟨Am N,trivial⟩
noncomputable def Px:Code:=(Try.f111.body).getD .skip
noncomputable abbrev Cu:Body:={ c:=Px,n:=6,res:=[.tmp 2],outs:=[⟨[.b],[]⟩],m0:=0 }
abbrev Ef:altD Cu.outs→Option Bool:=fun r=>some r.1.1
abbrev Eo:Sta:=⟨[0],⟨[.sl (.int .i64)],[]⟩⟩
theorem L4(N:Nat)(l:List Int):ev (Z:=Bool) Try.prog (En N) Cu [] [] (some Ef) 400 false [.c [0],.c [1]] (stL Eo ((l,()),())) (stH Eo ((l,()),()))=B7 N l:=by kernel_rfl
noncomputable def Em(N:Nat):Spec:={ f:=111,ins:=⟨[.sl (.int .i64)],[]⟩,outs:=[⟨[.b],[]⟩],run:=fun p k=>(B7 N p.1.1).bind fun r=>k ((r,()),()) }
theorem F3(N:Nat):A0 Try.prog (Em N):=A1 (B:=Cu) (loops:=[]) (leaves:=[]) (fun p=>B7 N p.1.1) (fun r=>((r,()),())) Ef (fun _ _ _=>rfl) (fun r z h=>by cases h;rfl) Try.func111 (by kernel_rfl) (by kernel_rfl) (by kernel_rfl) rfl rfl (by kernel_rfl) (fun args w=>Sem.pv_run _ _ _ (by kernel_rfl) w) (Ia N) mixed trivial (fun z E Xc hE hX hret=>trivial) (fun p=>L4 N p.1.1)

def Ek(N:Nat)(x:Int):Option Bool:=
 (Kq N x).bind fun x_1=>
 some (!x_1)
noncomputable def A2q(N:Nat):List Spec:=[A80 N]
theorem Aik(N:Nat):AllP (A0 Try.prog) (A2q N):=⟨A9p N,trivial⟩
noncomputable def Ay6:Code:=(Try.f132.body).getD .skip
noncomputable abbrev Xr:Body:={ c:=Ay6,n:=8,res:=[.tmp 3],outs:=[⟨[.b],[.segs [.fn 108 [] []]]⟩],m0:=1 }
abbrev A76:altD Xr.outs→Option Bool:=fun r=>some r.1.1
abbrev A6d:Sta:=⟨[0,1],⟨[.i .i64,.own 0 0],[.segs [.fn 108 [] []]]⟩⟩
theorem Aqf(N:Nat)(x:Int):ev (Z:=Bool) Try.prog (A2q N) Xr [] [] (some A76) 400 false [.c [0],.c [1]] (stL A6d ((x,(),()),((((),()),()),()))) (stH A6d ((x,(),()),((((),()),()),())))=Ek N x:=by kernel_rfl
noncomputable def A6h(N:Nat):Spec:={ f:=132,ins:=⟨[.i .i64,.own 0 0],[.segs [.fn 108 [] []]]⟩,outs:=[⟨[.b],[.segs [.fn 108 [] []]]⟩],run:=fun p k=>(Ek N p.1.1).bind fun r=>k ((r,()),((((),()),()),())) }
theorem A8y(N:Nat):A0 Try.prog (A6h N):=A1 (B:=Xr) (loops:=[]) (leaves:=[]) (fun p=>Ek N p.1.1) (fun r=>((r,()),((((),()),()),()))) A76 (fun _ _ _=>rfl) (fun r z h=>by cases h;rfl) Try.func132 (by kernel_rfl) (by kernel_rfl) (by kernel_rfl) rfl rfl (by kernel_rfl) (fun args w=>Sem.pv_run _ _ _ (by kernel_rfl) w) (Aik N) mixed trivial (fun z E Xc hE hX hret=>trivial) (fun p=>Aqf N p.1.1)

def ixfi_l1(N:Nat):Nat→Qd→Int→Int→Option ((Int)⊕(Unit))
 | 0,_,_,_=>none
 | n_+1,s,u,u2=>
  br (decide (u2<u))
   (idx s u2 fun x_1=>
   (Ek N x_1).bind fun x_2=>
   br x_2
    (some (.inl u2))
    (chk (u2+1)<|
    ixfi_l1 N n_ s u (u2+1)))
   (some (.inr ()))
def Xq(N:Nat)(s:List Int):Option Int:=
 (ixfi_l1 N N s (s.length:Int) 0).bind fun e=>match e with
 | .inl i_3=>
  some i_3
 | .inr _=>
  some (-1)
noncomputable def Ae8(N:Nat):List Spec:=[A6h N]
theorem Alo(N:Nat):AllP (A0 Try.prog) (Ae8 N):=⟨A8y N,trivial⟩
noncomputable def B6f:Code:=(Try.f80.body).getD .skip
noncomputable abbrev Q7:Body:={ c:=B6f,n:=19,res:=[.tmp 4],outs:=[⟨[.i .i64],[.segs [.fn 108 [] []]]⟩],m0:=1 }
abbrev Auk:altD Q7.outs→Option Int:=fun r=>some r.1.1
abbrev Td:List PI:=[.c [1,0,1,0,0,0],.c [1,0,1,0,0,1],.l [1,0,1,0,0],.b 0,.c [1,1]]
abbrev O2:Sta:=⟨[0,1,7,8],⟨[.sl (.int .i64),.fn 132 [] [.own 0 0],.i .i64,.i .i64],[.segs [.fn 108 [] []]]⟩⟩
abbrev Aap(rec:Qd→Int→Int→Option ((Int)⊕(Unit))):Leaf ((Int)⊕(Unit)):=⟨Td,O2,fun p=>rec p.1.1 p.1.2.2.1 p.1.2.2.2.1⟩
abbrev A6m:Leaf ((Int)⊕(Unit)):=⟨[.c [1,0,1,0,0,1,1,0,0,1,1,0,0],.c [1,0,1,0,0,1,1,0,0,1,1,0,1],.b 1,.c [1,0,1,0,0,1,1,1],.l [1,0,1,0,0],.b 0,.c [1,1]],⟨[5],⟨[.i .i64],[.segs [.fn 108 [] []]]⟩⟩,fun p=>some (.inl p.1.1)⟩
abbrev A2s:Leaf ((Int)⊕(Unit)):=⟨[.c [1,1,0],.c [1,1,1]],⟨[],⟨[],[.segs [.fn 108 [] []]]⟩⟩,fun p=>some (.inr ())⟩
noncomputable def Yl(N:Nat):Ai:={ at_:=Td,sta:=O2,exits:=[([.c [1,0,1,0,0,1,1,0,0,1,1,0,0],.c [1,0,1,0,0,1,1,0,0,1,1,0,1],.b 1,.c [1,0,1,0,0,1,1,1],.l [1,0,1,0,0],.b 0,.c [1,1]],⟨[5],⟨[.i .i64],[.segs [.fn 108 [] []]]⟩⟩),([.c [1,1,0],.c [1,1,1]],⟨[],⟨[],[.segs [.fn 108 [] []]]⟩⟩)],run:=fun p k=>(ixfi_l1 N N p.1.1 p.1.2.2.1 p.1.2.2.2.1).bind fun e=>match e with | .inl x=>k (.inl ((x,()),((((),()),()),()))) | .inr x=>k (.inr (.inl ((),((((),()),()),())))) }
theorem Ars(N n_:Nat)(s:List Int)(u:Int)(u2:Int):ev (Z:=(Int)⊕(Unit)) Try.prog (Ae8 N) Q7 [] [Aap (ixfi_l1 N n_),A6m,A2s] none 400 true Td (stL O2 ((s,((),((),())),u,u2,()),((((),()),()),()))) (stH O2 ((s,((),((),())),u,u2,()),((((),()),()),())))=ixfi_l1 N (n_+1) s u u2:=by kernel_rfl
theorem Arf(N:Nat){top:Bool}:Ab Try.prog Q7.c Q7.n Q7.m0 top (Yl N):=A3 (Z:=(Int)⊕(Unit)) (N:=N) (fun m p=>ixfi_l1 N m p.1.1 p.1.2.2.1 p.1.2.2.2.1) (fun e=>match e with | .inl x=>.inl ((x,()),((((),()),()),())) | .inr x=>.inr (.inl ((),((((),()),()),())))) (fun _ p k=>A9 (ixfi_l1 N N p.1.1 p.1.2.2.1 p.1.2.2.2.1) _ _ (fun e=>by rcases e with x | x<;>rfl)) (fun _=>rfl) (fun m z E Xc hE hX hrec hx=>A2 (B:=Q7) (loops:=[]) (leaves:=[Aap (ixfi_l1 N m),A6m,A2s]) (Alo N) mixed trivial hE hX ⟨hrec,(fun p hp=>by obtain rfl:=Option.some.inj hp;exact hx),(fun p hp=>by obtain rfl:=Option.some.inj hp;exact hx),trivial⟩ Aa.no (fun p=>Ars N m p.1.1 p.1.2.2.1 p.1.2.2.2.1))
abbrev Ase:Sta:=⟨[0,1],⟨[.sl (.int .i64),.fn 132 [] [.own 0 0]],[.segs [.fn 108 [] []]]⟩⟩
theorem B46(N:Nat)(s:List Int):ev (Z:=Int) Try.prog (Ae8 N) Q7 [Yl N] [] (some Auk) 400 false [.c [0],.c [1]] (stL Ase ((s,((),((),())),()),((((),()),()),()))) (stH Ase ((s,((),((),())),()),((((),()),()),())))=Xq N s:=by kernel_rfl
noncomputable def At5(N:Nat):Spec:={ f:=80,ins:=⟨[.sl (.int .i64),.fn 132 [] [.own 0 0]],[.segs [.fn 108 [] []]]⟩,outs:=[⟨[.i .i64],[.segs [.fn 108 [] []]]⟩],run:=fun p k=>(Xq N p.1.1).bind fun r=>k ((r,()),((((),()),()),())) }
theorem Apo(N:Nat):A0 Try.prog (At5 N):=A1 (B:=Q7) (loops:=[Yl N]) (leaves:=[]) (fun p=>Xq N p.1.1) (fun r=>((r,()),((((),()),()),()))) Auk (fun _ _ _=>rfl) (fun r z h=>by cases h;rfl) Try.func80 (by kernel_rfl) (by kernel_rfl) (by kernel_rfl) rfl rfl (by kernel_rfl) (fun args w=>Sem.pv_run _ _ _ (by kernel_rfl) w) (Alo N) mixed ⟨Arf N,trivial⟩ (fun z E Xc hE hX hret=>trivial) (fun p=>B46 N p.1.1)

def A8w(N:Nat)(s:List Int):Option Bool:=
 (Xq N s).bind fun x_1=>
 some (decide (0≤x_1))
noncomputable def Atb(N:Nat):List Spec:=[At5 N]
theorem B11(N:Nat):AllP (A0 Try.prog) (Atb N):=⟨Apo N,trivial⟩
noncomputable def B5n:Code:=(Try.f93.body).getD .skip
noncomputable abbrev Ap3:Body:={ c:=B5n,n:=9,res:=[.tmp 4],outs:=[⟨[.b],[.segs [.fn 108 [] []]]⟩],m0:=1 }
abbrev Asz:altD Ap3.outs→Option Bool:=fun r=>some r.1.1
abbrev Asa:Sta:=⟨[0,1],⟨[.sl (.int .i64),.fn 132 [] [.own 0 0]],[.segs [.fn 108 [] []]]⟩⟩
theorem B3y(N:Nat)(s:List Int):ev (Z:=Bool) Try.prog (Atb N) Ap3 [] [] (some Asz) 400 false [.c [0],.c [1]] (stL Asa ((s,((),((),())),()),((((),()),()),()))) (stH Asa ((s,((),((),())),()),((((),()),()),())))=A8w N s:=by kernel_rfl
noncomputable def Atp(N:Nat):Spec:={ f:=93,ins:=⟨[.sl (.int .i64),.fn 132 [] [.own 0 0]],[.segs [.fn 108 [] []]]⟩,outs:=[⟨[.b],[.segs [.fn 108 [] []]]⟩],run:=fun p k=>(A8w N p.1.1).bind fun r=>k ((r,()),((((),()),()),())) }
theorem Aq7(N:Nat):A0 Try.prog (Atp N):=A1 (B:=Ap3) (loops:=[]) (leaves:=[]) (fun p=>A8w N p.1.1) (fun r=>((r,()),((((),()),()),()))) Asz (fun _ _ _=>rfl) (fun r z h=>by cases h;rfl) Try.func93 (by kernel_rfl) (by kernel_rfl) (by kernel_rfl) rfl rfl (by kernel_rfl) (fun args w=>Sem.pv_run _ _ _ (by kernel_rfl) w) (B11 N) mixed trivial (fun z E Xc hE hX hret=>trivial) (fun p=>B3y N p.1.1)

def L8(N:Nat)(l:List Int):Option Bool:=
 (A8w N l).bind fun x_1=>
 some (!x_1)
noncomputable def Abx(N:Nat):List Spec:=[Atp N]
theorem Aqh(N:Nat):AllP (A0 Try.prog) (Abx N):=⟨Aq7 N,trivial⟩
noncomputable def Azn:Code:=(Try.f107.body).getD .skip
noncomputable abbrev A86:Body:={ c:=Azn,n:=9,res:=[.tmp 4],outs:=[⟨[.b],[]⟩],m0:=0 }
abbrev Aav:altD A86.outs→Option Bool:=fun r=>some r.1.1
abbrev Ad9:Sta:=⟨[0,1],⟨[.sl (.int .i64),.fn 108 [] []],[]⟩⟩
theorem Awd(N:Nat)(l:List Int):ev (Z:=Bool) Try.prog (Abx N) A86 [] [] (some Aav) 400 false [.c [0],.c [1]] (stL Ad9 ((l,((),()),()),())) (stH Ad9 ((l,((),()),()),()))=L8 N l:=by kernel_rfl
noncomputable def Ac4(N:Nat):Spec:={ f:=107,ins:=⟨[.sl (.int .i64),.fn 108 [] []],[]⟩,outs:=[⟨[.b],[]⟩],run:=fun p k=>(L8 N p.1.1).bind fun r=>k ((r,()),()) }
theorem Agd(N:Nat):A0 Try.prog (Ac4 N):=A1 (B:=A86) (loops:=[]) (leaves:=[]) (fun p=>L8 N p.1.1) (fun r=>((r,()),())) Aav (fun _ _ _=>rfl) (fun r z h=>by cases h;rfl) Try.func107 (by kernel_rfl) (by kernel_rfl) (by kernel_rfl) rfl rfl (by kernel_rfl) (fun args w=>Sem.pv_run _ _ _ (by kernel_rfl) w) (Aqh N) mixed trivial (fun z E Xc hE hX hret=>trivial) (fun p=>Awd N p.1.1)

def Ao(N:Nat)(l:List Int):Option Bool:=
 (L8 N l).bind fun x_1=>
 some x_1
noncomputable def Bu(N:Nat):List Spec:=[Ac4 N]
theorem E7(N:Nat):AllP (A0 Try.prog) (Bu N):=⟨Agd N,trivial⟩
noncomputable def J8:Code:=(Try.f106.body).getD .skip
noncomputable abbrev Bk:Body:={ c:=J8,n:=5,res:=[.tmp 2],outs:=[⟨[.b],[]⟩],m0:=0 }
abbrev C2:altD Bk.outs→Option Bool:=fun r=>some r.1.1
abbrev Bx:Sta:=⟨[0],⟨[.sl (.int .i64)],[]⟩⟩
theorem Fm(N:Nat)(l:List Int):ev (Z:=Bool) Try.prog (Bu N) Bk [] [] (some C2) 400 false [.c [0],.c [1]] (stL Bx ((l,()),())) (stH Bx ((l,()),()))=Ao N l:=by kernel_rfl
noncomputable def Bo(N:Nat):Spec:={ f:=106,ins:=⟨[.sl (.int .i64)],[]⟩,outs:=[⟨[.b],[]⟩],run:=fun p k=>(Ao N p.1.1).bind fun r=>k ((r,()),()) }
theorem Bp(N:Nat):A0 Try.prog (Bo N):=A1 (B:=Bk) (loops:=[]) (leaves:=[]) (fun p=>Ao N p.1.1) (fun r=>((r,()),())) C2 (fun _ _ _=>rfl) (fun r z h=>by cases h;rfl) Try.func106 (by kernel_rfl) (by kernel_rfl) (by kernel_rfl) rfl rfl (by kernel_rfl) (fun args w=>Sem.pv_run _ _ _ (by kernel_rfl) w) (E7 N) mixed trivial (fun z E Xc hE hX hret=>trivial) (fun p=>Fm N p.1.1)

def Ej(N:Nat)(x:List Int):Option Bool:=
 (Ao N x).bind fun x_1=>
 some (!x_1)
noncomputable def A87(N:Nat):List Spec:=[Bo N]
theorem Amg(N:Nat):AllP (A0 Try.prog) (A87 N):=⟨Bp N,trivial⟩
noncomputable def Axl:Code:=(Try.f133.body).getD .skip
noncomputable abbrev Yh:Body:={ c:=Axl,n:=8,res:=[.tmp 3],outs:=[⟨[.b],[.segs [.fn 106 [] []]]⟩],m0:=1 }
abbrev A7u:altD Yh.outs→Option Bool:=fun r=>some r.1.1
abbrev A31:Sta:=⟨[0,1],⟨[.sl (.int .i64),.own 0 0],[.segs [.fn 106 [] []]]⟩⟩
theorem Ans(N:Nat)(x:List Int):ev (Z:=Bool) Try.prog (A87 N) Yh [] [] (some A7u) 400 false [.c [0],.c [1]] (stL A31 ((x,(),()),((((),()),()),()))) (stH A31 ((x,(),()),((((),()),()),())))=Ej N x:=by kernel_rfl
noncomputable def A7s(N:Nat):Spec:={ f:=133,ins:=⟨[.sl (.int .i64),.own 0 0],[.segs [.fn 106 [] []]]⟩,outs:=[⟨[.b],[.segs [.fn 106 [] []]]⟩],run:=fun p k=>(Ej N p.1.1).bind fun r=>k ((r,()),((((),()),()),())) }
theorem A93(N:Nat):A0 Try.prog (A7s N):=A1 (B:=Yh) (loops:=[]) (leaves:=[]) (fun p=>Ej N p.1.1) (fun r=>((r,()),((((),()),()),()))) A7u (fun _ _ _=>rfl) (fun r z h=>by cases h;rfl) Try.func133 (by kernel_rfl) (by kernel_rfl) (by kernel_rfl) rfl rfl (by kernel_rfl) (fun args w=>Sem.pv_run _ _ _ (by kernel_rfl) w) (Amg N) mixed trivial (fun z E Xc hE hX hret=>trivial) (fun p=>Ans N p.1.1)

def ixfa_l1(N:Nat):Nat→Qx→Int→Int→Option ((Int)⊕(Unit))
 | 0,_,_,_=>none
 | n_+1,s,u,u2=>
  br (decide (u2<u))
   (idx s u2 fun x_1=>
   (Ej N x_1).bind fun x_2=>
   br x_2
    (some (.inl u2))
    (chk (u2+1)<|
    ixfa_l1 N n_ s u (u2+1)))
   (some (.inr ()))
def Y5(N:Nat)(s:List Qd):Option Int:=
 (ixfa_l1 N N s (s.length:Int) 0).bind fun e=>match e with
 | .inl i_3=>
  some i_3
 | .inr _=>
  some (-1)
noncomputable def Aej(N:Nat):List Spec:=[A7s N]
theorem Akp(N:Nat):AllP (A0 Try.prog) (Aej N):=⟨A93 N,trivial⟩
noncomputable def B6e:Code:=(Try.f141.body).getD .skip
noncomputable abbrev Pc:Body:={ c:=B6e,n:=19,res:=[.tmp 4],outs:=[⟨[.i .i64],[.segs [.fn 106 [] []]]⟩],m0:=1 }
abbrev Asw:altD Pc.outs→Option Int:=fun r=>some r.1.1
abbrev Sj:List PI:=[.c [1,0,1,0,0,0],.c [1,0,1,0,0,1],.l [1,0,1,0,0],.b 0,.c [1,1]]
abbrev O6:Sta:=⟨[0,1,7,8],⟨[.sl Qg,.fn 133 [] [.own 0 0],.i .i64,.i .i64],[.segs [.fn 106 [] []]]⟩⟩
abbrev Ade(rec:Qx→Int→Int→Option ((Int)⊕(Unit))):Leaf ((Int)⊕(Unit)):=⟨Sj,O6,fun p=>rec p.1.1 p.1.2.2.1 p.1.2.2.2.1⟩
abbrev A41:Leaf ((Int)⊕(Unit)):=⟨[.c [1,0,1,0,0,1,1,0,0,1,1,0,0],.c [1,0,1,0,0,1,1,0,0,1,1,0,1],.b 1,.c [1,0,1,0,0,1,1,1],.l [1,0,1,0,0],.b 0,.c [1,1]],⟨[5],⟨[.i .i64],[.segs [.fn 106 [] []]]⟩⟩,fun p=>some (.inl p.1.1)⟩
abbrev A61:Leaf ((Int)⊕(Unit)):=⟨[.c [1,1,0],.c [1,1,1]],⟨[],⟨[],[.segs [.fn 106 [] []]]⟩⟩,fun p=>some (.inr ())⟩
noncomputable def Zf(N:Nat):Ai:={ at_:=Sj,sta:=O6,exits:=[([.c [1,0,1,0,0,1,1,0,0,1,1,0,0],.c [1,0,1,0,0,1,1,0,0,1,1,0,1],.b 1,.c [1,0,1,0,0,1,1,1],.l [1,0,1,0,0],.b 0,.c [1,1]],⟨[5],⟨[.i .i64],[.segs [.fn 106 [] []]]⟩⟩),([.c [1,1,0],.c [1,1,1]],⟨[],⟨[],[.segs [.fn 106 [] []]]⟩⟩)],run:=fun p k=>(ixfa_l1 N N p.1.1 p.1.2.2.1 p.1.2.2.2.1).bind fun e=>match e with | .inl x=>k (.inl ((x,()),((((),()),()),()))) | .inr x=>k (.inr (.inl ((),((((),()),()),())))) }
theorem Aoi(N n_:Nat)(s:List Qd)(u:Int)(u2:Int):ev (Z:=(Int)⊕(Unit)) Try.prog (Aej N) Pc [] [Ade (ixfa_l1 N n_),A41,A61] none 400 true Sj (stL O6 ((s,((),((),())),u,u2,()),((((),()),()),()))) (stH O6 ((s,((),((),())),u,u2,()),((((),()),()),())))=ixfa_l1 N (n_+1) s u u2:=by kernel_rfl
theorem Ap4(N:Nat){top:Bool}:Ab Try.prog Pc.c Pc.n Pc.m0 top (Zf N):=A3 (Z:=(Int)⊕(Unit)) (N:=N) (fun m p=>ixfa_l1 N m p.1.1 p.1.2.2.1 p.1.2.2.2.1) (fun e=>match e with | .inl x=>.inl ((x,()),((((),()),()),())) | .inr x=>.inr (.inl ((),((((),()),()),())))) (fun _ p k=>A9 (ixfa_l1 N N p.1.1 p.1.2.2.1 p.1.2.2.2.1) _ _ (fun e=>by rcases e with x | x<;>rfl)) (fun _=>rfl) (fun m z E Xc hE hX hrec hx=>A2 (B:=Pc) (loops:=[]) (leaves:=[Ade (ixfa_l1 N m),A41,A61]) (Akp N) mixed trivial hE hX ⟨hrec,(fun p hp=>by obtain rfl:=Option.some.inj hp;exact hx),(fun p hp=>by obtain rfl:=Option.some.inj hp;exact hx),trivial⟩ Aa.no (fun p=>Aoi N m p.1.1 p.1.2.2.1 p.1.2.2.2.1))
abbrev Atd:Sta:=⟨[0,1],⟨[.sl Qg,.fn 133 [] [.own 0 0]],[.segs [.fn 106 [] []]]⟩⟩
theorem B2t(N:Nat)(s:List Qd):ev (Z:=Int) Try.prog (Aej N) Pc [Zf N] [] (some Asw) 400 false [.c [0],.c [1]] (stL Atd ((s,((),((),())),()),((((),()),()),()))) (stH Atd ((s,((),((),())),()),((((),()),()),())))=Y5 N s:=by kernel_rfl
noncomputable def Aun(N:Nat):Spec:={ f:=141,ins:=⟨[.sl Qg,.fn 133 [] [.own 0 0]],[.segs [.fn 106 [] []]]⟩,outs:=[⟨[.i .i64],[.segs [.fn 106 [] []]]⟩],run:=fun p k=>(Y5 N p.1.1).bind fun r=>k ((r,()),((((),()),()),())) }
theorem Aoo(N:Nat):A0 Try.prog (Aun N):=A1 (B:=Pc) (loops:=[Zf N]) (leaves:=[]) (fun p=>Y5 N p.1.1) (fun r=>((r,()),((((),()),()),()))) Asw (fun _ _ _=>rfl) (fun r z h=>by cases h;rfl) Try.func141 (by kernel_rfl) (by kernel_rfl) (by kernel_rfl) rfl rfl (by kernel_rfl) (fun args w=>Sem.pv_run _ _ _ (by kernel_rfl) w) (Akp N) mixed ⟨Ap4 N,trivial⟩ (fun z E Xc hE hX hret=>trivial) (fun p=>B2t N p.1.1)

def A4e(N:Nat)(s:List Qd):Option Bool:=
 (Y5 N s).bind fun x_1=>
 some (decide (0≤x_1))
noncomputable def Atx(N:Nat):List Spec:=[Aun N]
theorem Ayw(N:Nat):AllP (A0 Try.prog) (Atx N):=⟨Aoo N,trivial⟩
noncomputable def B6n:Code:=(Try.f125.body).getD .skip
noncomputable abbrev Ao4:Body:={ c:=B6n,n:=9,res:=[.tmp 4],outs:=[⟨[.b],[.segs [.fn 106 [] []]]⟩],m0:=1 }
abbrev Au0:altD Ao4.outs→Option Bool:=fun r=>some r.1.1
abbrev Avc:Sta:=⟨[0,1],⟨[.sl Qg,.fn 133 [] [.own 0 0]],[.segs [.fn 106 [] []]]⟩⟩
theorem B4f(N:Nat)(s:List Qd):ev (Z:=Bool) Try.prog (Atx N) Ao4 [] [] (some Au0) 400 false [.c [0],.c [1]] (stL Avc ((s,((),((),())),()),((((),()),()),()))) (stH Avc ((s,((),((),())),()),((((),()),()),())))=A4e N s:=by kernel_rfl
noncomputable def Asy(N:Nat):Spec:={ f:=125,ins:=⟨[.sl Qg,.fn 133 [] [.own 0 0]],[.segs [.fn 106 [] []]]⟩,outs:=[⟨[.b],[.segs [.fn 106 [] []]]⟩],run:=fun p k=>(A4e N p.1.1).bind fun r=>k ((r,()),((((),()),()),())) }
theorem Ar7(N:Nat):A0 Try.prog (Asy N):=A1 (B:=Ao4) (loops:=[]) (leaves:=[]) (fun p=>A4e N p.1.1) (fun r=>((r,()),((((),()),()),()))) Au0 (fun _ _ _=>rfl) (fun r z h=>by cases h;rfl) Try.func125 (by kernel_rfl) (by kernel_rfl) (by kernel_rfl) rfl rfl (by kernel_rfl) (fun args w=>Sem.pv_run _ _ _ (by kernel_rfl) w) (Ayw N) mixed trivial (fun z E Xc hE hX hret=>trivial) (fun p=>B4f N p.1.1)

def M7(N:Nat)(l:List Qd):Option Bool:=
 (A4e N l).bind fun x_1=>
 some (!x_1)
noncomputable def Abl(N:Nat):List Spec:=[Asy N]
theorem Anx(N:Nat):AllP (A0 Try.prog) (Abl N):=⟨Ar7 N,trivial⟩
noncomputable def Az8:Code:=(Try.f110.body).getD .skip
noncomputable abbrev A3c:Body:={ c:=Az8,n:=9,res:=[.tmp 4],outs:=[⟨[.b],[]⟩],m0:=0 }
abbrev Aa2:altD A3c.outs→Option Bool:=fun r=>some r.1.1
abbrev Aac:Sta:=⟨[0,1],⟨[.sl Qg,.fn 106 [] []],[]⟩⟩
theorem Ax4(N:Nat)(l:List Qd):ev (Z:=Bool) Try.prog (Abl N) A3c [] [] (some Aa2) 400 false [.c [0],.c [1]] (stL Aac ((l,((),()),()),())) (stH Aac ((l,((),()),()),()))=M7 N l:=by kernel_rfl
noncomputable def Ac5(N:Nat):Spec:={ f:=110,ins:=⟨[.sl Qg,.fn 106 [] []],[]⟩,outs:=[⟨[.b],[]⟩],run:=fun p k=>(M7 N p.1.1).bind fun r=>k ((r,()),()) }
theorem Ah8(N:Nat):A0 Try.prog (Ac5 N):=A1 (B:=A3c) (loops:=[]) (leaves:=[]) (fun p=>M7 N p.1.1) (fun r=>((r,()),())) Aa2 (fun _ _ _=>rfl) (fun r z h=>by cases h;rfl) Try.func110 (by kernel_rfl) (by kernel_rfl) (by kernel_rfl) rfl rfl (by kernel_rfl) (fun args w=>Sem.pv_run _ _ _ (by kernel_rfl) w) (Anx N) mixed trivial (fun z E Xc hE hX hret=>trivial) (fun p=>Ax4 N p.1.1)

def B9(N:Nat)(x:List Int):Option Bool:=
 (B7 N x).bind fun x_1=>
 some (!x_1)
noncomputable def Is(N:Nat):List Spec:=[Em N]
theorem Q6(N:Nat):AllP (A0 Try.prog) (Is N):=⟨F3 N,trivial⟩
noncomputable def Yi:Code:=(Try.f133.body).getD .skip
noncomputable abbrev Fk:Body:={ c:=Yi,n:=8,res:=[.tmp 3],outs:=[⟨[.b],[.segs [.fn 111 [] []]]⟩],m0:=1 }
abbrev Ja:altD Fk.outs→Option Bool:=fun r=>some r.1.1
abbrev J9:Sta:=⟨[0,1],⟨[.sl (.int .i64),.own 0 0],[.segs [.fn 111 [] []]]⟩⟩
theorem Tb(N:Nat)(x:List Int):ev (Z:=Bool) Try.prog (Is N) Fk [] [] (some Ja) 400 false [.c [0],.c [1]] (stL J9 ((x,(),()),((((),()),()),()))) (stH J9 ((x,(),()),((((),()),()),())))=B9 N x:=by kernel_rfl
noncomputable def I5(N:Nat):Spec:={ f:=133,ins:=⟨[.sl (.int .i64),.own 0 0],[.segs [.fn 111 [] []]]⟩,outs:=[⟨[.b],[.segs [.fn 111 [] []]]⟩],run:=fun p k=>(B9 N p.1.1).bind fun r=>k ((r,()),((((),()),()),())) }
theorem Kl(N:Nat):A0 Try.prog (I5 N):=A1 (B:=Fk) (loops:=[]) (leaves:=[]) (fun p=>B9 N p.1.1) (fun r=>((r,()),((((),()),()),()))) Ja (fun _ _ _=>rfl) (fun r z h=>by cases h;rfl) Try.func133 (by kernel_rfl) (by kernel_rfl) (by kernel_rfl) rfl rfl (by kernel_rfl) (fun args w=>Sem.pv_run _ _ _ (by kernel_rfl) w) (Q6 N) mixed trivial (fun z E Xc hE hX hret=>trivial) (fun p=>Tb N p.1.1)

def ixfb_l1(N:Nat):Nat→Qx→Int→Int→Option ((Int)⊕(Unit))
 | 0,_,_,_=>none
 | n_+1,s,u,u2=>
  br (decide (u2<u))
   (idx s u2 fun x_1=>
   (B9 N x_1).bind fun x_2=>
   br x_2
    (some (.inl u2))
    (chk (u2+1)<|
    ixfb_l1 N n_ s u (u2+1)))
   (some (.inr ()))
def H7(N:Nat)(s:List Qd):Option Int:=
 (ixfb_l1 N N s (s.length:Int) 0).bind fun e=>match e with
 | .inl i_3=>
  some i_3
 | .inr _=>
  some (-1)
noncomputable def Nf(N:Nat):List Spec:=[I5 N]
theorem Pj(N:Nat):AllP (A0 Try.prog) (Nf N):=⟨Kl N,trivial⟩
noncomputable def Apg:Code:=(Try.f141.body).getD .skip
noncomputable abbrev Ct:Body:={ c:=Apg,n:=19,res:=[.tmp 4],outs:=[⟨[.i .i64],[.segs [.fn 111 [] []]]⟩],m0:=1 }
abbrev X3:altD Ct.outs→Option Int:=fun r=>some r.1.1
abbrev E9:List PI:=[.c [1,0,1,0,0,0],.c [1,0,1,0,0,1],.l [1,0,1,0,0],.b 0,.c [1,1]]
abbrev C8:Sta:=⟨[0,1,7,8],⟨[.sl Qg,.fn 133 [] [.own 0 0],.i .i64,.i .i64],[.segs [.fn 111 [] []]]⟩⟩
abbrev Kz(rec:Qx→Int→Int→Option ((Int)⊕(Unit))):Leaf ((Int)⊕(Unit)):=⟨E9,C8,fun p=>rec p.1.1 p.1.2.2.1 p.1.2.2.2.1⟩
abbrev J0:Leaf ((Int)⊕(Unit)):=⟨[.c [1,0,1,0,0,1,1,0,0,1,1,0,0],.c [1,0,1,0,0,1,1,0,0,1,1,0,1],.b 1,.c [1,0,1,0,0,1,1,1],.l [1,0,1,0,0],.b 0,.c [1,1]],⟨[5],⟨[.i .i64],[.segs [.fn 111 [] []]]⟩⟩,fun p=>some (.inl p.1.1)⟩
abbrev Hy:Leaf ((Int)⊕(Unit)):=⟨[.c [1,1,0],.c [1,1,1]],⟨[],⟨[],[.segs [.fn 111 [] []]]⟩⟩,fun p=>some (.inr ())⟩
noncomputable def Fj(N:Nat):Ai:={ at_:=E9,sta:=C8,exits:=[([.c [1,0,1,0,0,1,1,0,0,1,1,0,0],.c [1,0,1,0,0,1,1,0,0,1,1,0,1],.b 1,.c [1,0,1,0,0,1,1,1],.l [1,0,1,0,0],.b 0,.c [1,1]],⟨[5],⟨[.i .i64],[.segs [.fn 111 [] []]]⟩⟩),([.c [1,1,0],.c [1,1,1]],⟨[],⟨[],[.segs [.fn 111 [] []]]⟩⟩)],run:=fun p k=>(ixfb_l1 N N p.1.1 p.1.2.2.1 p.1.2.2.2.1).bind fun e=>match e with | .inl x=>k (.inl ((x,()),((((),()),()),()))) | .inr x=>k (.inr (.inl ((),((((),()),()),())))) }
theorem To(N n_:Nat)(s:List Qd)(u:Int)(u2:Int):ev (Z:=(Int)⊕(Unit)) Try.prog (Nf N) Ct [] [Kz (ixfb_l1 N n_),J0,Hy] none 400 true E9 (stL C8 ((s,((),((),())),u,u2,()),((((),()),()),()))) (stH C8 ((s,((),((),())),u,u2,()),((((),()),()),())))=ixfb_l1 N (n_+1) s u u2:=by kernel_rfl
theorem Sr(N:Nat){top:Bool}:Ab Try.prog Ct.c Ct.n Ct.m0 top (Fj N):=A3 (Z:=(Int)⊕(Unit)) (N:=N) (fun m p=>ixfb_l1 N m p.1.1 p.1.2.2.1 p.1.2.2.2.1) (fun e=>match e with | .inl x=>.inl ((x,()),((((),()),()),())) | .inr x=>.inr (.inl ((),((((),()),()),())))) (fun _ p k=>A9 (ixfb_l1 N N p.1.1 p.1.2.2.1 p.1.2.2.2.1) _ _ (fun e=>by rcases e with x | x<;>rfl)) (fun _=>rfl) (fun m z E Xc hE hX hrec hx=>A2 (B:=Ct) (loops:=[]) (leaves:=[Kz (ixfb_l1 N m),J0,Hy]) (Pj N) mixed trivial hE hX ⟨hrec,(fun p hp=>by obtain rfl:=Option.some.inj hp;exact hx),(fun p hp=>by obtain rfl:=Option.some.inj hp;exact hx),trivial⟩ Aa.no (fun p=>To N m p.1.1 p.1.2.2.1 p.1.2.2.2.1))
abbrev Wd:Sta:=⟨[0,1],⟨[.sl Qg,.fn 133 [] [.own 0 0]],[.segs [.fn 111 [] []]]⟩⟩
theorem Af4(N:Nat)(s:List Qd):ev (Z:=Int) Try.prog (Nf N) Ct [Fj N] [] (some X3) 400 false [.c [0],.c [1]] (stL Wd ((s,((),((),())),()),((((),()),()),()))) (stH Wd ((s,((),((),())),()),((((),()),()),())))=H7 N s:=by kernel_rfl
noncomputable def Uy(N:Nat):Spec:={ f:=141,ins:=⟨[.sl Qg,.fn 133 [] [.own 0 0]],[.segs [.fn 111 [] []]]⟩,outs:=[⟨[.i .i64],[.segs [.fn 111 [] []]]⟩],run:=fun p k=>(H7 N p.1.1).bind fun r=>k ((r,()),((((),()),()),())) }
theorem Un(N:Nat):A0 Try.prog (Uy N):=A1 (B:=Ct) (loops:=[Fj N]) (leaves:=[]) (fun p=>H7 N p.1.1) (fun r=>((r,()),((((),()),()),()))) X3 (fun _ _ _=>rfl) (fun r z h=>by cases h;rfl) Try.func141 (by kernel_rfl) (by kernel_rfl) (by kernel_rfl) rfl rfl (by kernel_rfl) (fun args w=>Sem.pv_run _ _ _ (by kernel_rfl) w) (Pj N) mixed ⟨Sr N,trivial⟩ (fun z E Xc hE hX hret=>trivial) (fun p=>Af4 N p.1.1)

def Ik(N:Nat)(s:List Qd):Option Bool:=
 (H7 N s).bind fun x_1=>
 some (decide (0≤x_1))
noncomputable def Wm(N:Nat):List Spec:=[Uy N]
theorem A4s(N:Nat):AllP (A0 Try.prog) (Wm N):=⟨Un N,trivial⟩
noncomputable def Aqa:Code:=(Try.f125.body).getD .skip
noncomputable abbrev Sz:Body:={ c:=Aqa,n:=9,res:=[.tmp 4],outs:=[⟨[.b],[.segs [.fn 111 [] []]]⟩],m0:=1 }
abbrev X8:altD Sz.outs→Option Bool:=fun r=>some r.1.1
abbrev Wz:Sta:=⟨[0,1],⟨[.sl Qg,.fn 133 [] [.own 0 0]],[.segs [.fn 111 [] []]]⟩⟩
theorem Aea(N:Nat)(s:List Qd):ev (Z:=Bool) Try.prog (Wm N) Sz [] [] (some X8) 400 false [.c [0],.c [1]] (stL Wz ((s,((),((),())),()),((((),()),()),()))) (stH Wz ((s,((),((),())),()),((((),()),()),())))=Ik N s:=by kernel_rfl
noncomputable def W1(N:Nat):Spec:={ f:=125,ins:=⟨[.sl Qg,.fn 133 [] [.own 0 0]],[.segs [.fn 111 [] []]]⟩,outs:=[⟨[.b],[.segs [.fn 111 [] []]]⟩],run:=fun p k=>(Ik N p.1.1).bind fun r=>k ((r,()),((((),()),()),())) }
theorem U7(N:Nat):A0 Try.prog (W1 N):=A1 (B:=Sz) (loops:=[]) (leaves:=[]) (fun p=>Ik N p.1.1) (fun r=>((r,()),((((),()),()),()))) X8 (fun _ _ _=>rfl) (fun r z h=>by cases h;rfl) Try.func125 (by kernel_rfl) (by kernel_rfl) (by kernel_rfl) rfl rfl (by kernel_rfl) (fun args w=>Sem.pv_run _ _ _ (by kernel_rfl) w) (A4s N) mixed trivial (fun z E Xc hE hX hret=>trivial) (fun p=>Aea N p.1.1)

def Ck(N:Nat)(l:List Qd):Option Bool:=
 (Ik N l).bind fun x_1=>
 some (!x_1)
noncomputable def L9(N:Nat):List Spec:=[W1 N]
theorem U2(N:Nat):AllP (A0 Try.prog) (L9 N):=⟨U7 N,trivial⟩
noncomputable def A74:Code:=(Try.f110.body).getD .skip
noncomputable abbrev J3:Body:={ c:=A74,n:=9,res:=[.tmp 4],outs:=[⟨[.b],[]⟩],m0:=0 }
abbrev L5:altD J3.outs→Option Bool:=fun r=>some r.1.1
abbrev Lt:Sta:=⟨[0,1],⟨[.sl Qg,.fn 111 [] []],[]⟩⟩
theorem Z7(N:Nat)(l:List Qd):ev (Z:=Bool) Try.prog (L9 N) J3 [] [] (some L5) 400 false [.c [0],.c [1]] (stL Lt ((l,((),()),()),())) (stH Lt ((l,((),()),()),()))=Ck N l:=by kernel_rfl
noncomputable def Ll(N:Nat):Spec:={ f:=110,ins:=⟨[.sl Qg,.fn 111 [] []],[]⟩,outs:=[⟨[.b],[]⟩],run:=fun p k=>(Ck N p.1.1).bind fun r=>k ((r,()),()) }
theorem N0(N:Nat):A0 Try.prog (Ll N):=A1 (B:=J3) (loops:=[]) (leaves:=[]) (fun p=>Ck N p.1.1) (fun r=>((r,()),())) L5 (fun _ _ _=>rfl) (fun r z h=>by cases h;rfl) Try.func110 (by kernel_rfl) (by kernel_rfl) (by kernel_rfl) rfl rfl (by kernel_rfl) (fun args w=>Sem.pv_run _ _ _ (by kernel_rfl) w) (U2 N) mixed trivial (fun z E Xc hE hX hret=>trivial) (fun p=>Z7 N p.1.1)

def B2(N:Nat)(e_:List Qd)(e_2:List Int)(e_3:Int):Option Int:=
 (Ap N (e_.length:Int) 1 5).bind fun x_1=>
 br (!x_1)
  (some 2)
  (br (decide (10<(e_2.length:Int)))
   (some 2)
   ((Ck N e_).bind fun x_2=>
   br (!x_2)
    (some 2)
    ((M7 N e_).bind fun x_3=>
    br (!x_3)
     (some 3)
     ((Ao N e_2).bind fun x_4=>
     br (!x_4)
      (some 3)
      ((Ap N e_3 0 8).bind fun x_5=>
      br (!x_5)
       (some 3)
       (some 0))))))
noncomputable def Bv(N:Nat):List Spec:=[Bb N,Bo N,Ac5 N,Ll N]
theorem Db(N:Nat):AllP (A0 Try.prog) (Bv N):=⟨Am N,Bp N,Ah8 N,N0 N,trivial⟩
noncomputable def N8:Code:=(Try.f72.body).getD .skip
noncomputable abbrev Az:Body:={ c:=N8,n:=41,res:=[.tmp 2],outs:=[⟨[.i .i64],[]⟩],m0:=0 }
abbrev D5:altD Az.outs→Option Int:=fun r=>some r.1.1
abbrev Da:Sta:=⟨[0],⟨[.agg [.sl Qg,.sl (.int .i64),.i .i64]],[]⟩⟩
theorem Ig(N:Nat)(e_:List Qd)(e_2:List Int)(e_3:Int):ev (Z:=Int) Try.prog (Bv N) Az [] [] (some D5) 400 false [.c [0],.c [1]] (stL Da (((e_,e_2,e_3,()),()),())) (stH Da (((e_,e_2,e_3,()),()),()))=B2 N e_ e_2 e_3:=by kernel_rfl
noncomputable def Cp(N:Nat):Spec:={ f:=72,ins:=⟨[.agg [.sl Qg,.sl (.int .i64),.i .i64]],[]⟩,outs:=[⟨[.i .i64],[]⟩],run:=fun p k=>(B2 N p.1.1.1 p.1.1.2.1 p.1.1.2.2.1).bind fun r=>k ((r,()),()) }
theorem D2(N:Nat):A0 Try.prog (Cp N):=A1 (B:=Az) (loops:=[]) (leaves:=[]) (fun p=>B2 N p.1.1.1 p.1.1.2.1 p.1.1.2.2.1) (fun r=>((r,()),())) D5 (fun _ _ _=>rfl) (fun r z h=>by cases h;rfl) Try.func72 (by kernel_rfl) (by kernel_rfl) (by kernel_rfl) rfl rfl (by kernel_rfl) (fun args w=>Sem.pv_run _ _ _ (by kernel_rfl) w) (Db N) mixed trivial (fun z E Xc hE hX hret=>trivial) (fun p=>Ig N p.1.1.1 p.1.1.2.1 p.1.1.2.2.1)

def Al(N:Nat)(e_:List Qd)(e_2:List Int)(e_3:Int)(p:Int)(p2:Int):Option ((Qj×Int)⊕(Int)):=
 (B2 N e_ e_2 e_3).bind fun x_1=>
 br (!decide (x_1=0))
  (some (.inr x_1))
  ((A4j N e_ e_2 e_3 p).bind fun x_2=>
  br (!x_2)
   (some (.inr 1))
   ((A4j N e_ e_2 e_3 p2).bind fun x_3=>
   br (!x_3)
    (some (.inr 1))
    (idx e_ p fun x_4=>
    idx e_ p2 fun x_5=>
    some (.inl ((e_,e_2,e_3,x_4,x_5),0)))))
noncomputable def B4(N:Nat):List Spec:=[Au4 N,Cp N]
theorem Ba(N:Nat):AllP (A0 Try.prog) (B4 N):=⟨Aoj N,D2 N,trivial⟩
noncomputable def J7:Code:=(Try.f39.body).getD .skip
noncomputable abbrev A7:Body:={ c:=J7,n:=42,res:=[.tmp 4,.tmp 5],outs:=[⟨[.fe Qp,.i .i64],[]⟩,⟨[.nilp,.i .i64],[]⟩],m0:=0 }
abbrev Bs:altD A7.outs→Option ((Qj×Int)⊕(Int)):=fun r=>match r with | .inl r=>some (.inl (r.1.1,r.1.2.1)) | .inr r=>some (.inr r.1.2.1)
abbrev Bz:Sta:=⟨[0,1],⟨[.agg [.sl Qg,.sl (.int .i64),.i .i64],.agg [.i .i64,.i .i64]],[]⟩⟩
theorem Ft(N:Nat)(e_:List Qd)(e_2:List Int)(e_3:Int)(p:Int)(p2:Int):ev (Z:=(Qj×Int)⊕(Int)) Try.prog (B4 N) A7 [] [] (some Bs) 400 false [.c [0],.c [1]] (stL Bz (((e_,e_2,e_3,()),(p,p2,()),()),())) (stH Bz (((e_,e_2,e_3,()),(p,p2,()),()),()))=Al N e_ e_2 e_3 p p2:=by kernel_rfl
noncomputable def Bw(N:Nat):Spec:={ f:=39,ins:=⟨[.agg [.sl Qg,.sl (.int .i64),.i .i64],.agg [.i .i64,.i .i64]],[]⟩,outs:=[⟨[.fe Qp,.i .i64],[]⟩,⟨[.nilp,.i .i64],[]⟩],run:=fun p k=>(Al N p.1.1.1 p.1.1.2.1 p.1.1.2.2.1 p.1.2.1.1 p.1.2.1.2.1).bind fun r=>match r with | .inl r=>k (.inl ((r.1,r.2,()),())) | .inr r=>k (.inr (((),r,()),())) }
theorem Cb(N:Nat):A0 Try.prog (Bw N):=A1 (B:=A7) (loops:=[]) (leaves:=[]) (fun p=>Al N p.1.1.1 p.1.1.2.1 p.1.1.2.2.1 p.1.2.1.1 p.1.2.1.2.1) (fun r=>match r with | .inl r=>(.inl ((r.1,r.2,()),())) | .inr r=>(.inr (((),r,()),()))) Bs (fun _ p k=>A9 (Al N p.1.1.1 p.1.1.2.1 p.1.1.2.2.1 p.1.2.1.1 p.1.2.1.2.1) _ _ (fun e=>by rcases e with x | x<;>rfl)) (fun r z h=>by rcases r with x | x<;>(cases h;rfl)) Try.func39 (by kernel_rfl) (by kernel_rfl) (by kernel_rfl) rfl rfl (by kernel_rfl) (fun args w=>Sem.pv_run _ _ _ (by kernel_rfl) w) (Ba N) mixed trivial (fun z E Xc hE hX hret=>trivial) (fun p=>Ft N p.1.1.1 p.1.1.2.1 p.1.1.2.2.1 p.1.2.1.1 p.1.2.1.2.1)

end Go.Proofs.Ytgeijboidfadaaa

namespace Go.Proofs.Ytgeijboidfadaaa
set_option linter.all false
open Go

def Ag7(N:Nat)(d:Qj)(x:Int)(x2:Int)(x3:Int):Option (Qe×Qj):=
 some ((x,x2,x3),d)
noncomputable def Asc(N:Nat):List Spec:=[]
theorem B2d(N:Nat):AllP (A0 Try.prog) (Asc N):=trivial
noncomputable def B68:Code:=(Try.f123.body).getD .skip
noncomputable abbrev Arc:Body:={ c:=B68,n:=6,res:=[.tmp 4],outs:=[⟨[.fn 139 [] [.fe Qf,.fe (.ptr Qp)]],[]⟩],m0:=0 }
abbrev Aul:altD Arc.outs→Option (Qe×Qj):=fun r=>some (r.1.1.2.1,r.1.1.2.2.1)
abbrev Asf:Sta:=⟨[0,1],⟨[.fe Qp,.agg [.i .i64,.i .i64,.i .i64]],[]⟩⟩
theorem B3e(N:Nat)(d:Qj)(x:Int)(x2:Int)(x3:Int):ev (Z:=Qe×Qj) Try.prog (Asc N) Arc [] [] (some Aul) 400 false [.c [0],.c [1]] (stL Asf ((d,(x,x2,x3,()),()),())) (stH Asf ((d,(x,x2,x3,()),()),()))=Ag7 N d x x2 x3:=by kernel_rfl
noncomputable def At9(N:Nat):Spec:={ f:=123,ins:=⟨[.fe Qp,.agg [.i .i64,.i .i64,.i .i64]],[]⟩,outs:=[⟨[.fn 139 [] [.fe Qf,.fe (.ptr Qp)]],[]⟩],run:=fun p k=>(Ag7 N p.1.1 p.1.2.1.1 p.1.2.1.2.1 p.1.2.1.2.2.1).bind fun r=>k ((((),(r.1,r.2,())),()),()) }
theorem Apf(N:Nat):A0 Try.prog (At9 N):=A1 (B:=Arc) (loops:=[]) (leaves:=[]) (fun p=>Ag7 N p.1.1 p.1.2.1.1 p.1.2.1.2.1 p.1.2.1.2.2.1) (fun r=>((((),(r.1,r.2,())),()),())) Aul (fun _ _ _=>rfl) (fun r z h=>by cases h;rfl) Try.func123 (by kernel_rfl) (by kernel_rfl) (by kernel_rfl) rfl rfl (by kernel_rfl) (fun args w=>Sem.pv_run _ _ _ (by kernel_rfl) w) (B2d N) mixed trivial (fun z E Xc hE hX hret=>trivial) (fun p=>B3e N p.1.1 p.1.2.1.1 p.1.2.1.2.1 p.1.2.1.2.2.1)

def S3(N:Nat)(d:Qj)(told:Int):Option Int:=
 chk ((d.2.2.2.1.length:Int)+(d.2.2.2.2.length:Int))<|
 chk (((d.2.2.2.1.length:Int)+(d.2.2.2.2.length:Int))+(d.2.1.length:Int))<|
 chk (2*told)<|
 chk ((((d.2.2.2.1.length:Int)+(d.2.2.2.2.length:Int))+(d.2.1.length:Int))-(2*told))<|
 some ((((d.2.2.2.1.length:Int)+(d.2.2.2.2.length:Int))+(d.2.1.length:Int))-(2*told))
noncomputable def A3h(N:Nat):List Spec:=[]
theorem Alc(N:Nat):AllP (A0 Try.prog) (A3h N):=trivial
noncomputable def Axy:Code:=(Try.f49.body).getD .skip
noncomputable abbrev Z0:Body:={ c:=Axy,n:=26,res:=[.tmp 4],outs:=[⟨[.i .i64],[]⟩],m0:=0 }
abbrev A3i:altD Z0.outs→Option Int:=fun r=>some r.1.1
abbrev A8f:Sta:=⟨[0,1],⟨[.fe Qp,.i .i64],[]⟩⟩
theorem Aqt(N:Nat)(d:Qj)(told:Int):ev (Z:=Int) Try.prog (A3h N) Z0 [] [] (some A3i) 400 false [.c [0],.c [1]] (stL A8f ((d,told,()),())) (stH A8f ((d,told,()),()))=S3 N d told:=by kernel_rfl
noncomputable def A6a(N:Nat):Spec:={ f:=49,ins:=⟨[.fe Qp,.i .i64],[]⟩,outs:=[⟨[.i .i64],[]⟩],run:=fun p k=>(S3 N p.1.1 p.1.2.1).bind fun r=>k ((r,()),()) }
theorem A99(N:Nat):A0 Try.prog (A6a N):=A1 (B:=Z0) (loops:=[]) (leaves:=[]) (fun p=>S3 N p.1.1 p.1.2.1) (fun r=>((r,()),())) A3i (fun _ _ _=>rfl) (fun r z h=>by cases h;rfl) Try.func49 (by kernel_rfl) (by kernel_rfl) (by kernel_rfl) rfl rfl (by kernel_rfl) (fun args w=>Sem.pv_run _ _ _ (by kernel_rfl) w) (Alc N) mixed trivial (fun z E Xc hE hX hret=>trivial) (fun p=>Aqt N p.1.1 p.1.2.1)

def Afc(N:Nat)(u:Int)(u2:Int)(u3:Int):Option Bool:=
 some true
noncomputable def Avq(N:Nat):List Spec:=[]
theorem B10(N:Nat):AllP (A0 Try.prog) (Avq N):=trivial
noncomputable def B6h:Code:=(Try.f84.body).getD .skip
noncomputable abbrev Ard:Body:={ c:=B6h,n:=5,res:=[.tmp 4],outs:=[⟨[.b],[]⟩],m0:=0 }
abbrev Aub:altD Ard.outs→Option Bool:=fun r=>some r.1.1
abbrev Aut:Sta:=⟨[0,1],⟨[.i .i64,.agg [.i .i64,.i .i64]],[]⟩⟩
theorem B42(N:Nat)(u:Int)(u2:Int)(u3:Int):ev (Z:=Bool) Try.prog (Avq N) Ard [] [] (some Aub) 400 false [.c [0],.c [1]] (stL Aut ((u,(u2,u3,()),()),())) (stH Aut ((u,(u2,u3,()),()),()))=Afc N u u2 u3:=by kernel_rfl
noncomputable def Aua(N:Nat):Spec:={ f:=84,ins:=⟨[.i .i64,.agg [.i .i64,.i .i64]],[]⟩,outs:=[⟨[.b],[]⟩],run:=fun p k=>(Afc N p.1.1 p.1.2.1.1 p.1.2.1.2.1).bind fun r=>k ((r,()),()) }
theorem Ar1(N:Nat):A0 Try.prog (Aua N):=A1 (B:=Ard) (loops:=[]) (leaves:=[]) (fun p=>Afc N p.1.1 p.1.2.1.1 p.1.2.1.2.1) (fun r=>((r,()),())) Aub (fun _ _ _=>rfl) (fun r z h=>by cases h;rfl) Try.func84 (by kernel_rfl) (by kernel_rfl) (by kernel_rfl) rfl rfl (by kernel_rfl) (fun args w=>Sem.pv_run _ _ _ (by kernel_rfl) w) (B10 N) mixed trivial (fun z E Xc hE hX hret=>trivial) (fun p=>B42 N p.1.1 p.1.2.1.1 p.1.2.1.2.1)

def Ako(N:Nat)  : Option Unit:=
 some ()
noncomputable def B1z(N:Nat):List Spec:=[]
theorem B44(N:Nat):AllP (A0 Try.prog) (B1z N):=trivial
noncomputable def B7v:Code:=(Try.f51.body).getD .skip
noncomputable abbrev B1j:Body:={ c:=B7v,n:=2,res:=[.cell 0 119],outs:=[⟨[.agg [.fn 84 [] []]],[]⟩],m0:=0 }
abbrev B14:altD B1j.outs→Option Unit:=fun r=>some ()
abbrev B19:Sta:=⟨[],⟨[],[]⟩⟩
theorem all_eq(N:Nat)  : ev (Z:=Unit) Try.prog (B1z N) B1j [] [] (some B14) 400 false [.c [0],.c [1]] (stL B19 ((),())) (stH B19 ((),()))=Ako N:=by kernel_rfl
noncomputable def B06(N:Nat):Spec:={ f:=51,ins:=⟨[],[]⟩,outs:=[⟨[.agg [.fn 84 [] []]],[]⟩],run:=fun p k=>(Ako N).bind fun r=>k (((((),()),()),()),()) }
theorem Avs(N:Nat):A0 Try.prog (B06 N):=A1 (B:=B1j) (loops:=[]) (leaves:=[]) (fun p=>Ako N ) (fun r=>(((((),()),()),()),())) B14 (fun _ _ _=>rfl) (fun r z h=>by cases h;rfl) Try.func51 (by kernel_rfl) (by kernel_rfl) (by kernel_rfl) rfl rfl (by kernel_rfl) (fun args w=>Sem.pv_run _ _ _ (by kernel_rfl) w) (B44 N) mixed trivial (fun z E Xc hE hX hret=>trivial) (fun p=>all_eq N )

noncomputable abbrev E4(self:Int→Int→Int→(Qj)→(Qj)→Qs→Option QL):Spec:={ f:=122,ins:=⟨[.agg [.i .i64,.i .i64,.i .i64],.fz [.fe Qp],.fz [.mp 1],.fz [.fn 84 [] []],.own 0 0],[.segs [.fn 122 [] [.fz [.fe Qp],.fz [.mp 1],.fz [.fn 84 [] []],.own 0 0]],.map Qf Qt]⟩,outs:=[⟨[.agg [.i .i64,.i .i64]],[.segs [.fn 122 [] [.fz [.fe Qp],.fz [.mp 1],.fz [.fn 84 [] []],.own 0 0]],.map Qf Qt]⟩],run:=fun p k=>(self p.1.1.1 p.1.1.2.1 p.1.1.2.2.1 p.1.2.1.1 p.2.1.1.2.1.1 p.2.2.1).bind fun r=>k (((r.1,r.2.1,()),()),((((),((r.2.2.1,()),((),()),(((),()),()),(),())),()),r.2.2.2,())) }
def Nv(N:Nat)(self:Int→Int→Int→(Qj)→(Qj)→Qs→Option QL)(rec:(Qj)→Qs→Int→Int→Int→Int→Int→Int→Int→Option (Qj×Qs×Int×Int×Int×Int×Int×Int×Int))(u:Qe)(u2:Qj)(g':Qj)(g2':List (Qe×QF))(x':Int)(x2':Int)(x3':Int)(g3':Int)(g4':Int)(best':Int)(best2':Int)(p':Int)(p2':Int)(y':Int)(y2':Int)(y3':Int):Option (Qj×Qs×Int×Int×Int×Int×Int×Int×Int):=
 (Afc N x' p' p2').bind fun x_3=>
 br (!x_3)
  (rec g' g2' x' x2' x3' g3' g4' best' best2')
  ((self y' y2' y3' g' g' g2').bind fun(x_4,y_5,y_6,y_7)=>
  br (decide (0≤x_4))
   (br (!decide (p'=3))
    (chk (x_4+1)<|
    br (decide (best'<(x_4+1)))
     (rec y_6 y_7 x' x2' x3' g3' g4' (x_4+1) y_5)
     (br (decide ((x_4+1)=best'))
      (chk (best2'+y_5)<|
      rec y_6 y_7 x' x2' x3' g3' g4' best' (best2'+y_5))
      (rec y_6 y_7 x' x2' x3' g3' g4' best' best2')))
    (br (decide (best'<x_4))
     (rec y_6 y_7 x' x2' x3' g3' g4' x_4 y_5)
     (br (decide (x_4=best'))
      (chk (best2'+y_5)<|
      rec y_6 y_7 x' x2' x3' g3' g4' best' (best2'+y_5))
      (rec y_6 y_7 x' x2' x3' g3' g4' best' best2'))))
   (br (decide (best'<x_4))
    (rec y_6 y_7 x' x2' x3' g3' g4' x_4 y_5)
    (br (decide (x_4=best'))
     (chk (best2'+y_5)<|
     rec y_6 y_7 x' x2' x3' g3' g4' best' (best2'+y_5))
     (rec y_6 y_7 x' x2' x3' g3' g4' best' best2'))))
def resta_l1(N:Nat)(self:Int→Int→Int→(Qj)→(Qj)→Qs→Option QL):List Move→(Qe)→(Qj)→(Qj)→Qs→Int→Int→Int→Int→Int→Int→Int→Option (Qj×Qs×Int×Int×Int×Int×Int×Int×Int)
 | [],u,u2,g,g2,x,x2,x3,g3,g4,best,best2=>
  some ((g,g2,x,x2,x3,g3,g4,best,best2))
 | e::es,u,u2,g,g2,x,x2,x3,g3,g4,best,best2=>
  Nv N self (fun g_ g2_ x_ x2_ x3_ g3_ g4_ best_ best2_=>resta_l1 N self es u u2 g_ g2_ x_ x2_ x3_ g3_ g4_ best_ best2_) u u2 g g2 x x2 x3 g3 g4 best best2 e.1.1 e.1.2.1 e.2.1.1 e.2.1.2.1 e.2.1.2.2.1
def A24(N:Nat)(self:Int→Int→Int→(Qj)→(Qj)→Qs→Option QL)(x:Int)(x2:Int)(x3:Int)(u:Qj)(g:Qj)(g2:List (Qe×QF)):Option QL:=
 br (decide (x=(u.2.1.length:Int)))
  (some (0,1,g,g2))
  (br ((g2.find? fun(y:Qe×QF)=>Ty.beq Qf y.1 (x,x2,x3)).isSome)
   (some ((((g2.find? fun(y:Qe×QF)=>Ty.beq Qf y.1 (x,x2,x3)).map (·.2)).getD (Ty.dflt Qt)).1,(((g2.find? fun(y:Qe×QF)=>Ty.beq Qf y.1 (x,x2,x3)).map (·.2)).getD (Ty.dflt Qt)).2,g,g2))
   ((Ag7 N u x x2 x3).bind fun(x_1,y_2)=>
   ((At4 x_1 y_2).bind fun es=>resta_l1 N self es x_1 y_2 g g2 x x2 x3 0 0 (-1) 0).bind fun(g_8,g2_9,x_10,x2_11,x3_12,g3_13,g4_14,best_15,best2_16)=>
   some (best_15,best2_16,g_8,(((x_10,x2_11,x3_12),(best_15,best2_16))::g2_9))))
noncomputable def Ou(N:Nat)(self:Int→Int→Int→(Qj)→(Qj)→Qs→Option QL):List Spec:=[At9 N,Aua N,E4 self]
theorem Rs(N:Nat)(self:Int→Int→Int→(Qj)→(Qj)→Qs→Option QL)(hself:A0 Try.prog (E4 self)):AllP (A0 Try.prog) (Ou N self):=⟨Apf N,Ar1 N,hself,trivial⟩
noncomputable def A25:Code:=(Try.f122.body).getD .skip
noncomputable abbrev Cg:Body:={ c:=A25,n:=82,res:=[.cell 6 115],outs:=[⟨[.agg [.i .i64,.i .i64]],[.segs [.fn 122 [] [.fz [.fe Qp],.fz [.mp 1],.fz [.fn 84 [] []],.own 0 0]],.map Qf Qt]⟩],m0:=2 }
abbrev An3:altD Cg.outs→Option QL:=fun r=>some (r.1.1.1,r.1.1.2.1,r.2.1.1.2.1.1,r.2.2.1)
abbrev Ga:Sta:=⟨[2,3,4,5,6,9,34],⟨[.fz [.mp 1],.fz [.fn 84 [] []],.own 0 0,.own 2 0,.own 3 0,.own 4 0,.fn 139 [] [.fe Qf,.fe (.ptr Qp)]],[.segs [.fn 122 [] [.fz [.fe Qp],.fz [.mp 1],.fz [.fn 84 [] []],.own 0 0]],.map Qf Qt,.segs [.i .i64,.i .i64,.i .i64],.segs [.i .i64,.i .i64],.segs [.i .i64,.i .i64]]⟩⟩
abbrev Hg:Sta:=⟨[3,4,5,6,9,10,11],⟨[.fz [.fn 84 [] []],.own 0 0,.own 2 0,.own 3 0,.own 4 0,.own 5 0,.own 6 0],[.segs [.fn 122 [] [.fz [.fe Qp],.fz [.mp 1],.fz [.fn 84 [] []],.own 0 0]],.map Qf Qt,.segs [.i .i64,.i .i64,.i .i64],.segs [.i .i64,.i .i64],.segs [.i .i64,.i .i64],.segs [.i .i64,.i .i64],.segs [.i .i64,.i .i64,.i .i64]]⟩⟩
abbrev A0y:Leaf (Qj×Qs×Int×Int×Int×Int×Int×Int×Int):=⟨[.c [1,1,1,1,1,0],.c [1,1,1,1,1,1]],⟨[2,5,6,9],⟨[.fz [.mp 1],.own 2 0,.own 3 0,.own 4 0],[.segs [.fn 122 [] [.fz [.fe Qp],.fz [.mp 1],.fz [.fn 84 [] []],.own 0 0]],.map Qf Qt,.segs [.i .i64,.i .i64,.i .i64],.segs [.i .i64,.i .i64],.segs [.i .i64,.i .i64]]⟩⟩,fun p=>some ((p.2.1.1.2.1.1,p.2.2.1,p.2.2.2.1.1,p.2.2.2.1.2.1,p.2.2.2.1.2.2.1,p.2.2.2.2.1.1,p.2.2.2.2.1.2.1,p.2.2.2.2.2.1.1,p.2.2.2.2.2.1.2.1))⟩
noncomputable def Mz(N:Nat)(self:Int→Int→Int→(Qj)→(Qj)→Qs→Option QL):Ai:={ at_:=[.c [1,1,1,1,0,1,0],.b 0,.c [1,1,1,1,1]],sta:=Ga,exits:=[([.c [1,1,1,1,1,0],.c [1,1,1,1,1,1]],⟨[2,5,6,9],⟨[.fz [.mp 1],.own 2 0,.own 3 0,.own 4 0],[.segs [.fn 122 [] [.fz [.fe Qp],.fz [.mp 1],.fz [.fn 84 [] []],.own 0 0]],.map Qf Qt,.segs [.i .i64,.i .i64,.i .i64],.segs [.i .i64,.i .i64],.segs [.i .i64,.i .i64]]⟩⟩)],run:=fun p k=>((At4 p.1.2.2.2.2.2.2.1.2.1 p.1.2.2.2.2.2.2.1.2.2.1).bind fun es=>resta_l1 N self es p.1.2.2.2.2.2.2.1.2.1 p.1.2.2.2.2.2.2.1.2.2.1 p.2.1.1.2.1.1 p.2.2.1 p.2.2.2.1.1 p.2.2.2.1.2.1 p.2.2.2.1.2.2.1 p.2.2.2.2.1.1 p.2.2.2.2.1.2.1 p.2.2.2.2.2.1.1 p.2.2.2.2.2.1.2.1).bind fun e=>k (.inl ((((),()),(),(),(),()),((((),((e.1,()),((),()),(((),()),()),(),())),()),e.2.1,(e.2.2.1,e.2.2.2.1,e.2.2.2.2.1,()),(e.2.2.2.2.2.1,e.2.2.2.2.2.2.1,()),(e.2.2.2.2.2.2.2.1,e.2.2.2.2.2.2.2.2,()),()))) }
noncomputable abbrev Ju:Body:={ c:=A25,n:=Cg.n,res:=Cg.res,outs:=Cg.outs,m0:=5 }
theorem Afb(N:Nat)(self:Int→Int→Int→(Qj)→(Qj)→Qs→Option QL)(u:Qe)(u2:Qj)(g:Qj)(g2:List (Qe×QF))(x:Int)(x2:Int)(x3:Int)(g3:Int)(g4:Int)(best:Int)(best2:Int):ev (Z:=Qj×Qs×Int×Int×Int×Int×Int×Int×Int) Try.prog (Ou N self) Cg [] [A0y] none 400 false (nrm Cg.c 99 [.b 0,.c [1,1,1,1,1]]) (stL Ga ((((),()),(((),()),()),(),(),(),(),((),(u,u2,())),()),((((),((g,()),((),()),(((),()),()),(),())),()),g2,(x,x2,x3,()),(g3,g4,()),(best,best2,()),()))) (stH Ga ((((),()),(((),()),()),(),(),(),(),((),(u,u2,())),()),((((),((g,()),((),()),(((),()),()),(),())),()),g2,(x,x2,x3,()),(g3,g4,()),(best,best2,()),())))=resta_l1 N self [] u u2 g g2 x x2 x3 g3 g4 best best2:=by kernel_rfl
theorem Agl(N:Nat)(self:Int→Int→Int→(Qj)→(Qj)→Qs→Option QL)(e:Move)(es:List Move)(u:Qe)(u2:Qj)(g:Qj)(g2:List (Qe×QF))(x:Int)(x2:Int)(x3:Int)(g3:Int)(g4:Int)(best:Int)(best2:Int):ev (Z:=Qj×Qs×Int×Int×Int×Int×Int×Int×Int) Try.prog (Ou N self) Ju [] [⟨[.r,.c [1,1,1,1,0,1,0,1]],Hg,fun p=>Nv N self (fun g_ g2_ x_ x2_ x3_ g3_ g4_ best_ best2_=>resta_l1 N self es u u2 g_ g2_ x_ x2_ x3_ g3_ g4_ best_ best2_) u u2 p.2.1.1.2.1.1 p.2.2.1 p.2.2.2.1.1 p.2.2.2.1.2.1 p.2.2.2.1.2.2.1 p.2.2.2.2.1.1 p.2.2.2.2.1.2.1 p.2.2.2.2.2.1.1 p.2.2.2.2.2.1.2.1 p.2.2.2.2.2.2.1.1 p.2.2.2.2.2.2.1.2.1 p.2.2.2.2.2.2.2.1.1 p.2.2.2.2.2.2.2.1.2.1 p.2.2.2.2.2.2.2.1.2.2.1⟩] none 400 false (nrm Cg.c 99 [.c [1,1,1,1,0,1,0,0],.r,.c [1,1,1,1,0,1,0,1]]) (pars [35,36] (encs id Ah4.elem e) (stL Ga ((((),()),(((),()),()),(),(),(),(),((),(u,u2,())),()),((((),((g,()),((),()),(((),()),()),(),())),()),g2,(x,x2,x3,()),(g3,g4,()),(best,best2,()),())))) (stH Ga ((((),()),(((),()),()),(),(),(),(),((),(u,u2,())),()),((((),((g,()),((),()),(((),()),()),(),())),()),g2,(x,x2,x3,()),(g3,g4,()),(best,best2,()),())))=resta_l1 N self (e::es) u u2 g g2 x x2 x3 g3 g4 best best2:=by kernel_rfl
theorem Af0(N:Nat)(self:Int→Int→Int→(Qj)→(Qj)→Qs→Option QL)(rec:(Qj)→Qs→Int→Int→Int→Int→Int→Int→Int→Option (Qj×Qs×Int×Int×Int×Int×Int×Int×Int))(u:Qe)(u2:Qj)(g':Qj)(g2':List (Qe×QF))(x':Int)(x2':Int)(x3':Int)(g3':Int)(g4':Int)(best':Int)(best2':Int)(p':Int)(p2':Int)(y':Int)(y2':Int)(y3':Int):ev (Z:=Qj×Qs×Int×Int×Int×Int×Int×Int×Int) Try.prog (Ou N self) Ju [] [⟨[],⟨[],⟨[],[.segs [.fn 122 [] [.fz [.fe Qp],.fz [.mp 1],.fz [.fn 84 [] []],.own 0 0]],.map Qf Qt,.segs [.i .i64,.i .i64,.i .i64],.segs [.i .i64,.i .i64],.segs [.i .i64,.i .i64]]⟩⟩,fun p=>rec p.2.1.1.2.1.1 p.2.2.1 p.2.2.2.1.1 p.2.2.2.1.2.1 p.2.2.2.1.2.2.1 p.2.2.2.2.1.1 p.2.2.2.2.1.2.1 p.2.2.2.2.2.1.1 p.2.2.2.2.2.1.2.1⟩] none 400 false (nrm Cg.c 99 [.c [1,1,1,1,0,1,0,1]]) (stL Hg (((((),()),()),(),(),(),(),(),(),()),((((),((g',()),((),()),(((),()),()),(),())),()),g2',(x',x2',x3',()),(g3',g4',()),(best',best2',()),(p',p2',()),(y',y2',y3',()),()))) (stH Hg (((((),()),()),(),(),(),(),(),(),()),((((),((g',()),((),()),(((),()),()),(),())),()),g2',(x',x2',x3',()),(g3',g4',()),(best',best2',()),(p',p2',()),(y',y2',y3',()),())))=Nv N self rec u u2 g' g2' x' x2' x3' g3' g4' best' best2' p' p2' y' y2' y3':=by kernel_rfl
theorem Ahe(N:Nat)(self:Int→Int→Int→(Qj)→(Qj)→Qs→Option QL)(hself:A0 Try.prog (E4 self)):Ab Try.prog Cg.c Cg.n Cg.m0 true (Mz N self):=by
 refine Ajd (B:=Cg) (is:=Ah4) (g:=.tmp 34) (ps:=#[35,36]) (assign:=sub A25 [1,1,1,1,0,1,0,0]) (body:=sub A25 [1,1,1,1,0,1,0,1]) (Z:=Qj×Qs×Int×Int×Int×Int×Int×Int×Int) (x:=Mz N self) (fun p=>(p.1.2.2.2.2.2.2.1.2.1,p.1.2.2.2.2.2.2.1.2.2.1,())) (fun es p=>resta_l1 N self es p.1.2.2.2.2.2.2.1.2.1 p.1.2.2.2.2.2.2.1.2.2.1 p.2.1.1.2.1.1 p.2.2.1 p.2.2.2.1.1 p.2.2.2.1.2.1 p.2.2.2.1.2.2.1 p.2.2.2.2.1.1 p.2.2.2.2.1.2.1 p.2.2.2.2.2.1.1 p.2.2.2.2.2.1.2.1) (staA:=Hg) (fun es q p=>Nv N self (fun g_ g2_ x_ x2_ x3_ g3_ g4_ best_ best2_=>resta_l1 N self es q.2.2.2.2.2.2.1.2.1 q.2.2.2.2.2.2.1.2.2.1 g_ g2_ x_ x2_ x3_ g3_ g4_ best_ best2_) q.2.2.2.2.2.2.1.2.1 q.2.2.2.2.2.2.1.2.2.1 p.2.1.1.2.1.1 p.2.2.1 p.2.2.2.1.1 p.2.2.2.1.2.1 p.2.2.2.1.2.2.1 p.2.2.2.2.1.1 p.2.2.2.2.1.2.1 p.2.2.2.2.2.1.1 p.2.2.2.2.2.1.2.1 p.2.2.2.2.2.2.1.1 p.2.2.2.2.2.2.1.2.1 p.2.2.2.2.2.2.2.1.1 p.2.2.2.2.2.2.2.1.2.1 p.2.2.2.2.2.2.2.1.2.2.1) [] (fun e=>.inl ((((),()),(),(),(),()),((((),((e.1,()),((),()),(((),()),()),(),())),()),e.2.1,(e.2.2.1,e.2.2.2.1,e.2.2.2.2.1,()),(e.2.2.2.2.2.1,e.2.2.2.2.2.2.1,()),(e.2.2.2.2.2.2.2.1,e.2.2.2.2.2.2.2.2,()),()))) (fun _ _ _=>rfl) rfl (by kernel_rfl) (fun _=>by kernel_rfl) (by kernel_rfl) Ao7 (Nat.le_of_ble_eq_true (by kernel_rfl)) (by kernel_rfl) ?_ ?_ ?_ ?_
 ·exact fun z E Xc hE hX hx p hp a w hS=>ev_sound (z:=z) (B:=Cg) (loops:=[]) (leaves:=[A0y]) (top:=true) (Rs N self hself) mixed trivial hE hX ⟨(fun p hp=>by obtain rfl:=Option.some.inj hp;exact hx),trivial⟩ Aa.no 400 false _ _ _ ((Afb N self p.1.2.2.2.2.2.2.1.2.1 p.1.2.2.2.2.2.2.1.2.2.1 p.2.1.1.2.1.1 p.2.2.1 p.2.2.2.1.1 p.2.2.2.1.2.1 p.2.2.2.1.2.2.1 p.2.2.2.2.1.1 p.2.2.2.2.1.2.1 p.2.2.2.2.2.1.1 p.2.2.2.2.2.1.2.1).trans hp) a w hS
 ·intro z E Xc hE hX hx e he q b hb a w hS
  simp only[List.not_mem_nil]at he
 ·exact fun z E Xc hE hX e es p hl hp a w hS=>ev_sound (z:=z) (B:=Ju) (loops:=[]) (leaves:=[_]) (top:=false) (Rs N self hself) mixed trivial hE hX ⟨hl,trivial⟩ Aa.no 400 false _ _ _ ((Agl N self e es p.1.2.2.2.2.2.2.1.2.1 p.1.2.2.2.2.2.2.1.2.2.1 p.2.1.1.2.1.1 p.2.2.1 p.2.2.2.1.1 p.2.2.2.1.2.1 p.2.2.2.1.2.2.1 p.2.2.2.2.1.1 p.2.2.2.2.1.2.1 p.2.2.2.2.2.1.1 p.2.2.2.2.2.1.2.1).trans hp) a w hS
 ·exact fun z E Xc hE hX es q he hs p hp a w hS=>ev_sound (z:=z) (B:=Ju) (loops:=[]) (leaves:=[_]) (top:=false) (Rs N self hself) mixed trivial hE hX ⟨he,trivial⟩ Aa.no 400 false _ _ _ ((Af0 N self (fun g_ g2_ x_ x2_ x3_ g3_ g4_ best_ best2_=>resta_l1 N self es q.2.2.2.2.2.2.1.2.1 q.2.2.2.2.2.2.1.2.2.1 g_ g2_ x_ x2_ x3_ g3_ g4_ best_ best2_) q.2.2.2.2.2.2.1.2.1 q.2.2.2.2.2.2.1.2.2.1 p.2.1.1.2.1.1 p.2.2.1 p.2.2.2.1.1 p.2.2.2.1.2.1 p.2.2.2.1.2.2.1 p.2.2.2.2.1.1 p.2.2.2.2.1.2.1 p.2.2.2.2.2.1.1 p.2.2.2.2.2.1.2.1 p.2.2.2.2.2.2.1.1 p.2.2.2.2.2.2.1.2.1 p.2.2.2.2.2.2.2.1.1 p.2.2.2.2.2.2.2.1.2.1 p.2.2.2.2.2.2.2.1.2.2.1).trans hp) a w hS
abbrev Aht:Sta:=⟨[0,1,2,3,4],⟨[.agg [.i .i64,.i .i64,.i .i64],.fz [.fe Qp],.fz [.mp 1],.fz [.fn 84 [] []],.own 0 0],[.segs [.fn 122 [] [.fz [.fe Qp],.fz [.mp 1],.fz [.fn 84 [] []],.own 0 0]],.map Qf Qt]⟩⟩
theorem B2m(N:Nat)(self:Int→Int→Int→(Qj)→(Qj)→Qs→Option QL)(x:Int)(x2:Int)(x3:Int)(u:Qj)(g:Qj)(g2:List (Qe×QF)):ev (Z:=Int×Int×Qj×Qs) Try.prog (Ou N self) Cg [Mz N self] [] (some An3) 400 false [.c [0],.c [1]] (stL Aht (((x,x2,x3,()),(u,()),((),()),(((),()),()),(),()),((((),((g,()),((),()),(((),()),()),(),())),()),g2,()))) (stH Aht (((x,x2,x3,()),(u,()),((),()),(((),()),()),(),()),((((),((g,()),((),()),(((),()),()),(),())),()),g2,())))=A24 N self x x2 x3 u g g2:=by kernel_rfl
theorem A9o(N:Nat)(self:Int→Int→Int→(Qj)→(Qj)→Qs→Option QL)(hself:A0 Try.prog (E4 self)):A0 Try.prog (E4 (A24 N self)):=A1 (B:=Cg) (loops:=[Mz N self]) (leaves:=[]) (fun p=>A24 N self p.1.1.1 p.1.1.2.1 p.1.1.2.2.1 p.1.2.1.1 p.2.1.1.2.1.1 p.2.2.1) (fun r=>(((r.1,r.2.1,()),()),((((),((r.2.2.1,()),((),()),(((),()),()),(),())),()),r.2.2.2,()))) An3 (fun _ _ _=>rfl) (fun r z h=>by cases h;rfl) Try.func122 (by kernel_rfl) (by kernel_rfl) (by kernel_rfl) rfl rfl (by kernel_rfl) (fun args w=>Sem.pv_run _ _ _ (by kernel_rfl) w) (Rs N self hself) mixed ⟨Ahe N self hself,trivial⟩ (fun z E Xc hE hX hret=>trivial) (fun p=>B2m N self p.1.1.1 p.1.1.2.1 p.1.1.2.2.1 p.1.2.1.1 p.2.1.1.2.1.1 p.2.2.1)
def Wv(N:Nat):Nat→Int→Int→Int→(Qj)→(Qj)→Qs→Option QL
 | 0=>fun _ _ _ _ _ _=>none
 | n+1=>A24 N (Wv N n)
theorem A45(N:Nat):∀n,A0 Try.prog (E4 (Wv N n))
 | 0=>A0.none (fun _ _ _=>rfl) (fun args w=>Sem.pv_run _ _ _ (by kernel_rfl) w)
 | n+1=>A9o N (Wv N n) (A45 N n)
noncomputable abbrev Al0(N:Nat):Spec:=E4 (Wv N N)
theorem Amh(N:Nat):A0 Try.prog (Al0 N):=A45 N N

def Yk(N:Nat)(rest:Qj)(g:List (Qe×QF)):Option Qs:=
 (Wv N N 0 0 0 rest rest g).bind fun(x_1,y_2,y_3,y_4)=>
 some (((0,0,0),(x_1,y_2))::y_4)
def Wa(N:Nat)(d:Qj):Option Qs:=
 Yk N d []
noncomputable def Yb(N:Nat):List Spec:=[Al0 N]
theorem A3d(N:Nat):AllP (A0 Try.prog) (Yb N):=⟨Amh N,trivial⟩
noncomputable def B1q:Code:=(Try.f83.body).getD .skip
noncomputable abbrev Dt:Body:={ c:=B1q,n:=15,res:=[.tmp 4],outs:=[⟨[.mp 0],[.map Qf Qt]⟩],m0:=0 }
abbrev Rk:altD Dt.outs→Option Qs:=fun r=>some r.2.1
abbrev W9:List PI:=[.c [1,1,1,1,0],.c [1,1,1,1,1]]
abbrev O0:Sta:=⟨[5,6],⟨[.fz [.mp 1],.own 0 0],[.segs [.fn 122 [] [.fz [.fe Qp],.fz [.mp 1],.fz [.fn 84 [] []],.own 0 0]],.map Qf Qt]⟩⟩
abbrev Oz(N:Nat):Leaf Qs:=⟨W9,O0,fun p=>Yk N p.2.1.1.2.1.1 p.2.2.1⟩
theorem Af5(N:Nat)(rest:Qj)(g:List (Qe×QF)):ev (Z:=Qs) Try.prog (Yb N) Dt [] [] (some Rk) 400 true W9 (stL O0 ((((),()),(),()),((((),((rest,()),((),()),(((),()),()),(),())),()),g,()))) (stH O0 ((((),()),(),()),((((),((rest,()),((),()),(((),()),()),(),())),()),g,())))=Yk N rest g:=by kernel_rfl
theorem Af3(N:Nat){z:Qs}{E:EE}{Xc:Ctx}(hE:EOK Dt.m0 E)(hX:CxOK true Xc)(hret:Aa Try.prog Dt E Xc z (some Rk)):Ag Try.prog Dt.c Dt.n Dt.m0 E Xc z (Oz N):=A2 (B:=Dt) (loops:=[]) (leaves:=[]) (A3d N) mixed trivial hE hX trivial hret (fun p=>Af5 N p.2.1.1.2.1.1 p.2.2.1)
abbrev Abp:Sta:=⟨[0,1],⟨[.fe Qp,.agg [.fn 84 [] []]],[]⟩⟩
theorem Ax3(N:Nat)(d:Qj):ev (Z:=Qs) Try.prog (Yb N) Dt [] [Oz N] (some Rk) 400 false [.c [0],.c [1]] (stL Abp ((d,(((),()),()),()),())) (stH Abp ((d,(((),()),()),()),()))=Wa N d:=by kernel_rfl
noncomputable def Aau(N:Nat):Spec:={ f:=83,ins:=⟨[.fe Qp,.agg [.fn 84 [] []]],[]⟩,outs:=[⟨[.mp 0],[.map Qf Qt]⟩],run:=fun p k=>(Wa N p.1.1).bind fun r=>k (((),()),(r,())) }
theorem Aec(N:Nat):A0 Try.prog (Aau N):=A1 (B:=Dt) (loops:=[]) (leaves:=[Oz N]) (fun p=>Wa N p.1.1) (fun r=>(((),()),(r,()))) Rk (fun _ _ _=>rfl) (fun r z h=>by cases h;rfl) Try.func83 (by kernel_rfl) (by kernel_rfl) (by kernel_rfl) rfl rfl (by kernel_rfl) (fun args w=>Sem.pv_run _ _ _ (by kernel_rfl) w) (A3d N) mixed trivial (fun z E Xc hE hX hret=>⟨Af3 N hE hX hret,trivial⟩) (fun p=>Ax3 N p.1.1)

def W5(N:Nat)(d:Qj):Option QF:=
 (Wa N d).bind fun x_1=>
 some ((((x_1.find? fun(y:Qe×QF)=>Ty.beq Qf y.1 (0,0,0)).map (·.2)).getD (Ty.dflt Qt)).1,(((x_1.find? fun(y:Qe×QF)=>Ty.beq Qf y.1 (0,0,0)).map (·.2)).getD (Ty.dflt Qt)).2)
noncomputable def Adm(N:Nat):List Spec:=[Aau N]
theorem Anz(N:Nat):AllP (A0 Try.prog) (Adm N):=⟨Aec N,trivial⟩
noncomputable def Azs:Code:=(Try.f50.body).getD .skip
noncomputable abbrev A3f:Body:={ c:=Azs,n:=10,res:=[.cell 4 115],outs:=[⟨[.agg [.i .i64,.i .i64]],[]⟩],m0:=0 }
abbrev Acx:altD A3f.outs→Option QF:=fun r=>some (r.1.1.1,r.1.1.2.1)
abbrev Abk:Sta:=⟨[0,1],⟨[.fe Qp,.agg [.fn 84 [] []]],[]⟩⟩
theorem Awo(N:Nat)(d:Qj):ev (Z:=Int×Int) Try.prog (Adm N) A3f [] [] (some Acx) 400 false [.c [0],.c [1]] (stL Abk ((d,(((),()),()),()),())) (stH Abk ((d,(((),()),()),()),()))=W5 N d:=by kernel_rfl
noncomputable def Aco(N:Nat):Spec:={ f:=50,ins:=⟨[.fe Qp,.agg [.fn 84 [] []]],[]⟩,outs:=[⟨[.agg [.i .i64,.i .i64]],[]⟩],run:=fun p k=>(W5 N p.1.1).bind fun r=>k (((r.1,r.2,()),()),()) }
theorem Aez(N:Nat):A0 Try.prog (Aco N):=A1 (B:=A3f) (loops:=[]) (leaves:=[]) (fun p=>W5 N p.1.1) (fun r=>(((r.1,r.2,()),()),())) Acx (fun _ _ _=>rfl) (fun r z h=>by cases h;rfl) Try.func50 (by kernel_rfl) (by kernel_rfl) (by kernel_rfl) rfl rfl (by kernel_rfl) (fun args w=>Sem.pv_run _ _ _ (by kernel_rfl) w) (Anz N) mixed trivial (fun z E Xc hE hX hret=>trivial) (fun p=>Awo N p.1.1)

def least_S(N:Nat)(e_:List Qd)(e_2:List Int)(e_3:Int)(p:Int)(p2:Int):Option QF:=
 ((Al N e_ e_2 e_3 p p2).bind fun e=>match e with
 | .inl (x_1,y_2)=>
  (br (!decide (y_2=0))
   (some (0,y_2))
   ((Ako N).bind fun _=>
   (W5 N x_1).bind fun(x_3,y_4)=>
   (S3 N x_1 x_3).bind fun x_5=>
   some (x_5,0)))
 | .inr x_6=>
  (br (!decide (x_6=0))
   (some (0,x_6))
   ((Ako N).bind fun _=>
   none)))
noncomputable def Ih(N:Nat):List Spec:=[Bw N,A6a N,B06 N,Aco N]
theorem Ly(N:Nat):AllP (A0 Try.prog) (Ih N):=⟨Cb N,A99 N,Avs N,Aez N,trivial⟩
noncomputable def Aeu:Code:=(Try.f19.body).getD .skip
noncomputable abbrev Be:Body:={ c:=Aeu,n:=23,res:=[.tmp 4,.tmp 5],outs:=[⟨[.i .i64,.i .i64],[]⟩],m0:=0 }
abbrev I8:altD Be.outs→Option QF:=fun r=>some (r.1.1,r.1.2.1)
abbrev Pk:Sta:=⟨[0,1],⟨[.agg [.sl Qg,.sl (.int .i64),.i .i64],.agg [.i .i64,.i .i64]],[]⟩⟩
theorem A5w(N:Nat)(e_:List Qd)(e_2:List Int)(e_3:Int)(p:Int)(p2:Int):ev (Z:=Int×Int) Try.prog (Ih N) Be [] [] (some I8) 400 false [.c [0],.c [1]] (stL Pk (((e_,e_2,e_3,()),(p,p2,()),()),())) (stH Pk (((e_,e_2,e_3,()),(p,p2,()),()),()))=least_S N e_ e_2 e_3 p p2:=by kernel_rfl
noncomputable def Uu(N:Nat):Spec:={ f:=19,ins:=⟨[.agg [.sl Qg,.sl (.int .i64),.i .i64],.agg [.i .i64,.i .i64]],[]⟩,outs:=[⟨[.i .i64,.i .i64],[]⟩],run:=fun p k=>(least_S N p.1.1.1 p.1.1.2.1 p.1.1.2.2.1 p.1.2.1.1 p.1.2.1.2.1).bind fun r=>k ((r.1,r.2,()),()) }
theorem A1j(N:Nat):A0 Try.prog (Uu N):=A1 (B:=Be) (loops:=[]) (leaves:=[]) (fun p=>least_S N p.1.1.1 p.1.1.2.1 p.1.1.2.2.1 p.1.2.1.1 p.1.2.1.2.1) (fun r=>((r.1,r.2,()),())) I8 (fun _ _ _=>rfl) (fun r z h=>by cases h;rfl) Try.func19 (by kernel_rfl) (by kernel_rfl) (by kernel_rfl) rfl rfl (by kernel_rfl) (fun args w=>Sem.pv_run _ _ _ (by kernel_rfl) w) (Ly N) mixed trivial (fun z E Xc hE hX hret=>trivial) (fun p=>A5w N p.1.1.1 p.1.1.2.1 p.1.1.2.2.1 p.1.2.1.1 p.1.2.1.2.1)

end Go.Proofs.Ytgeijboidfadaaa

namespace Go.Proofs.Ytgeijboidfadaaa
set_option linter.all false
open Go
def Ok{α:Type}(o:Option α)(Q:α→Prop):Prop:=∃x,o=some x∧Q x
section
variable {α β Z:Type} {Q:Z→Prop} {x y:Option Z}
theorem Ok.some{z:Z}(h:Q z):Ok (some z) Q:=⟨z,rfl,h⟩
theorem Ok.bind{o:Option α}{P:α→Prop}{f:α→Option Z}(h:Ok o P)(k:∀a,P a→Ok (f a) Q):Ok (o.bind f) Q:=by
 obtain⟨a,rfl,ha⟩:=h
 exact k a ha
theorem Ok.eqb{o:Option α}{a:α}{f:α→Option Z}(h:o=Option.some a)(k:Ok (f a) Q):Ok (o.bind f) Q:=by subst h;exact k
theorem Ok.mono{P:Z→Prop}(h:Ok x P)(k:∀a,P a→Q a):Ok x Q:=let ⟨a,e,p⟩:=h;⟨a,e,k a p⟩
theorem Ok.br{c:Bool}(h1:c=true→Ok x Q)(h2:c=false→Ok y Q):Ok (br c x y) Q:=by
 cases c
 ·exact h2 rfl
 ·exact h1 rfl
theorem Ok.brd{p:Prop}[Decidable p](h1:p→Ok x Q)(h2:¬p→Ok y Q):Ok (Proofs.Ytgeijboidfadaaa.br (decide p) x y) Q:=by
 by_cases h:p
 ·simpa [h,Proofs.Ytgeijboidfadaaa.br]using h1 h
 ·simpa [h,Proofs.Ytgeijboidfadaaa.br]using h2 h
theorem Af{n:Int}(hn:-9223372036854775808≤n∧n≤9223372036854775807):chk n x=x:=by unfold chk;rw[Ah1.2 hn]
theorem Ok.chk{n:Int}(hn:-9223372036854775808≤n∧n≤9223372036854775807)(h:Ok x Q):Ok (chk n x) Q:=by rw[Af hn];exact h
theorem Gz{c:Bool}(hc:c=true):grd c x=x:=by subst hc;rfl
theorem Ok.grd{c:Bool}(hc:c=true)(h:Ok x Q):Ok (grd c x) Q:=by subst hc;exact h
theorem B3{i:Int}{n:Nat}(hi:0≤i∧i<n):rng i n x=x:=by unfold rng;rw[if_pos hi]
theorem Ok.rng{i:Int}{n:Nat}(hi:0≤i∧i<n)(h:Ok x Q):Ok (rng i n x) Q:=by rw[B3 hi];exact h
theorem No{n:Nat}(hn:n≤1000000):lim n x=x:=by unfold lim;rw[if_pos hn]
theorem Ok.lim{n:Nat}(hn:n≤1000000)(h:Ok x Q):Ok (lim n x) Q:=by rw[No hn];exact h
theorem idx_eq{l:List α}{i:Int}{f:α→Option Z}{a:α}(h0:0≤i)(h:l[i.toNat]?=Option.some a):idx l i f=f a:=by unfold idx;rw[if_pos h0,h]
theorem Agq{l:List α}{i:Int}{f:α→Option Z}(d:α)(h0:0≤i)(h:i<l.length):idx l i f=f (l.getD i.toNat d):=by
 refine idx_eq h0 ?_
 have:i.toNat<l.length:=by omega
 simp[List.getD,this]
theorem Ok.idx{l:List α}{i:Int}{f:α→Option Z}(h0:0≤i)(h:i<l.length)(k:∀a,l[i.toNat]?=Option.some a→a∈l→Ok (f a) Q):Ok (idx l i f) Q:=by
 have hlt:i.toNat<l.length:=by omega
 have e:l[i.toNat]?=Option.some l[i.toNat]:=List.getElem?_eq_getElem hlt
 rw[idx_eq h0 e]
 exact k _ e (List.getElem_mem hlt)
theorem get_eq{l:List α}{k:Nat}{f:α→Option Z}{a:α}(h:l[k]?=Option.some a):get l k f=f a:=by unfold get;rw[h]
theorem Ok.get{l:List α}{k:Nat}{f:α→Option Z}(h:k<l.length)(c:∀a,l[k]?=Option.some a→a∈l→Ok (f a) Q):Ok (get l k f) Q:=by
 have e:l[k]?=Option.some l[k]:=List.getElem?_eq_getElem h
 rw[get_eq e]
 exact c _ e (List.getElem_mem h)
theorem Ah9:br true x y=x:=rfl
theorem Bq:br false x y=y:=rfl
theorem Ax{p:Prop}[Decidable p](h:p):br (decide p) x y=x:=by simp[h,br]
theorem Ae{p:Prop}[Decidable p](h:¬p):br (decide p) x y=y:=by simp[h,br]
theorem Gg{p:Prop}[Decidable p](h:p):br (!decide p) x y=y:=by simp[h,br]
theorem Ue{p:Prop}[Decidable p](h:¬p):br (!decide p) x y=x:=by simp[h,br]
end
def InR(lo hi:Int)(l:List Int):Prop:=∀x∈l,lo≤x∧x≤hi
theorem InR.drop{lo hi:Int}{l:List Int}(h:InR lo hi l)(n:Nat):InR lo hi (l.drop n):=fun x hx=>h x (List.mem_of_mem_drop hx)
theorem InR.nil{lo hi:Int}:InR lo hi []:=fun _ h=>by cases h
theorem InR.mono{lo hi lo' hi':Int}{l:List Int}(h:InR lo hi l)(h1:lo'≤lo)(h2:hi≤hi'):InR lo' hi' l:=fun x hx=>by have:=h x hx;omega

end Go.Proofs.Ytgeijboidfadaaa
namespace Go.Proofs.Ytgeijboidfadaaa
set_option linter.all false
open Go

def ixL{α:Type}(f:α→Option Bool):Nat→List α→Int→Int→Option (Int⊕Unit)
 | 0,_,_,_=>none
 | n+1,s,u,u2=>br (decide (u2<u)) (idx s u2 fun x=>(f x).bind fun c=>br c (some (.inl u2)) (chk (u2+1)<|ixL f n s u (u2+1))) (some (.inr ()))
def ixS{α:Type}(f:α→Option Bool)(N:Nat)(s:List α):Option Int:=(ixL f N s (s.length:Int) 0).bind fun e=>match e with
 | .inl i=>some i
 | .inr _=>some (-1)
theorem A78{α:Type}{f:α→Option Bool}{p:α→Bool}{s:List α}(hf:∀x∈s,f x=some (p x))(hs:s.length≤1000000):∀(n k:Nat),s.length<n+k→k≤s.length →
  Ok (ixL f n s (s.length:Int) (k:Int)) fun r=>match r with | .inl i=>(0≤i∧i<s.length)∧(s.drop k).any p=true | .inr _=>(s.drop k).any p=false
 | 0,k,h,hk=>by omega
 | n+1,k,h,hk=>by
  unfold ixL
  refine Ok.brd (fun h1=>?_) (fun h1=>Ok.some ?_)
  ·have hlt:k<s.length:=by omega
   refine Ok.idx (by omega) h1 (fun a ha hm=>?_)
   have hd:s.drop k=a::s.drop (k+1):=by
    rw[List.drop_eq_getElem_cons hlt]
    have:s[k]?=some a:=by simpa using ha
    rw[List.getElem?_eq_getElem hlt]at this
    simp only[Option.some.injEq]at this
    rw[this]
   refine Ok.eqb (hf a hm) (Ok.br (fun hp=>Ok.some ?_) (fun hp=>Ok.chk (by omega) ?_))
   ·exact⟨⟨by omega,by omega⟩,by rw[hd];simp[hp]⟩
   ·have:=A78 hf hs n (k+1) (by omega) (by omega)
    rw[show((k+1:Nat):Int)=(k:Int)+1 by omega]at this
    refine this.mono (fun r hr=>?_)
    rw[hd]
    cases r<;>simpa [hp]using hr
  ·have:s.drop k=[]:=List.drop_of_length_le (by omega)
   simp[this]
theorem Vp{α:Type}{f:α→Option Bool}{p:α→Bool}{s:List α}{N:Nat}(hf:∀x∈s,f x=some (p x))(hs:s.length≤1000000)(hN:s.length<N):((ixS f N s).bind fun x=>some (decide (0≤x)))=some (s.any p):=by
 obtain⟨r,h1,h2⟩:=A78 hf hs N 0 (by omega) (by omega)
 unfold ixS
 rw[show((0:Nat):Int)=0 from rfl]at h1
 rw[h1]
 cases r with
 | inl i=>simp only[List.drop_zero]at h2;simp[h2.1.1,h2.2]
 | inr u=>simp only[List.drop_zero]at h2;simp[h2]

theorem in_v(N:Nat)(n lo hi:Int):Ap N n lo hi=some (decide (lo≤n∧n≤hi)):=by
 unfold Ap
 by_cases h:lo≤n<;>simp[h,br]
theorem V4{α:Type}(p:α→Bool)(s:List α):(!(s.any fun x=>!p x))=s.all p:=by
 induction s with
 | nil=>rfl
 | cons a s ih=>simp only[List.any_cons,List.all_cons,Bool.not_or,Bool.not_not,ih]
def okW(w:Int):Bool:=decide (0≤w∧w≤9)
theorem Am2(N:Nat):∀(n:Nat) (s:List Int) (u u2:Int),ixfi_l1 N n s u u2=ixL (Ek N) n s u u2
 | 0,_,_,_=>rfl
 | n+1,s,u,u2=>by simp only[ixfi_l1,ixL,Am2 N n]
theorem Am8(N:Nat):∀(n:Nat) (s:List (List Int)) (u u2:Int),ixfa_l1 N n s u u2=ixL (Ej N) n s u u2
 | 0,_,_,_=>rfl
 | n+1,s,u,u2=>by simp only[ixfa_l1,ixL,Am8 N n]
theorem Akk(N:Nat):∀(n:Nat) (s:List (List Int)) (u u2:Int),ixfb_l1 N n s u u2=ixL (B9 N) n s u u2
 | 0,_,_,_=>rfl
 | n+1,s,u,u2=>by simp only[ixfb_l1,ixL,Akk N n]
theorem Alw(N:Nat){l:List Int}(h:l.length≤1000000)(hN:l.length<N):L8 N l=some (l.all okW):=by
 have:=Vp (f:=Ek N) (p:=fun x=>!okW x) (s:=l) (N:=N) (fun x _=>by simp[Ek,Kq,in_v,okW]) h hN
 unfold L8 A8w
 have e:Xq N l=ixS (Ek N) N l:=by
  unfold Xq ixS
  rw[Am2]<;>rfl
 rw[e,this]
 simp[V4]
theorem Azh(N:Nat){l:List (List Int)}(h:l.length≤1000000)(hN:l.length<N)(hl:∀x∈l,x.length≤1000000∧x.length<N):M7 N l=some (l.all fun x=>x.all okW):=by
 have:=Vp (f:=Ej N) (p:=fun x=>!(x.all okW)) (s:=l) (N:=N) (fun x hx=>by simp[Ej,Ao,Alw N (hl x hx).1 (hl x hx).2]) h hN
 unfold M7 A4e
 have e:Y5 N l=ixS (Ej N) N l:=by
  unfold Y5 ixS
  rw[Am8]<;>rfl
 rw[e,this]
 simp[V4]
def okL(x:List Int):Bool:=decide (1≤(x.length:Int)∧(x.length:Int)≤6)
theorem Ayx(N:Nat){l:List (List Int)}(h:l.length≤1000000)(hN:l.length<N):Ck N l=some (l.all okL):=by
 have:=Vp (f:=B9 N) (p:=fun x=>!okL x) (s:=l) (N:=N) (fun x _=>by simp[B9,B7,in_v,okL]) h hN
 unfold Ck Ik
 have e:H7 N l=ixS (B9 N) N l:=by
  unfold H7 ixS
  rw[Akk]<;>rfl
 rw[e,this]
 simp[V4]

def Xn(T:List (List Int))(H:List Int)(f:Int):Int:=
 if ¬(1≤T.length∧T.length≤5)then 2 else if 10<H.length then 2 else if ¬T.all okL then 2 else if ¬T.all (fun x=>x.all okW)then 3 else if ¬H.all okW then 3 else if ¬(0≤f∧f≤8)then 3 else 0
theorem Auz{N:Nat}(hN:20≤N)(T:List (List Int))(H:List Int)(f:Int):B2 N T H f=some (Xn T H f):=by
 unfold B2 Xn
 rw[in_v]
 simp only[Option.bind_some]
 by_cases h1:1≤T.length∧T.length≤5
 ·rw[show decide (1≤(T.length:Int)∧(T.length:Int)≤5)=true by simpa using (by omega),if_neg (by simpa using h1)]
  simp only[Bool.not_true,Bq]
  by_cases h2:10<H.length
  ·rw[Ax (by omega),if_pos h2]
  ·rw[Ae (by omega),if_neg h2,Ayx N (by omega) (by omega)]
   simp only[Option.bind_some]
   cases hb:T.all okL with
   | false=>simp[br]
   | true=>
    simp only[Bool.not_true,Bq]
    rw[if_neg (by simp)]
    have hl:∀x∈T,x.length≤6:=fun x hx=>by
     have:=List.all_eq_true.1 hb x hx
     simp only[okL,decide_eq_true_eq]at this;omega
    rw[Azh N (by omega) (by omega) (fun x hx=>by have:=hl x hx;omega)]
    simp only[Option.bind_some]
    cases ha:T.all fun x=>x.all okW with
    | false=>simp[br]
    | true=>
     simp only[Bool.not_true,Bq]
     rw[if_neg (by simp),show Ao N H=some (H.all okW)by simp[Ao,Alw N (l:=H) (by omega) (by omega)]]
     simp only[Option.bind_some]
     cases hh:H.all okW with
     | false=>simp[br]
     | true=>
      simp only[Bool.not_true,Bq]
      rw[if_neg (by simp),in_v]
      simp only[Option.bind_some]
      by_cases h3:0≤f∧f≤8<;>simp[h3,br]
 ·rw[show decide (1≤(T.length:Int)∧(T.length:Int)≤5)=false by simpa using (by omega),if_pos (by simpa using h1)]
  rfl
structure Fine (T:List (List Int)) (H:List Int) (f:Int):Prop where
 n:1≤T.length∧T.length≤5
 h:H.length≤10
 l:∀x∈T,1≤x.length∧x.length≤6
 w:∀x∈T,InR 0 9 x
 hw:InR 0 9 H
 f:0≤f∧f≤8
theorem Auy{x:List Int}:x.all okW=true↔InR 0 9 x:=by simp[okW,InR]
theorem Fine.check{T:List (List Int)}{H:List Int}{f:Int}(h:Fine T H f):Xn T H f=0:=by
 unfold Xn
 have h1:T.all okL=true:=List.all_eq_true.2 fun x hx=>by
  have:=h.l x hx
  simp only[okL,decide_eq_true_eq];omega
 have h2:(T.all fun x=>x.all okW)=true:=List.all_eq_true.2 fun x hx=>Auy.2 (h.w x hx)
 rw[if_neg (by simpa using h.n),if_neg (by have:=h.h;omega),if_neg (by rw[h1];simp),if_neg (by rw[h2];simp),if_neg (by rw[Auy.2 h.hw];simp),if_neg (by simpa using h.f)]
def B52(T:List (List Int))(H:List Int)(f a b:Int):Int:=if Xn T H f≠0 then Xn T H f else if ¬(0≤a∧a<T.length)∨¬(0≤b∧b<T.length)then 1 else 0
theorem Fine.open{T:List (List Int)}{H:List Int}{f a b:Int}(h:Fine T H f)(ha:0≤a∧a<T.length)(hb:0≤b∧b<T.length):B52 T H f a b=0:=by
 unfold B52
 rw[if_neg (by simpa using h.check),if_neg (by simp only[not_or,Decidable.not_not];exact⟨ha,hb⟩)]
end Go.Proofs.Ytgeijboidfadaaa
namespace Go.Proofs.Ytgeijboidfadaaa
set_option linter.all false
open Go
def lc:List Int→List Int→Nat
 | [],_=>0
 | _::_,[]=>0
 | x::xs,y::ys=>if x=y then max (max (lc xs (y::ys)) (lc (x::xs) ys)) (lc xs ys+1)else max (lc xs (y::ys)) (lc (x::xs) ys)
termination_by a b=>a.length+b.length
theorem Adv(a:List Int):lc a []=0:=by cases a<;>simp[lc]
theorem drop_cons{a:List Int}{i:Nat}(h:i<a.length):a.drop i=a.getD i 0::a.drop (i+1):=by
 rw[List.drop_eq_getElem_cons h];simp[List.getD,h]
def Bt(a b:List Int)(l:List Int)(i k:Int):Prop:=
 l.length=49∧a.length≤6∧b.length≤6∧∀i' k':Nat,i'≤a.length→k'≤b.length→(i'=a.length∨k'=b.length∨i<i'∨(i=i'∧k<k'))→l[i'*7+k']?=some ((lc (a.drop i') (b.drop k'):Nat):Int)
theorem Bt.start(a b:List Int)(ha:a.length≤6)(hb:b.length≤6):Bt a b (List.replicate 49 (0:Int)) ((a.length:Int)-1) b.length:=by
 refine⟨by simp,ha,hb,fun i' k' hi hk h=>?_⟩
 have:lc (a.drop i') (b.drop k')=0:=by
  rcases h with h | h | h | h
  ·rw[h,List.drop_length];simp[lc]
  ·rw[h,List.drop_length,Adv]
  ·have:i'=a.length:=by omega
   rw[this,List.drop_length];simp[lc]
  ·omega
 rw[this,List.getElem?_replicate,if_pos (by omega)];rfl
theorem Bt.row{a b:List Int}{l:List Int}{i:Int}(h:Bt a b l i b.length):Bt a b l i ((b.length:Int)-1):=
 ⟨h.1,h.2.1,h.2.2.1,fun i' k' hi hk hh=>h.2.2.2 i' k' hi hk (by omega)⟩
theorem Bt.next{a b:List Int}{l:List Int}{i:Int}(h:Bt a b l i (-1)):Bt a b l (i-1) b.length:=
 ⟨h.1,h.2.1,h.2.2.1,fun i' k' hi hk hh=>h.2.2.2 i' k' hi hk (by omega)⟩
theorem Bt.get{a b:List Int}{l:List Int}{i k:Int}(h:Bt a b l i k)(i' k':Nat)(hi:i'≤a.length)(hk:k'≤b.length)(hh:i'=a.length∨k'=b.length∨i<i'∨(i=i'∧k<k')) :
  l[i'*7+k']?=some ((lc (a.drop i') (b.drop k'):Nat):Int):=h.2.2.2 i' k' hi hk hh
theorem Bt.lt{a b:List Int}{l:List Int}{i k:Int}(h:Bt a b l i k)(i' k':Nat)(hi:i'≤a.length)(hk:k'≤b.length):i'*7+k'<l.length:=by
 have:=h.1;have:=h.2.1;have:=h.2.2.1;omega
theorem Bt.set{a b:List Int}{l:List Int}{i k:Int}(h:Bt a b l i k)(h0:0≤i)(h1:i<a.length)(h2:0≤k)(h3:k<b.length)(v:Int):Bt a b (l.set (i.toNat*7+k.toNat) v) i k:=by
 refine⟨by simp[h.1],h.2.1,h.2.2.1,fun i' k' hi hk hh=>?_⟩
 have hla:=h.2.1;have hlb:=h.2.2.1
 rw[List.getElem?_set_ne (by omega)]
 exact h.get i' k' hi hk hh
theorem Bt.step{a b:List Int}{l:List Int}{i k:Int}(h:Bt a b l i k)(h0:0≤i)(h1:i<a.length)(h2:0≤k)(h3:k<b.length)(hv:l[i.toNat*7+k.toNat]?=some ((lc (a.drop i.toNat) (b.drop k.toNat):Nat):Int)):Bt a b l i (k-1):=by
 refine⟨h.1,h.2.1,h.2.2.1,fun i' k' hi hk hh=>?_⟩
 by_cases e:i'=i.toNat∧k'=k.toNat
 ·obtain⟨rfl,rfl⟩:=e;exact hv
 ·exact h.get i' k' hi hk (by omega)
theorem Bt.self{a b:List Int}{l:List Int}{i k:Int}(h:Bt a b l i k)(h0:0≤i)(h1:i<a.length)(h2:0≤k)(h3:k<b.length)(v:Int):(l.set (i.toNat*7+k.toNat) v)[i.toNat*7+k.toNat]?=some v:=by
 rw[List.getElem?_set_self (h.lt _ _ (by omega) (by omega))]
end Go.Proofs.Ytgeijboidfadaaa
namespace Go.Proofs.Ytgeijboidfadaaa
set_option linter.all false
open Go

theorem Av{α:Type}{l:List α}{i:Nat}{d:α}(h:i<l.length):l.getD i d∈l:=by
 simp[List.getD,h]
end Go.Proofs.Ytgeijboidfadaaa
namespace Go.Proofs.Ytgeijboidfadaaa
set_option linter.all false
open Go

def wT(side w:Int):Int:=if 0≤w∧side≠3 then w+1 else w
def stepT(may:Nat→Int×Int→Bool)(h:Nat)(t:At3→Int×Int)(best:Int×Int)(m:Mv):Int×Int:=
 if may h m.1=true then(if best.1<wT m.1.1 (t m.2).1 then(wT m.1.1 (t m.2).1,(t m.2).2)else if wT m.1.1 (t m.2).1=best.1 then(best.1,best.2+(t m.2).2)else best)else best
def tvx(may:Nat→Int×Int→Bool)(H A B:List Int):Nat→At3→Int×Int
 | 0,_=>(0,1)
 | n+1,x=>(H8 A B (H.getD x.1 0) x).foldl (stepT may x.1 (tvx may H A B n)) (-1,0)
def tv(may:Nat→Int×Int→Bool)(H A B:List Int)(x:At3):Int×Int:=tvx may H A B (H.length-x.1) x
def Bst(n c:Nat)(v:Int×Int):Prop:=-1≤v.1∧v.1≤((n+1:Nat):Int)∧0≤v.2∧v.2≤((c*13 ^ n:Nat):Int)
abbrev Memo:=List ((Int×(Int×Int))×(Int×Int))
def Wu(may:Nat→Int×Int→Bool)(H A B:List Int)(m:Memo):Prop:=∀e∈m,∃x:At3,e=((((x.1:Nat):Int),((x.2.1:Nat):Int),((x.2.2:Nat):Int)),tv may H A B x)
theorem Wu.nil(may:Nat→Int×Int→Bool)(H A B:List Int):Wu may H A B []:=fun _ h=>by cases h
theorem Wu.cons{may:Nat→Int×Int→Bool}{H A B:List Int}{m:Memo}(h:Wu may H A B m)(x:At3):Wu may H A B (((((x.1:Nat):Int),((x.2.1:Nat):Int),((x.2.2:Nat):Int)),tv may H A B x)::m):=fun e he=>by
 rcases List.mem_cons.1 he with rfl | he
 ·exact⟨x,rfl⟩
 ·exact h e he
theorem Wu.find{may:Nat→Int×Int→Bool}{H A B:List Int}{m:Memo}(h:Wu may H A B m)(x:At3){e:(Int×(Int×Int))×(Int×Int)}(he:m.find? (fun y=>Ty.beq (.pair (.int .i64) (.pair (.int .i64) (.int .i64))) y.1 (((x.1:Nat):Int),((x.2.1:Nat):Int),((x.2.2:Nat):Int)))=some e):e.2=tv may H A B x:=by
 obtain⟨y,rfl⟩:=h e (List.mem_of_find?_eq_some he)
 have:=List.find?_some he
 have:=(Dj (y:=.pair (.int .i64) (.pair (.int .i64) (.int .i64))) rfl).1 this
 simp only[Prod.mk.injEq]at this
 have e:y=x:=by
  obtain⟨a,b,c⟩:=x
  obtain⟨a',b',c'⟩:=y
  dsimp only at this
  simp only[Prod.mk.injEq];omega
 rw[e]
end Go.Proofs.Ytgeijboidfadaaa
namespace Go.Proofs.Ytgeijboidfadaaa
set_option linter.all false
open Go

def mayA:Nat→Int×Int→Bool:=fun _ _=>true
section
variable {N:Nat} {T:List (List Int)} {H A B:List Int} {f:Int}
end
end Go.Proofs.Ytgeijboidfadaaa
namespace Go.Proofs.Ytgeijboidfadaaa
set_option linter.all false
open Go

section
variable {N:Nat} {T:List (List Int)} {H:List Int} {f:Int}
end
end Go.Proofs.Ytgeijboidfadaaa
namespace Go.Proofs.Ytgeijboidfadaaa
set_option linter.all false
open Go

theorem Ay7(h:Nat)(t:At3→Int×Int)(best:Int×Int)(m:Mv):(stepT mayA h t best m).1=max best.1 (wT m.1.1 (t m.2).1):=by
 have:stepT mayA h t best m=(if best.1<wT m.1.1 (t m.2).1 then(wT m.1.1 (t m.2).1,(t m.2).2)else if wT m.1.1 (t m.2).1=best.1 then(best.1,best.2+(t m.2).2)else best):=by unfold stepT;exact if_pos rfl
 rw[this]
 split
 ·first | omega | (dsimp only;omega)
 ·split<;>first | omega | (dsimp only;omega)
theorem We{h:Nat}{t:At3→Int×Int}:∀(ms:List Mv) (best:Int×Int),best.1≤(ms.foldl (stepT mayA h t) best).1∧∀m∈ms,wT m.1.1 (t m.2).1≤(ms.foldl (stepT mayA h t) best).1
 | [],best=>⟨Int.le_refl _,fun _ h=>by cases h⟩
 | m::ms,best=>by
  obtain⟨h1,h2⟩:=We (h:=h) (t:=t) ms (stepT mayA h t best m)
  rw[Ay7]at h1
  rw[List.foldl_cons]
  refine⟨by omega,fun m' hm=>?_⟩
  rcases List.mem_cons.1 hm with rfl | hm
  ·omega
  ·exact h2 m' hm
inductive Told (H A B:List Int):Nat→Nat→Nat→Prop
 | done (i k:Nat):Told H A B H.length i k
 | ta {h i k j:Nat} (hh:h<H.length) (hij:i≤j) (hj:j<A.length) (e:A.getD j 0=H.getD h 0) (t:Told H A B (h+1) (j+1) k):Told H A B h i k
 | tb {h i k j:Nat} (hh:h<H.length) (hij:k≤j) (hj:j<B.length) (e:B.getD j 0=H.getD h 0) (t:Told H A B (h+1) i (j+1)):Told H A B h i k
theorem Told.mono{H A B:List Int}{h i k:Nat}(t:Told H A B h i k):∀(i' k':Nat),i'≤i→k'≤k→Told H A B h i' k':=by
 induction t with
 | done i k=>intro i' k' _ _;exact .done i' k'
 | ta hh hij hj e _ ih=>intro i' k' h1 h2;exact .ta hh (Nat.le_trans h1 hij) hj e (ih _ _ (Nat.le_refl _) h2)
 | tb hh hij hj e _ ih=>intro i' k' h1 h2;exact .tb hh (Nat.le_trans h2 hij) hj e (ih _ _ h1 (Nat.le_refl _))
theorem Told.tv{H A B:List Int}{h i k:Nat}(t:Told H A B h i k):∀n,H.length=h+n→(n:Int)≤(tvx mayA H A B n (h,i,k)).1:=by
 induction t with
 | done i k=>intro n hn;have:n=0:=by omega
             subst this;simp[tvx]
 | @ta h i k j hh hij hj e t ih=>
  intro n hn
  obtain⟨n,rfl⟩:∃m,n=m+1:=⟨n-1,by omega⟩
  have:=ih n (by omega)
  have g:=(We (h:=h) (t:=tvx mayA H A B n) (H8 A B (H.getD h 0) (h,i,k)) (-1,0)).2 ((1,(j:Int)),(h+1,j+1,k)) (by
   simp only[H8,List.mem_cons,List.mem_append,List.mem_map]
   exact .inr (.inl ⟨j,D9.2 ⟨hij,hj,e⟩,rfl⟩))
  rw[tvx]
  dsimp only
  dsimp only[wT]at g
  rw[if_pos ⟨by omega,by decide⟩]at g
  omega
 | @tb h i k j hh hij hj e t ih=>
  intro n hn
  obtain⟨n,rfl⟩:∃m,n=m+1:=⟨n-1,by omega⟩
  have:=ih n (by omega)
  have g:=(We (h:=h) (t:=tvx mayA H A B n) (H8 A B (H.getD h 0) (h,i,k)) (-1,0)).2 ((2,(j:Int)),(h+1,i,j+1)) (by
   simp only[H8,List.mem_cons,List.mem_append,List.mem_map]
   exact .inr (.inr ⟨j,D9.2 ⟨hij,hj,e⟩,rfl⟩))
  rw[tvx]
  dsimp only
  dsimp only[wT]at g
  rw[if_pos ⟨by omega,by decide⟩]at g
  omega
inductive Shuf:List Int→List Int→List Int→Prop
 | nil:Shuf [] [] []
 | skipA {S a b:List Int} (w:Int) (s:Shuf S a b):Shuf S (w::a) b
 | skipB {S a b:List Int} (w:Int) (s:Shuf S a b):Shuf S a (w::b)
 | takeA {S a b:List Int} (w:Int) (s:Shuf S a b):Shuf (w::S) (w::a) b
 | takeB {S a b:List Int} (w:Int) (s:Shuf S a b):Shuf (w::S) a (w::b)
theorem Hr{l:List Int}{i:Nat}{w:Int}{r:List Int}(h:l.drop i=w::r):i<l.length∧l.getD i 0=w∧l.drop (i+1)=r:=by
 have hi:i<l.length:=by
  rcases Nat.lt_or_ge i l.length with h1 | h1
  ·exact h1
  ·rw[List.drop_of_length_le h1]at h;cases h
 rw[drop_cons hi]at h
 simp only[List.cons.injEq]at h
 exact⟨hi,h.1,h.2⟩
theorem Shuf.told{H A B S a b:List Int}(s:Shuf S a b):∀(h i k:Nat),h≤H.length→H.drop h=S→A.drop i=a→B.drop k=b→Told H A B h i k:=by
 induction s with
 | nil=>
  intro h i k hh hS _ _
  have:h=H.length:=by
   have:=congrArg List.length hS
   rw[List.length_drop]at this
   simp at this;omega
  subst this;exact .done i k
 | skipA w s ih=>intro h i k hh hS ha hb;obtain⟨_,_,h3⟩:=Hr ha;exact(ih h (i+1) k hh hS h3 hb).mono _ _ (by omega) (Nat.le_refl _)
 | skipB w s ih=>intro h i k hh hS ha hb;obtain⟨_,_,h3⟩:=Hr hb;exact(ih h i (k+1) hh hS ha h3).mono _ _ (Nat.le_refl _) (by omega)
 | takeA w s ih=>
  intro h i k hh hS ha hb
  obtain⟨h1,h2,h3⟩:=Hr ha
  obtain⟨g1,g2,g3⟩:=Hr hS
  exact .ta g1 (Nat.le_refl _) h1 (by rw[h2,g2]) (ih (h+1) (i+1) k (by omega) g3 h3 hb)
 | takeB w s ih=>
  intro h i k hh hS ha hb
  obtain⟨h1,h2,h3⟩:=Hr hb
  obtain⟨g1,g2,g3⟩:=Hr hS
  exact .tb g1 (Nat.le_refl _) h1 (by rw[h2,g2]) (ih (h+1) i (k+1) (by omega) g3 ha h3)
end Go.Proofs.Ytgeijboidfadaaa
namespace Go.Proofs.Ytgeijboidfadaaa
set_option linter.all false
open Go

section
variable {N:Nat} {T:List (List Int)} {H:List Int} {f:Int}
end
end Go.Proofs.Ytgeijboidfadaaa
namespace Go.Proofs.Ytgeijboidfadaaa
set_option linter.all false
open Go
inductive Rd:List Int→List Int→List Int→Prop
 | nil:Rd [] [] []
 | noise (w:Int) {H a b:List Int} (s:Rd H a b):Rd (w::H) a b
 | ta (w:Int) {H a b:List Int} (s:Rd H a b):Rd (w::H) (w::a) b
 | tb (w:Int) {H a b:List Int} (s:Rd H a b):Rd (w::H) a (w::b)
theorem Rd.none:∀H:List Int,Rd H [] []
 | []=>.nil
 | w::H=>.noise w (Rd.none H)
end Go.Proofs.Ytgeijboidfadaaa
namespace Go.Proofs.Ytgeijboidfadaaa
set_option linter.all false
open Go

section
variable {N:Nat} {T:List (List Int)} {H:List Int} {f:Int}
def toldN:List (Int×Int)→Int
 | []=>0
 | q::r=>(if q.1=3 then 0 else 1)+toldN r
theorem S2:∀l:List (Int×Int),0≤toldN l∧toldN l≤l.length
 | []=>by simp[toldN]
 | q::r=>by
  have:=S2 r
  unfold toldN
  simp only[List.length_cons]
  split<;>omega
end
end Go.Proofs.Ytgeijboidfadaaa
namespace Go.Proofs.Ytgeijboidfadaaa
set_option linter.all false
open Go

section
variable {N:Nat} {T:List (List Int)} {H A B:List Int} {f:Int}
theorem Es{α:Type}{p:α→Bool}:∀ {l:List α},(∀x∈l,p x=false)→l.countP p=0
 | [],_=>rfl
 | a::l,h=>by
  rw[List.countP_cons,Es (fun x hx=>h x (by simp[hx])),h a (by simp)];rfl
def Ze(C:List (List (Int×Int)))(v:Int×Int):Prop:=(∀r∈C,toldN r≤v.1)∧v.2=(C.countP fun r=>decide (toldN r=v.1):Nat)
theorem Ze.add{h n:Nat}{t:At3→Int×Int}{m:Mv}{C D:List (List (Int×Int))}{best:Int×Int}(hb:Ze C best)(hd:Ze D (t m.2))(h0:0≤(t m.2).1):Ze (C++D.map fun r=>m.1::r) (stepT mayA h t best m):=by
 have st:stepT mayA h t best m=(if best.1<wT m.1.1 (t m.2).1 then(wT m.1.1 (t m.2).1,(t m.2).2)else if wT m.1.1 (t m.2).1=best.1 then(best.1,best.2+(t m.2).2)else best):=by
  unfold stepT;exact if_pos rfl
 have hw:wT m.1.1 (t m.2).1=(if m.1.1=3 then 0 else 1)+(t m.2).1:=by
  unfold wT
  by_cases c:m.1.1=3
  ·rw[if_neg (fun h=>h.2 c),if_pos c];omega
  ·rw[if_pos ⟨h0,c⟩,if_neg c];omega
 obtain⟨b1,b2⟩:=hb
 obtain⟨d1,d2⟩:=hd
 have tn:∀r,toldN (m.1::r)=(if m.1.1=3 then 0 else 1)+toldN r:=fun r=>rfl
 rw[st]
 generalize wT m.1.1 (t m.2).1=W at *
 generalize (if m.1.1=3 then(0:Int)else 1)=e at *
 have c1:∀v:Int,((D.map fun r=>m.1::r).countP fun r=>decide (toldN r=v))=D.countP fun r=>decide (toldN r=v-e):=by
  intro v
  rw[List.countP_map]
  congr 1
  funext r
  simp only[Function.comp]
  rw[tn]
  apply decide_eq_decide.2
  omega
 have le:∀r∈D.map (fun r=>m.1::r),toldN r≤W:=by
  intro r hr
  obtain⟨r',hr',rfl⟩:=List.mem_map.1 hr
  rw[tn];have:=d1 r' hr';omega
 by_cases k1:best.1<W
 ·rw[if_pos k1]
  refine⟨fun r hr=>?_,?_⟩
  ·rcases List.mem_append.1 hr with hr | hr
   ·have:=b1 r hr;dsimp only;omega
   ·exact le r hr
  ·dsimp only
   rw[List.countP_append,c1,show W-e=(t m.2).1 by omega,Es (l:=C) (fun r hr=>by have:=b1 r hr;simp;omega),d2]
   simp
 ·rw[if_neg k1]
  by_cases k2:W=best.1
  ·rw[if_pos k2]
   refine⟨fun r hr=>?_,?_⟩
   ·rcases List.mem_append.1 hr with hr | hr
    ·exact b1 r hr
    ·have:=le r hr;dsimp only;omega
   ·dsimp only
    rw[List.countP_append,c1,show best.1-e=(t m.2).1 by omega,b2,d2]
    omega
  ·rw[if_neg k2]
   refine⟨fun r hr=>?_,?_⟩
   ·rcases List.mem_append.1 hr with hr | hr
    ·exact b1 r hr
    ·have:=le r hr;omega
   ·rw[List.countP_append,c1,Es (l:=D) (fun r hr=>by have:=d1 r hr;simp;omega),b2]
    simp
end
end Go.Proofs.Ytgeijboidfadaaa
namespace Go.Proofs.Ytgeijboidfadaaa
set_option linter.all false
open Go

section
variable {N:Nat} {T:List (List Int)} {H A B:List Int} {f:Int}
abbrev keyT:Ty:=.pair (.int .i64) (.pair (.int .i64) (.int .i64))
abbrev keyA(x:At3):Int×Int×Int:=(((x.1:Nat):Int),((x.2.1:Nat):Int),((x.2.2:Nat):Int))
def hasK(m:Memo)(x:At3):Bool:=(m.find? fun y=>Ty.beq keyT y.1 (keyA x)).isSome
theorem Abq{m:Memo}{x z:At3}{v:Int×Int}:hasK ((keyA x,v)::m) z=true↔z=x∨hasK m z=true:=by
 unfold hasK
 rw[List.find?_cons]
 by_cases e:Ty.beq keyT (keyA x) (keyA z)=true
 ·rw[e]
  have:=(Dj (y:=keyT) rfl).1 e
  simp only[keyA,Prod.mk.injEq]at this
  have:z=x:=by
   obtain⟨a,b,c⟩:=x
   obtain⟨a',b',c'⟩:=z
   dsimp only at this
   simp only[Prod.mk.injEq];omega
  simp[this]
 ·have e':Ty.beq keyT (keyA x) (keyA z)=false:=by simpa using e
  rw[e']
  constructor
  ·exact fun h=>.inr h
  ·rintro (rfl | h)
   ·exact absurd ((Dj (y:=keyT) rfl).2 rfl) e
   ·exact h
def MOK(H A B:List Int)(m:Memo):Prop:=Wu mayA H A B m∧∀x:At3,hasK m x=true→x.1<H.length→∀mv∈H8 A B (H.getD x.1 0) x,mv.2.1<H.length→hasK m mv.2=true
theorem MOK.cons{m:Memo}(h:MOK H A B m){x:At3}(hk:∀mv∈H8 A B (H.getD x.1 0) x,mv.2.1<H.length→hasK m mv.2=true):MOK H A B ((keyA x,tv mayA H A B x)::m):=by
 refine⟨h.1.cons x,fun z hz hlt mv hmv hl=>Abq.2 (.inr ?_)⟩
 rcases Abq.1 hz with rfl | hz
 ·exact hk mv hmv hl
 ·exact h.2 z hz hlt mv hmv hl
theorem MOK.nil:MOK H A B []:=⟨Wu.nil _ _ _ _,fun x h=>by cases h⟩
end
end Go.Proofs.Ytgeijboidfadaaa
namespace Go.Proofs.Ytgeijboidfadaaa
set_option linter.all false
open Go

section
variable {N:Nat} {T:List (List Int)} {H A B:List Int} {f:Int}
end
end Go.Proofs.Ytgeijboidfadaaa
namespace Go.Proofs.Ytgeijboidfadaaa
set_option linter.all false
open Go

section
variable {N:Nat} {T:List (List Int)} {H A B:List Int} {f a b:Int}
def mayR(may:Nat→Int×Int→Bool):Nat→List (Int×Int)→Bool
 | _,[]=>true
 | h,q::r=>may h q&&mayR may (h+1) r
def Gd(C:List (List (Int×Int)))(v:Int×Int):Prop:=Ze C v∧(C=[]∧v.1=-1∨∃r∈C,toldN r=v.1)
theorem Gd.ge{C:List (List (Int×Int))}{v:Int×Int}(h:Gd C v):-1≤v.1:=by
 rcases h.2 with⟨_,h⟩ | ⟨r,_,h⟩
 ·omega
 ·have:=S2 r;omega
theorem Gd.add{may:Nat→Int×Int→Bool}{h:Nat}{t:At3→Int×Int}{m:Mv}{C D:List (List (Int×Int))}{best:Int×Int}(hb:Gd C best)(hd:Gd D (t m.2)):Gd (C++if may h m.1=true then D.map fun r=>m.1::r else []) (stepT may h t best m):=by
 by_cases c:may h m.1=true
 ·rw[if_pos c]
  have st:stepT may h t best m=stepT mayA h t best m:=by
   unfold stepT;rw[if_pos c];exact(if_pos rfl).symm
  rw[st]
  have st2:stepT mayA h t best m=(if best.1<wT m.1.1 (t m.2).1 then(wT m.1.1 (t m.2).1,(t m.2).2)else if wT m.1.1 (t m.2).1=best.1 then(best.1,best.2+(t m.2).2)else best):=by
   unfold stepT;exact if_pos rfl
  have hge:=hb.ge
  rcases hd.2 with⟨rfl,hv⟩ | ⟨r,hr,hv⟩
  ·have h2:=hd.1.2
   rw[List.countP_nil]at h2
   have hw:wT m.1.1 (t m.2).1=-1:=by
    unfold wT;rw[hv];exact if_neg (fun h=>absurd h.1 (by decide))
   rw[st2,hw,List.map_nil,List.append_nil,if_neg (by omega)]
   by_cases k:-1=best.1
   ·rw[if_pos k,h2]
    rw[show((best.1,best.2+((0:Nat):Int)):Int×Int)=best by simp]
    exact hb
   ·rw[if_neg k];exact hb
  ·have t0:=S2 r
   have h0:0≤(t m.2).1:=by omega
   refine⟨Ze.add (n:=0) hb.1 hd.1 h0,.inr ?_⟩
   have hw:toldN (m.1::r)=wT m.1.1 (t m.2).1:=by
    unfold wT toldN
    by_cases c:m.1.1=3
    ·rw[if_pos c,if_neg (fun h=>h.2 c)];omega
    ·rw[if_neg c,if_pos ⟨h0,c⟩];omega
   rw[st2]
   by_cases k1:best.1<wT m.1.1 (t m.2).1
   ·rw[if_pos k1]
    exact⟨m.1::r,List.mem_append.2 (.inr (List.mem_map.2 ⟨r,hr,rfl⟩)),hw⟩
   ·rw[if_neg k1]
    have t1:=S2 (m.1::r)
    rcases hb.2 with⟨_,e⟩ | ⟨r',hr',e⟩
    ·omega
    ·refine⟨r',List.mem_append.2 (.inl hr'),?_⟩
     split<;>exact e
 ·have st:stepT may h t best m=best:=by
   unfold stepT;rw[if_neg c]
  rw[if_neg c,st,List.append_nil]
  exact hb
end
end Go.Proofs.Ytgeijboidfadaaa
namespace Go.Proofs.Ytgeijboidfadaaa
set_option linter.all false
open Go

section
variable {N:Nat} {T:List (List Int)} {H A B:List Int} {f a b:Int}
end
end Go.Proofs.Ytgeijboidfadaaa
namespace Go.Proofs.Ytgeijboidfadaaa
set_option linter.all false
open Go

section
variable {N:Nat} {T:List (List Int)} {H:List Int} {f:Int}
end
end Go.Proofs.Ytgeijboidfadaaa

namespace Go.Proofs.Ytgeijboidfadaaa.Fe
set_option linter.all false
open Go
def grpS(bal:List Int):List Int→Int
 | []=>0
 | p::l=>bal.getD p.toNat 0+grpS bal l
def allZ(bal:List Int)(now:Gl):Bool:=now.all fun l=>decide (grpS bal l=0)
def putF(bal:List Int):Nat→Nat→Gl→Gl→Gl
 | 0,_,now,out=>if allZ bal now=true∧out.length<now.length then now else out
 | n+1,i,now,out=>
  if bal.getD i 0=0 then putF bal n (i+1) now out
  else putF bal n (i+1) (now++[[(i:Int)]]) ((List.range now.length).foldl (fun o g=>putF bal n (i+1) (now.set g (now.getD g []++[(i:Int)])) o) out)
structure NB (bal:List Int) (i:Nat) (now:Gl):Prop where
 n:now.length≤i
 r:∀r∈now,r≠[]∧r.length≤i∧∀x∈r,0≤x∧x<(bal.length:Int)
theorem NB.mono{bal:List Int}{i k:Nat}{now:Gl}(h:NB bal i now)(hk:i≤k):NB bal k now:=⟨by have:=h.n;omega,fun r hr=>⟨(h.r r hr).1,by have:=(h.r r hr).2.1;omega,(h.r r hr).2.2⟩⟩
theorem Av{α:Type}{l:List α}{j:Nat}{d:α}(h:j<l.length):l.getD j d∈l:=by
 rw[List.getD_eq_getElem?_getD,List.getElem?_eq_getElem h];exact List.getElem_mem h
theorem NB.grow{bal:List Int}{i:Nat}{now:Gl}(h:NB bal i now)(hi:i<bal.length){g:Nat}(hg:g<now.length):NB bal (i+1) (now.set g (now.getD g []++[(i:Int)])):=by
 refine⟨by have:=h.n;simp;omega,fun r hr=>?_⟩
 rcases List.mem_or_eq_of_mem_set hr with h1 | rfl
 ·exact(h.mono (Nat.le_succ i)).r r h1
 ·have h2:=h.r _ (Av (d:=[]) hg)
  refine⟨by simp,by rw[List.length_append];simp only[List.length_cons,List.length_nil];omega,fun x hx=>?_⟩
  rcases List.mem_append.1 hx with h3 | h3
  ·exact h2.2.2 x h3
  ·simp only[List.mem_singleton]at h3;subst h3;omega
theorem NB.more{bal:List Int}{i:Nat}{now:Gl}(h:NB bal i now)(hi:i<bal.length):NB bal (i+1) (now++[[(i:Int)]]):=by
 refine⟨by have:=h.n;simp;omega,fun r hr=>?_⟩
 rcases List.mem_append.1 hr with h1 | h1
 ·exact(h.mono (Nat.le_succ i)).r r h1
 ·simp only[List.mem_singleton]at h1;subst h1
  refine⟨by simp,by simp,fun x hx=>?_⟩
  simp only[List.mem_singleton]at hx;subst hx;omega

section
variable {N:Nat} {bal:List Int}
theorem gets{α:Type}{l:List α}{k:Nat}(h:k<l.length)(d:α):l[((k:Nat):Int).toNat]?=some (l.getD k d):=by simp[List.getD,h]
theorem O8(k:Nat):((k+1:Nat):Int)=(k:Int)+1:=by omega
theorem Ut{d:Int}(hr:∀x∈bal,-d≤x∧x≤d)(hd:0≤d)(k:Nat):-d≤bal.getD k 0∧bal.getD k 0≤d:=by
 rcases Nat.lt_or_ge k bal.length with h | h
 ·exact hr _ (Av h)
 ·rw[List.getD_eq_getElem?_getD,List.getElem?_eq_none h];simp;omega
theorem Nw{l:List Int}{k:Nat}(h:k<l.length):l.drop k=l.getD k 0::l.drop (k+1):=by
 rw[List.drop_eq_getElem_cons h,List.getD_eq_getElem?_getD,List.getElem?_eq_getElem h];rfl
theorem A5u(hr:∀x∈bal,-100000≤x∧x≤100000){l:List Int}(hl:l.length≤1000)(hx:∀x∈l,0≤x∧x<(bal.length:Int)) :
  ∀(n k:Nat) (s:Int),l.length<n+k→k≤l.length→-100000*(k:Int)≤s∧s≤100000*(k:Int)→zero1_l1 N n bal s l (l.length:Int) k=some (s+grpS bal (l.drop k))
 | 0,k,s,h,hk,_=>by omega
 | n+1,k,s,h,hk,hs=>by
  unfold zero1_l1
  by_cases c:k<l.length
  ·have hb:=Ut hr (by decide) (l.getD k 0).toNat
   have hxk:=hx _ (Av (d:=0) c)
   rw[Ax (by omega),idx_eq (by omega) (gets c 0),idx_eq hxk.1 (show bal[(l.getD k 0).toNat]?=some (bal.getD (l.getD k 0).toNat 0)by
    rw[List.getD_eq_getElem?_getD (l:=bal),List.getElem?_eq_getElem (by omega)];rfl),Af (by omega),Af (by omega),←O8,A5u hr hl hx n (k+1) _ (by omega) (by omega) (by rw[O8];omega),Nw c,grpS,Int.add_assoc]
  ·rw[Ae (by omega),List.drop_of_length_le (by omega)]
   simp[grpS]
theorem B4a(hN:1001≤N)(hr:∀x∈bal,-100000≤x∧x≤100000){l:List Int}(hl:l.length≤1000)(hx:∀x∈l,0≤x∧x<(bal.length:Int)):Ru N l bal=some (decide (grpS bal l=0)):=by
 unfold Ru
 have h:zero1_l1 N N bal 0 l (l.length:Int) 0=some (0+grpS bal (l.drop 0)):=A5u (N:=N) hr hl hx N 0 0 (by omega) (by omega) (by simp)
 rw[h,List.drop_zero,Int.zero_add]
 rfl
theorem Ac2(hN:1001≤N)(hr:∀x∈bal,-100000≤x∧x≤100000){now:Gl}(hn:now.length≤1000)(hx:∀r∈now,r.length≤1000∧∀x∈r,0≤x∧x<(bal.length:Int)) :
  ∀(n k:Nat),now.length<n+k→k≤now.length→∃e,ixfz_l1 N n now (now.length:Int) k bal=some e∧((allZ bal (now.drop k)=true∧e=.inr bal)∨(allZ bal (now.drop k)=false∧∃j:Nat,e=.inl ((j:Int),bal)))
 | 0,k,h,hk=>by omega
 | n+1,k,h,hk=>by
  unfold ixfz_l1
  by_cases c:k<now.length
  ·have hrk:=hx _ (Av (d:=[]) c)
   have hd:now.drop k=now.getD k []::now.drop (k+1):=by
    rw[List.drop_eq_getElem_cons c,List.getD_eq_getElem?_getD,List.getElem?_eq_getElem c];rfl
   rw[Ax (by omega),idx_eq (by omega) (gets c [])]
   unfold Li
   rw[B4a hN hr hrk.1 hrk.2]
   simp only[Option.bind_some]
   by_cases z:grpS bal (now.getD k [])=0
   ·obtain⟨e,h1,h2⟩:=Ac2 hN hr hn hx n (k+1) (by omega) (by omega)
    rw[show(!decide (grpS bal (now.getD k [])=0))=false by rw[decide_eq_true z];rfl,Bq,Af (by omega),←O8,h1,hd]
    refine⟨e,rfl,?_⟩
    have:allZ bal (now.getD k []::now.drop (k+1))=allZ bal (now.drop (k+1)):=by simp only[allZ,List.all_cons,z,decide_true,Bool.true_and]
    rw[this];exact h2
   ·rw[show(!decide (grpS bal (now.getD k [])=0))=true by rw[decide_eq_false z];rfl,Ah9,hd]
    exact⟨_,rfl,.inr ⟨by simp only[allZ,List.all_cons,z,decide_false,Bool.false_and],k,rfl⟩⟩
  ·rw[Ae (by omega),List.drop_of_length_le (by omega)]
   exact⟨_,rfl,.inl ⟨rfl,rfl⟩⟩
theorem Azd(hN:1001≤N)(hr:∀x∈bal,-100000≤x∧x≤100000){now:Gl}(hn:now.length≤1000)(hx:∀r∈now,r.length≤1000∧∀x∈r,0≤x∧x<(bal.length:Int)):Ls N now bal=some (allZ bal now):=by
 unfold Ls A54 ixfz_S
 obtain⟨e,h1,h2⟩:=Ac2 (N:=N) hN hr hn hx N 0 (by omega) (by omega)
 have h1:ixfz_l1 N N now (now.length:Int) 0 bal=some e:=h1
 rw[h1]
 rw[List.drop_zero]at h2
 rcases h2 with⟨h3,rfl⟩ | ⟨h3,j,rfl⟩
 ·rw[h3];rfl
 ·rw[h3]
  have:decide ((0:Int)≤(j:Int))=true:=by simp
  simp only[Option.bind_some,this]
  rfl
end
abbrev ptr(b:Nat):Value:=.pointer (some ⟨b,0,none⟩)
structure EnvG (M:Nat→Option Obj) (bB bP bN bO:Nat) (bal:List Int) (aB:Option Addr) (cB:Nat):Prop where
 hB:∃ty:CTy,M bB=some (.cells (List.toArray [.slice aB bal.length cB]) ty.1 ty.2)
 hP:∃ty:CTy,M bP=some (.cells (List.toArray [.func (.func 90) #[] #[ptr bB,ptr bP,ptr bN,ptr bO]]) ty.1 ty.2)
 rep:RepS M 1 (RepC M (.int .i64)) bal (.slice aB bal.length cB)
 len:bal.length≤1000
 rng:∀x∈bal,-100000≤x∧x≤100000
section
variable {M:Nat→Option Obj} {bB bP bN bO:Nat} {bal:List Int} {aB:Option Addr} {cB:Nat} {w:World}
theorem EnvG.cellB(h:EnvG M bB bP bN bO bal aB cB)(hM:∀b o,M b=some o→w.heap[b]?=some o):w.cell? ⟨bB,0,none⟩=some (.slice aB bal.length cB):=by
 obtain⟨ty,e⟩:=h.hB
 exact A1z (hM _ _ e) rfl
theorem EnvG.cellP(h:EnvG M bB bP bN bO bal aB cB)(hM:∀b o,M b=some o→w.heap[b]?=some o):w.cell? ⟨bP,0,none⟩=some (.func (.func 90) #[] #[ptr bB,ptr bP,ptr bN,ptr bO]):=by
 obtain⟨ty,e⟩:=h.hP
 exact A1z (hM _ _ e) rfl
theorem EnvG.ints(h:EnvG M bB bP bN bO bal aB cB)(hM:∀b o,M b=some o→w.heap[b]?=some o):Ints .i64 0 w (.slice aB bal.length cB) bal:=by
 obtain⟨cs,h1,h2⟩:=B0x (g:=⟨fun _=>none,M⟩) (t:=.int .i64) hM h.rep
 obtain⟨rfl,-⟩:=(A2i bal cs).1 h1
 exact h2
def gA(w:World):Gh:=⟨fun _=>none,fun b=>w.heap[b]?⟩
theorem B2j(w:World){H:List Blk'}(hH:H=[]):Sim (gA w) (fun i=>H[i]?) w:=by
 subst hH
 exact⟨fun b o h=>h,fun i k hk=>(by simp at hk),fun i j ki kj b ci ni cj nj h1=>(by simp at h1)⟩
theorem A38{e:TypeId}{lo:Nat}{w:World}{v:Value}{l:List Int}{ab:List Nat}(h:Acc e 1 lo w v l.length (l.map (.int .i64)) ab)(hl:l.length≤1000000)(hx:∀x∈l,inR .i64 x):RepS (gA w).M 1 (RepC (gA w).M (.int .i64)) l v:=by
 obtain⟨-,⟨rfl,h2,_⟩ | ⟨b,cap,rest,rfl,_,_,h3,_,ty,h5⟩⟩:=h
 ·have:l=[]:=List.eq_nil_of_length_eq_zero h2
  subst this
  exact⟨by simp,none,0,rfl,Nat.le_refl _,.inl rfl⟩
 ·refine⟨by omega,_,cap,rfl,h3.1,.inr ⟨b,0,_,(ty,(0,0)),rfl,h5,fun k x hk=>⟨[.int .i64 x],fun j u hj=>?_,rfl,hx x (List.mem_of_getElem? hk)⟩⟩⟩
  cases j with
  | zero=>
   simp only[List.getElem?_cons_zero,Option.some.injEq]at hj
   subst hj
   simp only[Nat.mul_one,Nat.zero_add,Nat.add_zero]
   rw[List.getElem?_append_left (by have:=(List.getElem?_eq_some_iff.1 hk).1;simpa using this)]
   simp[hk]
  | succ j=>simp at hj
theorem Arp{n:Nat}(hn:n≤1000){l:List Int}(hx:∀x∈l,0≤x∧x<(n:Int)):∀x∈l,inR .i64 x:=fun x h=>by
 have:=hx x h
 constructor
 ·show(-9223372036854775808:Int)≤x;omega
 ·show x≤(9223372036854775807:Int);omega
variable {tN tO:TypeId} {now out:Gl} {vN vO:Value} {vs us:List Value} {ab ob:List Nat} {rb:Nat→List Nat} {col:Nat→Nat}
theorem PS.rep(h:PS M bN bO tN tO w now out vN vO vs us ab ob rb col){n:Nat}(hn:n≤1000)(hb:now.length≤1000)(hr:∀r∈now,r.length≤1000∧∀x∈r,0≤x∧x<(n:Int)) :
  RepS (gA w).M 1 (RepC (gA w).M (.sl (.int .i64))) now vN:=by
 have hvl:=h.nO.len1
 obtain⟨-,⟨e,h2,_⟩ | ⟨b,cap,rest,e,_,_,h3,_,ty,h5⟩⟩:=h.nO
 ·have:now=[]:=List.eq_nil_of_length_eq_zero h2
  subst this;subst e
  exact⟨by simp,none,0,rfl,Nat.le_refl _,.inl rfl⟩
 ·subst e
  refine⟨by omega,_,cap,rfl,h3.1,.inr ⟨b,0,_,(ty,(0,0)),rfl,h5,fun k x hk=>?_⟩⟩
  obtain⟨hkl,ex⟩:=List.getElem?_eq_some_iff.1 hk
  have e2:now.getD k []=x:=by rw[List.getD_eq_getElem?_getD,hk];rfl
  have hm:=hr x (List.mem_of_getElem? hk)
  have h6:=h.nR k hkl
  rw[e2]at h6
  refine⟨[vs.getD k undef],fun j u hj=>?_,_,rfl,A38 h6 (by omega) (Arp hn hm.2)⟩
  cases j with
  | zero=>
   simp only[List.getElem?_cons_zero,Option.some.injEq]at hj
   subst hj
   simp only[Nat.mul_one,Nat.zero_add,Nat.add_zero]
   rw[List.getElem?_append_left (by omega),List.getD_eq_getElem?_getD,List.getElem?_eq_getElem (by omega)];rfl
  | succ j=>simp at hj
theorem Avw(hE:EnvG M bB bP bN bO bal aB cB)(h:PS M bN bO tN tO w now out vN vO vs us ab ob rb col)(hb:NB bal bal.length now) :
  Fn Try.prog 91 #[vN,.func (.func 92) #[] #[ptr bB]] w (fun v w'=>Ext w w'∧v=.bool (allZ bal now)):=by
 have hn:now.length≤1000:=by have:=hb.n;have:=hE.len;omega
 have hr:∀r∈now,r.length≤1000∧∀x∈r,0≤x∧x<(bal.length:Int):=fun r hr=>⟨by have:=(hb.r r hr).2.1;have:=hE.len;omega,(hb.r r hr).2.2⟩
 have hv:=Azd (N:=1001) (Nat.le_refl _) hE.rng hn hr
 have hrun:(Aax 1001).run ((now,((),(bal,())),()),()) some=some ((allZ bal now,()),()):=by
  show((Ls 1001 now bal).bind fun r=>some ((r,()),()))=_
  rw[hv];rfl
 obtain⟨ty,eB⟩:=hE.hB
 have hge:∀b o,M b=some o→(gA w).M b=some o:=fun b o e=>h.mem b o e
 have hfe:RepV (gA w) (.fe (.sl (.int .i64)) bal 0) (ptr bB):=
  ⟨bB,0,_,ty,[.slice aB bal.length cB],rfl,hge _ _ eB,fun j u hj=>by rw[Nat.zero_add];exact hj,_,rfl,RepS.mono hE.rep hge (fun x us hx=>RepC.mono hge (.int .i64) x us hx)⟩
 have h2:=(Age 1001).fn ((now,((),(bal,())),()),()) _ hrun (gA w) w [vN,.func (.func 92) #[] #[ptr bB]]
  ⟨_,_,rfl,h.rep hE.len hn hr,_,_,rfl,⟨[],[ptr bB],rfl,rfl,_,_,rfl,hfe,rfl⟩,rfl⟩ (B2j w rfl) (fun _ _=>rfl)
 refine Fn.mono h2 ?_
 rintro v' w' ⟨g',st,hs',hv'⟩
 exact⟨⟨st.os,st.tape,st.output,st.size,fun k hk _=>st.same k hk (by rintro ⟨i,hi,_⟩;have h:i∈([]:List Nat):=hi;simp at h)⟩,hv'⟩
theorem Axj{r:List Int}{v:Value}(hr:RepS (gA w).M 1 (RepC (gA w).M (.int .i64)) r v)(hn:r≠[])(hl:r.length≤1000000) :
  Fn Try.prog 59 #[v] w (fun v' w'=>Ext w w'∧OR w' r v'∧w.heap.size≤blkO v'):=by
 have hrun:(Ac3 0).run ((r,()),()) some=some (((),()),(r,())):=by
  show((Ir 0 r).bind fun r=>some (((),()),(r,())))=_
  unfold Ir
  rw[Gz (by simp[hn]),No (by simpa using hl)]
  simp
 have h:=(X9 0).fn ((r,()),()) _ hrun (gA w) w [v] ⟨_,_,rfl,hr,rfl⟩ (B2j w rfl) (fun _ _=>rfl)
 refine Fn.mono h ?_
 rintro v' w' ⟨g',st,hs',hv'⟩
 refine⟨⟨st.os,st.tape,st.output,st.size,fun k hk _=>st.same k hk (by rintro ⟨i,hi,_⟩;have h:i∈([]:List Nat):=hi;simp at h)⟩,?_⟩
 have hb:=hs'.blk 0 (.lst (.int .i64) r) rfl
 simp only[RepBlk]at hb
 simp only[altOf,encs,enc,resVal,RepV]at hv'
 obtain⟨h1,⟨_,h2⟩ | ⟨b,c,vs,rest,ty,h2,h3,h4,⟨h5,h6⟩,h7,h8⟩⟩:=hb
 ·exact absurd h2 hn
 ·rcases hv' with⟨h9,_⟩ | ⟨b',c',n',h9,rfl⟩
  ·rw[show(id 0:Nat)=0 from rfl,h2]at h9;cases h9
  ·rw[show(id 0:Nat)=0 from rfl,h2]at h9
   cases h9
   obtain⟨rfl,h10⟩:=(A2i r vs).1 h4
   refine⟨⟨b,c,rest,ty,rfl,h5,h1,h10,h3⟩,?_⟩
   rcases st.ρb 0 b c r.length rfl h2 with h | ⟨i,hi,_⟩
   ·exact h
   ·have h:i∈([]:List Nat):=hi;simp at h
theorem Att{P:Program}{t e:TypeId}{sz b n c h:Nat}(he:P.underlying t=some (.slice e))(hsz:szOf P e=some sz)(hhn:h≤n)(hnc:n≤c)(hc:0<c)(w:World) :
  (Instr.sliceAt t (.slice (some ⟨b,0,none⟩) n c) none (some (.int .i64 (h:Int))) none).run P w=.ok (.slice (some ⟨b,0,none⟩) h c) w:=by
 have:=A0f (P:=P) (a:=some ⟨b,0,none⟩) (n:=n) (c:=c) (l:=0) (h:=h) he hsz none (some (.i64,(h:Int))) rfl rfl (Nat.zero_le _) hhn hnc w
 have hc0:¬c=0:=by omega
 simp only[hc0,if_false,Option.map_some,Nat.sub_zero,Nat.zero_mul,Option.map_none]at this
 rw[this,Au]
end
end Go.Proofs.Ytgeijboidfadaaa.Fe

namespace Go.Proofs.Ytgeijboidfadaaa.Fe
set_option linter.all false
open Go

def Rch(bal:List Int):Nat→Nat→Gl→Gl→Prop
 | 0,_,now,T=>now=T
 | n+1,i,now,T=>(bal.getD i 0=0∧Rch bal n (i+1) now T)∨(bal.getD i 0≠0∧(Rch bal n (i+1) (now++[[(i:Int)]]) T∨∃g,g<now.length∧Rch bal n (i+1) (now.set g (now.getD g []++[(i:Int)])) T))
section
variable {bal:List Int}
theorem Wl:∀(n i:Nat) (now out:Gl),out.length≤(putF bal n i now out).length
 | 0,i,now,out=>by
  unfold putF
  split
  ·omega
  ·omega
 | n+1,i,now,out=>by
  unfold putF
  split
  ·exact Wl n (i+1) now out
  ·refine Nat.le_trans ?_ (Wl n (i+1) _ _)
   generalize List.range now.length=gs
   induction gs generalizing out with
   | nil=>exact Nat.le_refl _
   | cons g gs ih=>exact Nat.le_trans (Wl n (i+1) _ out) (ih _)
theorem We{n i:Nat}{now:Gl}(gs:List Nat)(out:Gl):out.length≤(gs.foldl (fun o g=>putF bal n (i+1) (now.set g (now.getD g []++[(i:Int)])) o) out).length:=by
 induction gs generalizing out with
 | nil=>exact Nat.le_refl _
 | cons g gs ih=>exact Nat.le_trans (Wl n (i+1) _ out) (ih _)
theorem X2:∀(n i:Nat) (now out T:Gl),Rch bal n i now T→allZ bal T=true→T.length≤(putF bal n i now out).length
 | 0,i,now,out,T,h,hz=>by
  have h:now=T:=h
  subst h
  unfold putF
  split
  ·omega
  ·rename_i c
   have:¬out.length<now.length:=fun h=>c ⟨hz,h⟩
   omega
 | n+1,i,now,out,T,h,hz=>by
  unfold putF
  rcases h with⟨h0,h⟩ | ⟨h0,h⟩
  ·rw[if_pos h0];exact X2 n (i+1) now out T h hz
  ·rw[if_neg h0]
   rcases h with h | ⟨g,hg,h⟩
   ·exact X2 n (i+1) _ _ T h hz
   ·refine Nat.le_trans ?_ (Wl n (i+1) _ _)
    have hm:g∈List.range now.length:=List.mem_range.2 hg
    generalize List.range now.length=gs at hm
    induction gs generalizing out with
    | nil=>cases hm
    | cons k gs ih=>
     rcases List.mem_cons.1 hm with rfl | hm
     ·exact Nat.le_trans (X2 n (i+1) _ out T h hz) (We gs _)
     ·exact ih _ hm
theorem Wx:∀(n i:Nat) (now out:Gl),putF bal n i now out=out∨(Rch bal n i now (putF bal n i now out)∧allZ bal (putF bal n i now out)=true)
 | 0,i,now,out=>by
  unfold putF
  split
  ·rename_i c;exact .inr ⟨rfl,c.1⟩
  ·exact .inl rfl
 | n+1,i,now,out=>by
  unfold putF
  split
  ·rename_i c
   rcases Wx n (i+1) now out with h | h
   ·exact .inl h
   ·exact .inr ⟨.inl ⟨c,h.1⟩,h.2⟩
  ·rename_i c
   rcases Wx n (i+1) (now++[[(i:Int)]]) ((List.range now.length).foldl (fun o g=>putF bal n (i+1) (now.set g (now.getD g []++[(i:Int)])) o) out)with h | h
   ·rw[h]
    have hm:∀g∈List.range now.length,g<now.length:=fun g hg=>List.mem_range.1 hg
    generalize List.range now.length=gs at hm ⊢
    clear h
    suffices hs:(gs.foldl (fun o g=>putF bal n (i+1) (now.set g (now.getD g []++[(i:Int)])) o) out)=out∨(∃g,g<now.length∧Rch bal n (i+1) (now.set g (now.getD g []++[(i:Int)])) (gs.foldl (fun o g=>putF bal n (i+1) (now.set g (now.getD g []++[(i:Int)])) o) out))∧allZ bal (gs.foldl (fun o g=>putF bal n (i+1) (now.set g (now.getD g []++[(i:Int)])) o) out)=true by
     rcases hs with h | ⟨h1,h2⟩
     ·exact .inl h
     ·exact .inr ⟨.inr ⟨c,.inr h1⟩,h2⟩
    induction gs generalizing out with
    | nil=>exact .inl rfl
    | cons g gs ih=>
     have h1:=ih (putF bal n (i+1) (now.set g (now.getD g []++[(i:Int)])) out) (fun k hk=>hm k (List.mem_cons_of_mem _ hk))
     rcases h1 with h1 | h1
     ·rcases Wx n (i+1) (now.set g (now.getD g []++[(i:Int)])) out with h2 | ⟨h2,h3⟩
      ·rw[List.foldl_cons,h1,h2];exact .inl rfl
      ·rw[List.foldl_cons,h1];exact .inr ⟨⟨g,hm g (List.mem_cons_self ..),h2⟩,h3⟩
     ·exact .inr h1
   ·exact .inr ⟨.inr ⟨c,.inl h.1⟩,h.2⟩
def nzL(bal:List Int)(i:Nat):List Int:=((List.range i).filter fun p=>decide (bal.getD p 0≠0)).map fun(p:Nat)=>(p:Int)
theorem A3v(i:Nat):nzL bal (i+1)=if bal.getD i 0=0 then nzL bal i else nzL bal i++[(i:Int)]:=by
 unfold nzL
 rw[List.range_succ,List.filter_append]
 by_cases h:bal.getD i 0=0
 ·rw[if_pos h,List.filter_cons_of_neg (by simpa using h),List.filter_nil,List.append_nil]
 ·rw[if_neg h,List.filter_cons_of_pos (by simpa using h),List.filter_nil,List.map_append];rfl
structure GP (bal:List Int) (i:Nat) (now:Gl):Prop where
 ne:∀r∈now,r≠[]
 pm:now.flatten.Perm (nzL bal i)
theorem B0d(now:Gl)(g:Nat)(x:Int)(hg:g<now.length):(now.set g (now.getD g []++[x])).flatten.Perm (now.flatten++[x]):=by
 induction now generalizing g with
 | nil=>simp at hg
 | cons r now ih=>
  cases g with
  | zero=>
   simp only[List.set_cons_zero,List.getD_cons_zero,List.flatten_cons,List.append_assoc]
   exact List.Perm.append_left r (List.perm_append_comm)
  | succ g=>
   simp only[List.set_cons_succ,List.getD_cons_succ,List.flatten_cons,List.append_assoc]
   exact List.Perm.append_left r (ih g (by simpa using hg))
theorem A7y:∀(n i:Nat) (now T:Gl),Rch bal n i now T→GP bal i now→GP bal (i+n) T
 | 0,i,now,T,h,hg=>by have h:now=T:=h;subst h;exact hg
 | n+1,i,now,T,h,hg=>by
  have e:i+(n+1)=i+1+n:=by omega
  rw[e]
  rcases h with⟨h0,h⟩ | ⟨h0,h⟩
  ·exact A7y n (i+1) now T h ⟨hg.ne,by rw[A3v,if_pos h0];exact hg.pm⟩
  ·rcases h with h | ⟨g,hgl,h⟩
   ·refine A7y n (i+1) _ T h ⟨fun r hr=>?_,?_⟩
    ·rcases List.mem_append.1 hr with h1 | h1
     ·exact hg.ne r h1
     ·simp only[List.mem_singleton]at h1;subst h1;simp
    ·rw[A3v,if_neg h0,List.flatten_append]
     exact List.Perm.append_right _ hg.pm
   ·refine A7y n (i+1) _ T h ⟨fun r hr=>?_,?_⟩
    ·rcases List.mem_or_eq_of_mem_set hr with h1 | h1
     ·exact hg.ne r h1
     ·subst h1;simp
    ·rw[A3v,if_neg h0]
     exact(B0d now g i hgl).trans (List.Perm.append_right _ hg.pm)
theorem As3{i:Nat}{x:Int}:x∈nzL bal i↔∃p:Nat,x=p∧p<i∧bal.getD p 0≠0:=by
 unfold nzL
 simp only[List.mem_map,List.mem_filter,List.mem_range,decide_eq_true_eq]
 constructor
 ·rintro ⟨p,⟨h1,h2⟩,rfl⟩;exact⟨p,rfl,h1,h2⟩
 ·rintro ⟨p,rfl,h1,h2⟩;exact⟨p,⟨h1,h2⟩,rfl⟩
theorem Abd(i:Nat):(nzL bal i).Nodup:=by
 unfold nzL
 exact List.Pairwise.map (fun(p:Nat)=>(p:Int)) (fun a b h e=>h (by omega)) (List.nodup_range.filter _)
end
end Go.Proofs.Ytgeijboidfadaaa.Fe

namespace Go.Proofs.Ytgeijboidfadaaa.Fe
set_option linter.all false
open Go

noncomputable def c90:Code:=(Try.f90.body).getD .skip
noncomputable def B5f:List Item:=[.code (sub c90 [0,0]),.code (sub c90 [0,1]),.code (sub c90 [1])]
noncomputable def B4x:List Item:=[.code (sub c90 [0,1]),.code (sub c90 [1])]
noncomputable def B5a:List Item:=[.code (sub c90 [0,1,0,0]),.code (sub c90 [0,1,0,1]),.code (sub c90 [1])]
noncomputable def B5g:List Item:=[.code (sub c90 [1,0,0]),.code (sub c90 [1,0,1]),.code (sub c90 [1,1])]
noncomputable def B7l:List Item:=[.code (sub c90 [0,1,0,1]),.code (sub c90 [1])]
noncomputable def B5b:List Item:=[.code (sub c90 [1,0,1]),.code (sub c90 [1,1])]
noncomputable def B58:List Item:=[.code (sub c90 [1,0,1,0,0,0]),.code (sub c90 [1,0,1,0,0,1]),.code (sub c90 [1,0,1,0,1]),.code (sub c90 [1,1])]
noncomputable def B53:List Item:=[.code (sub c90 [1,1,0]),.code (sub c90 [1,1,1])]
noncomputable def B0h:List Item:=[.code (sub c90 [1,0,1,0,0,1,0,0,0]),.code (sub c90 [1,0,1,0,0,1,0,0,1]),.inLoop (sub c90 [1,0,1,0,0,1,0,0]),.inBlock 0,.code (sub c90 [1,0,1,0,1]),.code (sub c90 [1,1])]
noncomputable def B7y:List Item:=[.code (sub c90 [1,1,1,0]),.code (sub c90 [1,1,1,1])]
noncomputable def Azj:List Item:=[.code (sub c90 [1,0,1,0,0,1,0,0,1,0]),.code (sub c90 [1,0,1,0,0,1,0,0,1,1]),.inLoop (sub c90 [1,0,1,0,0,1,0,0]),.inBlock 0,.code (sub c90 [1,0,1,0,1]),.code (sub c90 [1,1])]
noncomputable def B0l:List Item:=[.code (sub c90 [1,1,1,1])]
noncomputable def Azx:List Item:=[.code (sub c90 [1,0,1,0,0,1,0,0,1,1,0,0,0]),.code (sub c90 [1,0,1,0,0,1,0,0,1,1,0,0,1]),.inBlock 1,.code (sub c90 [1,0,1,0,0,1,0,0,1,1,1]),.inLoop (sub c90 [1,0,1,0,0,1,0,0]),.inBlock 0,.code (sub c90 [1,0,1,0,1]),.code (sub c90 [1,1])]
noncomputable def Aqc:List Item:=[.code (sub c90 [1,0,1,0,1,0]),.code (sub c90 [1,0,1,0,1,1]),.code (sub c90 [1,1])]
noncomputable def Ayn:List Item:=[.code (sub c90 [1,1,1,1,0,0]),.code (sub c90 [1,1,1,1,0,1])]
noncomputable def A70:List Item:=[]
noncomputable def B78:List Item:=[.code (sub c90 [1,0,1,0,0,1,0,0,1,1,0,0,1,0]),.code (sub c90 [1,0,1,0,0,1,0,0,1,1,0,0,1,1]),.inBlock 1,.code (sub c90 [1,0,1,0,0,1,0,0,1,1,1]),.inLoop (sub c90 [1,0,1,0,0,1,0,0]),.inBlock 0,.code (sub c90 [1,0,1,0,1]),.code (sub c90 [1,1])]
noncomputable def B64:List Item:=[.code (sub c90 [1,0,1,0,1,1,0]),.code (sub c90 [1,0,1,0,1,1,1]),.code (sub c90 [1,1])]
noncomputable def B5o:List Item:=[.code (sub c90 [1,1,1,1,0,1,0]),.code (sub c90 [1,1,1,1,0,1,1])]
noncomputable def B6v:List Item:=[.code (sub c90 [1,0,1,0,0,1,0,0,1,1,0,0,1,1,0]),.code (sub c90 [1,0,1,0,0,1,0,0,1,1,0,0,1,1,1]),.inBlock 1,.code (sub c90 [1,0,1,0,0,1,0,0,1,1,1]),.inLoop (sub c90 [1,0,1,0,0,1,0,0]),.inBlock 0,.code (sub c90 [1,0,1,0,1]),.code (sub c90 [1,1])]
noncomputable def B75:List Item:=[.code (sub c90 [1,0,1,0,1,1,1,0]),.code (sub c90 [1,0,1,0,1,1,1,1]),.code (sub c90 [1,1])]
noncomputable def Ao9:List Item:=[.code (sub c90 [1,1,1,1,0,1,1,0,0,0]),.code (sub c90 [1,1,1,1,0,1,1,0,0,1]),.inLoop (sub c90 [1,1,1,1,0,1,1,0,0]),.inBlock 2]
noncomputable def B62:List Item:=[.code (sub c90 [1,0,1,0,0,1,0,0,1,1,0,0,1,1,1]),.inBlock 1,.code (sub c90 [1,0,1,0,0,1,0,0,1,1,1]),.inLoop (sub c90 [1,0,1,0,0,1,0,0]),.inBlock 0,.code (sub c90 [1,0,1,0,1]),.code (sub c90 [1,1])]
noncomputable def B66:List Item:=[.code (sub c90 [1,0,1,0,1,1,1,1]),.code (sub c90 [1,1])]
noncomputable def B26:List Item:=[.code (sub c90 [1,1,1,1,0,1,1,0,0,1,0]),.code (sub c90 [1,1,1,1,0,1,1,0,0,1,1]),.inLoop (sub c90 [1,1,1,1,0,1,1,0,0]),.inBlock 2]
noncomputable def B6r:List Item:=[.code (sub c90 [1,0,1,0,0,1,0,0,1,1,1]),.inLoop (sub c90 [1,0,1,0,0,1,0,0]),.inBlock 0,.code (sub c90 [1,0,1,0,1]),.code (sub c90 [1,1])]
noncomputable def B1d:List Item:=[.code (sub c90 [1,1,1,1,0,1,1,0,0,1,1,0,0,0]),.code (sub c90 [1,1,1,1,0,1,1,0,0,1,1,0,0,1]),.inBlock 3,.code (sub c90 [1,1,1,1,0,1,1,0,0,1,1,1]),.inLoop (sub c90 [1,1,1,1,0,1,1,0,0]),.inBlock 2]
noncomputable def B5t:List Item:=[.code (sub c90 [1,1,1,1,0,1,1,0,0,1,1,0,0,1]),.inBlock 3,.code (sub c90 [1,1,1,1,0,1,1,0,0,1,1,1]),.inLoop (sub c90 [1,1,1,1,0,1,1,0,0]),.inBlock 2]
noncomputable def B5y:List Item:=[.code (sub c90 [1,1,1,1,0,1,1,0,0,1,1,1]),.inLoop (sub c90 [1,1,1,1,0,1,1,0,0]),.inBlock 2]

theorem addI{n:Nat}(h:n≤100000):Value.int .i64 (IntKind.i64.wrap ((n:Int)+1))=.int .i64 ((n+1:Nat):Int):=by
 have:=int64 (z:=(n:Int)+1) (by omega)
 rw[this];congr 1
theorem subI{n:Nat}(h:n≤100000):Value.int .i64 (IntKind.i64.wrap (((n+1:Nat):Int)-1))=.int .i64 (n:Int):=by
 have:=int64 (z:=((n+1:Nat):Int)-1) (by omega)
 rw[this];congr 1;omega
def PQ(M:Nat→Option Obj)(bN bO:Nat)(tN tO:TypeId)(w:World)(col:Nat→Nat)(now out:Gl)(w':World):Prop:=
 ∃vN vO vs us ab ob rb col',PS M bN bO tN tO w' now out vN vO vs us ab ob rb col'∧Fr col w col' w'
def Amu(M:Nat→Option Obj)(bB bP bN bO:Nat)(tN tO:TypeId)(bal:List Int)(n i:Nat):Prop:=
 ∀ {w:World} {now out:Gl} {vN vO:Value} {vs us:List Value} {ab ob:List Nat} {rb:Nat→List Nat} {col:Nat→Nat},PS M bN bO tN tO w now out vN vO vs us ab ob rb col→NB bal i now →
  Fn Try.prog 90 #[.int .i64 (i:Int),ptr bB,ptr bP,ptr bN,ptr bO] w (fun _ w'=>PQ M bN bO tN tO w col now (putF bal n i now out) w')
theorem PS.slN{M:Nat→Option Obj}{bN bO:Nat}{tN tO:TypeId}{w:World}{now out:Gl}{vN vO:Value}{vs us:List Value}{ab ob:List Nat}{rb:Nat→List Nat}{col:Nat→Nat}(h:PS M bN bO tN tO w now out vN vO vs us ab ob rb col):∃aN cN,vN=.slice aN now.length cN:=h.nO.shape
theorem PS.slO{M:Nat→Option Obj}{bN bO:Nat}{tN tO:TypeId}{w:World}{now out:Gl}{vN vO:Value}{vs us:List Value}{ab ob:List Nat}{rb:Nat→List Nat}{col:Nat→Nat}(h:PS M bN bO tN tO w now out vN vO vs us ab ob rb col):∃aO cO,vO=.slice aO out.length cO:=h.oO.shape
section
variable {M:Nat→Option Obj} {bB bP bN bO:Nat} {tN tO:TypeId} {bal:List Int} {aB:Option Addr} {cB:Nat}

set_option maxHeartbeats 1000000 in
theorem Axr{X:Ctx}{df:List Deferred}{i:Nat}{w0:World}{col0:Nat→Nat}{now:Gl}{vs:List Value}{aN:Option Addr}{cN:Nat}{ab:List Nat}{rb:Nat→List Nat}(hE:EnvG M bB bP bN bO bal aB cB)(hb:NB bal bal.length now)
  (hk:∀w,PQ M bN bO tN tO w0 col0 now now w→St Try.prog X 100 A70 [(0,(.int .i64 (i:Int))),(1,(ptr bB)),(2,(ptr bP)),(3,(ptr bN)),(4,(ptr bO))] df w) :
  ∀(n k:Nat) {w:World} {vO:Value} {us:List Value} {ob:List Nat} {col:Nat→Nat},k+n=now.length→PS M bN bO tN tO w now (now.take k) (.slice aN now.length cN) vO vs us ab ob rb col→Fr col0 w0 col w→(∀j∈ob,w0.heap.size≤j) →
   St Try.prog X 100 Ao9 [(88,(.slice aN now.length cN)),(89,(.int .i64 (now.length:Int))),(90,(.int .i64 (k:Int))),(0,(.int .i64 (i:Int))),(1,(ptr bB)),(2,(ptr bP)),(3,(ptr bN)),(4,(ptr bO))] df w:=by
 intro n
 induction n with
 | zero=>?z
 | succ n ih=>?s
 case z=>
  intro k w vO us ob col hkn hS hf hob
  obtain rfl:k=now.length:=by omega
  rw[List.take_length]at hS
  refine St.reg B26 [(0,true)] (by kernel_rfl) (by kernel_rfl) ?_
  refine RX.q 1 [] [(91,(.bool (decide ((now.length:Int)<(now.length:Int))))),(88,(.slice aN now.length cN)),(89,(.int .i64 (now.length:Int))),(90,(.int .i64 (now.length:Int))),(0,(.int .i64 (i:Int))),(1,(ptr bB)),(2,(ptr bP)),(3,(ptr bN)),(4,(ptr bO))] [] (by kernel_rfl) trivial ?_
  refine RX.done [(91,(.bool (decide ((now.length:Int)<(now.length:Int))))),(88,(.slice aN now.length cN)),(89,(.int .i64 (now.length:Int))),(90,(.int .i64 (now.length:Int))),(0,(.int .i64 (i:Int))),(1,(ptr bB)),(2,(ptr bP)),(3,(ptr bN)),(4,(ptr bO))] (by kernel_rfl) (by kernel_rfl) ?_
  refine St.cond (k1:=B1d) (k2:=A70) (decide ((now.length:Int)<(now.length:Int))) (by kernel_rfl) (fun hc=>absurd hc (by simp)) (fun hc=>?_)
  refine St.weak (L':=[(0,(.int .i64 (i:Int))),(1,(ptr bB)),(2,(ptr bP)),(3,(ptr bN)),(4,(ptr bO))]) (by kernel_rfl) (hk w ⟨_,_,_,_,_,_,_,_,hS,hf⟩)
 case s=>
  intro k w vO us ob col hkn hS hf hob
  have hkl:k<now.length:=by omega
  have hnl:now.length≤1000:=by have:=hb.n;have:=hE.len;omega
  refine St.reg B26 [(0,true)] (by kernel_rfl) (by kernel_rfl) ?_
  refine RX.q 1 [] [(91,(.bool (decide ((k:Int)<(now.length:Int))))),(88,(.slice aN now.length cN)),(89,(.int .i64 (now.length:Int))),(90,(.int .i64 (k:Int))),(0,(.int .i64 (i:Int))),(1,(ptr bB)),(2,(ptr bP)),(3,(ptr bN)),(4,(ptr bO))] [] (by kernel_rfl) trivial ?_
  refine RX.done [(91,(.bool (decide ((k:Int)<(now.length:Int))))),(88,(.slice aN now.length cN)),(89,(.int .i64 (now.length:Int))),(90,(.int .i64 (k:Int))),(0,(.int .i64 (i:Int))),(1,(ptr bB)),(2,(ptr bP)),(3,(ptr bN)),(4,(ptr bO))] (by kernel_rfl) (by kernel_rfl) ?_
  refine St.cond (k1:=B1d) (k2:=A70) (decide ((k:Int)<(now.length:Int))) (by kernel_rfl) (fun hc=>?_) (fun hc=>absurd hc (by simp;omega))
  refine St.weak (L':=[(88,(.slice aN now.length cN)),(89,(.int .i64 (now.length:Int))),(90,(.int .i64 (k:Int))),(0,(.int .i64 (i:Int))),(1,(ptr bB)),(2,(ptr bP)),(3,(ptr bN)),(4,(ptr bO))]) (by kernel_rfl) ?_
  obtain⟨b1,o1,-,-,hix,hcl⟩:=Sl.at (P:=Try.prog) (t:=24) (e:=23) hS.nO.sl (by kernel_rfl) (by kernel_rfl) (by decide) k hkl
  have hvl:=hS.nO.len1
  have hc1:w.cell? ⟨b1,o1,none⟩=some (vs.getD k undef):=by
   have:=hcl 0 (by decide)
   simp only[Nat.mul_one,Nat.add_zero]at this
   rw[this,List.getD_eq_getElem?_getD,List.getElem?_eq_getElem (by omega)];rfl
  refine St.reg B5t [(0,true),(1,true),(2,true)] (by kernel_rfl) (by kernel_rfl) ?_
  refine RX.q 3 [(0,true,(.pointer (some ⟨b1,o1,none⟩))),(1,true,(vs.getD k undef))] [(9,(vs.getD k undef)),(88,(.slice aN now.length cN)),(89,(.int .i64 (now.length:Int))),(90,(.int .i64 (k:Int))),(0,(.int .i64 (i:Int))),(1,(ptr bB)),(2,(ptr bP)),(3,(ptr bN)),(4,(ptr bO))] [.raw (Instr.indexAt 24 (.slice aN now.length cN) (.int .i64 (k:Int))) (.pointer (some ⟨b1,o1,none⟩)),.cell ⟨b1,o1,none⟩ (vs.getD k undef)] (by kernel_rfl) ⟨hix w,hc1⟩ ?_
  refine RX.done [(9,(vs.getD k undef)),(88,(.slice aN now.length cN)),(89,(.int .i64 (now.length:Int))),(90,(.int .i64 (k:Int))),(0,(.int .i64 (i:Int))),(1,(ptr bB)),(2,(ptr bP)),(3,(ptr bN)),(4,(ptr bO))] (by kernel_rfl) (by kernel_rfl) ?_
  have hm:=hb.r _ (Av (d:=[]) hkl)
  have hrow:=A38 (hS.nR k hkl) (by have:=hE.len;omega) (Arp hE.len hm.2.2)
  obtain⟨aO,cO,rfl⟩:=hS.slO
  refine St.drw B5y ob [(0,true),(1,true),(2,false),(3,false),(4,false),(5,false)] mixed (by kernel_rfl) (by kernel_rfl) ?_
  intro w1 hx1 hs1
  have hS1:=hS.step hx1 (fun k h=>by cases h)
  have hcO:=Blk.cell (i:=0) hS1.cO rfl
  have hbO:bO∉ob:=fun h=>by have:=hS.kB bO h;have:=hS.kO;omega
  refine RX.qd 2 [(0,true,(.slice aO (now.take k).length cO))] [(94,(.slice aO (now.take k).length cO)),(95,(vs.getD k undef)),(88,(.slice aN now.length cN)),(89,(.int .i64 (now.length:Int))),(90,(.int .i64 (k:Int))),(0,(.int .i64 (i:Int))),(1,(ptr bB)),(2,(ptr bP)),(3,(ptr bN)),(4,(ptr bO))] [.cell ⟨bO,0,none⟩ (.slice aO (now.take k).length cO)] (by kernel_rfl) hcO hbO ?_
  refine RX.callD 96 59 #[vs.getD k undef] [(94,(.slice aO (now.take k).length cO)),(95,(vs.getD k undef)),(88,(.slice aN now.length cN)),(89,(.int .i64 (now.length:Int))),(90,(.int .i64 (k:Int))),(0,(.int .i64 (i:Int))),(1,(ptr bB)),(2,(ptr bP)),(3,(ptr bN)),(4,(ptr bO))] (fun _=>by kernel_rfl) (by kernel_rfl) ?_
  have hrow1:RepS (gA w1).M 1 (RepC (gA w1).M (.int .i64)) (now.getD k []) (vs.getD k undef):=A38 (hS1.nR k hkl) (by have:=hE.len;omega) (Arp hE.len hm.2.2)
  refine Fn.mono (Axj hrow1 hm.1 (by have:=hE.len;omega)) ?_
  rintro v2 w2 ⟨hx2,hor,hge⟩
  refine⟨hx2.up,?_⟩
  have hS2:=hS1.step hx2 (fun k h=>by cases h)
  obtain⟨rb2,rc2,rr2,rt2,rfl,-⟩:=id hor
  have hge:w1.heap.size≤rb2:=hge
  refine RX.newD 97 (.cells #[(.slice (some ⟨rb2,0,none⟩) (now.getD k []).length rc2)] 23) (.sl 1) [(96,(.slice (some ⟨rb2,0,none⟩) (now.getD k []).length rc2)),(94,(.slice aO (now.take k).length cO)),(95,(vs.getD k undef)),(88,(.slice aN now.length cN)),(89,(.int .i64 (now.length:Int))),(90,(.int .i64 (k:Int))),(0,(.int .i64 (i:Int))),(1,(ptr bB)),(2,(ptr bP)),(3,(ptr bN)),(4,(ptr bO))] (by kernel_rfl) ?_
  intro b3 w3 hn3
  have hS3:=hS2.step hn3.ext (fun k h=>by cases h)
  obtain⟨-,-,by1,zv,hT,-⟩:=Ci (P:=Try.prog) (t:=24) (e:=23) (y:=.sl (.int .i64)) (by kernel_rfl)
  have hT:Pm Try.prog 24 23 1 by1 zv:=hT
  have hb3:Blk w3 b3 [(.slice (some ⟨rb2,0,none⟩) (now.getD k []).length rc2)] 23:=hn3.blk
  obtain⟨v4,w4,ob4,hr4,hA4,hU4,hg4,-⟩:=append_run (P:=Try.prog) (u:=24) (ty:=24) (lo:=0) (lo2:=0) hT (by kernel_rfl) hS3.oO (Sl.ofBlk (n:=1) (cap:=1) (cs:=[(.slice (some ⟨rb2,0,none⟩) (now.getD k []).length rc2)]) (rest:=[]) hb3 (Nat.le_refl _) rfl (Nat.zero_le _)) (fun c hc=>by simp only[List.mem_singleton]at hc;subst hc;rfl) (by rw[List.length_take];omega) (Nat.zero_le _)
  refine RX.runD 98 (Builtin.append_ #[24,24] 24 #[(.slice aO (now.take k).length cO),.slice (some ⟨b3,0,none⟩) 1 1]) [(97,(.slice (some ⟨b3,0,none⟩) 1 1)),(96,(.slice (some ⟨rb2,0,none⟩) (now.getD k []).length rc2)),(94,(.slice aO (now.take k).length cO)),(95,(vs.getD k undef)),(88,(.slice aN now.length cN)),(89,(.int .i64 (now.length:Int))),(90,(.int .i64 (k:Int))),(0,(.int .i64 (i:Int))),(1,(ptr bB)),(2,(ptr bP)),(3,(ptr bN)),(4,(ptr bO))] (by kernel_rfl) hr4 hU4 ?_
  have hne:rb2∉ob:=fun h=>by have:=(hS.oO.lt rb2 h).2;omega
  have hlt2:rb2<w3.heap.size:=by have:=hor.lt;have h5:=hn3.size;simp only[blkO]at this;omega
  have hor4:OR w4 (now.getD k []) (.slice (some ⟨rb2,0,none⟩) (now.getD k []).length rc2):=(hor.upd hn3.ext (by simp)).upd hU4 hne
  have hcO4:Blk w4 bO [(.slice aO (now.take k).length cO)] tO:=hU4.blk hS3.cO hbO
  obtain⟨a4,c4,rfl⟩:=hA4.shape
  have htk:now.take k++[now.getD k []]=now.take (k+1):=by
   rw[List.take_succ,List.getD_eq_getElem?_getD,List.getElem?_eq_getElem hkl];rfl
  refine RX.store1L bO 0 (.slice a4 ((now.take k).length+1) c4) [(.slice aO (now.take k).length cO)] tO (by kernel_rfl) rfl hcO4 (by simp) (by kernel_rfl) ?_
  intro w5 hp5
  have hs12:w1.heap.size≤w3.heap.size:=by have:=hx2.size;have:=hn3.size;omega
  have hob1:∀j∈ob,j<w1.heap.size:=fun j hj=>(hS1.oO.lt j hj).2
  obtain⟨col',hS5,hf5⟩:=hS1.best (w1:=w4) (w2:=w5) (r:=now.getD k []) (v:=(.slice (some ⟨rb2,0,none⟩) (now.getD k []).length rc2)) (ob':=ob4) hor4 ⟨hge,fun h=>by
    rcases hg4 _ h with h1 | h1
    ·exact hne h1
    ·simp only[blkO]at h1;omega⟩ (Upd.trans (Upd.trans hx2.up hn3.ext.up) hU4) hA4 (fun j hj=>(hg4 j hj).imp (fun h=>h) (fun h=>by omega)) hp5 (hf.trans (Fr.upd hx1 (fun k h=>by cases h) (fun k _=>.inl rfl))) hob
  refine RX.done [(88,(.slice aN now.length cN)),(89,(.int .i64 (now.length:Int))),(90,(.int .i64 (k:Int))),(0,(.int .i64 (i:Int))),(1,(ptr bB)),(2,(ptr bP)),(3,(ptr bN)),(4,(ptr bO))] (by kernel_rfl) (by kernel_rfl) ?_
  refine St.reg Ao9 [(0,true),(1,true)] (by kernel_rfl) (by kernel_rfl) ?_
  refine RX.q 2 [(0,false,(.int .i64 ((k+1:Nat):Int)))] [(88,(.slice aN now.length cN)),(89,(.int .i64 (now.length:Int))),(90,(.int .i64 ((k+1:Nat):Int))),(0,(.int .i64 (i:Int))),(1,(ptr bB)),(2,(ptr bP)),(3,(ptr bN)),(4,(ptr bO))] [.eq (.int .i64 (IntKind.i64.wrap ((k:Int)+1))) (.int .i64 ((k+1:Nat):Int))] (by kernel_rfl) (addI (by omega)) ?_
  refine RX.done [(88,(.slice aN now.length cN)),(89,(.int .i64 (now.length:Int))),(90,(.int .i64 ((k+1:Nat):Int))),(0,(.int .i64 (i:Int))),(1,(ptr bB)),(2,(ptr bP)),(3,(ptr bN)),(4,(ptr bO))] (by kernel_rfl) (by kernel_rfl) ?_
  rw[htk]at hS5
  have hsw:w0.heap.size≤w1.heap.size:=by have:=hf.size;have:=hx1.size;omega
  exact ih (k+1) (by omega) hS5 hf5 (fun j hj=>by
   rcases hg4 j hj with h | h
   ·exact hob j h
   ·omega)
set_option maxHeartbeats 1000000 in
theorem B1s(hE:EnvG M bB bP bN bO bal aB cB){i:Nat}(hi:i=bal.length):Amu M bB bP bN bO tN tO bal 0 i:=by
 intro w now out vN vO vs us ab ob rb col hS hb
 obtain⟨aN,cN,rfl⟩:=hS.slN
 obtain⟨aO,cO,rfl⟩:=hS.slO
 rw[hi]at hb
 have hcB:=hE.cellB hS.mem
 have hnl:¬(i:Int)<(bal.length:Int):=by omega
 have hcN:=Blk.cell (i:=0) hS.cN rfl
 have hcO:=Blk.cell (i:=0) hS.cO rfl
 refine Fn.ofSt (c:=c90) 100 B5f [(0,(.int .i64 (i:Int))),(1,(ptr bB)),(2,(ptr bP)),(3,(ptr bN)),(4,(ptr bO))] Try.func90 (by kernel_rfl) ⟨⟨rfl,by kernel_rfl⟩,by kernel_rfl⟩ (by kernel_rfl) ?_
 intro cs
 refine St.reg B4x [(0,true),(1,true),(2,true),(3,true),(4,true),(5,true),(6,true),(7,true),(8,true),(9,true),(10,true)] (by kernel_rfl) (by kernel_rfl) ?_
 refine RX.q 11 [(1,true,(.slice aB bal.length cB)),(3,false,.bool false)] [(20,(.bool false)),(0,(.int .i64 (i:Int))),(1,(ptr bB)),(2,(ptr bP)),(3,(ptr bN)),(4,(ptr bO))] [.cell ⟨bB,0,none⟩ (.slice aB bal.length cB),.eq (.bool (decide ((i:Int)<(bal.length:Int)))) (.bool false)] (by kernel_rfl) ⟨hcB,B5d hnl⟩ ?_
 refine RX.done [(20,(.bool false)),(0,(.int .i64 (i:Int))),(1,(ptr bB)),(2,(ptr bP)),(3,(ptr bN)),(4,(ptr bO))] (by kernel_rfl) (by kernel_rfl) ?_
 refine St.cond (k1:=B5a) (k2:=B5g) false (by kernel_rfl) (fun hc=>by cases hc) (fun hc=>?_)
 refine St.weak (L':=[(0,(.int .i64 (i:Int))),(1,(ptr bB)),(2,(ptr bP)),(3,(ptr bN)),(4,(ptr bO))]) (by kernel_rfl) ?_
 refine St.reg B5b [(0,true),(1,true),(2,true),(3,true)] (by kernel_rfl) (by kernel_rfl) ?_
 refine RX.q 4 [(1,true,(.slice aB bal.length cB)),(3,false,.bool false)] [(28,(.bool false)),(0,(.int .i64 (i:Int))),(1,(ptr bB)),(2,(ptr bP)),(3,(ptr bN)),(4,(ptr bO))] [.cell ⟨bB,0,none⟩ (.slice aB bal.length cB),.eq (.bool (decide ((i:Int)<(bal.length:Int)))) (.bool false)] (by kernel_rfl) ⟨hcB,B5d hnl⟩ ?_
 refine RX.done [(28,(.bool false)),(0,(.int .i64 (i:Int))),(1,(ptr bB)),(2,(ptr bP)),(3,(ptr bN)),(4,(ptr bO))] (by kernel_rfl) (by kernel_rfl) ?_
 refine St.cond (k1:=B58) (k2:=B53) false (by kernel_rfl) (fun hc=>by cases hc) (fun hc=>?_)
 refine St.weak (L':=[(0,(.int .i64 (i:Int))),(1,(ptr bB)),(2,(ptr bP)),(3,(ptr bN)),(4,(ptr bO))]) (by kernel_rfl) ?_
 refine St.reg B7y [(0,true),(1,true),(2,false),(3,true)] (by kernel_rfl) (by kernel_rfl) ?_
 refine RX.q 2 [(0,true,(.slice aN now.length cN))] [(77,(.slice aN now.length cN)),(78,(.func (.func 92) #[] #[ptr bB])),(0,(.int .i64 (i:Int))),(1,(ptr bB)),(2,(ptr bP)),(3,(ptr bN)),(4,(ptr bO))] [.cell ⟨bN,0,none⟩ (.slice aN now.length cN)] (by kernel_rfl) hcN ?_
 refine RX.call 79 91 #[(.slice aN now.length cN),(.func (.func 92) #[] #[ptr bB])] [(77,(.slice aN now.length cN)),(78,(.func (.func 92) #[] #[ptr bB])),(0,(.int .i64 (i:Int))),(1,(ptr bB)),(2,(ptr bP)),(3,(ptr bN)),(4,(ptr bO))] (fun _=>by kernel_rfl) (by kernel_rfl) ?_
 refine Fn.mono (Avw hE hS hb) ?_
 rintro v1 w1 ⟨hx1,rfl⟩
 have hS1:=hS.step hx1 (fun k h=>by cases h)
 have hf1:Fr col w col w1:=Fr.upd hx1 (fun k h=>by cases h) (fun k _=>.inl rfl)
 have hcN1:=Blk.cell (i:=0) hS1.cN rfl
 have hcO1:=Blk.cell (i:=0) hS1.cO rfl
 refine RX.q 1 [] [(7,(.bool (allZ bal now))),(0,(.int .i64 (i:Int))),(1,(ptr bB)),(2,(ptr bP)),(3,(ptr bN)),(4,(ptr bO))] [] (by kernel_rfl) trivial ?_
 refine RX.done [(7,(.bool (allZ bal now))),(0,(.int .i64 (i:Int))),(1,(ptr bB)),(2,(ptr bP)),(3,(ptr bN)),(4,(ptr bO))] (by kernel_rfl) (by kernel_rfl) ?_
 by_cases hz:allZ bal now=true
 rotate_left
 ·have hz2:allZ bal now=false:=by simpa using hz
  refine St.reg B0l [(0,true),(1,true),(2,true),(3,true),(4,true),(5,true),(6,true),(7,true)] (by kernel_rfl) (by kernel_rfl) ?_
  refine RX.q 8 [(0,false,.bool false)] [(87,(.bool false)),(0,(.int .i64 (i:Int))),(1,(ptr bB)),(2,(ptr bP)),(3,(ptr bN)),(4,(ptr bO))] [.eq (.bool (allZ bal now)) (.bool false)] (by kernel_rfl) (bF hz2) ?_
  refine RX.done [(87,(.bool false)),(0,(.int .i64 (i:Int))),(1,(ptr bB)),(2,(ptr bP)),(3,(ptr bN)),(4,(ptr bO))] (by kernel_rfl) (by kernel_rfl) ?_
  refine St.cond (k1:=Ayn) (k2:=A70) false (by kernel_rfl) (fun hc=>by cases hc) (fun hc=>?_)
  refine St.ret [] [] (by kernel_rfl) Try.func90 (by kernel_rfl) .nil ?_
  rw[show putF bal 0 i now out=out by simp[putF,hz2]]
  exact⟨_,_,_,_,_,_,_,_,hS1,hf1⟩
 refine St.reg B0l [(0,true),(1,true),(2,true),(3,true),(4,true),(5,true),(6,true),(7,true)] (by kernel_rfl) (by kernel_rfl) ?_
 refine RX.q 8 [(0,false,.bool true),(2,true,(.slice aN now.length cN)),(4,true,(.slice aO out.length cO))] [(87,(.bool (decide ((out.length:Int)<(now.length:Int))))),(0,(.int .i64 (i:Int))),(1,(ptr bB)),(2,(ptr bP)),(3,(ptr bN)),(4,(ptr bO))] [.eq (.bool (allZ bal now)) (.bool true),.cell ⟨bN,0,none⟩ (.slice aN now.length cN),.cell ⟨bO,0,none⟩ (.slice aO out.length cO)] (by kernel_rfl) ⟨bT hz,hcN1,hcO1⟩ ?_
 refine RX.done [(87,(.bool (decide ((out.length:Int)<(now.length:Int))))),(0,(.int .i64 (i:Int))),(1,(ptr bB)),(2,(ptr bP)),(3,(ptr bN)),(4,(ptr bO))] (by kernel_rfl) (by kernel_rfl) ?_
 refine St.cond (k1:=Ayn) (k2:=A70) (decide ((out.length:Int)<(now.length:Int))) (by kernel_rfl) (fun hc=>?_) (fun hc=>?_)
 rotate_left
 ·have hgt:¬out.length<now.length:=by have:¬(out.length:Int)<(now.length:Int):=by simpa using hc
                                      omega
  refine St.ret [] [] (by kernel_rfl) Try.func90 (by kernel_rfl) .nil ?_
  rw[show putF bal 0 i now out=out by simp[putF,hgt]]
  exact⟨_,_,_,_,_,_,_,_,hS1,hf1⟩
 have hgt:out.length<now.length:=by have:(out.length:Int)<(now.length:Int):=by simpa using hc
                                    omega
 refine St.weak (L':=[(0,(.int .i64 (i:Int))),(1,(ptr bB)),(2,(ptr bP)),(3,(ptr bN)),(4,(ptr bO))]) (by kernel_rfl) ?_
 refine St.reg B5o [(0,false)] (by kernel_rfl) (by kernel_rfl) ?_
 refine RX.store1 bO 0 (.slice none 0 0) [(.slice aO out.length cO)] tO (by kernel_rfl) rfl hS1.cO (by simp) ?_
 intro w2 hp2
 obtain⟨hS2,hf2⟩:=hS1.noOut hp2
 have hcN2:=Blk.cell (i:=0) hS2.cN rfl
 refine RX.done [(0,(.int .i64 (i:Int))),(1,(ptr bB)),(2,(ptr bP)),(3,(ptr bN)),(4,(ptr bO))] (by kernel_rfl) (by kernel_rfl) ?_
 refine St.reg Ao9 [(0,true),(1,true),(2,true)] (by kernel_rfl) (by kernel_rfl) ?_
 refine RX.q 3 [(0,true,(.slice aN now.length cN))] [(88,(.slice aN now.length cN)),(89,(.int .i64 (now.length:Int))),(90,(.int .i64 ((0:Nat):Int))),(0,(.int .i64 (i:Int))),(1,(ptr bB)),(2,(ptr bP)),(3,(ptr bN)),(4,(ptr bO))] [.cell ⟨bN,0,none⟩ (.slice aN now.length cN)] (by kernel_rfl) hcN2 ?_
 refine RX.done [(88,(.slice aN now.length cN)),(89,(.int .i64 (now.length:Int))),(90,(.int .i64 ((0:Nat):Int))),(0,(.int .i64 (i:Int))),(1,(ptr bB)),(2,(ptr bP)),(3,(ptr bN)),(4,(ptr bO))] (by kernel_rfl) (by kernel_rfl) ?_
 have hf12:=hf1.trans hf2
 have hw:=Axr (tN:=tN) (tO:=tO) (X:=fctx Try.prog 90 (fun _ w'=>PQ M bN bO tN tO w col now (putF bal 0 i now out) w') cs) (df:=[]) (i:=i) (w0:=w2) (col0:=col) hE hb (fun w3 hq=>?_) now.length 0 (by omega) hS2 (Fr.refl _ _) (fun j hj=>by cases hj)
 ·exact hw
 refine St.ret [] [] (by kernel_rfl) Try.func90 (by kernel_rfl) .nil ?_
 rw[show putF bal 0 i now out=now by simp only[putF,hz,hgt,and_self,if_true]]
 obtain⟨vN,vO,vs,us,ab,ob,rb,col',h1,h2⟩:=hq
 exact⟨vN,vO,vs,us,ab,ob,rb,col',h1,hf12.trans h2⟩
end
end Go.Proofs.Ytgeijboidfadaaa.Fe

namespace Go.Proofs.Ytgeijboidfadaaa.Fe
set_option linter.all false
open Go

theorem B0t{α:Type}(l:List α)(g:Nat)(x d:α)(hg:g<l.length):(l.set g x).set g (l.getD g d)=l:=by
 rw[List.set_set]
 apply List.ext_getElem (by simp)
 intro j h1 h2
 rw[List.getElem_set]
 split
 ·rename_i e;subst e;simp[List.getD_eq_getElem?_getD,List.getElem?_eq_getElem hg]
 ·rfl
section
variable {M:Nat→Option Obj} {bB bP bN bO:Nat} {tN tO:TypeId} {bal:List Int} {aB:Option Addr} {cB:Nat}
set_option maxHeartbeats 2000000 in
theorem Az6{X:Ctx}{df:List Deferred}{n i:Nat}{w0:World}{col0:Nat→Nat}{now out0:Gl}(hE:EnvG M bB bP bN bO bal aB cB)(hi:i<bal.length)(hput:Amu M bB bP bN bO tN tO bal n (i+1))(hb:NB bal i now)
  (hk:∀w,PQ M bN bO tN tO w0 col0 now ((List.range now.length).foldl (fun o g=>putF bal n (i+1) (now.set g (now.getD g []++[(i:Int)])) o) out0) w→St Try.prog X 100 Aqc [(0,(.int .i64 (i:Int))),(1,(ptr bB)),(2,(ptr bP)),(3,(ptr bN)),(4,(ptr bO))] df w) :
  ∀(m g:Nat) {w:World},g+m=now.length→PQ M bN bO tN tO w0 col0 now ((List.range g).foldl (fun o g=>putF bal n (i+1) (now.set g (now.getD g []++[(i:Int)])) o) out0) w →
   St Try.prog X 100 B0h [(30,(.int .i64 (now.length:Int))),(31,(.int .i64 (g:Int))),(0,(.int .i64 (i:Int))),(1,(ptr bB)),(2,(ptr bP)),(3,(ptr bN)),(4,(ptr bO))] df w:=by
 obtain⟨-,-,by1,zv,hT,-⟩:=Ci (P:=Try.prog) (t:=23) (e:=3) (y:=.int .i64) (by kernel_rfl)
 have hT:Pm Try.prog 23 3 1 by1 zv:=hT
 have hnl:now.length≤1000:=by have:=hb.n;have:=hE.len;omega
 intro m
 induction m with
 | zero=>?z
 | succ m ih=>?s
 case z=>
  intro g w hgm hq
  obtain rfl:g=now.length:=by omega
  refine St.reg Azj [(0,true)] (by kernel_rfl) (by kernel_rfl) ?_
  refine RX.q 1 [] [(32,(.bool (decide ((now.length:Int)<(now.length:Int))))),(30,(.int .i64 (now.length:Int))),(31,(.int .i64 (now.length:Int))),(0,(.int .i64 (i:Int))),(1,(ptr bB)),(2,(ptr bP)),(3,(ptr bN)),(4,(ptr bO))] [] (by kernel_rfl) trivial ?_
  refine RX.done [(32,(.bool (decide ((now.length:Int)<(now.length:Int))))),(30,(.int .i64 (now.length:Int))),(31,(.int .i64 (now.length:Int))),(0,(.int .i64 (i:Int))),(1,(ptr bB)),(2,(ptr bP)),(3,(ptr bN)),(4,(ptr bO))] (by kernel_rfl) (by kernel_rfl) ?_
  refine St.cond (k1:=Azx) (k2:=Aqc) (decide ((now.length:Int)<(now.length:Int))) (by kernel_rfl) (fun hc=>absurd hc (by simp)) (fun hc=>?_)
  exact St.weak (L':=[(0,(.int .i64 (i:Int))),(1,(ptr bB)),(2,(ptr bP)),(3,(ptr bN)),(4,(ptr bO))]) (by kernel_rfl) (hk w hq)
 case s=>
  intro g w hgm hq
  have hg:g<now.length:=by omega
  refine St.reg Azj [(0,true)] (by kernel_rfl) (by kernel_rfl) ?_
  refine RX.q 1 [] [(32,(.bool (decide ((g:Int)<(now.length:Int))))),(30,(.int .i64 (now.length:Int))),(31,(.int .i64 (g:Int))),(0,(.int .i64 (i:Int))),(1,(ptr bB)),(2,(ptr bP)),(3,(ptr bN)),(4,(ptr bO))] [] (by kernel_rfl) trivial ?_
  refine RX.done [(32,(.bool (decide ((g:Int)<(now.length:Int))))),(30,(.int .i64 (now.length:Int))),(31,(.int .i64 (g:Int))),(0,(.int .i64 (i:Int))),(1,(ptr bB)),(2,(ptr bP)),(3,(ptr bN)),(4,(ptr bO))] (by kernel_rfl) (by kernel_rfl) ?_
  refine St.cond (k1:=Azx) (k2:=Aqc) (decide ((g:Int)<(now.length:Int))) (by kernel_rfl) (fun hc=>?_) (fun hc=>absurd hc (by simp;omega))
  refine St.weak (L':=[(30,(.int .i64 (now.length:Int))),(31,(.int .i64 (g:Int))),(0,(.int .i64 (i:Int))),(1,(ptr bB)),(2,(ptr bP)),(3,(ptr bN)),(4,(ptr bO))]) (by kernel_rfl) ?_
  refine St.reg B78 [(0,true),(1,true)] (by kernel_rfl) (by kernel_rfl) ?_
  refine RX.q 2 [] [(6,(.int .i64 (g:Int))),(30,(.int .i64 (now.length:Int))),(31,(.int .i64 (g:Int))),(0,(.int .i64 (i:Int))),(1,(ptr bB)),(2,(ptr bP)),(3,(ptr bN)),(4,(ptr bO))] [] (by kernel_rfl) trivial ?_
  refine RX.done [(6,(.int .i64 (g:Int))),(30,(.int .i64 (now.length:Int))),(31,(.int .i64 (g:Int))),(0,(.int .i64 (i:Int))),(1,(ptr bB)),(2,(ptr bP)),(3,(ptr bN)),(4,(ptr bO))] (by kernel_rfl) (by kernel_rfl) ?_
  obtain⟨vN,vO,vs,us,ab,ob,rb,col,hS,hf⟩:=hq
  refine St.drw B6v (rb g) [(0,true),(1,true),(2,true),(3,true),(4,true),(5,true),(6,true),(7,false),(8,false),(9,true),(10,false)] mixed (by kernel_rfl) (by kernel_rfl) ?_
  intro w1 hx1 hs1
  have hS1:=hS.step hx1 (fun k h=>by cases h)
  obtain⟨b,cap,rest,ty,rfl,hab,hcap,hrest,hB⟩:=hS1.nO.blk1 (by omega)
  have hvl:=hS1.nO.len1
  have hcN:=Blk.cell (i:=0) hS1.cN rfl
  have hNr:bN∉rb g:=fun h=>by have:=hS1.kR g hg bN h;have:=hS1.kN;omega
  have hbr:b∉rb g:=fun h=>by have:=hS1.kR g hg b h;have:=hS1.kA b (by simp[hab]);omega
  have ev:(vs++rest)[0+g*1]?=some (vs.getD g undef):=by
   rw[show 0+g*1=g by omega,List.getElem?_append_left (by omega),List.getD_eq_getElem?_getD,List.getElem?_eq_getElem (by omega)];rfl
  have hix:=Ayp (P:=Try.prog) (t:=24) (e:=23) (sz:=1) (by kernel_rfl) (by kernel_rfl) b 0 now.length cap g hg
  refine RX.qd 7 [(0,true,(.slice (some ⟨b,0,none⟩) now.length cap)),(2,true,(.slice (some ⟨b,0,none⟩) now.length cap)),(4,true,(.pointer (some ⟨b,0+g*1,none⟩))),(5,true,(vs.getD g undef))] [(34,(.slice (some ⟨b,0,none⟩) now.length cap)),(35,(.int .i64 (g:Int))),(39,(vs.getD g undef)),(40,(.int .i64 (i:Int))),(6,(.int .i64 (g:Int))),(30,(.int .i64 (now.length:Int))),(31,(.int .i64 (g:Int))),(0,(.int .i64 (i:Int))),(1,(ptr bB)),(2,(ptr bP)),(3,(ptr bN)),(4,(ptr bO))] [.cell ⟨bN,0,none⟩ (.slice (some ⟨b,0,none⟩) now.length cap),.cell ⟨bN,0,none⟩ (.slice (some ⟨b,0,none⟩) now.length cap),.raw (Instr.indexAt 24 (.slice (some ⟨b,0,none⟩) now.length cap) (.int .i64 (g:Int))) (.pointer (some ⟨b,0+g*1,none⟩)),.cell ⟨b,0+g*1,none⟩ (vs.getD g undef)] (by kernel_rfl) ⟨hcN,hcN,hix _,Blk.cell hB ev⟩ ⟨hNr,hNr,fun w' _=>hix w',hbr⟩ ?_
  refine RX.newD 41 (.cells #[(.int .i64 (i:Int))] 3) (.sl 1) [(34,(.slice (some ⟨b,0,none⟩) now.length cap)),(35,(.int .i64 (g:Int))),(39,(vs.getD g undef)),(40,(.int .i64 (i:Int))),(6,(.int .i64 (g:Int))),(30,(.int .i64 (now.length:Int))),(31,(.int .i64 (g:Int))),(0,(.int .i64 (i:Int))),(1,(ptr bB)),(2,(ptr bP)),(3,(ptr bN)),(4,(ptr bO))] (by kernel_rfl) ?_
  intro b3 w2 hn2
  have hS2:=hS1.step hn2.ext (fun k h=>by cases h)
  have hb3:Blk w2 b3 [(.int .i64 (i:Int))] 3:=hn2.blk
  have hrl:(now.getD g []).length≤1000:=by have:=(hb.r _ (Av (d:=[]) hg)).2.1;have:=hE.len;omega
  obtain⟨v3,w3,rb3,hr3,hA3,hU3,hg3,-⟩:=append_run (P:=Try.prog) (u:=23) (ty:=23) (lo:=0) (lo2:=0) hT (by kernel_rfl) (hS2.nR g hg) (Sl.ofBlk (n:=1) (cap:=1) (cs:=[(.int .i64 (i:Int))]) (rest:=[]) hb3 (Nat.le_refl _) rfl (Nat.zero_le _)) (fun c hc=>by simp only[List.mem_singleton]at hc;subst hc;rfl) (by omega) (Nat.zero_le _)
  refine RX.runD 42 (Builtin.append_ #[23,23] 23 #[(vs.getD g undef),.slice (some ⟨b3,0,none⟩) 1 1]) [(41,(.slice (some ⟨b3,0,none⟩) 1 1)),(34,(.slice (some ⟨b,0,none⟩) now.length cap)),(35,(.int .i64 (g:Int))),(39,(vs.getD g undef)),(40,(.int .i64 (i:Int))),(6,(.int .i64 (g:Int))),(30,(.int .i64 (now.length:Int))),(31,(.int .i64 (g:Int))),(0,(.int .i64 (i:Int))),(1,(ptr bB)),(2,(ptr bP)),(3,(ptr bN)),(4,(ptr bO))] (by kernel_rfl) hr3 hU3 ?_
  obtain⟨a3,c3,rfl⟩:=hA3.shape
  refine RX.qd 1 [(9,true,(.pointer (some ⟨b,0+g*1,none⟩)))] [(42,(.slice a3 ((now.getD g []).length+1) c3)),(43,(.pointer (some ⟨b,0+g*1,none⟩))),(6,(.int .i64 (g:Int))),(30,(.int .i64 (now.length:Int))),(31,(.int .i64 (g:Int))),(0,(.int .i64 (i:Int))),(1,(ptr bB)),(2,(ptr bP)),(3,(ptr bN)),(4,(ptr bO))] [.raw (Instr.indexAt 24 (.slice (some ⟨b,0,none⟩) now.length cap) (.int .i64 (g:Int))) (.pointer (some ⟨b,0+g*1,none⟩))] (by kernel_rfl) (hix _) (fun w' _=>hix w') ?_
  have hB2:Blk w2 b (vs++rest) ty:=hn2.ext.blk hB
  have hB3:Blk w3 b (vs++rest) ty:=hU3.blk hB2 hbr
  rw[show 0+g*1=g by omega]
  refine RX.store1L b g (.slice a3 ((now.getD g []).length+1) c3) (vs++rest) ty (by kernel_rfl) rfl hB3 (by simp;omega) (by kernel_rfl) ?_
  intro w4 hp4
  obtain⟨col4,hS4,hf4⟩:=hS2.grow hg rfl hab hB2 hU3 hA3 hg3 hp4
  refine RX.done [(6,(.int .i64 (g:Int))),(30,(.int .i64 (now.length:Int))),(31,(.int .i64 (g:Int))),(0,(.int .i64 (i:Int))),(1,(ptr bB)),(2,(ptr bP)),(3,(ptr bN)),(4,(ptr bO))] (by kernel_rfl) (by kernel_rfl) ?_
  refine St.reg B62 [(0,true),(1,true),(2,true),(3,false)] (by kernel_rfl) (by kernel_rfl) ?_
  have hcF:=hE.cellP hS4.mem
  refine RX.q 3 [(0,true,(.func (.func 90) #[] #[ptr bB,ptr bP,ptr bN,ptr bO])),(2,false,(.int .i64 ((i+1:Nat):Int)))] [(44,(.func (.func 90) #[] #[ptr bB,ptr bP,ptr bN,ptr bO])),(46,(.int .i64 ((i+1:Nat):Int))),(6,(.int .i64 (g:Int))),(30,(.int .i64 (now.length:Int))),(31,(.int .i64 (g:Int))),(0,(.int .i64 (i:Int))),(1,(ptr bB)),(2,(ptr bP)),(3,(ptr bN)),(4,(ptr bO))] [.cell ⟨bP,0,none⟩ (.func (.func 90) #[] #[ptr bB,ptr bP,ptr bN,ptr bO]),.eq (.int .i64 (IntKind.i64.wrap ((i:Int)+1))) (.int .i64 ((i+1:Nat):Int))] (by kernel_rfl) ⟨hcF,addI (by have:=hE.len;omega)⟩ ?_
  refine RX.call 47 90 #[.int .i64 ((i+1:Nat):Int),ptr bB,ptr bP,ptr bN,ptr bO] [(44,(.func (.func 90) #[] #[ptr bB,ptr bP,ptr bN,ptr bO])),(46,(.int .i64 ((i+1:Nat):Int))),(6,(.int .i64 (g:Int))),(30,(.int .i64 (now.length:Int))),(31,(.int .i64 (g:Int))),(0,(.int .i64 (i:Int))),(1,(ptr bB)),(2,(ptr bP)),(3,(ptr bN)),(4,(ptr bO))] (fun _=>by kernel_rfl) (by kernel_rfl) ?_
  refine Fn.mono (hput hS4 (hb.grow hi hg)) ?_
  rintro-w5 ⟨vN5,vO5,vs5,us5,ab5,ob5,rb5,col5,hS5,hf5⟩
  refine RX.done [(6,(.int .i64 (g:Int))),(30,(.int .i64 (now.length:Int))),(31,(.int .i64 (g:Int))),(0,(.int .i64 (i:Int))),(1,(ptr bB)),(2,(ptr bP)),(3,(ptr bN)),(4,(ptr bO))] (by kernel_rfl) (by kernel_rfl) ?_
  refine St.drw B6r [] [(0,true),(1,true),(2,true),(3,true),(4,true),(5,true),(6,true),(7,true),(8,true),(9,true),(10,true),(11,true),(12,true),(13,true),(14,false)] mixed (by kernel_rfl) (by kernel_rfl) ?_
  intro w6 hx6 hs6
  have hS6:=hS5.step hx6 (fun k h=>by cases h)
  have hlen5:(now.set g (now.getD g []++[(i:Int)])).length=now.length:=by simp
  have hg5:g<(now.set g (now.getD g []++[(i:Int)])).length:=by omega
  obtain⟨b6,cap6,rest6,ty6,rfl,hab6,hcap6,hrest6,hB6⟩:=hS6.nO.blk1 (by omega)
  have hvl6:=hS6.nO.len1
  have hcN6:=Blk.cell (i:=0) hS6.cN rfl
  have ev6:(vs5++rest6)[0+g*1]?=some (vs5.getD g undef):=by
   rw[show 0+g*1=g by omega,List.getElem?_append_left (by omega),List.getD_eq_getElem?_getD,List.getElem?_eq_getElem (by omega)];rfl
  have hix6:=Ayp (P:=Try.prog) (t:=24) (e:=23) (sz:=1) (by kernel_rfl) (by kernel_rfl) b6 0 (now.set g (now.getD g []++[(i:Int)])).length cap6 g hg5
  have hrow6:=hS6.nR g hg5
  rw[Br _ _ _ _ _ hg,if_pos rfl]at hrow6
  obtain⟨b7,cap7,rest7,ty7,hv7,hrb7,hcap7,hrest7,hB7⟩:=hrow6.blk1 (by simp)
  have hl7:(now.getD g []++[(i:Int)]).length=(now.getD g []).length+1:=by rw[List.length_append];rfl
  rw[hl7]at hv7 hrow6 hcap7
  rw[List.map_append,hv7]at hrow6
  rw[hv7]at ev6
  have hcell6:=Blk.cell hB6 ev6
  obtain⟨hue,-,-,-,-,-⟩:=Ci (P:=Try.prog) (t:=23) (e:=3) (y:=.int .i64) (by kernel_rfl)
  have hct:∀w',(Instr.sliceAt 23 (.slice (some ⟨b7,0,none⟩) ((now.getD g []).length+1) cap7) none (some (.int .i64 ((now.getD g []).length:Int))) none).run Try.prog w'=.ok (.slice (some ⟨b7,0,none⟩) (now.getD g []).length cap7) w':=fun w'=>
   Att (P:=Try.prog) hue (show szOf Try.prog 3=some 1 by kernel_rfl) (by omega) (by omega) (by omega) w'

  refine RX.qd 14 [(0,true,(.slice (some ⟨b6,0,none⟩) (now.set g (now.getD g []++[(i:Int)])).length cap6)),(2,true,(.slice (some ⟨b6,0,none⟩) (now.set g (now.getD g []++[(i:Int)])).length cap6)),(4,true,(.pointer (some ⟨b6,0+g*1,none⟩))),(5,true,(.slice (some ⟨b7,0,none⟩) ((now.getD g []).length+1) cap7)),(6,true,(.slice (some ⟨b6,0,none⟩) (now.set g (now.getD g []++[(i:Int)])).length cap6)),(8,true,(.pointer (some ⟨b6,0+g*1,none⟩))),(9,true,(.slice (some ⟨b7,0,none⟩) ((now.getD g []).length+1) cap7)),(11,false,(.int .i64 ((now.getD g []).length:Int))),(12,true,(.slice (some ⟨b7,0,none⟩) (now.getD g []).length cap7)),(13,true,(.pointer (some ⟨b6,0+g*1,none⟩)))] [(60,(.slice (some ⟨b7,0,none⟩) (now.getD g []).length cap7)),(61,(.pointer (some ⟨b6,0+g*1,none⟩))),(6,(.int .i64 (g:Int))),(30,(.int .i64 (now.length:Int))),(31,(.int .i64 (g:Int))),(0,(.int .i64 (i:Int))),(1,(ptr bB)),(2,(ptr bP)),(3,(ptr bN)),(4,(ptr bO))] [.cell ⟨bN,0,none⟩ (.slice (some ⟨b6,0,none⟩) (now.set g (now.getD g []++[(i:Int)])).length cap6),.cell ⟨bN,0,none⟩ (.slice (some ⟨b6,0,none⟩) (now.set g (now.getD g []++[(i:Int)])).length cap6),.raw (Instr.indexAt 24 (.slice (some ⟨b6,0,none⟩) (now.set g (now.getD g []++[(i:Int)])).length cap6) (.int .i64 (g:Int))) (.pointer (some ⟨b6,0+g*1,none⟩)),.cell ⟨b6,0+g*1,none⟩ (.slice (some ⟨b7,0,none⟩) ((now.getD g []).length+1) cap7),.cell ⟨bN,0,none⟩ (.slice (some ⟨b6,0,none⟩) (now.set g (now.getD g []++[(i:Int)])).length cap6),.raw (Instr.indexAt 24 (.slice (some ⟨b6,0,none⟩) (now.set g (now.getD g []++[(i:Int)])).length cap6) (.int .i64 (g:Int))) (.pointer (some ⟨b6,0+g*1,none⟩)),.cell ⟨b6,0+g*1,none⟩ (.slice (some ⟨b7,0,none⟩) ((now.getD g []).length+1) cap7),.eq (.int .i64 (IntKind.i64.wrap ((((now.getD g []).length+1:Nat):Int)-1))) (.int .i64 ((now.getD g []).length:Int)),.raw (Instr.sliceAt 23 (.slice (some ⟨b7,0,none⟩) ((now.getD g []).length+1) cap7) none (some (.int .i64 ((now.getD g []).length:Int))) none) (.slice (some ⟨b7,0,none⟩) (now.getD g []).length cap7),.raw (Instr.indexAt 24 (.slice (some ⟨b6,0,none⟩) (now.set g (now.getD g []++[(i:Int)])).length cap6) (.int .i64 (g:Int))) (.pointer (some ⟨b6,0+g*1,none⟩))] (by kernel_rfl) ⟨hcN6,hcN6,hix6 _,hcell6,hcN6,hix6 _,hcell6,subI (by omega),hct _,hix6 _⟩ ⟨List.not_mem_nil,List.not_mem_nil,fun w' _=>hix6 w',List.not_mem_nil,List.not_mem_nil,fun w' _=>hix6 w',List.not_mem_nil,trivial,fun w' _=>hct w',fun w' _=>hix6 w'⟩ ?_
  rw[show 0+g*1=g by omega]
  refine RX.store1L b6 g (.slice (some ⟨b7,0,none⟩) (now.getD g []).length cap7) (vs5++rest6) ty6 (by kernel_rfl) rfl hB6 (by simp;omega) (by kernel_rfl) ?_
  intro w7 hp7
  obtain⟨hS7,hf7⟩:=hS6.cut hg5 rfl hab6 hB6 hrow6.pop hp7
  rw[B0t _ _ _ _ hg,hlen5]at hS7
  refine RX.done [(30,(.int .i64 (now.length:Int))),(31,(.int .i64 (g:Int))),(0,(.int .i64 (i:Int))),(1,(ptr bB)),(2,(ptr bP)),(3,(ptr bN)),(4,(ptr bO))] (by kernel_rfl) (by kernel_rfl) ?_
  refine St.reg B0h [(0,true),(1,true)] (by kernel_rfl) (by kernel_rfl) ?_
  refine RX.q 2 [(0,false,(.int .i64 ((g+1:Nat):Int)))] [(30,(.int .i64 (now.length:Int))),(31,(.int .i64 ((g+1:Nat):Int))),(0,(.int .i64 (i:Int))),(1,(ptr bB)),(2,(ptr bP)),(3,(ptr bN)),(4,(ptr bO))] [.eq (.int .i64 (IntKind.i64.wrap ((g:Int)+1))) (.int .i64 ((g+1:Nat):Int))] (by kernel_rfl) (addI (by omega)) ?_
  refine RX.done [(30,(.int .i64 (now.length:Int))),(31,(.int .i64 ((g+1:Nat):Int))),(0,(.int .i64 (i:Int))),(1,(ptr bB)),(2,(ptr bP)),(3,(ptr bN)),(4,(ptr bO))] (by kernel_rfl) (by kernel_rfl) ?_
  refine ih (g+1) (by omega) ?_
  rw[List.range_succ,List.foldl_append]
  exact⟨_,_,_,_,_,_,_,_,hS7,((((hf.trans (Fr.upd hx1 (fun k h=>by cases h) (fun k _=>.inl rfl))).trans (Fr.upd hn2.ext (fun k h=>by cases h) (fun k _=>.inl rfl))).trans hf4).trans hf5).trans ((Fr.upd hx6 (fun k h=>by cases h) (fun k _=>.inl rfl)).trans hf7)⟩
set_option maxHeartbeats 2000000 in
theorem B0o(hE:EnvG M bB bP bN bO bal aB cB){n i:Nat}(hi:i<bal.length)(hput:Amu M bB bP bN bO tN tO bal n (i+1)):Amu M bB bP bN bO tN tO bal (n+1) i:=by
 intro w now out vN vO vs us ab ob rb col hS hb
 obtain⟨aN,cN,rfl⟩:=hS.slN
 have hcB:=hE.cellB hS.mem
 have hcF:=hE.cellP hS.mem
 have hcN:=Blk.cell (i:=0) hS.cN rfl
 have hil:(i:Int)<(bal.length:Int):=by omega
 have hnl:now.length≤1000:=by have:=hb.n;have:=hE.len;omega
 obtain⟨bx,ox,-,-,hix,hcx⟩:=Ints.at (P:=Try.prog) (t:=23) (e:=3) (hE.ints hS.mem) (by kernel_rfl) (by kernel_rfl) i hi
 refine Fn.ofSt (c:=c90) 100 B5f [(0,(.int .i64 (i:Int))),(1,(ptr bB)),(2,(ptr bP)),(3,(ptr bN)),(4,(ptr bO))] Try.func90 (by kernel_rfl) ⟨⟨rfl,by kernel_rfl⟩,by kernel_rfl⟩ (by kernel_rfl) ?_
 intro cs
 refine St.reg B4x [(0,true),(1,true),(2,true),(3,true),(4,true),(5,true),(6,true),(7,true),(8,true),(9,true),(10,true)] (by kernel_rfl) (by kernel_rfl) ?_
 refine RX.q 11 [(1,true,(.slice aB bal.length cB)),(3,false,.bool true),(5,true,(.slice aB bal.length cB)),(7,true,(.pointer (some ⟨bx,ox,none⟩))),(8,true,(.int .i64 (bal.getD i 0)))] [(20,(.bool ((bal.getD i 0)==0))),(0,(.int .i64 (i:Int))),(1,(ptr bB)),(2,(ptr bP)),(3,(ptr bN)),(4,(ptr bO))] [.cell ⟨bB,0,none⟩ (.slice aB bal.length cB),.eq (.bool (decide ((i:Int)<(bal.length:Int)))) (.bool true),.cell ⟨bB,0,none⟩ (.slice aB bal.length cB),.raw (Instr.indexAt 23 (.slice aB bal.length cB) (.int .i64 (i:Int))) (.pointer (some ⟨bx,ox,none⟩)),.cell ⟨bx,ox,none⟩ (.int .i64 (bal.getD i 0))] (by kernel_rfl) ⟨hcB,B5c hil,hcB,hix _,hcx⟩ ?_
 refine RX.done [(20,(.bool ((bal.getD i 0)==0))),(0,(.int .i64 (i:Int))),(1,(ptr bB)),(2,(ptr bP)),(3,(ptr bN)),(4,(ptr bO))] (by kernel_rfl) (by kernel_rfl) ?_
 refine St.cond (k1:=B5a) (k2:=B5g) ((bal.getD i 0)==0) (by kernel_rfl) (fun hc=>?_) (fun hc=>?_)
 ·have hz:(bal.getD i 0)=0:=by simpa using hc
  refine St.weak (L':=[(0,(.int .i64 (i:Int))),(1,(ptr bB)),(2,(ptr bP)),(3,(ptr bN)),(4,(ptr bO))]) (by kernel_rfl) ?_
  refine St.reg B7l [(0,true),(1,true),(2,true),(3,false)] (by kernel_rfl) (by kernel_rfl) ?_
  refine RX.q 3 [(0,true,(.func (.func 90) #[] #[ptr bB,ptr bP,ptr bN,ptr bO])),(2,false,(.int .i64 ((i+1:Nat):Int)))] [(21,(.func (.func 90) #[] #[ptr bB,ptr bP,ptr bN,ptr bO])),(23,(.int .i64 ((i+1:Nat):Int))),(0,(.int .i64 (i:Int))),(1,(ptr bB)),(2,(ptr bP)),(3,(ptr bN)),(4,(ptr bO))] [.cell ⟨bP,0,none⟩ (.func (.func 90) #[] #[ptr bB,ptr bP,ptr bN,ptr bO]),.eq (.int .i64 (IntKind.i64.wrap ((i:Int)+1))) (.int .i64 ((i+1:Nat):Int))] (by kernel_rfl) ⟨hcF,addI (by have:=hE.len;omega)⟩ ?_
  refine RX.call 24 90 #[.int .i64 ((i+1:Nat):Int),ptr bB,ptr bP,ptr bN,ptr bO] [(21,(.func (.func 90) #[] #[ptr bB,ptr bP,ptr bN,ptr bO])),(23,(.int .i64 ((i+1:Nat):Int))),(0,(.int .i64 (i:Int))),(1,(ptr bB)),(2,(ptr bP)),(3,(ptr bN)),(4,(ptr bO))] (fun _=>by kernel_rfl) (by kernel_rfl) ?_
  refine Fn.mono (hput hS (hb.mono (Nat.le_succ i))) ?_
  rintro-w1 hq
  refine RX.done [(0,(.int .i64 (i:Int))),(1,(ptr bB)),(2,(ptr bP)),(3,(ptr bN)),(4,(ptr bO))] (by kernel_rfl) (by kernel_rfl) ?_
  refine St.ret [] [] (by kernel_rfl) Try.func90 (by kernel_rfl) .nil ?_
  rw[show putF bal (n+1) i now out=putF bal n (i+1) now out by rw[putF,if_pos hz]]
  exact hq
 ·have hz:¬(bal.getD i 0)=0:=by simpa using hc
  refine St.weak (L':=[(0,(.int .i64 (i:Int))),(1,(ptr bB)),(2,(ptr bP)),(3,(ptr bN)),(4,(ptr bO))]) (by kernel_rfl) ?_
  refine St.reg B5b [(0,true),(1,true),(2,true),(3,true)] (by kernel_rfl) (by kernel_rfl) ?_
  refine RX.q 4 [(1,true,(.slice aB bal.length cB)),(3,false,.bool true)] [(28,(.bool true)),(0,(.int .i64 (i:Int))),(1,(ptr bB)),(2,(ptr bP)),(3,(ptr bN)),(4,(ptr bO))] [.cell ⟨bB,0,none⟩ (.slice aB bal.length cB),.eq (.bool (decide ((i:Int)<(bal.length:Int)))) (.bool true)] (by kernel_rfl) ⟨hcB,B5c hil⟩ ?_
  refine RX.done [(28,(.bool true)),(0,(.int .i64 (i:Int))),(1,(ptr bB)),(2,(ptr bP)),(3,(ptr bN)),(4,(ptr bO))] (by kernel_rfl) (by kernel_rfl) ?_
  refine St.cond (k1:=B58) (k2:=B53) true (by kernel_rfl) (fun hc=>?_) (fun hc=>by cases hc)
  refine St.weak (L':=[(0,(.int .i64 (i:Int))),(1,(ptr bB)),(2,(ptr bP)),(3,(ptr bN)),(4,(ptr bO))]) (by kernel_rfl) ?_
  refine St.reg B0h [(0,true),(1,true),(2,true)] (by kernel_rfl) (by kernel_rfl) ?_
  refine RX.q 3 [(0,true,(.slice aN now.length cN))] [(30,(.int .i64 (now.length:Int))),(31,(.int .i64 ((0:Nat):Int))),(0,(.int .i64 (i:Int))),(1,(ptr bB)),(2,(ptr bP)),(3,(ptr bN)),(4,(ptr bO))] [.cell ⟨bN,0,none⟩ (.slice aN now.length cN)] (by kernel_rfl) hcN ?_
  refine RX.done [(30,(.int .i64 (now.length:Int))),(31,(.int .i64 ((0:Nat):Int))),(0,(.int .i64 (i:Int))),(1,(ptr bB)),(2,(ptr bP)),(3,(ptr bN)),(4,(ptr bO))] (by kernel_rfl) (by kernel_rfl) ?_
  refine Az6 (out0:=out) (w0:=w) (col0:=col) hE hi hput hb (fun w1 hq=>?_) now.length 0 (by omega) ⟨_,_,_,_,_,_,_,_,hS,Fr.refl _ _⟩
  obtain⟨vN1,vO1,vs1,us1,ab1,ob1,rb1,col1,hS1,hf1⟩:=hq
  obtain⟨a1,c1,rfl⟩:=hS1.slN
  have hcN1:=Blk.cell (i:=0) hS1.cN rfl
  refine St.reg B64 [(0,true),(1,true),(2,false),(3,false),(4,false),(5,false)] (by kernel_rfl) (by kernel_rfl) ?_
  refine RX.q 2 [(0,true,(.slice a1 now.length c1))] [(63,(.slice a1 now.length c1)),(64,(.int .i64 (i:Int))),(0,(.int .i64 (i:Int))),(1,(ptr bB)),(2,(ptr bP)),(3,(ptr bN)),(4,(ptr bO))] [.cell ⟨bN,0,none⟩ (.slice a1 now.length c1)] (by kernel_rfl) hcN1 ?_
  refine RX.new 65 (.cells #[(.int .i64 (i:Int))] 3) (.sl 1) [(63,(.slice a1 now.length c1)),(64,(.int .i64 (i:Int))),(0,(.int .i64 (i:Int))),(1,(ptr bB)),(2,(ptr bP)),(3,(ptr bN)),(4,(ptr bO))] (by kernel_rfl) ?_
  intro b2 w2 hn2
  refine RX.new 66 (.cells #[(.slice (some ⟨b2,0,none⟩) 1 1)] 23) (.sl 1) [(65,(.slice (some ⟨b2,0,none⟩) 1 1)),(63,(.slice a1 now.length c1)),(64,(.int .i64 (i:Int))),(0,(.int .i64 (i:Int))),(1,(ptr bB)),(2,(ptr bP)),(3,(ptr bN)),(4,(ptr bO))] (by kernel_rfl) ?_
  intro b3 w3 hn3
  have hS3:=(hS1.step hn2.ext (fun k h=>by cases h)).step hn3.ext (fun k h=>by cases h)
  obtain⟨-,-,by1,zv,hT,-⟩:=Ci (P:=Try.prog) (t:=24) (e:=23) (y:=.sl (.int .i64)) (by kernel_rfl)
  have hT:Pm Try.prog 24 23 1 by1 zv:=hT
  have hb3:Blk w3 b3 [(.slice (some ⟨b2,0,none⟩) 1 1)] 23:=hn3.blk
  obtain⟨v4,w4,ab4,hr4,hA4,hU4,hg4,-⟩:=append_run (P:=Try.prog) (u:=24) (ty:=24) (lo:=0) (lo2:=0) hT (by kernel_rfl) hS3.nO (Sl.ofBlk (n:=1) (cap:=1) (cs:=[(.slice (some ⟨b2,0,none⟩) 1 1)]) (rest:=[]) hb3 (Nat.le_refl _) rfl (Nat.zero_le _)) (fun c hc=>by simp only[List.mem_singleton]at hc;subst hc;rfl) (by omega) (Nat.zero_le _)
  refine RX.run 67 (Builtin.append_ #[24,24] 24 #[(.slice a1 now.length c1),(.slice (some ⟨b3,0,none⟩) 1 1)]) [(66,(.slice (some ⟨b3,0,none⟩) 1 1)),(65,(.slice (some ⟨b2,0,none⟩) 1 1)),(63,(.slice a1 now.length c1)),(64,(.int .i64 (i:Int))),(0,(.int .i64 (i:Int))),(1,(ptr bB)),(2,(ptr bP)),(3,(ptr bN)),(4,(ptr bO))] (by kernel_rfl) hr4 ?_
  obtain⟨a4,c4,rfl⟩:=hA4.shape
  have hab1:∀j∈ab1,j<w1.heap.size:=fun j hj=>(hS1.nO.lt j hj).2
  have hz2:=hn2.size
  have hz3:=hn3.size
  have ha2:=hn2.at_
  have h2a:b2∉ab1:=fun h=>by have:=hab1 b2 h;omega
  have h2a4:b2∉ab4:=fun h=>by
   rcases hg4 b2 h with h1 | h1
   ·exact h2a h1
   ·omega
  have hB24:Blk w4 b2 [(.int .i64 (i:Int))] 3:=hU4.blk (hn3.ext.blk hn2.blk) h2a
  have hNa:bN∉ab1:=fun h=>by have:=hS1.kA bN h;have:=hS1.kN;omega
  have hcN4:Blk w4 bN [(.slice a1 now.length c1)] tN:=hU4.blk hS3.cN hNa
  refine RX.store1 bN 0 (.slice a4 (now.length+1) c4) [(.slice a1 now.length c1)] tN (by kernel_rfl) rfl hcN4 (by simp) ?_
  intro w5 hp5
  obtain⟨col5,hS5,hf5⟩:=hS1.more (r:=[(i:Int)]) (v:=(.slice (some ⟨b2,0,none⟩) 1 1)) (rb':=[b2]) (ab':=ab4) ⟨rfl,.inr ⟨b2,1,[],rfl,rfl,Nat.zero_le _,⟨Nat.le_refl _,by simp⟩,rfl,3,hB24⟩⟩ (fun k hk=>by simp only[List.mem_singleton]at hk;subst hk;exact⟨by omega,h2a4⟩) (Upd.trans (Upd.trans hn2.ext.up hn3.ext.up) hU4) hA4 (fun j hj=>(hg4 j hj).imp (fun h=>h) (fun h=>by omega)) hp5
  have hf15:=hf1.trans hf5
  refine RX.done [(0,(.int .i64 (i:Int))),(1,(ptr bB)),(2,(ptr bP)),(3,(ptr bN)),(4,(ptr bO))] (by kernel_rfl) (by kernel_rfl) ?_
  refine St.reg B75 [(0,true),(1,true),(2,true),(3,false)] (by kernel_rfl) (by kernel_rfl) ?_
  have hcF5:=hE.cellP hS5.mem
  refine RX.q 3 [(0,true,(.func (.func 90) #[] #[ptr bB,ptr bP,ptr bN,ptr bO])),(2,false,(.int .i64 ((i+1:Nat):Int)))] [(68,(.func (.func 90) #[] #[ptr bB,ptr bP,ptr bN,ptr bO])),(70,(.int .i64 ((i+1:Nat):Int))),(0,(.int .i64 (i:Int))),(1,(ptr bB)),(2,(ptr bP)),(3,(ptr bN)),(4,(ptr bO))] [.cell ⟨bP,0,none⟩ (.func (.func 90) #[] #[ptr bB,ptr bP,ptr bN,ptr bO]),.eq (.int .i64 (IntKind.i64.wrap ((i:Int)+1))) (.int .i64 ((i+1:Nat):Int))] (by kernel_rfl) ⟨hcF5,addI (by have:=hE.len;omega)⟩ ?_
  refine RX.call 71 90 #[.int .i64 ((i+1:Nat):Int),ptr bB,ptr bP,ptr bN,ptr bO] [(68,(.func (.func 90) #[] #[ptr bB,ptr bP,ptr bN,ptr bO])),(70,(.int .i64 ((i+1:Nat):Int))),(0,(.int .i64 (i:Int))),(1,(ptr bB)),(2,(ptr bP)),(3,(ptr bN)),(4,(ptr bO))] (fun _=>by kernel_rfl) (by kernel_rfl) ?_
  refine Fn.mono (hput hS5 (hb.more hi)) ?_
  rintro-w6 ⟨vN6,vO6,vs6,us6,ab6,ob6,rb6,col6,hS6,hf6⟩
  refine RX.done [(0,(.int .i64 (i:Int))),(1,(ptr bB)),(2,(ptr bP)),(3,(ptr bN)),(4,(ptr bO))] (by kernel_rfl) (by kernel_rfl) ?_
  have hl6:(now++[[(i:Int)]]).length=now.length+1:=by rw[List.length_append];rfl
  obtain⟨b6,cap6,rest6,ty6,rfl,hab6,hcap6,hrest6,hB6⟩:=hS6.nO.blk1 (by omega)
  have hcN6:=Blk.cell (i:=0) hS6.cN rfl
  obtain⟨hue,-,-,-,-,-⟩:=Ci (P:=Try.prog) (t:=24) (e:=23) (y:=.sl (.int .i64)) (by kernel_rfl)
  have hct:(Instr.sliceAt 24 (.slice (some ⟨b6,0,none⟩) (now++[[(i:Int)]]).length cap6) none (some (.int .i64 (now.length:Int))) none).run Try.prog w6=.ok (.slice (some ⟨b6,0,none⟩) now.length cap6) w6:=
   Att (P:=Try.prog) hue (show szOf Try.prog 23=some 1 by kernel_rfl) (by omega) (by omega) (by omega) w6
  refine St.reg B66 [(0,true),(1,true),(2,true),(3,true),(4,true),(5,false)] (by kernel_rfl) (by kernel_rfl) ?_
  refine RX.q 5 [(0,true,(.slice (some ⟨b6,0,none⟩) (now++[[(i:Int)]]).length cap6)),(1,true,(.slice (some ⟨b6,0,none⟩) (now++[[(i:Int)]]).length cap6)),(3,false,(.int .i64 (now.length:Int))),(4,true,(.slice (some ⟨b6,0,none⟩) now.length cap6))] [(76,(.slice (some ⟨b6,0,none⟩) now.length cap6)),(0,(.int .i64 (i:Int))),(1,(ptr bB)),(2,(ptr bP)),(3,(ptr bN)),(4,(ptr bO))] [.cell ⟨bN,0,none⟩ (.slice (some ⟨b6,0,none⟩) (now++[[(i:Int)]]).length cap6),.cell ⟨bN,0,none⟩ (.slice (some ⟨b6,0,none⟩) (now++[[(i:Int)]]).length cap6),.eq (.int .i64 (IntKind.i64.wrap (((now++[[(i:Int)]]).length:Int)-1))) (.int .i64 (now.length:Int)),.raw (Instr.sliceAt 24 (.slice (some ⟨b6,0,none⟩) (now++[[(i:Int)]]).length cap6) none (some (.int .i64 (now.length:Int))) none) (.slice (some ⟨b6,0,none⟩) now.length cap6)] (by kernel_rfl) ⟨hcN6,hcN6,by rw[hl6];exact subI (by omega),hct⟩ ?_
  refine RX.store1 bN 0 (.slice (some ⟨b6,0,none⟩) now.length cap6) [(.slice (some ⟨b6,0,none⟩) (now++[[(i:Int)]]).length cap6)] tN (by kernel_rfl) rfl hS6.cN (by simp) ?_
  intro w7 hp7
  obtain⟨vs7,hS7,hf7⟩:=hS6.less hp7
  refine RX.done [(0,(.int .i64 (i:Int))),(1,(ptr bB)),(2,(ptr bP)),(3,(ptr bN)),(4,(ptr bO))] (by kernel_rfl) (by kernel_rfl) ?_
  refine St.ret [] [] (by kernel_rfl) Try.func90 (by kernel_rfl) .nil ?_
  rw[show putF bal (n+1) i now out=putF bal n (i+1) (now++[[(i:Int)]]) ((List.range now.length).foldl (fun o g=>putF bal n (i+1) (now.set g (now.getD g []++[(i:Int)])) o) out)by rw[putF,if_neg hz]]
  exact⟨_,_,_,_,_,_,_,_,hS7,(hf15.trans hf6).trans hf7⟩
theorem Asq(hE:EnvG M bB bP bN bO bal aB cB):∀(n i:Nat),i+n=bal.length→Amu M bB bP bN bO tN tO bal n i
 | 0,i,h=>B1s hE (by omega)
 | n+1,i,h=>B0o hE (by omega) (Asq hE n (i+1) (by omega))
end
end Go.Proofs.Ytgeijboidfadaaa.Fe

namespace Go.Proofs.Ytgeijboidfadaaa.Fe
set_option linter.all false
open Go

noncomputable def c58:Code:=(Try.f58.body).getD .skip
noncomputable def B85:List Item:=[.code (sub c58 [0]),.code (sub c58 [1])]
noncomputable def B82:List Item:=[.code (sub c58 [1,0]),.code (sub c58 [1,1])]
noncomputable def B84:List Item:=[.code (sub c58 [1,1,0]),.code (sub c58 [1,1,1])]
noncomputable def B7j:List Item:=[.code (sub c58 [1,1,1,0]),.code (sub c58 [1,1,1,1])]
noncomputable def B7k:List Item:=[.code (sub c58 [1,1,1,1,0]),.code (sub c58 [1,1,1,1,1])]
noncomputable def B7u:List Item:=[.code (sub c58 [1,1,1,1,1,0]),.code (sub c58 [1,1,1,1,1,1])]
noncomputable def B7x:List Item:=[.code (sub c58 [1,1,1,1,1,1])]
def frzM(M:Nat→Option Obj)(S:List Nat)(n:Nat)(w:World):Nat→Option Obj:=fun b=>match M b with
 | some o=>some o
 | none=>if b∈S∨n≤b then(match w.heap[b]? with | some o=>if isCel o then some o else none | none=>none)else none
theorem Avz{M:Nat→Option Obj}{S:List Nat}{n:Nat}{w:World}(b:Nat)(o:Obj)(h:M b=some o):frzM M S n w b=some o:=by
 unfold frzM;rw[h]
theorem Ahm{M:Nat→Option Obj}{S:List Nat}{n:Nat}{w:World}{b:Nat}{cs:Array Value}{ty:TypeId}{z:Nat×Nat}(h:M b=none)(hb:b∈S∨n≤b)(hw:w.heap[b]?=some (.cells cs ty z)):frzM M S n w b=some (.cells cs ty z):=by
 unfold frzM;rw[h];simp only[if_pos hb,hw,isCel];rfl
theorem Ak9{M:Nat→Option Obj}{S:List Nat}{n:Nat}{w:World}{b:Nat}{o:Obj}(h:frzM M S n w b=some o):M b=some o∨(M b=none∧(b∈S∨n≤b)∧w.heap[b]?=some o∧isCel o=true):=by
 unfold frzM at h
 cases e:M b with
 | some o'=>rw[e]at h;exact .inl h
 | none=>
  rw[e]at h
  dsimp only at h
  split at h
  ·rename_i hb
   split at h
   ·rename_i o' hw
    split at h
    ·rename_i hc
     cases h
     exact .inr ⟨rfl,hb,hw,hc⟩
    ·cases h
   ·cases h
  ·cases h
theorem B5s{M:Nat→Option Obj}{n:Nat}{w:World}{l:Gl}{v:Value}{us:List Value}{ob:List Nat}(hM:∀b o,M b=some o→b<n)(hA:Acc 23 1 0 w v l.length us ob)(hob:∀b∈ob,n≤b)
  (hR:∀j,j<l.length→OR w (l.getD j []) (us.getD j undef)∧n≤blkO (us.getD j undef)) (hl:l.length≤1000000) :
  RepS (frzM M [] n w) 1 (RepC (frzM M [] n w) Qg) l v:=by
 have hul:=hA.len1
 have hMn:∀ {b:Nat},n≤b→M b=none:=fun{b} hb=>by
  cases e:M b with
  | none=>rfl
  | some o=>have:=hM b o e;omega
 obtain⟨-,⟨rfl,h2,_⟩ | ⟨b,cap,rest,rfl,rfl,_,h3,_,ty,h5⟩⟩:=hA
 ·have:l=[]:=List.eq_nil_of_length_eq_zero h2
  subst this
  exact⟨by simp,none,0,rfl,Nat.le_refl _,.inl rfl⟩
 ·have hb:=hob b (by simp)
  refine⟨by omega,_,cap,rfl,h3.1,.inr ⟨b,0,_,(ty,(0,0)),rfl,Ahm (hMn hb) (.inr hb) h5,fun k x hk=>?_⟩⟩
  obtain⟨hkl,ex⟩:=List.getElem?_eq_some_iff.1 hk
  have e2:l.getD k []=x:=by rw[List.getD_eq_getElem?_getD,hk];rfl
  obtain⟨⟨rb,rc,rr,rty,e3,h6,h7,h8,h9⟩,h10⟩:=hR k hkl
  rw[e3]at h10
  have h10:n≤rb:=h10
  rw[e2]at e3 h6 h7 h8 h9
  refine⟨[us.getD k undef],fun j u hj=>?_,_,rfl,?_⟩
  ·cases j with
   | zero=>
    simp only[List.getElem?_cons_zero,Option.some.injEq]at hj
    subst hj
    simp only[Nat.mul_one,Nat.zero_add,Nat.add_zero]
    rw[List.getElem?_append_left (by omega),List.getD_eq_getElem?_getD,List.getElem?_eq_getElem (by omega)];rfl
   | succ j=>simp at hj
  ·rw[e3]
   refine⟨by omega,_,rc,rfl,h6,.inr ⟨rb,0,_,(rty,(0,0)),rfl,Ahm (hMn h10) (.inr h10) h9,fun i y hi=>⟨[.int .i64 y],fun j u hj=>?_,rfl,h8 y (List.mem_of_getElem? hi)⟩⟩⟩
   cases j with
   | zero=>
    simp only[List.getElem?_cons_zero,Option.some.injEq]at hj
    subst hj
    simp only[Ty.cells,Nat.mul_one,Nat.zero_add,Nat.add_zero]
    rw[List.getElem?_append_left (by have:=(List.getElem?_eq_some_iff.1 hi).1;simpa using this)]
    simp[hi]
   | succ j=>simp at hj
theorem Vc(bal:List Int):∀(n i:Nat) (now out:Gl),i+n=bal.length→now.length≤i→out.length≤bal.length→(putF bal n i now out).length≤bal.length
 | 0,i,now,out,h,hn,ho=>by
  unfold putF
  split
  ·omega
  ·exact ho
 | n+1,i,now,out,h,hn,ho=>by
  unfold putF
  split
  ·exact Vc bal n (i+1) now out (by omega) (by omega) ho
  ·refine Vc bal n (i+1) _ _ (by omega) (by simp;omega) ?_
   generalize List.range now.length=gs
   induction gs generalizing out with
   | nil=>exact ho
   | cons g gs ih=>exact ih _ (Vc bal n (i+1) _ out (by omega) (by simp;omega) ho)
def G8(_N:Nat)(l:List Int):Option Gl:=if l.length≤1000∧∀x∈l,-100000≤x∧x≤100000 then some (putF l l.length 0 [] [])else none
noncomputable def Acn(N:Nat):Spec:={ f:=58,ins:=⟨[.sl (.int .i64)],[]⟩,outs:=[⟨[.sl Qg],[]⟩],run:=fun p k=>(G8 N p.1.1).bind fun r=>k ((r,()),()) }
set_option maxHeartbeats 1000000 in
theorem Afi(N:Nat):A0 Try.prog (Acn N):=by
 refine⟨fun Z p κ=>?_,fun args w=>Sem.pv_run _ _ _ (by kernel_rfl) w,fun p r hpr g w vs hv hs hρ=>?_⟩
 ·show((G8 N p.1.1).bind _)=((G8 N p.1.1).bind _).bind κ
  cases G8 N p.1.1<;>rfl
 ·obtain⟨⟨(l:List Int),⟨⟩⟩,⟨⟩⟩:=p
  have hpr':(G8 N l).bind (fun r:Gl=>some ((((r:Gl),()),()):(Gl×Unit)×Unit))=some r:=hpr
  unfold G8 at hpr'
  split at hpr'
  rotate_left
  ·cases hpr'
  rename_i hl
  have hr:=Option.some.inj hpr'
  subst hr
  simp only[encs,enc,RepVs,RepV]at hv
  obtain⟨v0,_,rfl,hv,rfl⟩:=hv
  obtain⟨aB,cB,rfl⟩:∃aB cB,v0=.slice aB l.length cB:=by obtain⟨_,a,c,e,_⟩:=hv;exact⟨a,c,e⟩
  have hMlt:∀b o,g.M b=some o→b<w.heap.size:=fun b o h=>A5 (hs.mem b o h)
  show Fn Try.prog 58 #[.slice aB l.length cB] w _
  refine Fn.ofSt (c:=c58) 10 B85 [(0,.slice aB l.length cB)] Try.func58 (by kernel_rfl) ⟨⟨rfl,by kernel_rfl⟩,by kernel_rfl⟩ (by kernel_rfl) ?_
  intro cs
  refine St.reg B82 [(0,false),(1,true)] (by kernel_rfl) (by kernel_rfl) ?_
  refine RX.new 1 (.cells #[(.slice aB l.length cB)] 23) .ptr [(0,(.slice aB l.length cB))] (by kernel_rfl) ?_
  intro bB w1 hn1
  refine RX.q 1 [] [(1,(ptr bB))] [] (by kernel_rfl) trivial ?_
  refine RX.done [(1,(ptr bB))] (by kernel_rfl) (by kernel_rfl) ?_
  refine St.reg B84 [(0,false),(1,false)] (by kernel_rfl) (by kernel_rfl) ?_
  refine RX.new 3 (.cells #[.slice none 0 0] 24) .ptr [(1,(ptr bB))] (by kernel_rfl) ?_
  intro bO w2 hn2
  refine RX.new 4 (.cells #[.slice none 0 0] 24) .ptr [(3,(ptr bO)),(1,(ptr bB))] (by kernel_rfl) ?_
  intro bN w3 hn3
  refine RX.done [(4,(ptr bN)),(3,(ptr bO)),(1,(ptr bB))] (by kernel_rfl) (by kernel_rfl) ?_
  refine St.reg B7j [(0,false)] (by kernel_rfl) (by kernel_rfl) ?_
  refine RX.new 5 (.cells #[.nilFunc] 174) .ptr [(4,(ptr bN)),(3,(ptr bO)),(1,(ptr bB))] (by kernel_rfl) ?_
  intro bP w4 hn4
  refine RX.done [(5,(ptr bP)),(4,(ptr bN)),(3,(ptr bO)),(1,(ptr bB))] (by kernel_rfl) (by kernel_rfl) ?_
  refine St.reg B7k [(0,true),(1,false)] (by kernel_rfl) (by kernel_rfl) ?_
  refine RX.q 1 [] [(6,(.func (.func 90) #[] #[ptr bB,ptr bP,ptr bN,ptr bO])),(5,(ptr bP)),(4,(ptr bN)),(3,(ptr bO)),(1,(ptr bB))] [] (by kernel_rfl) trivial ?_
  have hP4:Blk w4 bP [.nilFunc] 174:=hn4.blk
  refine RX.store1 bP 0 (.func (.func 90) #[] #[ptr bB,ptr bP,ptr bN,ptr bO]) [.nilFunc] 174 (by kernel_rfl) rfl hP4 (by simp) ?_
  intro w5 hp5
  refine RX.done [(5,(ptr bP)),(4,(ptr bN)),(3,(ptr bO)),(1,(ptr bB))] (by kernel_rfl) (by kernel_rfl) ?_
  have z1:=hn1.at_;have y1:=hn1.size
  have z2:=hn2.at_;have y2:=hn2.size
  have z3:=hn3.at_;have y3:=hn3.size
  have z4:=hn4.at_;have y4:=hn4.size
  have y5:=hp5.size
  have hx4:Ext w w4:=((hn1.ext.trans hn2.ext).trans hn3.ext).trans hn4.ext
  have hw5:∀ {b:Nat} {o:Obj},w4.heap[b]?=some o→b≠bP→w5.heap[b]?=some o:=fun h hne=>hp5.upd.blk h (by simpa using hne)
  have hP5:w5.heap[bP]?=some (.cells (List.toArray [(.func (.func 90) #[] #[ptr bB,ptr bP,ptr bN,ptr bO])]) 174 (0,0)):=hp5.blk
  have hB5:w5.heap[bB]?=some (.cells (List.toArray [(.slice aB l.length cB)]) 23 (0,0)):=hw5 (hn4.ext.blk (hn3.ext.blk (hn2.ext.blk hn1.blk))) (by omega)
  have hO5:Blk w5 bO [.slice none 0 0] 24:=hw5 (hn4.ext.blk (hn3.ext.blk hn2.blk)) (by omega)
  have hN5:Blk w5 bN [.slice none 0 0] 24:=hw5 (hn4.ext.blk hn3.blk) (by omega)
  have hFP:w5.cell? ⟨bP,0,none⟩=some (.func (.func 90) #[] #[ptr bB,ptr bP,ptr bN,ptr bO]):=A1z hP5 rfl
  have hM:∀b o,(if b=bB then some (Obj.cells (List.toArray [(.slice aB l.length cB)]) 23 (0,0))else if b=bP then some (Obj.cells (List.toArray [(.func (.func 90) #[] #[ptr bB,ptr bP,ptr bN,ptr bO])]) 174 (0,0))else g.M b)=some o→w5.heap[b]?=some o∧b≠bN∧b≠bO:=fun b o h=>by
   split at h
   ·rename_i e;subst e;cases h;exact⟨hB5,by omega,by omega⟩
   ·split at h
    ·rename_i e;subst e;cases h;exact⟨hP5,by omega,by omega⟩
    ·have h1:=hMlt b o h
     exact⟨hw5 (hx4.blk (hs.mem b o h)) (by omega),by omega,by omega⟩
  have hE:EnvG (fun b=>if b=bB then some (Obj.cells (List.toArray [(.slice aB l.length cB)]) 23 (0,0))else if b=bP then some (Obj.cells (List.toArray [(.func (.func 90) #[] #[ptr bB,ptr bP,ptr bN,ptr bO])]) 174 (0,0))else g.M b) bB bP bN bO l aB cB:=by
   have hge:∀b o,g.M b=some o→(if b=bB then some (Obj.cells (List.toArray [(.slice aB l.length cB)]) 23 (0,0))else if b=bP then some (Obj.cells (List.toArray [(.func (.func 90) #[] #[ptr bB,ptr bP,ptr bN,ptr bO])]) 174 (0,0))else g.M b)=some o:=fun b o h=>by
    have h1:=hMlt b o h
    rw[if_neg (by omega),if_neg (by omega)];exact h
   refine⟨⟨(23,(0,0)),by simp⟩,⟨(174,(0,0)),?_⟩,RepS.mono hv hge (fun x us hx=>RepC.mono hge (.int .i64) x us hx),hl.1,hl.2⟩
   have hne:bP≠bB:=by omega
   simp[hne]
  have hS:PS (fun b=>if b=bB then some (Obj.cells (List.toArray [(.slice aB l.length cB)]) 23 (0,0))else if b=bP then some (Obj.cells (List.toArray [(.func (.func 90) #[] #[ptr bB,ptr bP,ptr bN,ptr bO])]) 174 (0,0))else g.M b) bN bO 24 24 w5 [] [] (.slice none 0 0) (.slice none 0 0) [] [] [] [] (fun _=>[]) (fun b=>if b=bN then 0 else if b=bO then 1 else 2):=
   ⟨fun b o h=>(hM b o h).1,hN5,hO5,Acc.nil _ _ _ _,fun j hj=>(by simp at hj),Acc.nil _ _ _ _,fun j hj=>(by simp at hj),(by simp),(by rw[if_neg (show ¬bO=bN by omega),if_pos rfl]),fun b o h=>(by rw[if_neg (hM b o h).2.1,if_neg (hM b o h).2.2]),fun b hb=>(by cases hb),fun b hb=>(by cases hb),fun j hj=>(by simp at hj),fun j hj=>(by simp at hj)⟩
  refine St.reg B7u [(0,true),(1,false)] (by kernel_rfl) (by kernel_rfl) ?_
  refine RX.q 1 [(0,true,(.func (.func 90) #[] #[ptr bB,ptr bP,ptr bN,ptr bO]))] [(7,(.func (.func 90) #[] #[ptr bB,ptr bP,ptr bN,ptr bO])),(5,(ptr bP)),(4,(ptr bN)),(3,(ptr bO)),(1,(ptr bB))] [.cell ⟨bP,0,none⟩ (.func (.func 90) #[] #[ptr bB,ptr bP,ptr bN,ptr bO])] (by kernel_rfl) hFP ?_
  refine RX.call 8 90 #[.int .i64 ((0:Nat):Int),ptr bB,ptr bP,ptr bN,ptr bO] [(7,(.func (.func 90) #[] #[ptr bB,ptr bP,ptr bN,ptr bO])),(5,(ptr bP)),(4,(ptr bN)),(3,(ptr bO)),(1,(ptr bB))] (fun _=>by kernel_rfl) (by kernel_rfl) ?_
  refine Fn.mono (Asq hE l.length 0 (by omega) hS ⟨by simp,fun r hr=>by cases hr⟩) ?_
  rintro-w6 ⟨vN,vO,vs,us,ab,ob,rb,col',hS6,hf6⟩
  refine RX.done [(3,(ptr bO))] (by kernel_rfl) (by kernel_rfl) ?_
  have hO6:=Blk.cell (i:=0) hS6.cO rfl
  refine St.reg B7x [(0,true),(1,true)] (by kernel_rfl) (by kernel_rfl) ?_
  refine RX.q 2 [(0,true,vO)] [(2,vO)] [.cell ⟨bO,0,none⟩ vO] (by kernel_rfl) hO6 ?_
  refine RX.done [(2,vO)] (by kernel_rfl) (by kernel_rfl) ?_
  refine St.ret [.tmp 2] [vO] (by kernel_rfl) Try.func58 (by kernel_rfl) (.cons (.tmp (by kernel_rfl)) .nil) ?_
  have hx5:Ext w w5:=hx4.trans_old hp5.upd (fun k hk=>by simp only[List.mem_singleton]at hk;omega)
  have hold:∀k,k<w.heap.size→w6.heap[k]?=w.heap[k]?:=fun k hk=>by
   have h1:=hf6.same k (by omega) (.inl (by rw[if_neg (by omega),if_neg (by omega)]))
   exact h1.trans (hx5.same k hk (by simp))
  have hcol:∀k,k<w.heap.size→col' k=2:=fun k hk=>hf6.two k (by omega) (by rw[if_neg (by omega),if_neg (by omega)])
  have hnew:∀k,col' k≠2→w.heap.size≤k:=fun k hk=>by
   rcases Nat.lt_or_ge k w.heap.size with h | h
   ·exact absurd (hcol k h) hk
   ·exact h
  have hlen:=Vc l l.length 0 [] [] (by omega) (by simp) (by simp)
  have hrep:=B5s (M:=g.M) (n:=w.heap.size) (w:=w6) hMlt hS6.oO (fun b hb=>hnew b (by rw[hS6.kB b hb];omega)) (fun j hj=>⟨hS6.oR j hj,hnew _ (by rw[hS6.kQ j hj];omega)⟩) (by omega)
  refine⟨⟨g.ρ,frzM g.M [] w.heap.size w6⟩,⟨hf6.os.trans hx5.os,hf6.tape.trans hx5.tape,hf6.output.trans hx5.output,Nat.le_trans hx5.size hf6.size,fun b hb _=>hold b hb,⟨fun _ _ h=>h,Avz⟩,fun id h0 h1=>absurd h0 h1,fun id b c n h0 h1=>(by rw[h0]at h1;cases h1),fun b o h=>?_⟩,⟨fun b o h=>?_,fun i k hk=>?_,fun i j ki kj b ci ni cj nj h1=>?_⟩,hrep⟩
  ·rcases Ak9 h with h | ⟨x1,x2,x3,x4⟩
   ·exact .inl h
   ·exact .inr ⟨x1,.inl (x2.resolve_left (by simp)),x4⟩
  ·rcases Ak9 h with h | ⟨_,_,h,_⟩
   ·exact(hold b (hMlt b o h)).trans (hs.mem b o h)
   ·exact h
  ·have h:([]:List Blk')[i]?=some k:=hk
   simp at h
  ·have h:([]:List Blk')[i]?=some ki:=h1
   simp at h
end Go.Proofs.Ytgeijboidfadaaa.Fe

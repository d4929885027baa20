/-
  Parts of a proof, put together: SvP, InB, PK, PO1, PG1, PUp, PG2a, PIt1, PIt2, PIt3.
  Conditions: none.
-/
import Derived.Test.YtgeijboidfadaaaChecked
import Derived.Test.YtgeijboidfadaaaZa
import Derived.Test.YtgeijboidfadaaaZc
namespace Go.Proofs.Ytgeijboidfadaaa
set_option linter.all false
open Go
theorem mixed:Try.prog.follows .mixedOrders=true:=by kernel_rfl
theorem A9{α Y:Type}(o:Option α)(f g:α→Option Y)(h:∀e,f e=g e):o.bind f=o.bind g:=by rw[funext h]
theorem A0.none{P:Program}{s:Spec}(h:∀(Z:Type) (p:s.ins.den) (κ:altD s.outs→Option Z),s.run p κ=Option.none)(hc:∀args w,(callFunc s.f args).run P w=.ok (.enter s.f args) w):A0 P s:=
 ⟨fun Z p κ=>by rw[h,h];rfl,hc,fun p r hr=>by rw[h]at hr;cases hr⟩
end Go.Proofs.Ytgeijboidfadaaa

namespace Go.Proofs.Ytgeijboidfadaaa
set_option linter.all false
open Go
def Ty.inB:(t:Ty)→t.den→Prop
 | .int k,n=>inR k n
 | .bool,_=>True
 | .pair a b,x=>a.inB x.1∧b.inB x.2
 | .sl a,l=>l.length≤9223372036854775807∧∀x∈(l:List a.den),a.inB x
 | .ptr a,x=>a.inB x
theorem Ty.inB_of{M:Nat→Option Obj}:∀(t:Ty) (x:t.den) (vs:List Value),RepC M t x vs→t.inB x
 | .int k,n,vs,h=>h.2
 | .bool,_,_,_=>trivial
 | .pair a b,x,vs,h=>by
  obtain⟨v1,v2,_,h1,h2⟩:=h
  exact⟨Ty.inB_of a _ _ h1,Ty.inB_of b _ _ h2⟩
 | .sl a,l,vs,h=>by
  obtain⟨v,_,h1,ad,cap,_,_,h2⟩:=h
  refine⟨h1,fun x hx=>?_⟩
  rcases h2 with rfl | ⟨b,o,us,ty,_,_,h3⟩
  ·cases hx
  ·obtain⟨i,hi⟩:=List.getElem?_of_mem hx
   obtain⟨us,_,h4⟩:=h3 i x hi
   exact Ty.inB_of a _ _ h4
 | .ptr a,x,vs,h=>by
  obtain⟨b,o,ws,ty,us,_,_,_,h4⟩:=h
  exact Ty.inB_of a _ _ h4
theorem Ty.inB_i64{n:Int}(h:(Ty.int .i64).inB n):-9223372036854775808≤n∧n≤9223372036854775807:=by
 have h1:IntKind.i64.min=-9223372036854775808:=by decide
 have h2:IntKind.i64.max=9223372036854775807:=by decide
 unfold Ty.inB inR at h
 rw[h1,h2]at h
 exact h
end Go.Proofs.Ytgeijboidfadaaa

namespace Go.Proofs.Ytgeijboidfadaaa
set_option linter.all false
open Go
abbrev Qa:Type:=Int×(Int×(Int×(Int×((List (Int×(Int×(List Int))))×(List Int)))))
abbrev Qb:Type:=List Int×Int×List (List Int)×List (List Int)×List Int×List Int×List Int×Unit
abbrev Qc:Ty:=.pair (.int .i64) (.pair (.int .i64) (.pair (.int .i64) (.pair (.int .i64) (.pair (.sl (.pair (.int .i64) (.pair (.int .i64) (.sl (.int .i64))))) (.sl (.int .i64))))))
abbrev Qd:Type:=List Int
abbrev Qe:Type:=Int×(Int×Int)
abbrev Qf:Ty:=.pair (.int .i64) (.pair (.int .i64) (.int .i64))
abbrev Qg:Ty:=.sl (.int .i64)
abbrev Qh:Type:=(List (Int×(Int×Bool)))×((List Qe)×Int)
abbrev Qi:Ty:=.pair (.sl (.pair (.int .i64) (.pair (.int .i64) .bool))) (.pair (.sl Qf) (.int .i64))
abbrev Qj:Type:=(List Qd)×(Qd×(Int×(Qd×Qd)))
abbrev Qk:Type:=List ((Int×(Int×Qe))×Int)
abbrev Ql:Type:=List (Int×(Int×Qd))
abbrev Qm:Ty:=.pair (.int .i64) (.pair (.int .i64) Qg)
abbrev Qn:Type:=Int×List Int×List Qd×Int×Int×List Qd×Int×Int×List Int×Int×List Qd×List Qd×List Int×List Int×Int×List Qd×List Qd×List Int×List Int×List Int
abbrev Qo:Type:=Qd×(Int×((List Qd)×((List Qd)×Qd)))
abbrev Qp:Ty:=.pair (.sl Qg) (.pair Qg (.pair (.int .i64) (.pair Qg Qg)))
abbrev Qq:Type:=List ((Int×Int)×Qe)
abbrev Qr:Ty:=.pair Qg (.pair (.int .i64) (.pair (.sl Qg) (.pair (.sl Qg) Qg)))
abbrev Qs:Type:=List (Qe×(Int×Int))
abbrev Qt:Ty:=.pair (.int .i64) (.int .i64)
abbrev Qu:Type:=Int×Int×List Int×Int×Int×Int×Int×Int×Int×Int×Int×Int×Int×Int×Int×Ql×List Int
abbrev Qv:Ty:=.pair (.int .i64) (.pair (.int .i64) Qf)
abbrev Qw:Ty:=.pair (.int .i64) (.pair (.int .i64) .bool)
abbrev Qx:Type:=List Qd
abbrev Qy:Type:=Int×(Int×Qd)
abbrev Qz:Type:=Int×Int×Int×Qb×Qb×Qq
abbrev QA:Type:=List Qd×Int×Int×List Int×Int×List Qd×List Qd×List Int×List Int×Int×List Qd×List Qd×List Int×List Int×List Int
abbrev QB:Type:=Int×(Int×Bool)
abbrev QC:Type:=List Int×List Qd×Int×Int×(List Qe)
abbrev QD:Type:=Int×Int×Int×List Int
abbrev QE:Type:=Int×Qa×Qa×Qk×Int×List Int×Int
abbrev QF:Type:=Int×Int
abbrev QG:Type:=Int×Qa×Qa×Qk×Int×List Int
abbrev QH:Type:=Int×Int×Int×List Int×Int×Int×Int×Int×List Int×List Int×List Qd×List Qd×List Int
abbrev QI:Type:=Qh×Int×Qh×List Int×List Int
abbrev QJ:Type:=Int×Int×Int×Int×List Int×Int×Int×Int×Int×List Int×List Int×List Qd×List Int
abbrev QK:Type:=Int×Qa×Qa×Qk
abbrev QL:Type:=Int×Int×Qj×Qs
abbrev QM:Type:=(Int×(Int×Qe))×Int
abbrev QN:Type:=Ql×Int×Int×Int×Int×Int×Int×Ql
abbrev QO:Type:=Int×Int×Int×Int×Int×Ql
abbrev QP:Type:=Qb×Qb×Qq×Int×Int×Int×Int×Int×Int×Int×Int


def Rh(N:Nat)(b:List Int)(b2:Int)(b3:Int):Option (Int×List Int×Int×Int):=
 br (decide (0<(b.length:Int)))
  (idx b b2 fun x_1=>
  chk (b2+1)<|
  grd (decide (0≤(IntKind.u32.wrap ((IntKind.u32.wrap (30011*b3))+(IntKind.u32.wrap (263*(IntKind.u32.wrap x_1)))))∧0≤(Int.fdiv (IntKind.u32.wrap ((IntKind.u32.wrap (30011*b3))+(IntKind.u32.wrap (263*(IntKind.u32.wrap x_1))))) (2 ^ 7))))<|
  grd (decide (0≤(((IntKind.u32.wrap ((IntKind.u32.wrap (30011*b3))+(IntKind.u32.wrap (263*(IntKind.u32.wrap x_1))))).toNat ^^^ (Int.fdiv (IntKind.u32.wrap ((IntKind.u32.wrap (30011*b3))+(IntKind.u32.wrap (263*(IntKind.u32.wrap x_1))))) (2 ^ 7)).toNat:Nat):Int)∧(0:Int)≤65535))<|
  some ((IntKind.i64.wrap (((((IntKind.u32.wrap ((IntKind.u32.wrap (30011*b3))+(IntKind.u32.wrap (263*(IntKind.u32.wrap x_1))))).toNat ^^^ (Int.fdiv (IntKind.u32.wrap ((IntKind.u32.wrap (30011*b3))+(IntKind.u32.wrap (263*(IntKind.u32.wrap x_1))))) (2 ^ 7)).toNat:Nat):Int).toNat &&& 65535:Nat):Int)),b,(b2+1),b3))
  (grd (decide (0≤(IntKind.u32.wrap (30011*b3))∧0≤(Int.fdiv (IntKind.u32.wrap (30011*b3)) (2 ^ 7))))<|
  grd (decide (0≤(((IntKind.u32.wrap (30011*b3)).toNat ^^^ (Int.fdiv (IntKind.u32.wrap (30011*b3)) (2 ^ 7)).toNat:Nat):Int)∧(0:Int)≤65535))<|
  some ((IntKind.i64.wrap (((((IntKind.u32.wrap (30011*b3)).toNat ^^^ (Int.fdiv (IntKind.u32.wrap (30011*b3)) (2 ^ 7)).toNat:Nat):Int).toNat &&& 65535:Nat):Int)),b,b2,b3))
def Yy(N:Nat)(b:List Int)(b2:Int)(b3:Int):Option (Int×List Int×Int×Int):=
 br (decide (b2=(b.length:Int)))
  (Rh N b 0 (IntKind.u32.wrap (b3+1)))
  (Rh N b b2 b3)
noncomputable def Aeh(N:Nat):List Spec:=[]
theorem Aj9(N:Nat):AllP (A0 Try.prog) (Aeh N):=trivial
noncomputable def B71:Code:=(Try.f67.body).getD .skip
noncomputable abbrev Kn:Body:={ c:=B71,n:=63,res:=[.tmp 2],outs:=[⟨[.i .i64],[.segs [.sl (.int .u8),.i .i64,.i .u32]]⟩],m0:=1 }
abbrev A2d:altD Kn.outs→Option (Int×List Int×Int×Int):=fun r=>some (r.1.1,r.2.1.1,r.2.1.2.1,r.2.1.2.2.1)
abbrev A56:List PI:=[.c [1,1,0],.c [1,1,1]]
abbrev Ub:Sta:=⟨[0],⟨[.own 0 0],[.segs [.sl (.int .u8),.i .i64,.i .u32]]⟩⟩
abbrev Yo(N:Nat):Leaf (Int×List Int×Int×Int):=⟨A56,Ub,fun p=>Rh N p.2.1.1 p.2.1.2.1 p.2.1.2.2.1⟩
theorem Ape(N:Nat)(b:List Int)(b2:Int)(b3:Int):ev (Z:=Int×List Int×Int×Int) Try.prog (Aeh N) Kn [] [] (some A2d) 400 true A56 (stL Ub (((),()),((b,b2,b3,()),()))) (stH Ub (((),()),((b,b2,b3,()),())))=Rh N b b2 b3:=by kernel_rfl
theorem Aqk(N:Nat){z:Int×List Int×Int×Int}{E:EE}{Xc:Ctx}(hE:EOK Kn.m0 E)(hX:CxOK true Xc)(hret:Aa Try.prog Kn E Xc z (some A2d)):Ag Try.prog Kn.c Kn.n Kn.m0 E Xc z (Yo N):=A2 (B:=Kn) (loops:=[]) (leaves:=[]) (Aj9 N) mixed trivial hE hX trivial hret (fun p=>Ape N p.2.1.1 p.2.1.2.1 p.2.1.2.2.1)
abbrev Asv:Sta:=⟨[0],⟨[.own 0 0],[.segs [.sl (.int .u8),.i .i64,.i .u32]]⟩⟩
theorem B3g(N:Nat)(b:List Int)(b2:Int)(b3:Int):ev (Z:=Int×List Int×Int×Int) Try.prog (Aeh N) Kn [] [Yo N] (some A2d) 400 false [.c [0],.c [1]] (stL Asv (((),()),((b,b2,b3,()),()))) (stH Asv (((),()),((b,b2,b3,()),())))=Yy N b b2 b3:=by kernel_rfl
noncomputable def Au7(N:Nat):Spec:={ f:=67,ins:=⟨[.own 0 0],[.segs [.sl (.int .u8),.i .i64,.i .u32]]⟩,outs:=[⟨[.i .i64],[.segs [.sl (.int .u8),.i .i64,.i .u32]]⟩],run:=fun p k=>(Yy N p.2.1.1 p.2.1.2.1 p.2.1.2.2.1).bind fun r=>k ((r.1,()),((r.2.1,r.2.2.1,r.2.2.2,()),())) }
theorem Apm(N:Nat):A0 Try.prog (Au7 N):=A1 (B:=Kn) (loops:=[]) (leaves:=[Yo N]) (fun p=>Yy N p.2.1.1 p.2.1.2.1 p.2.1.2.2.1) (fun r=>((r.1,()),((r.2.1,r.2.2.1,r.2.2.2,()),()))) A2d (fun _ _ _=>rfl) (fun r z h=>by cases h;rfl) Try.func67 (by kernel_rfl) (by kernel_rfl) (by kernel_rfl) rfl rfl (by kernel_rfl) (fun args w=>Sem.pv_run _ _ _ (by kernel_rfl) w) (Aj9 N) mixed trivial (fun z E Xc hE hX hret=>⟨Aqk N hE hX hret,trivial⟩) (fun p=>B3g N p.2.1.1 p.2.1.2.1 p.2.1.2.2.1)

def B8(N:Nat)(n:Int)(b:List Int)(b2:Int)(b3:Int):Option (Int×List Int×Int×Int):=
 (Yy N b b2 b3).bind fun(x_1,y_2,y_3,y_4)=>
 chk (n+1)<|
 grd (!decide ((max 1 (n+1))=0))<|
 some ((Int.tmod x_1 (max 1 (n+1))),y_2,y_3,y_4)
noncomputable def Acq(N:Nat):List Spec:=[Au7 N]
theorem Ano(N:Nat):AllP (A0 Try.prog) (Acq N):=⟨Apm N,trivial⟩
noncomputable def B0q:Code:=(Try.f30.body).getD .skip
noncomputable abbrev A3a:Body:={ c:=B0q,n:=11,res:=[.tmp 4],outs:=[⟨[.i .i64],[.segs [.sl (.int .u8),.i .i64,.i .u32]]⟩],m0:=1 }
abbrev Abe:altD A3a.outs→Option (Int×List Int×Int×Int):=fun r=>some (r.1.1,r.2.1.1,r.2.1.2.1,r.2.1.2.2.1)
abbrev Ad1:Sta:=⟨[0,1],⟨[.own 0 0,.i .i64],[.segs [.sl (.int .u8),.i .i64,.i .u32]]⟩⟩
theorem Ay1(N:Nat)(n:Int)(b:List Int)(b2:Int)(b3:Int):ev (Z:=Int×List Int×Int×Int) Try.prog (Acq N) A3a [] [] (some Abe) 400 false [.c [0],.c [1]] (stL Ad1 (((),n,()),((b,b2,b3,()),()))) (stH Ad1 (((),n,()),((b,b2,b3,()),())))=B8 N n b b2 b3:=by kernel_rfl
noncomputable def Hs(N:Nat):Spec:={ f:=30,ins:=⟨[.own 0 0,.i .i64],[.segs [.sl (.int .u8),.i .i64,.i .u32]]⟩,outs:=[⟨[.i .i64],[.segs [.sl (.int .u8),.i .i64,.i .u32]]⟩],run:=fun p k=>(B8 N p.1.2.1 p.2.1.1 p.2.1.2.1 p.2.1.2.2.1).bind fun r=>k ((r.1,()),((r.2.1,r.2.2.1,r.2.2.2,()),())) }
theorem F7(N:Nat):A0 Try.prog (Hs N):=A1 (B:=A3a) (loops:=[]) (leaves:=[]) (fun p=>B8 N p.1.2.1 p.2.1.1 p.2.1.2.1 p.2.1.2.2.1) (fun r=>((r.1,()),((r.2.1,r.2.2.1,r.2.2.2,()),()))) Abe (fun _ _ _=>rfl) (fun r z h=>by cases h;rfl) Try.func30 (by kernel_rfl) (by kernel_rfl) (by kernel_rfl) rfl rfl (by kernel_rfl) (fun args w=>Sem.pv_run _ _ _ (by kernel_rfl) w) (Ano N) mixed trivial (fun z E Xc hE hX hret=>trivial) (fun p=>Ay1 N p.1.2.1 p.2.1.1 p.2.1.2.1 p.2.1.2.2.1)

def D6(N:Nat)(lo:Int)(hi:Int)(b:List Int)(b2:Int)(b3:Int):Option (Int×List Int×Int×Int):=
 chk (hi-lo)<|
 (B8 N (hi-lo) b b2 b3).bind fun(x_1,y_2,y_3,y_4)=>
 chk (lo+x_1)<|
 some ((lo+x_1),y_2,y_3,y_4)
noncomputable def Adp(N:Nat):List Spec:=[Hs N]
theorem Ark(N:Nat):AllP (A0 Try.prog) (Adp N):=⟨F7 N,trivial⟩
noncomputable def B0e:Code:=(Try.f31.body).getD .skip
noncomputable abbrev A8p:Body:={ c:=B0e,n:=14,res:=[.tmp 6],outs:=[⟨[.i .i64],[.segs [.sl (.int .u8),.i .i64,.i .u32]]⟩],m0:=1 }
abbrev Ab7:altD A8p.outs→Option (Int×List Int×Int×Int):=fun r=>some (r.1.1,r.2.1.1,r.2.1.2.1,r.2.1.2.2.1)
abbrev Ab4:Sta:=⟨[0,1,2],⟨[.own 0 0,.i .i64,.i .i64],[.segs [.sl (.int .u8),.i .i64,.i .u32]]⟩⟩
theorem Aw1(N:Nat)(lo:Int)(hi:Int)(b:List Int)(b2:Int)(b3:Int):ev (Z:=Int×List Int×Int×Int) Try.prog (Adp N) A8p [] [] (some Ab7) 400 false [.c [0],.c [1]] (stL Ab4 (((),lo,hi,()),((b,b2,b3,()),()))) (stH Ab4 (((),lo,hi,()),((b,b2,b3,()),())))=D6 N lo hi b b2 b3:=by kernel_rfl
noncomputable def Xw(N:Nat):Spec:={ f:=31,ins:=⟨[.own 0 0,.i .i64,.i .i64],[.segs [.sl (.int .u8),.i .i64,.i .u32]]⟩,outs:=[⟨[.i .i64],[.segs [.sl (.int .u8),.i .i64,.i .u32]]⟩],run:=fun p k=>(D6 N p.1.2.1 p.1.2.2.1 p.2.1.1 p.2.1.2.1 p.2.1.2.2.1).bind fun r=>k ((r.1,()),((r.2.1,r.2.2.1,r.2.2.2,()),())) }
theorem Uz(N:Nat):A0 Try.prog (Xw N):=A1 (B:=A8p) (loops:=[]) (leaves:=[]) (fun p=>D6 N p.1.2.1 p.1.2.2.1 p.2.1.1 p.2.1.2.1 p.2.1.2.2.1) (fun r=>((r.1,()),((r.2.1,r.2.2.1,r.2.2.2,()),()))) Ab7 (fun _ _ _=>rfl) (fun r z h=>by cases h;rfl) Try.func31 (by kernel_rfl) (by kernel_rfl) (by kernel_rfl) rfl rfl (by kernel_rfl) (fun args w=>Sem.pv_run _ _ _ (by kernel_rfl) w) (Ark N) mixed trivial (fun z E Xc hE hX hret=>trivial) (fun p=>Aw1 N p.1.2.1 p.1.2.2.1 p.2.1.1 p.2.1.2.1 p.2.1.2.2.1)

def Jb(N:Nat)(n:Int)(b:List Int)(b2:Int)(b3:Int):Option (Bool×List Int×Int×Int):=
 chk (n-1)<|
 (B8 N (n-1) b b2 b3).bind fun(x_1,y_2,y_3,y_4)=>
 some ((decide (x_1=0)),y_2,y_3,y_4)
noncomputable def Aan(N:Nat):List Spec:=[Hs N]
theorem Ao0(N:Nat):AllP (A0 Try.prog) (Aan N):=⟨F7 N,trivial⟩
noncomputable def Aym:Code:=(Try.f18.body).getD .skip
noncomputable abbrev A4d:Body:={ c:=Aym,n:=10,res:=[.tmp 4],outs:=[⟨[.b],[.segs [.sl (.int .u8),.i .i64,.i .u32]]⟩],m0:=1 }
abbrev Aad:altD A4d.outs→Option (Bool×List Int×Int×Int):=fun r=>some (r.1.1,r.2.1.1,r.2.1.2.1,r.2.1.2.2.1)
abbrev Aa7:Sta:=⟨[0,1],⟨[.own 0 0,.i .i64],[.segs [.sl (.int .u8),.i .i64,.i .u32]]⟩⟩
theorem Axe(N:Nat)(n:Int)(b:List Int)(b2:Int)(b3:Int):ev (Z:=Bool×List Int×Int×Int) Try.prog (Aan N) A4d [] [] (some Aad) 400 false [.c [0],.c [1]] (stL Aa7 (((),n,()),((b,b2,b3,()),()))) (stH Aa7 (((),n,()),((b,b2,b3,()),())))=Jb N n b b2 b3:=by kernel_rfl
noncomputable def Ym(N:Nat):Spec:={ f:=18,ins:=⟨[.own 0 0,.i .i64],[.segs [.sl (.int .u8),.i .i64,.i .u32]]⟩,outs:=[⟨[.b],[.segs [.sl (.int .u8),.i .i64,.i .u32]]⟩],run:=fun p k=>(Jb N p.1.2.1 p.2.1.1 p.2.1.2.1 p.2.1.2.2.1).bind fun r=>k ((r.1,()),((r.2.1,r.2.2.1,r.2.2.2,()),())) }
theorem Vv(N:Nat):A0 Try.prog (Ym N):=A1 (B:=A4d) (loops:=[]) (leaves:=[]) (fun p=>Jb N p.1.2.1 p.2.1.1 p.2.1.2.1 p.2.1.2.2.1) (fun r=>((r.1,()),((r.2.1,r.2.2.1,r.2.2.2,()),()))) Aad (fun _ _ _=>rfl) (fun r z h=>by cases h;rfl) Try.func18 (by kernel_rfl) (by kernel_rfl) (by kernel_rfl) rfl rfl (by kernel_rfl) (fun args w=>Sem.pv_run _ _ _ (by kernel_rfl) w) (Ao0 N) mixed trivial (fun z E Xc hE hX hret=>trivial) (fun p=>Axe N p.1.2.1 p.2.1.1 p.2.1.2.1 p.2.1.2.2.1)

def A37(N:Nat)(metal:List Int):Option (List Int×Int×Int):=
 some (metal,0,0)
noncomputable def Avf(N:Nat):List Spec:=[]
theorem Azg(N:Nat):AllP (A0 Try.prog) (Avf N):=trivial
noncomputable def B6y:Code:=(Try.f8.body).getD .skip
noncomputable abbrev Anp:Body:={ c:=B6y,n:=6,res:=[.tmp 2],outs:=[⟨[.own 0 0],[.segs [.sl (.int .u8),.i .i64,.i .u32]]⟩],m0:=0 }
abbrev As6:altD Anp.outs→Option (List Int×Int×Int):=fun r=>some (r.2.1.1,r.2.1.2.1,r.2.1.2.2.1)
abbrev Au5:Sta:=⟨[0],⟨[.sl (.int .u8)],[]⟩⟩
theorem B3b(N:Nat)(metal:List Int):ev (Z:=List Int×Int×Int) Try.prog (Avf N) Anp [] [] (some As6) 400 false [.c [0],.c [1]] (stL Au5 ((metal,()),())) (stH Au5 ((metal,()),()))=A37 N metal:=by kernel_rfl
noncomputable def Avm(N:Nat):Spec:={ f:=8,ins:=⟨[.sl (.int .u8)],[]⟩,outs:=[⟨[.own 0 0],[.segs [.sl (.int .u8),.i .i64,.i .u32]]⟩],run:=fun p k=>(A37 N p.1.1).bind fun r=>k (((),()),((r.1,r.2.1,r.2.2,()),())) }
theorem Ar2(N:Nat):A0 Try.prog (Avm N):=A1 (B:=Anp) (loops:=[]) (leaves:=[]) (fun p=>A37 N p.1.1) (fun r=>(((),()),((r.1,r.2.1,r.2.2,()),()))) As6 (fun _ _ _=>rfl) (fun r z h=>by cases h;rfl) Try.func8 (by kernel_rfl) (by kernel_rfl) (by kernel_rfl) rfl rfl (by kernel_rfl) (fun args w=>Sem.pv_run _ _ _ (by kernel_rfl) w) (Azg N) mixed trivial (fun z E Xc hE hX hret=>trivial) (fun p=>B3b N p.1.1)

def equali_l1(N:Nat):Nat→Qd→Qd→Int→Int→Option ((Unit)⊕(Unit))
 | 0,_,_,_,_=>none
 | n_+1,s1,s2,u,u2=>
  br (decide (u2<u))
   (idx s1 u2 fun x_1=>
   idx s2 u2 fun x_2=>
   br (!decide (x_1=x_2))
    (some (.inl ()))
    (chk (u2+1)<|
    equali_l1 N n_ s1 s2 u (u2+1)))
   (some (.inr ()))
def R0(N:Nat)(s1:List Int)(s2:List Int):Option Bool:=
 br (!decide ((s1.length:Int)=(s2.length:Int)))
  (some false)
  ((equali_l1 N N s1 s2 (s1.length:Int) 0).bind fun e=>match e with
  | .inl _=>
   some false
  | .inr _=>
   some true)
noncomputable def Yf(N:Nat):List Spec:=[]
theorem A49(N:Nat):AllP (A0 Try.prog) (Yf N):=trivial
noncomputable def Azp:Code:=(Try.f63.body).getD .skip
noncomputable abbrev Gc:Body:={ c:=Azp,n:=26,res:=[.tmp 4],outs:=[⟨[.b],[]⟩],m0:=0 }
abbrev Abv:altD Gc.outs→Option Bool:=fun r=>some r.1.1
abbrev Nz:List PI:=[.c [1,1,0,1,0,0,0],.c [1,1,0,1,0,0,1],.l [1,1,0,1,0,0],.b 0,.c [1,1,1]]
abbrev Hi:Sta:=⟨[0,1,12,13],⟨[.sl (.int .i64),.sl (.int .i64),.i .i64,.i .i64],[]⟩⟩
abbrev Zq(rec:Qd→Qd→Int→Int→Option ((Unit)⊕(Unit))):Leaf ((Unit)⊕(Unit)):=⟨Nz,Hi,fun p=>rec p.1.1 p.1.2.1 p.1.2.2.1 p.1.2.2.2.1⟩
abbrev V8:Leaf ((Unit)⊕(Unit)):=⟨[.c [1,1,0,1,0,0,1,1,0,0,1,1,0,0],.c [1,1,0,1,0,0,1,1,0,0,1,1,0,1],.b 1,.c [1,1,0,1,0,0,1,1,1],.l [1,1,0,1,0,0],.b 0,.c [1,1,1]],⟨[],⟨[],[]⟩⟩,fun p=>some (.inl ())⟩
abbrev Vu:Leaf ((Unit)⊕(Unit)):=⟨[.c [1,1,1,0],.c [1,1,1,1]],⟨[],⟨[],[]⟩⟩,fun p=>some (.inr ())⟩
noncomputable def Pu(N:Nat):Ai:={ at_:=Nz,sta:=Hi,exits:=[([.c [1,1,0,1,0,0,1,1,0,0,1,1,0,0],.c [1,1,0,1,0,0,1,1,0,0,1,1,0,1],.b 1,.c [1,1,0,1,0,0,1,1,1],.l [1,1,0,1,0,0],.b 0,.c [1,1,1]],⟨[],⟨[],[]⟩⟩),([.c [1,1,1,0],.c [1,1,1,1]],⟨[],⟨[],[]⟩⟩)],run:=fun p k=>(equali_l1 N N p.1.1 p.1.2.1 p.1.2.2.1 p.1.2.2.2.1).bind fun e=>match e with | .inl x=>k (.inl ((),())) | .inr x=>k (.inr (.inl ((),()))) }
theorem Agv(N n_:Nat)(s1:List Int)(s2:List Int)(u:Int)(u2:Int):ev (Z:=(Unit)⊕(Unit)) Try.prog (Yf N) Gc [] [Zq (equali_l1 N n_),V8,Vu] none 400 true Nz (stL Hi ((s1,s2,u,u2,()),())) (stH Hi ((s1,s2,u,u2,()),()))=equali_l1 N (n_+1) s1 s2 u u2:=by kernel_rfl
theorem Af9(N:Nat){top:Bool}:Ab Try.prog Gc.c Gc.n Gc.m0 top (Pu N):=A3 (Z:=(Unit)⊕(Unit)) (N:=N) (fun m p=>equali_l1 N m p.1.1 p.1.2.1 p.1.2.2.1 p.1.2.2.2.1) (fun e=>match e with | .inl x=>.inl ((),()) | .inr x=>.inr (.inl ((),()))) (fun _ p k=>A9 (equali_l1 N N p.1.1 p.1.2.1 p.1.2.2.1 p.1.2.2.2.1) _ _ (fun e=>by rcases e with x | x<;>rfl)) (fun _=>rfl) (fun m z E Xc hE hX hrec hx=>A2 (B:=Gc) (loops:=[]) (leaves:=[Zq (equali_l1 N m),V8,Vu]) (A49 N) mixed trivial hE hX ⟨hrec,(fun p hp=>by obtain rfl:=Option.some.inj hp;exact hx),(fun p hp=>by obtain rfl:=Option.some.inj hp;exact hx),trivial⟩ Aa.no (fun p=>Agv N m p.1.1 p.1.2.1 p.1.2.2.1 p.1.2.2.2.1))
abbrev Aa3:Sta:=⟨[0,1],⟨[.sl (.int .i64),.sl (.int .i64)],[]⟩⟩
theorem Awx(N:Nat)(s1:List Int)(s2:List Int):ev (Z:=Bool) Try.prog (Yf N) Gc [Pu N] [] (some Abv) 400 false [.c [0],.c [1]] (stL Aa3 ((s1,s2,()),())) (stH Aa3 ((s1,s2,()),()))=R0 N s1 s2:=by kernel_rfl
noncomputable def Adb(N:Nat):Spec:={ f:=63,ins:=⟨[.sl (.int .i64),.sl (.int .i64)],[]⟩,outs:=[⟨[.b],[]⟩],run:=fun p k=>(R0 N p.1.1 p.1.2.1).bind fun r=>k ((r,()),()) }
theorem Afg(N:Nat):A0 Try.prog (Adb N):=A1 (B:=Gc) (loops:=[Pu N]) (leaves:=[]) (fun p=>R0 N p.1.1 p.1.2.1) (fun r=>((r,()),())) Abv (fun _ _ _=>rfl) (fun r z h=>by cases h;rfl) Try.func63 (by kernel_rfl) (by kernel_rfl) (by kernel_rfl) rfl rfl (by kernel_rfl) (fun args w=>Sem.pv_run _ _ _ (by kernel_rfl) w) (A49 N) mixed ⟨Af9 N,trivial⟩ (fun z E Xc hE hX hret=>trivial) (fun p=>Awx N p.1.1 p.1.2.1)

def K7(N:Nat)(a:List Int)(b:List Int):Option Bool:=
 (R0 N a b).bind fun x_1=>
 some x_1
noncomputable def Ams(N:Nat):List Spec:=[Adb N]
theorem Avv(N:Nat):AllP (A0 Try.prog) (Ams N):=⟨Afg N,trivial⟩
noncomputable def B2w:Code:=(Try.f26.body).getD .skip
noncomputable abbrev Ag5:Body:={ c:=B2w,n:=8,res:=[.tmp 4],outs:=[⟨[.b],[]⟩],m0:=0 }
abbrev Ak7:altD Ag5.outs→Option Bool:=fun r=>some r.1.1
abbrev Ajn:Sta:=⟨[0,1],⟨[.sl (.int .i64),.sl (.int .i64)],[]⟩⟩
theorem B25(N:Nat)(a:List Int)(b:List Int):ev (Z:=Bool) Try.prog (Ams N) Ag5 [] [] (some Ak7) 400 false [.c [0],.c [1]] (stL Ajn ((a,b,()),())) (stH Ajn ((a,b,()),()))=K7 N a b:=by kernel_rfl
noncomputable def A89(N:Nat):Spec:={ f:=26,ins:=⟨[.sl (.int .i64),.sl (.int .i64)],[]⟩,outs:=[⟨[.b],[]⟩],run:=fun p k=>(K7 N p.1.1 p.1.2.1).bind fun r=>k ((r,()),()) }
theorem A0j(N:Nat):A0 Try.prog (A89 N):=A1 (B:=Ag5) (loops:=[]) (leaves:=[]) (fun p=>K7 N p.1.1 p.1.2.1) (fun r=>((r,()),())) Ak7 (fun _ _ _=>rfl) (fun r z h=>by cases h;rfl) Try.func26 (by kernel_rfl) (by kernel_rfl) (by kernel_rfl) rfl rfl (by kernel_rfl) (fun args w=>Sem.pv_run _ _ _ (by kernel_rfl) w) (Avv N) mixed trivial (fun z E Xc hE hX hret=>trivial) (fun p=>B25 N p.1.1 p.1.2.1)

def Ir(N:Nat)(s:List Int):Option Qd:=
 grd (!s.isEmpty)<|
 lim (([]:Qd).length+s.length)<|
 some (([]:Qd)++s)
noncomputable def Ad6(N:Nat):List Spec:=[]
theorem Aq3(N:Nat):AllP (A0 Try.prog) (Ad6 N):=trivial
noncomputable def B1x:Code:=(Try.f59.body).getD .skip
noncomputable abbrev A4i:Body:={ c:=B1x,n:=8,res:=[.tmp 2],outs:=[⟨[.ols 0],[.lst (.int .i64)]⟩],m0:=0 }
abbrev Ab8:altD A4i.outs→Option Qd:=fun r=>some r.2.1
abbrev Ace:Sta:=⟨[0],⟨[.sl (.int .i64)],[]⟩⟩
theorem Ay3(N:Nat)(s:List Int):ev (Z:=List Int) Try.prog (Ad6 N) A4i [] [] (some Ab8) 400 false [.c [0],.c [1]] (stL Ace ((s,()),())) (stH Ace ((s,()),()))=Ir N s:=by kernel_rfl
noncomputable def Ac3(N:Nat):Spec:={ f:=59,ins:=⟨[.sl (.int .i64)],[]⟩,outs:=[⟨[.ols 0],[.lst (.int .i64)]⟩],run:=fun p k=>(Ir N p.1.1).bind fun r=>k (((),()),(r,())) }
theorem X9(N:Nat):A0 Try.prog (Ac3 N):=A1 (B:=A4i) (loops:=[]) (leaves:=[]) (fun p=>Ir N p.1.1) (fun r=>(((),()),(r,()))) Ab8 (fun _ _ _=>rfl) (fun r z h=>by cases h;rfl) Try.func59 (by kernel_rfl) (by kernel_rfl) (by kernel_rfl) rfl rfl (by kernel_rfl) (fun args w=>Sem.pv_run _ _ _ (by kernel_rfl) w) (Aq3 N) mixed trivial (fun z E Xc hE hX hret=>trivial) (fun p=>Ay3 N p.1.1)

end Go.Proofs.Ytgeijboidfadaaa

namespace Go.Proofs.Ytgeijboidfadaaa.Fe
set_option linter.all false
open Go

def Ap(N:Nat)(n:Int)(lo:Int)(hi:Int):Option Bool:=
 br (decide (lo≤n))
  (some (decide (n≤hi)))
  (some false)
noncomputable def Hv(N:Nat):List Spec:=[]
theorem Mh(N:Nat):AllP (A0 Try.prog) (Hv N):=trivial
noncomputable def A44:Code:=(Try.f60.body).getD .skip
noncomputable abbrev I9:Body:={ c:=A44,n:=15,res:=[.tmp 6],outs:=[⟨[.b],[]⟩],m0:=0 }
abbrev I6:altD I9.outs→Option Bool:=fun r=>some r.1.1
abbrev Iq:Sta:=⟨[0,1,2],⟨[.i .i64,.i .i64,.i .i64],[]⟩⟩
theorem Ts(N:Nat)(n:Int)(lo:Int)(hi:Int):ev (Z:=Bool) Try.prog (Hv N) I9 [] [] (some I6) 400 false [.c [0],.c [1]] (stL Iq ((n,lo,hi,()),())) (stH Iq ((n,lo,hi,()),()))=Ap N n lo hi:=by kernel_rfl
noncomputable def Bb(N:Nat):Spec:={ f:=60,ins:=⟨[.i .i64,.i .i64,.i .i64],[]⟩,outs:=[⟨[.b],[]⟩],run:=fun p k=>(Ap N p.1.1 p.1.2.1 p.1.2.2.1).bind fun r=>k ((r,()),()) }
theorem Am(N:Nat):A0 Try.prog (Bb N):=A1 (B:=I9) (loops:=[]) (leaves:=[]) (fun p=>Ap N p.1.1 p.1.2.1 p.1.2.2.1) (fun r=>((r,()),())) I6 (fun _ _ _=>rfl) (fun r z h=>by cases h;rfl) Try.func60 (by kernel_rfl) (by kernel_rfl) (by kernel_rfl) rfl rfl (by kernel_rfl) (fun args w=>Sem.pv_run _ _ _ (by kernel_rfl) w) (Mh N) mixed trivial (fun z E Xc hE hX hret=>trivial) (fun p=>Ts N p.1.1 p.1.2.1 p.1.2.2.1)

def A2l(N:Nat)(b:Int)(b2:Int)(b3:Int)(b4:Int)(b5:List Qy)(n:Int):Option Bool:=
 chk (b-1)<|
 (Ap N n 0 (b-1)).bind fun x_1=>
 some x_1
noncomputable def Akv(N:Nat):List Spec:=[Bb N]
theorem Avu(N:Nat):AllP (A0 Try.prog) (Akv N):=⟨Am N,trivial⟩
noncomputable def B4c:Code:=(Try.f121.body).getD .skip
noncomputable abbrev Ah5:Body:={ c:=B4c,n:=10,res:=[.tmp 4],outs:=[⟨[.b],[]⟩],m0:=0 }
abbrev Alu:altD Ah5.outs→Option Bool:=fun r=>some r.1.1
abbrev Ang:Sta:=⟨[0,1],⟨[.agg [.i .i64,.i .i64,.i .i64,.i .i64,.sl Qm],.i .i64],[]⟩⟩
theorem B1m(N:Nat)(b:Int)(b2:Int)(b3:Int)(b4:Int)(b5:List Qy)(n:Int):ev (Z:=Bool) Try.prog (Akv N) Ah5 [] [] (some Alu) 400 false [.c [0],.c [1]] (stL Ang (((b,b2,b3,b4,b5,()),n,()),())) (stH Ang (((b,b2,b3,b4,b5,()),n,()),()))=A2l N b b2 b3 b4 b5 n:=by kernel_rfl
noncomputable def Ahk(N:Nat):Spec:={ f:=121,ins:=⟨[.agg [.i .i64,.i .i64,.i .i64,.i .i64,.sl Qm],.i .i64],[]⟩,outs:=[⟨[.b],[]⟩],run:=fun p k=>(A2l N p.1.1.1 p.1.1.2.1 p.1.1.2.2.1 p.1.1.2.2.2.1 p.1.1.2.2.2.2.1 p.1.2.1).bind fun r=>k ((r,()),()) }
theorem Akx(N:Nat):A0 Try.prog (Ahk N):=A1 (B:=Ah5) (loops:=[]) (leaves:=[]) (fun p=>A2l N p.1.1.1 p.1.1.2.1 p.1.1.2.2.1 p.1.1.2.2.2.1 p.1.1.2.2.2.2.1 p.1.2.1) (fun r=>((r,()),())) Alu (fun _ _ _=>rfl) (fun r z h=>by cases h;rfl) Try.func121 (by kernel_rfl) (by kernel_rfl) (by kernel_rfl) rfl rfl (by kernel_rfl) (fun args w=>Sem.pv_run _ _ _ (by kernel_rfl) w) (Avu N) mixed trivial (fun z E Xc hE hX hret=>trivial) (fun p=>B1m N p.1.1.1 p.1.1.2.1 p.1.1.2.2.1 p.1.1.2.2.2.1 p.1.1.2.2.2.2.1 p.1.2.1)

def Ao(N:Nat)(r:Int)(r2:Int)(r3:List Int):Option Bool:=
 (Ap N r 1 9).bind fun x_1=>
 br x_1
  ((Ap N r2 1 5).bind fun x_2=>
  some x_2)
  (some false)
noncomputable def Bu(N:Nat):List Spec:=[Bb N]
theorem E7(N:Nat):AllP (A0 Try.prog) (Bu N):=⟨Am N,trivial⟩
noncomputable def J8:Code:=(Try.f120.body).getD .skip
noncomputable abbrev Bk:Body:={ c:=J8,n:=11,res:=[.tmp 2],outs:=[⟨[.b],[]⟩],m0:=0 }
abbrev C2:altD Bk.outs→Option Bool:=fun r=>some r.1.1
abbrev Bx:Sta:=⟨[0],⟨[.agg [.i .i64,.i .i64,.sl (.int .i64)]],[]⟩⟩
theorem Fm(N:Nat)(r:Int)(r2:Int)(r3:List Int):ev (Z:=Bool) Try.prog (Bu N) Bk [] [] (some C2) 400 false [.c [0],.c [1]] (stL Bx (((r,r2,r3,()),()),())) (stH Bx (((r,r2,r3,()),()),()))=Ao N r r2 r3:=by kernel_rfl
noncomputable def Bo(N:Nat):Spec:={ f:=120,ins:=⟨[.agg [.i .i64,.i .i64,.sl (.int .i64)]],[]⟩,outs:=[⟨[.b],[]⟩],run:=fun p k=>(Ao N p.1.1.1 p.1.1.2.1 p.1.1.2.2.1).bind fun r=>k ((r,()),()) }
theorem Bp(N:Nat):A0 Try.prog (Bo N):=A1 (B:=Bk) (loops:=[]) (leaves:=[]) (fun p=>Ao N p.1.1.1 p.1.1.2.1 p.1.1.2.2.1) (fun r=>((r,()),())) C2 (fun _ _ _=>rfl) (fun r z h=>by cases h;rfl) Try.func120 (by kernel_rfl) (by kernel_rfl) (by kernel_rfl) rfl rfl (by kernel_rfl) (fun args w=>Sem.pv_run _ _ _ (by kernel_rfl) w) (E7 N) mixed trivial (fun z E Xc hE hX hret=>trivial) (fun p=>Fm N p.1.1.1 p.1.1.2.1 p.1.1.2.2.1)

def Rb(N:Nat)(x:Int)(g:Int)(g2:Int)(g3:Int)(g4:Int)(g5:List Qy):Option (Bool×Int×Int×Int×Int×Ql):=
 (A2l N g g2 g3 g4 g5 x).bind fun x_1=>
 some ((!x_1),g,g2,g3,g4,g5)
noncomputable def A6o(N:Nat):List Spec:=[Ahk N]
theorem Aji(N:Nat):AllP (A0 Try.prog) (A6o N):=⟨Akx N,trivial⟩
noncomputable def Aw5:Code:=(Try.f94.body).getD .skip
noncomputable abbrev Yz:Body:={ c:=Aw5,n:=8,res:=[.tmp 3],outs:=[⟨[.b],[.segs [.fn 121 [.agg [.i .i64,.i .i64,.i .i64,.i .i64,.sl Qm]] []]]⟩],m0:=1 }
abbrev A8k:altD Yz.outs→Option (Bool×Int×Int×Int×Int×Ql):=fun r=>some (r.1.1,r.2.1.1.1.1.1,r.2.1.1.1.1.2.1,r.2.1.1.1.1.2.2.1,r.2.1.1.1.1.2.2.2.1,r.2.1.1.1.1.2.2.2.2.1)
abbrev A7t:Sta:=⟨[0,1],⟨[.i .i64,.own 0 0],[.segs [.fn 121 [.agg [.i .i64,.i .i64,.i .i64,.i .i64,.sl Qm]] []]]⟩⟩
theorem Aol(N:Nat)(x:Int)(g:Int)(g2:Int)(g3:Int)(g4:Int)(g5:List Qy):ev (Z:=Bool×Int×Int×Int×Int×Ql) Try.prog (A6o N) Yz [] [] (some A8k) 400 false [.c [0],.c [1]] (stL A7t ((x,(),()),(((((g,g2,g3,g4,g5,()),()),()),()),()))) (stH A7t ((x,(),()),(((((g,g2,g3,g4,g5,()),()),()),()),())))=Rb N x g g2 g3 g4 g5:=by kernel_rfl
noncomputable def A8r(N:Nat):Spec:={ f:=94,ins:=⟨[.i .i64,.own 0 0],[.segs [.fn 121 [.agg [.i .i64,.i .i64,.i .i64,.i .i64,.sl Qm]] []]]⟩,outs:=[⟨[.b],[.segs [.fn 121 [.agg [.i .i64,.i .i64,.i .i64,.i .i64,.sl Qm]] []]]⟩],run:=fun p k=>(Rb N p.1.1 p.2.1.1.1.1.1 p.2.1.1.1.1.2.1 p.2.1.1.1.1.2.2.1 p.2.1.1.1.1.2.2.2.1 p.2.1.1.1.1.2.2.2.2.1).bind fun r=>k ((r.1,()),(((((r.2.1,r.2.2.1,r.2.2.2.1,r.2.2.2.2.1,r.2.2.2.2.2,()),()),()),()),())) }
theorem A9z(N:Nat):A0 Try.prog (A8r N):=A1 (B:=Yz) (loops:=[]) (leaves:=[]) (fun p=>Rb N p.1.1 p.2.1.1.1.1.1 p.2.1.1.1.1.2.1 p.2.1.1.1.1.2.2.1 p.2.1.1.1.1.2.2.2.1 p.2.1.1.1.1.2.2.2.2.1) (fun r=>((r.1,()),(((((r.2.1,r.2.2.1,r.2.2.2.1,r.2.2.2.2.1,r.2.2.2.2.2,()),()),()),()),()))) A8k (fun _ _ _=>rfl) (fun r z h=>by cases h;rfl) Try.func94 (by kernel_rfl) (by kernel_rfl) (by kernel_rfl) rfl rfl (by kernel_rfl) (fun args w=>Sem.pv_run _ _ _ (by kernel_rfl) w) (Aji N) mixed trivial (fun z E Xc hE hX hret=>trivial) (fun p=>Aol N p.1.1 p.2.1.1.1.1.1 p.2.1.1.1.1.2.1 p.2.1.1.1.1.2.2.1 p.2.1.1.1.1.2.2.2.1 p.2.1.1.1.1.2.2.2.2.1)

def Jy(N:Nat):Nat→Qd→Int→Int→Int→Int→Int→Int→Ql→Option (QO⊕(Int×Int×Int×Int×Ql))
 | 0,_,_,_,_,_,_,_,_=>none
 | n_+1,s,u,u2,f,f2,f3,f4,f5=>
  br (decide (u2<u))
   (idx s u2 fun x_1=>
   (Rb N x_1 f f2 f3 f4 f5).bind fun(x_2,y_3,y_4,y_5,y_6,y_7)=>
   br x_2
    (some (.inl (u2,y_3,y_4,y_5,y_6,y_7)))
    (chk (u2+1)<|
    Jy N n_ s u (u2+1) y_3 y_4 y_5 y_6 y_7))
   (some (.inr (f,f2,f3,f4,f5)))
def Afn(N:Nat)(s:List Int)(f:Int)(f2:Int)(f3:Int)(f4:Int)(f5:List Qy):Option QO:=
 (Jy N N s (s.length:Int) 0 f f2 f3 f4 f5).bind fun e=>match e with
 | .inl (i_8,g_9,g2_10,g3_11,g4_12,g5_13)=>
  some (i_8,g_9,g2_10,g3_11,g4_12,g5_13)
 | .inr (g_14,g2_15,g3_16,g4_17,g5_18)=>
  some (-1,g_14,g2_15,g3_16,g4_17,g5_18)
noncomputable def Afa(N:Nat):List Spec:=[A8r N]
theorem Ali(N:Nat):AllP (A0 Try.prog) (Afa N):=⟨A9z N,trivial⟩
noncomputable def B5q:Code:=(Try.f80.body).getD .skip
noncomputable abbrev Ot:Body:={ c:=B5q,n:=19,res:=[.tmp 4],outs:=[⟨[.i .i64],[.segs [.fn 121 [.agg [.i .i64,.i .i64,.i .i64,.i .i64,.sl Qm]] []]]⟩],m0:=1 }
abbrev Au1:altD Ot.outs→Option QO:=fun r=>some (r.1.1,r.2.1.1.1.1.1,r.2.1.1.1.1.2.1,r.2.1.1.1.1.2.2.1,r.2.1.1.1.1.2.2.2.1,r.2.1.1.1.1.2.2.2.2.1)
abbrev Su:List PI:=[.c [1,0,1,0,0,0],.c [1,0,1,0,0,1],.l [1,0,1,0,0],.b 0,.c [1,1]]
abbrev Nt:Sta:=⟨[0,1,7,8],⟨[.sl (.int .i64),.fn 94 [] [.own 0 0],.i .i64,.i .i64],[.segs [.fn 121 [.agg [.i .i64,.i .i64,.i .i64,.i .i64,.sl Qm]] []]]⟩⟩
abbrev Acv(rec:Qd→Int→Int→Int→Int→Int→Int→Ql→Option (QO⊕(Int×Int×Int×Int×Ql))):Leaf (QO⊕(Int×Int×Int×Int×Ql)):=⟨Su,Nt,fun p=>rec p.1.1 p.1.2.2.1 p.1.2.2.2.1 p.2.1.1.1.1.1 p.2.1.1.1.1.2.1 p.2.1.1.1.1.2.2.1 p.2.1.1.1.1.2.2.2.1 p.2.1.1.1.1.2.2.2.2.1⟩
abbrev A4m:Leaf (QO⊕(Int×Int×Int×Int×Ql)):=⟨[.c [1,0,1,0,0,1,1,0,0,1,1,0,0],.c [1,0,1,0,0,1,1,0,0,1,1,0,1],.b 1,.c [1,0,1,0,0,1,1,1],.l [1,0,1,0,0],.b 0,.c [1,1]],⟨[5],⟨[.i .i64],[.segs [.fn 121 [.agg [.i .i64,.i .i64,.i .i64,.i .i64,.sl Qm]] []]]⟩⟩,fun p=>some (.inl (p.1.1,p.2.1.1.1.1.1,p.2.1.1.1.1.2.1,p.2.1.1.1.1.2.2.1,p.2.1.1.1.1.2.2.2.1,p.2.1.1.1.1.2.2.2.2.1))⟩
abbrev A68:Leaf (QO⊕(Int×Int×Int×Int×Ql)):=⟨[.c [1,1,0],.c [1,1,1]],⟨[],⟨[],[.segs [.fn 121 [.agg [.i .i64,.i .i64,.i .i64,.i .i64,.sl Qm]] []]]⟩⟩,fun p=>some (.inr (p.2.1.1.1.1.1,p.2.1.1.1.1.2.1,p.2.1.1.1.1.2.2.1,p.2.1.1.1.1.2.2.2.1,p.2.1.1.1.1.2.2.2.2.1))⟩
noncomputable def Xp(N:Nat):Ai:={ at_:=Su,sta:=Nt,exits:=[([.c [1,0,1,0,0,1,1,0,0,1,1,0,0],.c [1,0,1,0,0,1,1,0,0,1,1,0,1],.b 1,.c [1,0,1,0,0,1,1,1],.l [1,0,1,0,0],.b 0,.c [1,1]],⟨[5],⟨[.i .i64],[.segs [.fn 121 [.agg [.i .i64,.i .i64,.i .i64,.i .i64,.sl Qm]] []]]⟩⟩),([.c [1,1,0],.c [1,1,1]],⟨[],⟨[],[.segs [.fn 121 [.agg [.i .i64,.i .i64,.i .i64,.i .i64,.sl Qm]] []]]⟩⟩)],run:=fun p k=>(Jy N N p.1.1 p.1.2.2.1 p.1.2.2.2.1 p.2.1.1.1.1.1 p.2.1.1.1.1.2.1 p.2.1.1.1.1.2.2.1 p.2.1.1.1.1.2.2.2.1 p.2.1.1.1.1.2.2.2.2.1).bind fun e=>match e with | .inl x=>k (.inl ((x.1,()),(((((x.2.1,x.2.2.1,x.2.2.2.1,x.2.2.2.2.1,x.2.2.2.2.2,()),()),()),()),()))) | .inr x=>k (.inr (.inl ((),(((((x.1,x.2.1,x.2.2.1,x.2.2.2.1,x.2.2.2.2,()),()),()),()),())))) }
theorem Aq8(N n_:Nat)(s:List Int)(u:Int)(u2:Int)(f:Int)(f2:Int)(f3:Int)(f4:Int)(f5:List Qy):ev (Z:=QO⊕(Int×Int×Int×Int×Ql)) Try.prog (Afa N) Ot [] [Acv (Jy N n_),A4m,A68] none 400 true Su (stL Nt ((s,((),((),())),u,u2,()),(((((f,f2,f3,f4,f5,()),()),()),()),()))) (stH Nt ((s,((),((),())),u,u2,()),(((((f,f2,f3,f4,f5,()),()),()),()),())))=Jy N (n_+1) s u u2 f f2 f3 f4 f5:=by kernel_rfl
theorem Aok(N:Nat){top:Bool}:Ab Try.prog Ot.c Ot.n Ot.m0 top (Xp N):=A3 (Z:=QO⊕(Int×Int×Int×Int×Ql)) (N:=N) (fun m p=>Jy N m p.1.1 p.1.2.2.1 p.1.2.2.2.1 p.2.1.1.1.1.1 p.2.1.1.1.1.2.1 p.2.1.1.1.1.2.2.1 p.2.1.1.1.1.2.2.2.1 p.2.1.1.1.1.2.2.2.2.1) (fun e=>match e with | .inl x=>.inl ((x.1,()),(((((x.2.1,x.2.2.1,x.2.2.2.1,x.2.2.2.2.1,x.2.2.2.2.2,()),()),()),()),())) | .inr x=>.inr (.inl ((),(((((x.1,x.2.1,x.2.2.1,x.2.2.2.1,x.2.2.2.2,()),()),()),()),())))) (fun _ p k=>A9 (Jy N N p.1.1 p.1.2.2.1 p.1.2.2.2.1 p.2.1.1.1.1.1 p.2.1.1.1.1.2.1 p.2.1.1.1.1.2.2.1 p.2.1.1.1.1.2.2.2.1 p.2.1.1.1.1.2.2.2.2.1) _ _ (fun e=>by rcases e with x | x<;>rfl)) (fun _=>rfl) (fun m z E Xc hE hX hrec hx=>A2 (B:=Ot) (loops:=[]) (leaves:=[Acv (Jy N m),A4m,A68]) (Ali N) mixed trivial hE hX ⟨hrec,(fun p hp=>by obtain rfl:=Option.some.inj hp;exact hx),(fun p hp=>by obtain rfl:=Option.some.inj hp;exact hx),trivial⟩ Aa.no (fun p=>Aq8 N m p.1.1 p.1.2.2.1 p.1.2.2.2.1 p.2.1.1.1.1.1 p.2.1.1.1.1.2.1 p.2.1.1.1.1.2.2.1 p.2.1.1.1.1.2.2.2.1 p.2.1.1.1.1.2.2.2.2.1))
abbrev Av5:Sta:=⟨[0,1],⟨[.sl (.int .i64),.fn 94 [] [.own 0 0]],[.segs [.fn 121 [.agg [.i .i64,.i .i64,.i .i64,.i .i64,.sl Qm]] []]]⟩⟩
theorem B3x(N:Nat)(s:List Int)(f:Int)(f2:Int)(f3:Int)(f4:Int)(f5:List Qy):ev (Z:=Int×Int×Int×Int×Int×Ql) Try.prog (Afa N) Ot [Xp N] [] (some Au1) 400 false [.c [0],.c [1]] (stL Av5 ((s,((),((),())),()),(((((f,f2,f3,f4,f5,()),()),()),()),()))) (stH Av5 ((s,((),((),())),()),(((((f,f2,f3,f4,f5,()),()),()),()),())))=Afn N s f f2 f3 f4 f5:=by kernel_rfl
noncomputable def Avk(N:Nat):Spec:={ f:=80,ins:=⟨[.sl (.int .i64),.fn 94 [] [.own 0 0]],[.segs [.fn 121 [.agg [.i .i64,.i .i64,.i .i64,.i .i64,.sl Qm]] []]]⟩,outs:=[⟨[.i .i64],[.segs [.fn 121 [.agg [.i .i64,.i .i64,.i .i64,.i .i64,.sl Qm]] []]]⟩],run:=fun p k=>(Afn N p.1.1 p.2.1.1.1.1.1 p.2.1.1.1.1.2.1 p.2.1.1.1.1.2.2.1 p.2.1.1.1.1.2.2.2.1 p.2.1.1.1.1.2.2.2.2.1).bind fun r=>k ((r.1,()),(((((r.2.1,r.2.2.1,r.2.2.2.1,r.2.2.2.2.1,r.2.2.2.2.2,()),()),()),()),())) }
theorem Aqp(N:Nat):A0 Try.prog (Avk N):=A1 (B:=Ot) (loops:=[Xp N]) (leaves:=[]) (fun p=>Afn N p.1.1 p.2.1.1.1.1.1 p.2.1.1.1.1.2.1 p.2.1.1.1.1.2.2.1 p.2.1.1.1.1.2.2.2.1 p.2.1.1.1.1.2.2.2.2.1) (fun r=>((r.1,()),(((((r.2.1,r.2.2.1,r.2.2.2.1,r.2.2.2.2.1,r.2.2.2.2.2,()),()),()),()),()))) Au1 (fun _ _ _=>rfl) (fun r z h=>by cases h;rfl) Try.func80 (by kernel_rfl) (by kernel_rfl) (by kernel_rfl) rfl rfl (by kernel_rfl) (fun args w=>Sem.pv_run _ _ _ (by kernel_rfl) w) (Ali N) mixed ⟨Aok N,trivial⟩ (fun z E Xc hE hX hret=>trivial) (fun p=>B3x N p.1.1 p.2.1.1.1.1.1 p.2.1.1.1.1.2.1 p.2.1.1.1.1.2.2.1 p.2.1.1.1.1.2.2.2.1 p.2.1.1.1.1.2.2.2.2.1)

def Aeq(N:Nat)(s:List Int)(f:Int)(f2:Int)(f3:Int)(f4:Int)(f5:List Qy):Option (Bool×Int×Int×Int×Int×Ql):=
 (Afn N s f f2 f3 f4 f5).bind fun(x_1,y_2,y_3,y_4,y_5,y_6)=>
 some ((decide (0≤x_1)),y_2,y_3,y_4,y_5,y_6)
noncomputable def Auu(N:Nat):List Spec:=[Avk N]
theorem B0w(N:Nat):AllP (A0 Try.prog) (Auu N):=⟨Aqp N,trivial⟩
noncomputable def B7d:Code:=(Try.f93.body).getD .skip
noncomputable abbrev Aqr:Body:={ c:=B7d,n:=9,res:=[.tmp 4],outs:=[⟨[.b],[.segs [.fn 121 [.agg [.i .i64,.i .i64,.i .i64,.i .i64,.sl Qm]] []]]⟩],m0:=1 }
abbrev Atv:altD Aqr.outs→Option (Bool×Int×Int×Int×Int×Ql):=fun r=>some (r.1.1,r.2.1.1.1.1.1,r.2.1.1.1.1.2.1,r.2.1.1.1.1.2.2.1,r.2.1.1.1.1.2.2.2.1,r.2.1.1.1.1.2.2.2.2.1)
abbrev Asp:Sta:=⟨[0,1],⟨[.sl (.int .i64),.fn 94 [] [.own 0 0]],[.segs [.fn 121 [.agg [.i .i64,.i .i64,.i .i64,.i .i64,.sl Qm]] []]]⟩⟩
theorem B47(N:Nat)(s:List Int)(f:Int)(f2:Int)(f3:Int)(f4:Int)(f5:List Qy):ev (Z:=Bool×Int×Int×Int×Int×Ql) Try.prog (Auu N) Aqr [] [] (some Atv) 400 false [.c [0],.c [1]] (stL Asp ((s,((),((),())),()),(((((f,f2,f3,f4,f5,()),()),()),()),()))) (stH Asp ((s,((),((),())),()),(((((f,f2,f3,f4,f5,()),()),()),()),())))=Aeq N s f f2 f3 f4 f5:=by kernel_rfl
noncomputable def As5(N:Nat):Spec:={ f:=93,ins:=⟨[.sl (.int .i64),.fn 94 [] [.own 0 0]],[.segs [.fn 121 [.agg [.i .i64,.i .i64,.i .i64,.i .i64,.sl Qm]] []]]⟩,outs:=[⟨[.b],[.segs [.fn 121 [.agg [.i .i64,.i .i64,.i .i64,.i .i64,.sl Qm]] []]]⟩],run:=fun p k=>(Aeq N p.1.1 p.2.1.1.1.1.1 p.2.1.1.1.1.2.1 p.2.1.1.1.1.2.2.1 p.2.1.1.1.1.2.2.2.1 p.2.1.1.1.1.2.2.2.2.1).bind fun r=>k ((r.1,()),(((((r.2.1,r.2.2.1,r.2.2.2.1,r.2.2.2.2.1,r.2.2.2.2.2,()),()),()),()),())) }
theorem Apt(N:Nat):A0 Try.prog (As5 N):=A1 (B:=Aqr) (loops:=[]) (leaves:=[]) (fun p=>Aeq N p.1.1 p.2.1.1.1.1.1 p.2.1.1.1.1.2.1 p.2.1.1.1.1.2.2.1 p.2.1.1.1.1.2.2.2.1 p.2.1.1.1.1.2.2.2.2.1) (fun r=>((r.1,()),(((((r.2.1,r.2.2.1,r.2.2.2.1,r.2.2.2.2.1,r.2.2.2.2.2,()),()),()),()),()))) Atv (fun _ _ _=>rfl) (fun r z h=>by cases h;rfl) Try.func93 (by kernel_rfl) (by kernel_rfl) (by kernel_rfl) rfl rfl (by kernel_rfl) (fun args w=>Sem.pv_run _ _ _ (by kernel_rfl) w) (B0w N) mixed trivial (fun z E Xc hE hX hret=>trivial) (fun p=>B47 N p.1.1 p.2.1.1.1.1.1 p.2.1.1.1.1.2.1 p.2.1.1.1.1.2.2.1 p.2.1.1.1.1.2.2.2.1 p.2.1.1.1.1.2.2.2.2.1)

def Vq(N:Nat)(l:List Int)(holds:Int)(holds2:Int)(holds3:Int)(holds4:Int)(holds5:List Qy):Option Bool:=
 (Aeq N l holds holds2 holds3 holds4 holds5).bind fun(x_1,y_2,y_3,y_4,y_5,y_6)=>
 some (!x_1)
noncomputable def Ab9(N:Nat):List Spec:=[As5 N]
theorem Arr(N:Nat):AllP (A0 Try.prog) (Ab9 N):=⟨Apt N,trivial⟩
noncomputable def Az1:Code:=(Try.f61.body).getD .skip
noncomputable abbrev A6e:Body:={ c:=Az1,n:=9,res:=[.tmp 4],outs:=[⟨[.b],[]⟩],m0:=0 }
abbrev Abm:altD A6e.outs→Option Bool:=fun r=>some r.1.1
abbrev Ack:Sta:=⟨[0,1],⟨[.sl (.int .i64),.fn 121 [.agg [.i .i64,.i .i64,.i .i64,.i .i64,.sl Qm]] []],[]⟩⟩
theorem Awg(N:Nat)(l:List Int)(holds:Int)(holds2:Int)(holds3:Int)(holds4:Int)(holds5:List Qy):ev (Z:=Bool) Try.prog (Ab9 N) A6e [] [] (some Abm) 400 false [.c [0],.c [1]] (stL Ack ((l,(((holds,holds2,holds3,holds4,holds5,()),()),()),()),())) (stH Ack ((l,(((holds,holds2,holds3,holds4,holds5,()),()),()),()),()))=Vq N l holds holds2 holds3 holds4 holds5:=by kernel_rfl
noncomputable def Acu(N:Nat):Spec:={ f:=61,ins:=⟨[.sl (.int .i64),.fn 121 [.agg [.i .i64,.i .i64,.i .i64,.i .i64,.sl Qm]] []],[]⟩,outs:=[⟨[.b],[]⟩],run:=fun p k=>(Vq N p.1.1 p.1.2.1.1.1.1 p.1.2.1.1.1.2.1 p.1.2.1.1.1.2.2.1 p.1.2.1.1.1.2.2.2.1 p.1.2.1.1.1.2.2.2.2.1).bind fun r=>k ((r,()),()) }
theorem Adu(N:Nat):A0 Try.prog (Acu N):=A1 (B:=A6e) (loops:=[]) (leaves:=[]) (fun p=>Vq N p.1.1 p.1.2.1.1.1.1 p.1.2.1.1.1.2.1 p.1.2.1.1.1.2.2.1 p.1.2.1.1.1.2.2.2.1 p.1.2.1.1.1.2.2.2.2.1) (fun r=>((r,()),())) Abm (fun _ _ _=>rfl) (fun r z h=>by cases h;rfl) Try.func61 (by kernel_rfl) (by kernel_rfl) (by kernel_rfl) rfl rfl (by kernel_rfl) (fun args w=>Sem.pv_run _ _ _ (by kernel_rfl) w) (Arr N) mixed trivial (fun z E Xc hE hX hret=>trivial) (fun p=>Awg N p.1.1 p.1.2.1.1.1.1 p.1.2.1.1.1.2.1 p.1.2.1.1.1.2.2.1 p.1.2.1.1.1.2.2.2.1 p.1.2.1.1.1.2.2.2.2.1)

def Cn(N:Nat)(x:Int)(x2:Int)(x3:List Int):Option Bool:=
 (Ao N x x2 x3).bind fun x_1=>
 some (!x_1)
noncomputable def Jh(N:Nat):List Spec:=[Bo N]
theorem R6(N:Nat):AllP (A0 Try.prog) (Jh N):=⟨Bp N,trivial⟩
noncomputable def Yq:Code:=(Try.f138.body).getD .skip
noncomputable abbrev Fx:Body:={ c:=Yq,n:=8,res:=[.tmp 3],outs:=[⟨[.b],[.segs [.fn 120 [] []]]⟩],m0:=1 }
abbrev Ie:altD Fx.outs→Option Bool:=fun r=>some r.1.1
abbrev J2:Sta:=⟨[0,1],⟨[.agg [.i .i64,.i .i64,.sl (.int .i64)],.own 0 0],[.segs [.fn 120 [] []]]⟩⟩
theorem U4(N:Nat)(x:Int)(x2:Int)(x3:List Int):ev (Z:=Bool) Try.prog (Jh N) Fx [] [] (some Ie) 400 false [.c [0],.c [1]] (stL J2 (((x,x2,x3,()),(),()),((((),()),()),()))) (stH J2 (((x,x2,x3,()),(),()),((((),()),()),())))=Cn N x x2 x3:=by kernel_rfl
noncomputable def Ij(N:Nat):Spec:={ f:=138,ins:=⟨[.agg [.i .i64,.i .i64,.sl (.int .i64)],.own 0 0],[.segs [.fn 120 [] []]]⟩,outs:=[⟨[.b],[.segs [.fn 120 [] []]]⟩],run:=fun p k=>(Cn N p.1.1.1 p.1.1.2.1 p.1.1.2.2.1).bind fun r=>k ((r,()),((((),()),()),())) }
theorem Kb(N:Nat):A0 Try.prog (Ij N):=A1 (B:=Fx) (loops:=[]) (leaves:=[]) (fun p=>Cn N p.1.1.1 p.1.1.2.1 p.1.1.2.2.1) (fun r=>((r,()),((((),()),()),()))) Ie (fun _ _ _=>rfl) (fun r z h=>by cases h;rfl) Try.func138 (by kernel_rfl) (by kernel_rfl) (by kernel_rfl) rfl rfl (by kernel_rfl) (fun args w=>Sem.pv_run _ _ _ (by kernel_rfl) w) (R6 N) mixed trivial (fun z E Xc hE hX hret=>trivial) (fun p=>U4 N p.1.1.1 p.1.1.2.1 p.1.1.2.2.1)

def Bd(N:Nat):Nat→Ql→Int→Int→Option ((Int)⊕(Unit))
 | 0,_,_,_=>none
 | n_+1,s,u,u2=>
  br (decide (u2<u))
   (idx s u2 fun x_1=>
   (Cn N x_1.1 x_1.2.1 x_1.2.2).bind fun x_2=>
   br x_2
    (some (.inl u2))
    (chk (u2+1)<|
    Bd N n_ s u (u2+1)))
   (some (.inr ()))
def Kg(N:Nat)(s:List Qy):Option Int:=
 (Bd N N s (s.length:Int) 0).bind fun e=>match e with
 | .inl i_3=>
  some i_3
 | .inr _=>
  some (-1)
noncomputable def Md(N:Nat):List Spec:=[Ij N]
theorem Ps(N:Nat):AllP (A0 Try.prog) (Md N):=⟨Kb N,trivial⟩
noncomputable def Ap7:Code:=(Try.f153.body).getD .skip
noncomputable abbrev D8:Body:={ c:=Ap7,n:=19,res:=[.tmp 4],outs:=[⟨[.i .i64],[.segs [.fn 120 [] []]]⟩],m0:=1 }
abbrev Wy:altD D8.outs→Option Int:=fun r=>some r.1.1
abbrev Dz:List PI:=[.c [1,0,1,0,0,0],.c [1,0,1,0,0,1],.l [1,0,1,0,0],.b 0,.c [1,1]]
abbrev C4:Sta:=⟨[0,1,7,8],⟨[.sl Qm,.fn 138 [] [.own 0 0],.i .i64,.i .i64],[.segs [.fn 120 [] []]]⟩⟩
abbrev Ma(rec:Ql→Int→Int→Option ((Int)⊕(Unit))):Leaf ((Int)⊕(Unit)):=⟨Dz,C4,fun p=>rec p.1.1 p.1.2.2.1 p.1.2.2.2.1⟩
abbrev J1:Leaf ((Int)⊕(Unit)):=⟨[.c [1,0,1,0,0,1,1,0,0,1,1,0,0],.c [1,0,1,0,0,1,1,0,0,1,1,0,1],.b 1,.c [1,0,1,0,0,1,1,1],.l [1,0,1,0,0],.b 0,.c [1,1]],⟨[5],⟨[.i .i64],[.segs [.fn 120 [] []]]⟩⟩,fun p=>some (.inl p.1.1)⟩
abbrev Ic:Leaf ((Int)⊕(Unit)):=⟨[.c [1,1,0],.c [1,1,1]],⟨[],⟨[],[.segs [.fn 120 [] []]]⟩⟩,fun p=>some (.inr ())⟩
noncomputable def Fc(N:Nat):Ai:={ at_:=Dz,sta:=C4,exits:=[([.c [1,0,1,0,0,1,1,0,0,1,1,0,0],.c [1,0,1,0,0,1,1,0,0,1,1,0,1],.b 1,.c [1,0,1,0,0,1,1,1],.l [1,0,1,0,0],.b 0,.c [1,1]],⟨[5],⟨[.i .i64],[.segs [.fn 120 [] []]]⟩⟩),([.c [1,1,0],.c [1,1,1]],⟨[],⟨[],[.segs [.fn 120 [] []]]⟩⟩)],run:=fun p k=>(Bd N N p.1.1 p.1.2.2.1 p.1.2.2.2.1).bind fun e=>match e with | .inl x=>k (.inl ((x,()),((((),()),()),()))) | .inr x=>k (.inr (.inl ((),((((),()),()),())))) }
theorem Ur(N n_:Nat)(s:List Qy)(u:Int)(u2:Int):ev (Z:=(Int)⊕(Unit)) Try.prog (Md N) D8 [] [Ma (Bd N n_),J1,Ic] none 400 true Dz (stL C4 ((s,((),((),())),u,u2,()),((((),()),()),()))) (stH C4 ((s,((),((),())),u,u2,()),((((),()),()),())))=Bd N (n_+1) s u u2:=by kernel_rfl
theorem Ud(N:Nat){top:Bool}:Ab Try.prog D8.c D8.n D8.m0 top (Fc N):=A3 (Z:=(Int)⊕(Unit)) (N:=N) (fun m p=>Bd N m p.1.1 p.1.2.2.1 p.1.2.2.2.1) (fun e=>match e with | .inl x=>.inl ((x,()),((((),()),()),())) | .inr x=>.inr (.inl ((),((((),()),()),())))) (fun _ p k=>A9 (Bd N N p.1.1 p.1.2.2.1 p.1.2.2.2.1) _ _ (fun e=>by rcases e with x | x<;>rfl)) (fun _=>rfl) (fun m z E Xc hE hX hrec hx=>A2 (B:=D8) (loops:=[]) (leaves:=[Ma (Bd N m),J1,Ic]) (Ps N) mixed trivial hE hX ⟨hrec,(fun p hp=>by obtain rfl:=Option.some.inj hp;exact hx),(fun p hp=>by obtain rfl:=Option.some.inj hp;exact hx),trivial⟩ Aa.no (fun p=>Ur N m p.1.1 p.1.2.2.1 p.1.2.2.2.1))
abbrev Wc:Sta:=⟨[0,1],⟨[.sl Qm,.fn 138 [] [.own 0 0]],[.segs [.fn 120 [] []]]⟩⟩
theorem Afd(N:Nat)(s:List Qy):ev (Z:=Int) Try.prog (Md N) D8 [Fc N] [] (some Wy) 400 false [.c [0],.c [1]] (stL Wc ((s,((),((),())),()),((((),()),()),()))) (stH Wc ((s,((),((),())),()),((((),()),()),())))=Kg N s:=by kernel_rfl
noncomputable def Va(N:Nat):Spec:={ f:=153,ins:=⟨[.sl Qm,.fn 138 [] [.own 0 0]],[.segs [.fn 120 [] []]]⟩,outs:=[⟨[.i .i64],[.segs [.fn 120 [] []]]⟩],run:=fun p k=>(Kg N p.1.1).bind fun r=>k ((r,()),((((),()),()),())) }
theorem Ui(N:Nat):A0 Try.prog (Va N):=A1 (B:=D8) (loops:=[Fc N]) (leaves:=[]) (fun p=>Kg N p.1.1) (fun r=>((r,()),((((),()),()),()))) Wy (fun _ _ _=>rfl) (fun r z h=>by cases h;rfl) Try.func153 (by kernel_rfl) (by kernel_rfl) (by kernel_rfl) rfl rfl (by kernel_rfl) (fun args w=>Sem.pv_run _ _ _ (by kernel_rfl) w) (Ps N) mixed ⟨Ud N,trivial⟩ (fun z E Xc hE hX hret=>trivial) (fun p=>Afd N p.1.1)

def Ki(N:Nat)(s:List Qy):Option Bool:=
 (Kg N s).bind fun x_1=>
 some (decide (0≤x_1))
noncomputable def Vy(N:Nat):List Spec:=[Va N]
theorem A8g(N:Nat):AllP (A0 Try.prog) (Vy N):=⟨Ui N,trivial⟩
noncomputable def As1:Code:=(Try.f137.body).getD .skip
noncomputable abbrev Uo:Body:={ c:=As1,n:=9,res:=[.tmp 4],outs:=[⟨[.b],[.segs [.fn 120 [] []]]⟩],m0:=1 }
abbrev Vo:altD Uo.outs→Option Bool:=fun r=>some r.1.1
abbrev Wt:Sta:=⟨[0,1],⟨[.sl Qm,.fn 138 [] [.own 0 0]],[.segs [.fn 120 [] []]]⟩⟩
theorem Agh(N:Nat)(s:List Qy):ev (Z:=Bool) Try.prog (Vy N) Uo [] [] (some Vo) 400 false [.c [0],.c [1]] (stL Wt ((s,((),((),())),()),((((),()),()),()))) (stH Wt ((s,((),((),())),()),((((),()),()),())))=Ki N s:=by kernel_rfl
noncomputable def Vm(N:Nat):Spec:={ f:=137,ins:=⟨[.sl Qm,.fn 138 [] [.own 0 0]],[.segs [.fn 120 [] []]]⟩,outs:=[⟨[.b],[.segs [.fn 120 [] []]]⟩],run:=fun p k=>(Ki N p.1.1).bind fun r=>k ((r,()),((((),()),()),())) }
theorem Ta(N:Nat):A0 Try.prog (Vm N):=A1 (B:=Uo) (loops:=[]) (leaves:=[]) (fun p=>Ki N p.1.1) (fun r=>((r,()),((((),()),()),()))) Vo (fun _ _ _=>rfl) (fun r z h=>by cases h;rfl) Try.func137 (by kernel_rfl) (by kernel_rfl) (by kernel_rfl) rfl rfl (by kernel_rfl) (fun args w=>Sem.pv_run _ _ _ (by kernel_rfl) w) (A8g N) mixed trivial (fun z E Xc hE hX hret=>trivial) (fun p=>Agh N p.1.1)

def D0(N:Nat)(l:List Qy):Option Bool:=
 (Ki N l).bind fun x_1=>
 some (!x_1)
noncomputable def Ln(N:Nat):List Spec:=[Vm N]
theorem Sk(N:Nat):AllP (A0 Try.prog) (Ln N):=⟨Ta N,trivial⟩
noncomputable def A6p:Code:=(Try.f119.body).getD .skip
noncomputable abbrev Jg:Body:={ c:=A6p,n:=9,res:=[.tmp 4],outs:=[⟨[.b],[]⟩],m0:=0 }
abbrev Lu:altD Jg.outs→Option Bool:=fun r=>some r.1.1
abbrev Mc:Sta:=⟨[0,1],⟨[.sl Qm,.fn 120 [] []],[]⟩⟩
theorem Xo(N:Nat)(l:List Qy):ev (Z:=Bool) Try.prog (Ln N) Jg [] [] (some Lu) 400 false [.c [0],.c [1]] (stL Mc ((l,((),()),()),())) (stH Mc ((l,((),()),()),()))=D0 N l:=by kernel_rfl
noncomputable def Lz(N:Nat):Spec:={ f:=119,ins:=⟨[.sl Qm,.fn 120 [] []],[]⟩,outs:=[⟨[.b],[]⟩],run:=fun p k=>(D0 N p.1.1).bind fun r=>k ((r,()),()) }
theorem N2(N:Nat):A0 Try.prog (Lz N):=A1 (B:=Jg) (loops:=[]) (leaves:=[]) (fun p=>D0 N p.1.1) (fun r=>((r,()),())) Lu (fun _ _ _=>rfl) (fun r z h=>by cases h;rfl) Try.func119 (by kernel_rfl) (by kernel_rfl) (by kernel_rfl) rfl rfl (by kernel_rfl) (fun args w=>Sem.pv_run _ _ _ (by kernel_rfl) w) (Sk N) mixed trivial (fun z E Xc hE hX hret=>trivial) (fun p=>Xo N p.1.1)

def Gq(N:Nat):Nat→Ql→Int→Int→Int→Int→Int→Int→Int→Int→Ql→Int→Int→Qd→Option ((Unit)⊕QN)
 | 0,_,_,_,_,_,_,_,_,_,_,_,_,_=>none
 | n_+1,u,u2,u3,u4,u5,b,b2,b3,b4,b5,r,r2,r3=>
  br (decide (u5<u4))
   (idx r3 u5 fun x_8=>
   chk (u5+1)<|
   idx r3 (u5+1) fun x_9=>
   br (decide (x_9≤x_8))
    (some (.inl ()))
    (chk (u5+1)<|
    Gq N n_ u u2 u3 u4 (u5+1) b b2 b3 b4 b5 r r2 r3))
   (some (.inr (u,u2,u3,b,b2,b3,b4,b5)))
def Ge(N:Nat):Nat→Ql→Int→Int→Int→Int→Int→Int→Ql→Option ((Unit)⊕((Unit)⊕((Unit)⊕(Unit))))
 | 0,_,_,_,_,_,_,_,_=>none
 | n_+1,u,u2,u3,b,b2,b3,b4,b5=>
  br (decide (u3<u2))
   (idx u u3 fun x_6=>
   br (decide ((x_6.2.2.length:Int)=0))
    (some (.inl ()))
    ((Vq N x_6.2.2 b b2 b3 b4 b5).bind fun x_7=>
    br (!x_7)
     (some (.inr (.inl ())))
     (grd (decide ((0:Int)≤1∧1≤(x_6.2.2.length:Int)))<|
     (Gq N N u u2 u3 ((x_6.2.2.drop 1).length:Int) 0 b b2 b3 b4 b5 x_6.1 x_6.2.1 x_6.2.2).bind fun e=>match e with
     | .inl _=>
      some (.inr (.inr (.inl ())))
     | .inr (u_10,u2_11,u3_12,b_13,b2_14,b3_15,b4_16,b5_17)=>
      chk (u3_12+1)<|
      Ge N n_ u_10 u2_11 (u3_12+1) b_13 b2_14 b3_15 b4_16 b5_17)))
   (some (.inr (.inr (.inr ()))))
def B2(N:Nat)(b:Int)(b2:Int)(b3:Int)(b4:Int)(b5:List Qy):Option Int:=
 (Ap N b 1 4).bind fun x_1=>
 br (!x_1)
  (some 2)
  (br (decide (7<(b5.length:Int)))
   (some 2)
   ((Ap N b2 0 20).bind fun x_2=>
   br (!x_2)
    (some 3)
    ((Ap N b3 0 20).bind fun x_3=>
    br (!x_3)
     (some 3)
     ((Ap N b4 0 20).bind fun x_4=>
     br (!x_4)
      (some 3)
      ((D0 N b5).bind fun x_5=>
      br (!x_5)
       (some 3)
       ((Ge N N b5 (b5.length:Int) 0 b b2 b3 b4 b5).bind fun e=>match e with
       | .inl _=>
        some 6
       | .inr (.inl _)=>
        some 1
       | .inr (.inr (.inl _))=>
        some 4
       | .inr (.inr (.inr _))=>
        some 0))))))
noncomputable def Bv(N:Nat):List Spec:=[Bb N,Acu N,Lz N]
theorem Db(N:Nat):AllP (A0 Try.prog) (Bv N):=⟨Am N,Adu N,N2 N,trivial⟩
noncomputable def N8:Code:=(Try.f77.body).getD .skip
noncomputable abbrev Az:Body:={ c:=N8,n:=79,res:=[.tmp 2],outs:=[⟨[.i .i64],[]⟩],m0:=0 }
abbrev D5:altD Az.outs→Option Int:=fun r=>some r.1.1
abbrev Oq:List PI:=[.c [1,1,0,1,0,0,1,1,0,0,1,1,1,0,0,0],.c [1,1,0,1,0,0,1,1,0,0,1,1,1,0,0,1],.l [1,1,0,1,0,0,1,1,0,0,1,1,1,0,0],.b 4,.b 2,.c [1,1,0,1,0,0,1,1,1],.l [1,1,0,1,0,0],.b 1,.c [1,1,1]]
abbrev Jo:Sta:=⟨[1,4,40,41,42,61,62],⟨[.own 0 0,.own 1 0,.sl Qm,.i .i64,.i .i64,.i .i64,.i .i64],[.segs [.i .i64,.i .i64,.i .i64,.i .i64,.sl Qm],.segs [.i .i64,.i .i64,.sl (.int .i64)]]⟩⟩
abbrev A4q(rec:Ql→Int→Int→Int→Int→Int→Int→Int→Int→Ql→Int→Int→Qd→Option ((Unit)⊕QN)):Leaf ((Unit)⊕QN):=⟨Oq,Jo,fun p=>rec p.1.2.2.1 p.1.2.2.2.1 p.1.2.2.2.2.1 p.1.2.2.2.2.2.1 p.1.2.2.2.2.2.2.1 p.2.1.1 p.2.1.2.1 p.2.1.2.2.1 p.2.1.2.2.2.1 p.2.1.2.2.2.2.1 p.2.2.1.1 p.2.2.1.2.1 p.2.2.1.2.2.1⟩
abbrev A0v:Leaf ((Unit)⊕QN):=⟨[.c [1,1,0,1,0,0,1,1,0,0,1,1,1,0,0,1,1,0,0,1,1,0,0],.c [1,1,0,1,0,0,1,1,0,0,1,1,1,0,0,1,1,0,0,1,1,0,1],.b 5,.c [1,1,0,1,0,0,1,1,0,0,1,1,1,0,0,1,1,1],.l [1,1,0,1,0,0,1,1,0,0,1,1,1,0,0],.b 4,.b 2,.c [1,1,0,1,0,0,1,1,1],.l [1,1,0,1,0,0],.b 1,.c [1,1,1]],⟨[],⟨[],[]⟩⟩,fun p=>some (.inl ())⟩
abbrev Zr:Leaf ((Unit)⊕QN):=⟨[.c [1,1,0,1,0,0,1,1,1],.l [1,1,0,1,0,0],.b 1,.c [1,1,1]],⟨[1,40,41,42],⟨[.own 0 0,.sl Qm,.i .i64,.i .i64],[.segs [.i .i64,.i .i64,.i .i64,.i .i64,.sl Qm]]⟩⟩,fun p=>some (.inr (p.1.2.1,p.1.2.2.1,p.1.2.2.2.1,p.2.1.1,p.2.1.2.1,p.2.1.2.2.1,p.2.1.2.2.2.1,p.2.1.2.2.2.2.1))⟩
noncomputable def I7(N:Nat):Ai:={ at_:=Oq,sta:=Jo,exits:=[([.c [1,1,0,1,0,0,1,1,0,0,1,1,1,0,0,1,1,0,0,1,1,0,0],.c [1,1,0,1,0,0,1,1,0,0,1,1,1,0,0,1,1,0,0,1,1,0,1],.b 5,.c [1,1,0,1,0,0,1,1,0,0,1,1,1,0,0,1,1,1],.l [1,1,0,1,0,0,1,1,0,0,1,1,1,0,0],.b 4,.b 2,.c [1,1,0,1,0,0,1,1,1],.l [1,1,0,1,0,0],.b 1,.c [1,1,1]],⟨[],⟨[],[]⟩⟩),([.c [1,1,0,1,0,0,1,1,1],.l [1,1,0,1,0,0],.b 1,.c [1,1,1]],⟨[1,40,41,42],⟨[.own 0 0,.sl Qm,.i .i64,.i .i64],[.segs [.i .i64,.i .i64,.i .i64,.i .i64,.sl Qm]]⟩⟩)],run:=fun p k=>(Gq N N p.1.2.2.1 p.1.2.2.2.1 p.1.2.2.2.2.1 p.1.2.2.2.2.2.1 p.1.2.2.2.2.2.2.1 p.2.1.1 p.2.1.2.1 p.2.1.2.2.1 p.2.1.2.2.2.1 p.2.1.2.2.2.2.1 p.2.2.1.1 p.2.2.1.2.1 p.2.2.1.2.2.1).bind fun e=>match e with | .inl x=>k (.inl ((),())) | .inr x=>k (.inr (.inl (((),x.1,x.2.1,x.2.2.1,()),((x.2.2.2.1,x.2.2.2.2.1,x.2.2.2.2.2.1,x.2.2.2.2.2.2.1,x.2.2.2.2.2.2.2,()),())))) }
theorem Am1(N n_:Nat)(u:List Qy)(u2:Int)(u3:Int)(u4:Int)(u5:Int)(b:Int)(b2:Int)(b3:Int)(b4:Int)(b5:List Qy)(r:Int)(r2:Int)(r3:List Int):ev (Z:=(Unit)⊕QN) Try.prog (Bv N) Az [] [A4q (Gq N n_),A0v,Zr] none 400 true Oq (stL Jo (((),(),u,u2,u3,u4,u5,()),((b,b2,b3,b4,b5,()),(r,r2,r3,()),()))) (stH Jo (((),(),u,u2,u3,u4,u5,()),((b,b2,b3,b4,b5,()),(r,r2,r3,()),())))=Gq N (n_+1) u u2 u3 u4 u5 b b2 b3 b4 b5 r r2 r3:=by kernel_rfl
theorem Zy(N:Nat){top:Bool}:Ab Try.prog Az.c Az.n Az.m0 top (I7 N):=A3 (Z:=(Unit)⊕QN) (N:=N) (fun m p=>Gq N m p.1.2.2.1 p.1.2.2.2.1 p.1.2.2.2.2.1 p.1.2.2.2.2.2.1 p.1.2.2.2.2.2.2.1 p.2.1.1 p.2.1.2.1 p.2.1.2.2.1 p.2.1.2.2.2.1 p.2.1.2.2.2.2.1 p.2.2.1.1 p.2.2.1.2.1 p.2.2.1.2.2.1) (fun e=>match e with | .inl x=>.inl ((),()) | .inr x=>.inr (.inl (((),x.1,x.2.1,x.2.2.1,()),((x.2.2.2.1,x.2.2.2.2.1,x.2.2.2.2.2.1,x.2.2.2.2.2.2.1,x.2.2.2.2.2.2.2,()),())))) (fun _ p k=>A9 (Gq N N p.1.2.2.1 p.1.2.2.2.1 p.1.2.2.2.2.1 p.1.2.2.2.2.2.1 p.1.2.2.2.2.2.2.1 p.2.1.1 p.2.1.2.1 p.2.1.2.2.1 p.2.1.2.2.2.1 p.2.1.2.2.2.2.1 p.2.2.1.1 p.2.2.1.2.1 p.2.2.1.2.2.1) _ _ (fun e=>by rcases e with x | x<;>rfl)) (fun _=>rfl) (fun m z E Xc hE hX hrec hx=>A2 (B:=Az) (loops:=[]) (leaves:=[A4q (Gq N m),A0v,Zr]) (Db N) mixed trivial hE hX ⟨hrec,(fun p hp=>by obtain rfl:=Option.some.inj hp;exact hx),(fun p hp=>by obtain rfl:=Option.some.inj hp;exact hx),trivial⟩ Aa.no (fun p=>Am1 N m p.1.2.2.1 p.1.2.2.2.1 p.1.2.2.2.2.1 p.1.2.2.2.2.2.1 p.1.2.2.2.2.2.2.1 p.2.1.1 p.2.1.2.1 p.2.1.2.2.1 p.2.1.2.2.2.1 p.2.1.2.2.2.2.1 p.2.2.1.1 p.2.2.1.2.1 p.2.2.1.2.2.1))
abbrev R5:List PI:=[.c [1,1,0,1,0,0,0],.c [1,1,0,1,0,0,1],.l [1,1,0,1,0,0],.b 1,.c [1,1,1]]
abbrev Jv:Sta:=⟨[1,40,41,42],⟨[.own 0 0,.sl Qm,.i .i64,.i .i64],[.segs [.i .i64,.i .i64,.i .i64,.i .i64,.sl Qm]]⟩⟩
abbrev A83(rec:Ql→Int→Int→Int→Int→Int→Int→Ql→Option ((Unit)⊕((Unit)⊕((Unit)⊕(Unit))))):Leaf ((Unit)⊕((Unit)⊕((Unit)⊕(Unit)))):=⟨R5,Jv,fun p=>rec p.1.2.1 p.1.2.2.1 p.1.2.2.2.1 p.2.1.1 p.2.1.2.1 p.2.1.2.2.1 p.2.1.2.2.2.1 p.2.1.2.2.2.2.1⟩
abbrev Zn:Leaf ((Unit)⊕((Unit)⊕((Unit)⊕(Unit)))):=⟨[.c [1,1,0,1,0,0,1,1,0,0,1,0,0,1,0,0],.c [1,1,0,1,0,0,1,1,0,0,1,0,0,1,0,1],.b 3,.c [1,1,0,1,0,0,1,1,0,0,1,1],.b 2,.c [1,1,0,1,0,0,1,1,1],.l [1,1,0,1,0,0],.b 1,.c [1,1,1]],⟨[],⟨[],[]⟩⟩,fun p=>some (.inl ())⟩
abbrev A0g:Leaf ((Unit)⊕((Unit)⊕((Unit)⊕(Unit)))):=⟨[.c [1,1,0,1,0,0,1,1,0,0,1,0,0,1,1,1,0,0],.c [1,1,0,1,0,0,1,1,0,0,1,0,0,1,1,1,0,1],.b 3,.c [1,1,0,1,0,0,1,1,0,0,1,1],.b 2,.c [1,1,0,1,0,0,1,1,1],.l [1,1,0,1,0,0],.b 1,.c [1,1,1]],⟨[],⟨[],[]⟩⟩,fun p=>some (.inr (.inl ()))⟩
abbrev Zp:Leaf ((Unit)⊕((Unit)⊕((Unit)⊕(Unit)))):=⟨[.c [1,1,0,1,0,0,1,1,0,0,1,1,1,0,0,1,1,0,0,1,1,0,0],.c [1,1,0,1,0,0,1,1,0,0,1,1,1,0,0,1,1,0,0,1,1,0,1],.b 5,.c [1,1,0,1,0,0,1,1,0,0,1,1,1,0,0,1,1,1],.l [1,1,0,1,0,0,1,1,0,0,1,1,1,0,0],.b 4,.b 2,.c [1,1,0,1,0,0,1,1,1],.l [1,1,0,1,0,0],.b 1,.c [1,1,1]],⟨[],⟨[],[]⟩⟩,fun p=>some (.inr (.inr (.inl ())))⟩
abbrev A1k:Leaf ((Unit)⊕((Unit)⊕((Unit)⊕(Unit)))):=⟨[.c [1,1,1,0],.c [1,1,1,1]],⟨[],⟨[],[]⟩⟩,fun p=>some (.inr (.inr (.inr ())))⟩
noncomputable def Th(N:Nat):Ai:={ at_:=R5,sta:=Jv,exits:=[([.c [1,1,0,1,0,0,1,1,0,0,1,0,0,1,0,0],.c [1,1,0,1,0,0,1,1,0,0,1,0,0,1,0,1],.b 3,.c [1,1,0,1,0,0,1,1,0,0,1,1],.b 2,.c [1,1,0,1,0,0,1,1,1],.l [1,1,0,1,0,0],.b 1,.c [1,1,1]],⟨[],⟨[],[]⟩⟩),([.c [1,1,0,1,0,0,1,1,0,0,1,0,0,1,1,1,0,0],.c [1,1,0,1,0,0,1,1,0,0,1,0,0,1,1,1,0,1],.b 3,.c [1,1,0,1,0,0,1,1,0,0,1,1],.b 2,.c [1,1,0,1,0,0,1,1,1],.l [1,1,0,1,0,0],.b 1,.c [1,1,1]],⟨[],⟨[],[]⟩⟩),([.c [1,1,0,1,0,0,1,1,0,0,1,1,1,0,0,1,1,0,0,1,1,0,0],.c [1,1,0,1,0,0,1,1,0,0,1,1,1,0,0,1,1,0,0,1,1,0,1],.b 5,.c [1,1,0,1,0,0,1,1,0,0,1,1,1,0,0,1,1,1],.l [1,1,0,1,0,0,1,1,0,0,1,1,1,0,0],.b 4,.b 2,.c [1,1,0,1,0,0,1,1,1],.l [1,1,0,1,0,0],.b 1,.c [1,1,1]],⟨[],⟨[],[]⟩⟩),([.c [1,1,1,0],.c [1,1,1,1]],⟨[],⟨[],[]⟩⟩)],run:=fun p k=>(Ge N N p.1.2.1 p.1.2.2.1 p.1.2.2.2.1 p.2.1.1 p.2.1.2.1 p.2.1.2.2.1 p.2.1.2.2.2.1 p.2.1.2.2.2.2.1).bind fun e=>match e with | .inl x=>k (.inl ((),())) | .inr (.inl x)=>k (.inr (.inl ((),()))) | .inr (.inr (.inl x))=>k (.inr (.inr (.inl ((),())))) | .inr (.inr (.inr x))=>k (.inr (.inr (.inr (.inl ((),()))))) }
theorem Aml(N n_:Nat)(u:List Qy)(u2:Int)(u3:Int)(b:Int)(b2:Int)(b3:Int)(b4:Int)(b5:List Qy):ev (Z:=(Unit)⊕((Unit)⊕((Unit)⊕(Unit)))) Try.prog (Bv N) Az [I7 N] [A83 (Ge N n_),Zn,A0g,Zp,A1k] none 400 true R5 (stL Jv (((),u,u2,u3,()),((b,b2,b3,b4,b5,()),()))) (stH Jv (((),u,u2,u3,()),((b,b2,b3,b4,b5,()),())))=Ge N (n_+1) u u2 u3 b b2 b3 b4 b5:=by kernel_rfl
theorem Air(N:Nat){top:Bool}:Ab Try.prog Az.c Az.n Az.m0 top (Th N):=A3 (Z:=(Unit)⊕((Unit)⊕((Unit)⊕(Unit)))) (N:=N) (fun m p=>Ge N m p.1.2.1 p.1.2.2.1 p.1.2.2.2.1 p.2.1.1 p.2.1.2.1 p.2.1.2.2.1 p.2.1.2.2.2.1 p.2.1.2.2.2.2.1) (fun e=>match e with | .inl x=>.inl ((),()) | .inr (.inl x)=>.inr (.inl ((),())) | .inr (.inr (.inl x))=>.inr (.inr (.inl ((),()))) | .inr (.inr (.inr x))=>.inr (.inr (.inr (.inl ((),()))))) (fun _ p k=>A9 (Ge N N p.1.2.1 p.1.2.2.1 p.1.2.2.2.1 p.2.1.1 p.2.1.2.1 p.2.1.2.2.1 p.2.1.2.2.2.1 p.2.1.2.2.2.2.1) _ _ (fun e=>by rcases e with x | x | x | x<;>rfl)) (fun _=>rfl) (fun m z E Xc hE hX hrec hx=>A2 (B:=Az) (loops:=[I7 N]) (leaves:=[A83 (Ge N m),Zn,A0g,Zp,A1k]) (Db N) mixed ⟨Zy N,trivial⟩ hE hX ⟨hrec,(fun p hp=>by obtain rfl:=Option.some.inj hp;exact hx),(fun p hp=>by obtain rfl:=Option.some.inj hp;exact hx),(fun p hp=>by obtain rfl:=Option.some.inj hp;exact hx),(fun p hp=>by obtain rfl:=Option.some.inj hp;exact hx),trivial⟩ Aa.no (fun p=>Aml N m p.1.2.1 p.1.2.2.1 p.1.2.2.2.1 p.2.1.1 p.2.1.2.1 p.2.1.2.2.1 p.2.1.2.2.2.1 p.2.1.2.2.2.2.1))
abbrev Da:Sta:=⟨[0],⟨[.agg [.i .i64,.i .i64,.i .i64,.i .i64,.sl Qm]],[]⟩⟩
theorem Ig(N:Nat)(b:Int)(b2:Int)(b3:Int)(b4:Int)(b5:List Qy):ev (Z:=Int) Try.prog (Bv N) Az [I7 N,Th N] [] (some D5) 400 false [.c [0],.c [1]] (stL Da (((b,b2,b3,b4,b5,()),()),())) (stH Da (((b,b2,b3,b4,b5,()),()),()))=B2 N b b2 b3 b4 b5:=by kernel_rfl
noncomputable def Cp(N:Nat):Spec:={ f:=77,ins:=⟨[.agg [.i .i64,.i .i64,.i .i64,.i .i64,.sl Qm]],[]⟩,outs:=[⟨[.i .i64],[]⟩],run:=fun p k=>(B2 N p.1.1.1 p.1.1.2.1 p.1.1.2.2.1 p.1.1.2.2.2.1 p.1.1.2.2.2.2.1).bind fun r=>k ((r,()),()) }
theorem D2(N:Nat):A0 Try.prog (Cp N):=A1 (B:=Az) (loops:=[I7 N,Th N]) (leaves:=[]) (fun p=>B2 N p.1.1.1 p.1.1.2.1 p.1.1.2.2.1 p.1.1.2.2.2.1 p.1.1.2.2.2.2.1) (fun r=>((r,()),())) D5 (fun _ _ _=>rfl) (fun r z h=>by cases h;rfl) Try.func77 (by kernel_rfl) (by kernel_rfl) (by kernel_rfl) rfl rfl (by kernel_rfl) (fun args w=>Sem.pv_run _ _ _ (by kernel_rfl) w) (Db N) mixed ⟨Zy N,Air N,trivial⟩ (fun z E Xc hE hX hret=>trivial) (fun p=>Ig N p.1.1.1 p.1.1.2.1 p.1.1.2.2.1 p.1.1.2.2.2.1 p.1.1.2.2.2.2.1)

def opened_l1(N:Nat):Nat→Ql→Int→Int→Int→Int→Int→Int→Ql→Int→Int→Int→Int→Ql→Qd→Option (Int×Int×Int×Int×Ql×List Int)
 | 0,_,_,_,_,_,_,_,_,_,_,_,_,_,_=>none
 | n_+1,u,u2,u3,b,b2,b3,b4,b5,d,d2,d3,d4,d5,d6=>
  br (decide (u3<u2))
   (idx u u3 fun x_2=>
   chk (x_2.1*b2)<|
   chk (b3+(x_2.1*b2))<|
   chk (x_2.2.1*(b3+(x_2.1*b2)))<|
   lim (d6.length+[(x_2.2.1*(b3+(x_2.1*b2)))].length)<|
   chk (u3+1)<|
   opened_l1 N n_ u u2 (u3+1) b b2 b3 b4 b5 d d2 d3 d4 d5 (d6++[(x_2.2.1*(b3+(x_2.1*b2)))]))
   (some ((d,d2,d3,d4,d5,d6)))
def Al(N:Nat)(b:Int)(b2:Int)(b3:Int)(b4:Int)(b5:List Qy):Option ((Qa×Int)⊕(Int)):=
 (B2 N b b2 b3 b4 b5).bind fun x_1=>
 br (!decide (x_1=0))
  (some (.inr x_1))
  ((opened_l1 N N b5 (b5.length:Int) 0 b b2 b3 b4 b5 b b2 b3 b4 b5 []).bind fun(d_3,d2_4,d3_5,d4_6,d5_7,d6_8)=>
  some (.inl ((d_3,d2_4,d3_5,d4_6,d5_7,d6_8),0)))
noncomputable def B4(N:Nat):List Spec:=[Cp N]
theorem Ba(N:Nat):AllP (A0 Try.prog) (B4 N):=⟨D2 N,trivial⟩
noncomputable def J7:Code:=(Try.f46.body).getD .skip
noncomputable abbrev A7:Body:={ c:=J7,n:=45,res:=[.tmp 2,.tmp 3],outs:=[⟨[.fe Qc,.i .i64],[]⟩,⟨[.nilp,.i .i64],[]⟩],m0:=0 }
abbrev Bs:altD A7.outs→Option ((Qa×Int)⊕(Int)):=fun r=>match r with | .inl r=>some (.inl (r.1.1,r.1.2.1)) | .inr r=>some (.inr r.1.2.1)
abbrev C5:List PI:=[.c [1,1,1,0,1,0,0,0],.c [1,1,1,0,1,0,0,1],.l [1,1,1,0,1,0,0],.b 0,.c [1,1,1,1]]
abbrev Bc:Sta:=⟨[1,5,17,18,19],⟨[.own 0 0,.own 1 0,.sl Qm,.i .i64,.i .i64],[.segs [.i .i64,.i .i64,.i .i64,.i .i64,.sl Qm],.segs [.i .i64,.i .i64,.i .i64,.i .i64,.sl Qm,.ols 2],.lst (.int .i64)]⟩⟩
abbrev Gu(rec:Ql→Int→Int→Int→Int→Int→Int→Ql→Int→Int→Int→Int→Ql→Qd→Option (Int×Int×Int×Int×Ql×List Int)):Leaf (Int×Int×Int×Int×Ql×List Int):=⟨C5,Bc,fun p=>rec p.1.2.2.1 p.1.2.2.2.1 p.1.2.2.2.2.1 p.2.1.1 p.2.1.2.1 p.2.1.2.2.1 p.2.1.2.2.2.1 p.2.1.2.2.2.2.1 p.2.2.1.1 p.2.2.1.2.1 p.2.2.1.2.2.1 p.2.2.1.2.2.2.1 p.2.2.1.2.2.2.2.1 p.2.2.2.1⟩
abbrev Ev:Leaf (Int×Int×Int×Int×Ql×List Int):=⟨[.c [1,1,1,1,0],.c [1,1,1,1,1]],⟨[5],⟨[.own 0 0],[.segs [.i .i64,.i .i64,.i .i64,.i .i64,.sl Qm,.ols 1],.lst (.int .i64)]⟩⟩,fun p=>some ((p.2.1.1,p.2.1.2.1,p.2.1.2.2.1,p.2.1.2.2.2.1,p.2.1.2.2.2.2.1,p.2.2.1))⟩
noncomputable def Cv(N:Nat):Ai:={ at_:=C5,sta:=Bc,exits:=[([.c [1,1,1,1,0],.c [1,1,1,1,1]],⟨[5],⟨[.own 0 0],[.segs [.i .i64,.i .i64,.i .i64,.i .i64,.sl Qm,.ols 1],.lst (.int .i64)]⟩⟩)],run:=fun p k=>(opened_l1 N N p.1.2.2.1 p.1.2.2.2.1 p.1.2.2.2.2.1 p.2.1.1 p.2.1.2.1 p.2.1.2.2.1 p.2.1.2.2.2.1 p.2.1.2.2.2.2.1 p.2.2.1.1 p.2.2.1.2.1 p.2.2.1.2.2.1 p.2.2.1.2.2.2.1 p.2.2.1.2.2.2.2.1 p.2.2.2.1).bind fun e=>k (.inl (((),()),((e.1,e.2.1,e.2.2.1,e.2.2.2.1,e.2.2.2.2.1,(),()),e.2.2.2.2.2,()))) }
theorem Mi(N n_:Nat)(u:List Qy)(u2:Int)(u3:Int)(b:Int)(b2:Int)(b3:Int)(b4:Int)(b5:List Qy)(d:Int)(d2:Int)(d3:Int)(d4:Int)(d5:List Qy)(d6:List Int):ev (Z:=Int×Int×Int×Int×Ql×List Int) Try.prog (B4 N) A7 [] [Gu (opened_l1 N n_),Ev] none 400 true C5 (stL Bc (((),(),u,u2,u3,()),((b,b2,b3,b4,b5,()),(d,d2,d3,d4,d5,(),()),d6,()))) (stH Bc (((),(),u,u2,u3,()),((b,b2,b3,b4,b5,()),(d,d2,d3,d4,d5,(),()),d6,())))=opened_l1 N (n_+1) u u2 u3 b b2 b3 b4 b5 d d2 d3 d4 d5 d6:=by kernel_rfl
theorem Mu(N:Nat){top:Bool}:Ab Try.prog A7.c A7.n A7.m0 top (Cv N):=A3 (Z:=Int×Int×Int×Int×Ql×List Int) (N:=N) (fun m p=>opened_l1 N m p.1.2.2.1 p.1.2.2.2.1 p.1.2.2.2.2.1 p.2.1.1 p.2.1.2.1 p.2.1.2.2.1 p.2.1.2.2.2.1 p.2.1.2.2.2.2.1 p.2.2.1.1 p.2.2.1.2.1 p.2.2.1.2.2.1 p.2.2.1.2.2.2.1 p.2.2.1.2.2.2.2.1 p.2.2.2.1) (fun e=>.inl (((),()),((e.1,e.2.1,e.2.2.1,e.2.2.2.1,e.2.2.2.2.1,(),()),e.2.2.2.2.2,()))) (fun _ _ _=>rfl) (fun _=>rfl) (fun m z E Xc hE hX hrec hx=>A2 (B:=A7) (loops:=[]) (leaves:=[Gu (opened_l1 N m),Ev]) (Ba N) mixed trivial hE hX ⟨hrec,(fun p hp=>by obtain rfl:=Option.some.inj hp;exact hx),trivial⟩ Aa.no (fun p=>Mi N m p.1.2.2.1 p.1.2.2.2.1 p.1.2.2.2.2.1 p.2.1.1 p.2.1.2.1 p.2.1.2.2.1 p.2.1.2.2.2.1 p.2.1.2.2.2.2.1 p.2.2.1.1 p.2.2.1.2.1 p.2.2.1.2.2.1 p.2.2.1.2.2.2.1 p.2.2.1.2.2.2.2.1 p.2.2.2.1))
abbrev Bz:Sta:=⟨[0],⟨[.agg [.i .i64,.i .i64,.i .i64,.i .i64,.sl Qm]],[]⟩⟩
theorem Ft(N:Nat)(b:Int)(b2:Int)(b3:Int)(b4:Int)(b5:List Qy):ev (Z:=(Qa×Int)⊕(Int)) Try.prog (B4 N) A7 [Cv N] [] (some Bs) 400 false [.c [0],.c [1]] (stL Bz (((b,b2,b3,b4,b5,()),()),())) (stH Bz (((b,b2,b3,b4,b5,()),()),()))=Al N b b2 b3 b4 b5:=by kernel_rfl
noncomputable def Bw(N:Nat):Spec:={ f:=46,ins:=⟨[.agg [.i .i64,.i .i64,.i .i64,.i .i64,.sl Qm]],[]⟩,outs:=[⟨[.fe Qc,.i .i64],[]⟩,⟨[.nilp,.i .i64],[]⟩],run:=fun p k=>(Al N p.1.1.1 p.1.1.2.1 p.1.1.2.2.1 p.1.1.2.2.2.1 p.1.1.2.2.2.2.1).bind fun r=>match r with | .inl r=>k (.inl ((r.1,r.2,()),())) | .inr r=>k (.inr (((),r,()),())) }
theorem Cb(N:Nat):A0 Try.prog (Bw N):=A1 (B:=A7) (loops:=[Cv N]) (leaves:=[]) (fun p=>Al N p.1.1.1 p.1.1.2.1 p.1.1.2.2.1 p.1.1.2.2.2.1 p.1.1.2.2.2.2.1) (fun r=>match r with | .inl r=>(.inl ((r.1,r.2,()),())) | .inr r=>(.inr (((),r,()),()))) Bs (fun _ p k=>A9 (Al N p.1.1.1 p.1.1.2.1 p.1.1.2.2.1 p.1.1.2.2.2.1 p.1.1.2.2.2.2.1) _ _ (fun e=>by rcases e with x | x<;>rfl)) (fun r z h=>by rcases r with x | x<;>(cases h;rfl)) Try.func46 (by kernel_rfl) (by kernel_rfl) (by kernel_rfl) rfl rfl (by kernel_rfl) (fun args w=>Sem.pv_run _ _ _ (by kernel_rfl) w) (Ba N) mixed ⟨Mu N,trivial⟩ (fun z E Xc hE hX hret=>trivial) (fun p=>Ft N p.1.1.1 p.1.1.2.1 p.1.1.2.2.1 p.1.1.2.2.2.1 p.1.1.2.2.2.2.1)

def Me(N:Nat):Nat→Qd→Int→Int→Option Int
 | 0,_,_,_=>none
 | n_+1,x,m,i=>
  br (decide (i<(x.length:Int)))
   (idx x i fun x_2=>
   chk (i+1)<|
   Me N n_ x (max m x_2) (i+1))
   (some (m))
def Ag8(N:Nat)(x:List Int):Option Int:=
 idx x 0 fun x_1=>
 (Me N N x x_1 1).bind fun m_3=>
 some m_3
def Aha(N:Nat)(x:List Int):Option Int:=
 br (decide ((x.length:Int)<1))
  (none)
  (Ag8 N x)
noncomputable def A2f(N:Nat):List Spec:=[]
theorem A4u(N:Nat):AllP (A0 Try.prog) (A2f N):=trivial
noncomputable def B6k:Code:=(Try.f82.body).getD .skip
noncomputable abbrev Ee:Body:={ c:=B6k,n:=25,res:=[.tmp 2],outs:=[⟨[.i .i64],[]⟩],m0:=0 }
abbrev A20:altD Ee.outs→Option Int:=fun r=>some r.1.1
abbrev T7:List PI:=[.c [1,1,1,0,1,0,0,0,0],.c [1,1,1,0,1,0,0,0,1],.c [1,1,1,0,1,0,0,1],.l [1,1,1,0,1,0,0],.b 0,.c [1,1,1,1]]
abbrev Mp:Sta:=⟨[0,3,4],⟨[.sl (.int .i64),.i .i64,.i .i64],[]⟩⟩
abbrev Aaz(rec:Qd→Int→Int→Option Int):Leaf Int:=⟨T7,Mp,fun p=>rec p.1.1 p.1.2.1 p.1.2.2.1⟩
abbrev A5z:Leaf Int:=⟨[.c [1,1,1,1,0],.c [1,1,1,1,1]],⟨[3],⟨[.i .i64],[]⟩⟩,fun p=>some (p.1.1)⟩
noncomputable def Lg(N:Nat):Ai:={ at_:=T7,sta:=Mp,exits:=[([.c [1,1,1,1,0],.c [1,1,1,1,1]],⟨[3],⟨[.i .i64],[]⟩⟩)],run:=fun p k=>(Me N N p.1.1 p.1.2.1 p.1.2.2.1).bind fun e=>k (.inl ((e,()),())) }
theorem Aqd(N n_:Nat)(x:List Int)(m:Int)(i:Int):ev (Z:=Int) Try.prog (A2f N) Ee [] [Aaz (Me N n_),A5z] none 400 true T7 (stL Mp ((x,m,i,()),())) (stH Mp ((x,m,i,()),()))=Me N (n_+1) x m i:=by kernel_rfl
theorem A77(N:Nat){top:Bool}:Ab Try.prog Ee.c Ee.n Ee.m0 top (Lg N):=A3 (Z:=Int) (N:=N) (fun m p=>Me N m p.1.1 p.1.2.1 p.1.2.2.1) (fun e=>.inl ((e,()),())) (fun _ _ _=>rfl) (fun _=>rfl) (fun m z E Xc hE hX hrec hx=>A2 (B:=Ee) (loops:=[]) (leaves:=[Aaz (Me N m),A5z]) (A4u N) mixed trivial hE hX ⟨hrec,(fun p hp=>by obtain rfl:=Option.some.inj hp;exact hx),trivial⟩ Aa.no (fun p=>Aqd N m p.1.1 p.1.2.1 p.1.2.2.1))
abbrev A6i:List PI:=[.c [1,1,0],.c [1,1,1]]
abbrev T4:Sta:=⟨[0],⟨[.sl (.int .i64)],[]⟩⟩
abbrev Y1(N:Nat):Leaf Int:=⟨A6i,T4,fun p=>Ag8 N p.1.1⟩
theorem Aq0(N:Nat)(x:List Int):ev (Z:=Int) Try.prog (A2f N) Ee [Lg N] [] (some A20) 400 true A6i (stL T4 ((x,()),())) (stH T4 ((x,()),()))=Ag8 N x:=by kernel_rfl
theorem Aov(N:Nat){z:Int}{E:EE}{Xc:Ctx}(hE:EOK Ee.m0 E)(hX:CxOK true Xc)(hret:Aa Try.prog Ee E Xc z (some A20)):Ag Try.prog Ee.c Ee.n Ee.m0 E Xc z (Y1 N):=A2 (B:=Ee) (loops:=[Lg N]) (leaves:=[]) (A4u N) mixed ⟨A77 N,trivial⟩ hE hX trivial hret (fun p=>Aq0 N p.1.1)
abbrev Atc:Sta:=⟨[0],⟨[.sl (.int .i64)],[]⟩⟩
theorem B4p(N:Nat)(x:List Int):ev (Z:=Int) Try.prog (A2f N) Ee [Lg N] [Y1 N] (some A20) 400 false [.c [0],.c [1]] (stL Atc ((x,()),())) (stH Atc ((x,()),()))=Aha N x:=by kernel_rfl
noncomputable def As7(N:Nat):Spec:={ f:=82,ins:=⟨[.sl (.int .i64)],[]⟩,outs:=[⟨[.i .i64],[]⟩],run:=fun p k=>(Aha N p.1.1).bind fun r=>k ((r,()),()) }
theorem Anq(N:Nat):A0 Try.prog (As7 N):=A1 (B:=Ee) (loops:=[Lg N]) (leaves:=[Y1 N]) (fun p=>Aha N p.1.1) (fun r=>((r,()),())) A20 (fun _ _ _=>rfl) (fun r z h=>by cases h;rfl) Try.func82 (by kernel_rfl) (by kernel_rfl) (by kernel_rfl) rfl rfl (by kernel_rfl) (fun args w=>Sem.pv_run _ _ _ (by kernel_rfl) w) (A4u N) mixed ⟨A77 N,trivial⟩ (fun z E Xc hE hX hret=>⟨Aov N hE hX hret,trivial⟩) (fun p=>B4p N p.1.1)

def P2(N:Nat)(d:Qa)(f:List Int):Option Int:=
 grd (decide ((0:Int)≤d.1∧d.1≤(4:Int)))<|
 (Aha N (f.take d.1.toNat)).bind fun x_1=>
 some x_1
noncomputable def S4(N:Nat):List Spec:=[As7 N]
theorem Xd(N:Nat):AllP (A0 Try.prog) (S4 N):=⟨Anq N,trivial⟩
noncomputable def Ao2:Code:=(Try.f48.body).getD .skip
noncomputable abbrev H2:Body:={ c:=Ao2,n:=12,res:=[.tmp 4],outs:=[⟨[.i .i64],[]⟩],m0:=0 }
abbrev Xa:altD H2.outs→Option Int:=fun r=>some r.1.1
abbrev Wg:Sta:=⟨[0,1],⟨[.fe Qc,.arr (.int .i64) 4],[]⟩⟩
theorem Ag9(N:Nat)(d:Qa)(f:List Int):ev (Z:=Int) Try.prog (S4 N) H2 [] [] (some Xa) 400 false [.c [0],.c [1]] (stL Wg ((d,f,()),())) (stH Wg ((d,f,()),()))=P2 N d f:=by kernel_rfl
noncomputable def A26(N:Nat):Spec:={ f:=48,ins:=⟨[.fe Qc,.arr (.int .i64) 4],[]⟩,outs:=[⟨[.i .i64],[]⟩],run:=fun p k=>(P2 N p.1.1 p.1.2.1).bind fun r=>k ((r,()),()) }
theorem A7o(N:Nat):A0 Try.prog (A26 N):=A1 (B:=H2) (loops:=[]) (leaves:=[]) (fun p=>P2 N p.1.1 p.1.2.1) (fun r=>((r,()),())) Xa (fun _ _ _=>rfl) (fun r z h=>by cases h;rfl) Try.func48 (by kernel_rfl) (by kernel_rfl) (by kernel_rfl) rfl rfl (by kernel_rfl) (fun args w=>Sem.pv_run _ _ _ (by kernel_rfl) w) (Xd N) mixed trivial (fun z E Xc hE hX hret=>trivial) (fun p=>Ag9 N p.1.1 p.1.2.1)

def Rf(N:Nat)(d:Qa)(s:Int)(s2:List Int)(crier:Int):Option (Int×List Int):=
 rng crier 4<|
 get s2 crier.toNat fun x_1=>
 idx d.2.2.2.2.2 s fun x_2=>
 chk (x_1+x_2)<|
 rng crier 4<|
 get s2 crier.toNat fun _=>
 chk (s+1)<|
 some ((s+1),(s2.set crier.toNat (x_1+x_2)))
noncomputable def Ajr(N:Nat):List Spec:=[]
theorem Ay2(N:Nat):AllP (A0 Try.prog) (Ajr N):=trivial
noncomputable def B4e:Code:=(Try.f79.body).getD .skip
noncomputable abbrev Afh:Body:={ c:=B4e,n:=27,res:=[.cell 6 159],outs:=[⟨[.agg [.i .i64,.arr (.int .i64) 4]],[]⟩],m0:=0 }
abbrev Aje:altD Afh.outs→Option (Int×List Int):=fun r=>some (r.1.1.1,r.1.1.2.1)
abbrev Ajq:Sta:=⟨[0,1,2],⟨[.fe Qc,.agg [.i .i64,.arr (.int .i64) 4],.i .i64],[]⟩⟩
theorem B0k(N:Nat)(d:Qa)(s:Int)(s2:List Int)(crier:Int):ev (Z:=Int×List Int) Try.prog (Ajr N) Afh [] [] (some Aje) 400 false [.c [0],.c [1]] (stL Ajq ((d,(s,s2,()),crier,()),())) (stH Ajq ((d,(s,s2,()),crier,()),()))=Rf N d s s2 crier:=by kernel_rfl
noncomputable def Ve(N:Nat):Spec:={ f:=79,ins:=⟨[.fe Qc,.agg [.i .i64,.arr (.int .i64) 4],.i .i64],[]⟩,outs:=[⟨[.agg [.i .i64,.arr (.int .i64) 4]],[]⟩],run:=fun p k=>(Rf N p.1.1 p.1.2.1.1 p.1.2.1.2.1 p.1.2.2.1).bind fun r=>k (((r.1,r.2,()),()),()) }
theorem Pq(N:Nat):A0 Try.prog (Ve N):=A1 (B:=Afh) (loops:=[]) (leaves:=[]) (fun p=>Rf N p.1.1 p.1.2.1.1 p.1.2.1.2.1 p.1.2.2.1) (fun r=>(((r.1,r.2,()),()),())) Aje (fun _ _ _=>rfl) (fun r z h=>by cases h;rfl) Try.func79 (by kernel_rfl) (by kernel_rfl) (by kernel_rfl) rfl rfl (by kernel_rfl) (fun args w=>Sem.pv_run _ _ _ (by kernel_rfl) w) (Ay2 N) mixed trivial (fun z E Xc hE hX hret=>trivial) (fun p=>B0k N p.1.1 p.1.2.1.1 p.1.2.1.2.1 p.1.2.2.1)

noncomputable abbrev Ep(self:Int→Qd→(Qa)→(Qa)→(Qa)→(Qa)→Qk→Option QK):Spec:={ f:=78,ins:=⟨[.agg [.i .i64,.arr (.int .i64) 4],.fz [.fe Qc],.fz [.fn 48 [.fe Qc] []],.fz [.mp 1],.own 0 0],[.segs [.fn 78 [] [.fz [.fe Qc],.fz [.fn 48 [.fe Qc] []],.fz [.mp 1],.own 0 0]],.map Qv (.int .i64)]⟩,outs:=[⟨[.i .i64],[.segs [.fn 78 [] [.fz [.fe Qc],.fz [.fn 48 [.fe Qc] []],.fz [.mp 1],.own 0 0]],.map Qv (.int .i64)]⟩],run:=fun p k=>(self p.1.1.1 p.1.1.2.1 p.1.2.1.1 p.1.2.2.1.1.1.1 p.2.1.1.2.1.1 p.2.1.1.2.2.1.1.1.1 p.2.2.1).bind fun r=>k ((r.1,()),((((),((r.2.1,()),(((r.2.2.1,()),()),()),((),()),(),())),()),r.2.2.2,())) }
def Vt(N:Nat)(self:Int→Qd→(Qa)→(Qa)→(Qa)→(Qa)→Qk→Option QK)(rec:(Qa)→Int→Qd→Int→Int→(Qa)→(Qa)→Qk→Int→Qd→Option QG)(u:Qa)(best:Int)(u2:List Int)(u3:Int)(u4:Int)(g:Qa)(g2:Qa)(g3:List QM)(s:Int)(s2:List Int):Option QG:=
 chk (u4+1)<|
 rec u best u2 u3 (u4+1) g g2 g3 s s2
def Eu(N:Nat)(self:Int→Qd→(Qa)→(Qa)→(Qa)→(Qa)→Qk→Option QK):Nat→(Qa)→Int→Qd→Int→Int→(Qa)→(Qa)→Qk→Int→Qd→Option QG
 | 0,_,_,_,_,_,_,_,_,_,_=>none
 | n_+1,u,best,u2,u3,u4,g,g2,g3,s,s2=>
  br (decide (u4<u3))
   (idx u2 u4 fun x_3=>
   (Rf N u s s2 x_3).bind fun(x_4,y_5)=>
   (self x_4 y_5 g g2 g g2 g3).bind fun(x_6,y_7,y_8,y_9)=>
   br (decide (best<0))
    (Vt N self (Eu N self n_) u x_6 u2 u3 u4 y_7 y_8 y_9 s s2)
    (br (decide (x_6<best))
     (Vt N self (Eu N self n_) u x_6 u2 u3 u4 y_7 y_8 y_9 s s2)
     (Vt N self (Eu N self n_) u best u2 u3 u4 y_7 y_8 y_9 s s2)))
   (some ((best,g,g2,g3,s,s2)))
def Aet(N:Nat)(self:Int→Qd→(Qa)→(Qa)→(Qa)→(Qa)→Qk→Option QK)(s:Int)(s2:List Int)(u:Qa)(u2:Qa)(g:Qa)(g2:Qa)(g3:List QM):Option QK:=
 br (decide (s=(u.2.2.2.2.1.length:Int)))
  ((P2 N u2 s2).bind fun x_1=>
  some (x_1,g,g2,g3))
  (br ((g3.find? fun(y:(Int×(Int×Qe))×Int)=>Ty.beq Qv y.1 (s,s2.getD 0 (0:Int),s2.getD 1 (0:Int),s2.getD 2 (0:Int),s2.getD 3 (0:Int))).isSome)
   (some ((((g3.find? fun(y:(Int×(Int×Qe))×Int)=>Ty.beq Qv y.1 (s,s2.getD 0 (0:Int),s2.getD 1 (0:Int),s2.getD 2 (0:Int),s2.getD 3 (0:Int))).map (·.2)).getD (Ty.dflt (.int .i64))),g,g2,g3))
   (idx u.2.2.2.2.1 s fun x_2=>
   (Eu N self N u (-1) x_2.2.2 (x_2.2.2.length:Int) 0 g g2 g3 s s2).bind fun(best_10,g_11,g2_12,g3_13,s_14,s2_15)=>
   some (best_10,g_11,g2_12,(((s_14,s2_15.getD 0 (0:Int),s2_15.getD 1 (0:Int),s2_15.getD 2 (0:Int),s2_15.getD 3 (0:Int)),best_10)::g3_13))))
noncomputable def A2e(N:Nat)(self:Int→Qd→(Qa)→(Qa)→(Qa)→(Qa)→Qk→Option QK):List Spec:=[A26 N,Ve N,Ep self]
theorem A5j(N:Nat)(self:Int→Qd→(Qa)→(Qa)→(Qa)→(Qa)→Qk→Option QK)(hself:A0 Try.prog (Ep self)):AllP (A0 Try.prog) (A2e N self):=⟨A7o N,Pq N,hself,trivial⟩
noncomputable def B77:Code:=(Try.f78.body).getD .skip
noncomputable abbrev C0:Body:={ c:=B77,n:=69,res:=[.tmp 6],outs:=[⟨[.i .i64],[.segs [.fn 78 [] [.fz [.fe Qc],.fz [.fn 48 [.fe Qc] []],.fz [.mp 1],.own 0 0]],.map Qv (.int .i64)]⟩],m0:=2 }
abbrev Atm:altD C0.outs→Option QK:=fun r=>some (r.1.1,r.2.1.1.2.1.1,r.2.1.1.2.2.1.1.1.1,r.2.2.1)
abbrev T8:List PI:=[.c [1,1,1,1,0,1,0,0,0],.c [1,1,1,1,0,1,0,0,1],.l [1,1,1,1,0,1,0,0],.b 0,.c [1,1,1,1,1]]
abbrev Ni:Sta:=⟨[1,3,4,5,9,44,45,46],⟨[.fz [.fe Qc],.fz [.mp 1],.own 0 0,.own 2 0,.i .i64,.sl (.int .i64),.i .i64,.i .i64],[.segs [.fn 78 [] [.fz [.fe Qc],.fz [.fn 48 [.fe Qc] []],.fz [.mp 1],.own 0 0]],.map Qv (.int .i64),.segs [.i .i64,.arr (.int .i64) 4]]⟩⟩
abbrev Kw(rec:(Qa)→Int→Qd→Int→Int→(Qa)→(Qa)→Qk→Int→Qd→Option QG):Leaf QG:=⟨T8,Ni,fun p=>rec p.1.1.1 p.1.2.2.2.2.1 p.1.2.2.2.2.2.1 p.1.2.2.2.2.2.2.1 p.1.2.2.2.2.2.2.2.1 p.2.1.1.2.1.1 p.2.1.1.2.2.1.1.1.1 p.2.2.1 p.2.2.2.1.1 p.2.2.2.1.2.1⟩
abbrev Hu:Leaf QG:=⟨[.c [1,1,1,1,1,0],.c [1,1,1,1,1,1]],⟨[3,5,9],⟨[.fz [.mp 1],.own 2 0,.i .i64],[.segs [.fn 78 [] [.fz [.fe Qc],.fz [.fn 48 [.fe Qc] []],.fz [.mp 1],.own 0 0]],.map Qv (.int .i64),.segs [.i .i64,.arr (.int .i64) 4]]⟩⟩,fun p=>some ((p.1.2.2.1,p.2.1.1.2.1.1,p.2.1.1.2.2.1.1.1.1,p.2.2.1,p.2.2.2.1.1,p.2.2.2.1.2.1))⟩
abbrev A7f:List PI:=[.c [1,1,1,1,0,1,0,0,1,1,1],.l [1,1,1,1,0,1,0,0],.b 0,.c [1,1,1,1,1]]
abbrev Tc:Sta:=⟨[1,3,4,5,9,44,45,46],⟨[.fz [.fe Qc],.fz [.mp 1],.own 0 0,.own 2 0,.i .i64,.sl (.int .i64),.i .i64,.i .i64],[.segs [.fn 78 [] [.fz [.fe Qc],.fz [.fn 48 [.fe Qc] []],.fz [.mp 1],.own 0 0]],.map Qv (.int .i64),.segs [.i .i64,.arr (.int .i64) 4]]⟩⟩
abbrev Xh(N:Nat)(self:Int→Qd→(Qa)→(Qa)→(Qa)→(Qa)→Qk→Option QK)(rec:(Qa)→Int→Qd→Int→Int→(Qa)→(Qa)→Qk→Int→Qd→Option QG):Leaf QG:=⟨A7f,Tc,fun p=>Vt N self rec p.1.1.1 p.1.2.2.2.2.1 p.1.2.2.2.2.2.1 p.1.2.2.2.2.2.2.1 p.1.2.2.2.2.2.2.2.1 p.2.1.1.2.1.1 p.2.1.1.2.2.1.1.1.1 p.2.2.1 p.2.2.2.1.1 p.2.2.2.1.2.1⟩
theorem Ap6(N:Nat)(self:Int→Qd→(Qa)→(Qa)→(Qa)→(Qa)→Qk→Option QK)(rec:(Qa)→Int→Qd→Int→Int→(Qa)→(Qa)→Qk→Int→Qd→Option QG)(u:Qa)(best:Int)(u2:List Int)(u3:Int)(u4:Int)(g:Qa)(g2:Qa)(g3:List QM)(s:Int)(s2:List Int):ev (Z:=Int×Qa×Qa×Qk×Int×List Int) Try.prog (A2e N self) C0 [] [Kw rec,Hu] none 400 true A7f (stL Tc (((u,()),((),()),(),(),best,u2,u3,u4,()),((((),((g,()),(((g2,()),()),()),((),()),(),())),()),g3,(s,s2,()),()))) (stH Tc (((u,()),((),()),(),(),best,u2,u3,u4,()),((((),((g,()),(((g2,()),()),()),((),()),(),())),()),g3,(s,s2,()),())))=Vt N self rec u best u2 u3 u4 g g2 g3 s s2:=by kernel_rfl
theorem Aom(N:Nat)(self:Int→Qd→(Qa)→(Qa)→(Qa)→(Qa)→Qk→Option QK)(hself:A0 Try.prog (Ep self))(rec:(Qa)→Int→Qd→Int→Int→(Qa)→(Qa)→Qk→Int→Qd→Option QG){z:Int×Qa×Qa×Qk×Int×List Int}{top:Bool}{E:EE}{Xc:Ctx}(hE:EOK C0.m0 E)(hX:CxOK top Xc)(hrec:Ag Try.prog C0.c C0.n C0.m0 E Xc z (Kw rec))(h0:Ag Try.prog C0.c C0.n C0.m0 E Xc z Hu):Ag Try.prog C0.c C0.n C0.m0 E Xc z (Xh N self rec):=A2 (B:=C0) (loops:=[]) (leaves:=[Kw rec,Hu]) (A5j N self hself) mixed trivial hE hX ⟨hrec,h0,trivial⟩ Aa.no (fun p=>Ap6 N self rec p.1.1.1 p.1.2.2.2.2.1 p.1.2.2.2.2.2.1 p.1.2.2.2.2.2.2.1 p.1.2.2.2.2.2.2.2.1 p.2.1.1.2.1.1 p.2.1.1.2.2.1.1.1.1 p.2.2.1 p.2.2.2.1.1 p.2.2.2.1.2.1)
noncomputable def Yg(N:Nat)(self:Int→Qd→(Qa)→(Qa)→(Qa)→(Qa)→Qk→Option QK):Ai:={ at_:=T8,sta:=Ni,exits:=[([.c [1,1,1,1,1,0],.c [1,1,1,1,1,1]],⟨[3,5,9],⟨[.fz [.mp 1],.own 2 0,.i .i64],[.segs [.fn 78 [] [.fz [.fe Qc],.fz [.fn 48 [.fe Qc] []],.fz [.mp 1],.own 0 0]],.map Qv (.int .i64),.segs [.i .i64,.arr (.int .i64) 4]]⟩⟩)],run:=fun p k=>(Eu N self N p.1.1.1 p.1.2.2.2.2.1 p.1.2.2.2.2.2.1 p.1.2.2.2.2.2.2.1 p.1.2.2.2.2.2.2.2.1 p.2.1.1.2.1.1 p.2.1.1.2.2.1.1.1.1 p.2.2.1 p.2.2.2.1.1 p.2.2.2.1.2.1).bind fun e=>k (.inl ((((),()),(),e.1,()),((((),((e.2.1,()),(((e.2.2.1,()),()),()),((),()),(),())),()),e.2.2.2.1,(e.2.2.2.2.1,e.2.2.2.2.2,()),()))) }
theorem Aru(N:Nat)(self:Int→Qd→(Qa)→(Qa)→(Qa)→(Qa)→Qk→Option QK)(n_:Nat)(u:Qa)(best:Int)(u2:List Int)(u3:Int)(u4:Int)(g:Qa)(g2:Qa)(g3:List QM)(s:Int)(s2:List Int):ev (Z:=Int×Qa×Qa×Qk×Int×List Int) Try.prog (A2e N self) C0 [] [Kw (Eu N self n_),Hu,Xh N self (Eu N self n_)] none 400 true T8 (stL Ni (((u,()),((),()),(),(),best,u2,u3,u4,()),((((),((g,()),(((g2,()),()),()),((),()),(),())),()),g3,(s,s2,()),()))) (stH Ni (((u,()),((),()),(),(),best,u2,u3,u4,()),((((),((g,()),(((g2,()),()),()),((),()),(),())),()),g3,(s,s2,()),())))=Eu N self (n_+1) u best u2 u3 u4 g g2 g3 s s2:=by kernel_rfl
theorem Ap5(N:Nat)(self:Int→Qd→(Qa)→(Qa)→(Qa)→(Qa)→Qk→Option QK)(hself:A0 Try.prog (Ep self)){top:Bool}:Ab Try.prog C0.c C0.n C0.m0 top (Yg N self):=A3 (Z:=Int×Qa×Qa×Qk×Int×List Int) (N:=N) (fun m p=>Eu N self m p.1.1.1 p.1.2.2.2.2.1 p.1.2.2.2.2.2.1 p.1.2.2.2.2.2.2.1 p.1.2.2.2.2.2.2.2.1 p.2.1.1.2.1.1 p.2.1.1.2.2.1.1.1.1 p.2.2.1 p.2.2.2.1.1 p.2.2.2.1.2.1) (fun e=>.inl ((((),()),(),e.1,()),((((),((e.2.1,()),(((e.2.2.1,()),()),()),((),()),(),())),()),e.2.2.2.1,(e.2.2.2.2.1,e.2.2.2.2.2,()),()))) (fun _ _ _=>rfl) (fun _=>rfl) (fun m z E Xc hE hX hrec hx=>A2 (B:=C0) (loops:=[]) (leaves:=[Kw (Eu N self m),Hu,Xh N self (Eu N self m)]) (A5j N self hself) mixed trivial hE hX ⟨hrec,(fun p hp=>by obtain rfl:=Option.some.inj hp;exact hx),Aom N self hself _ hE hX hrec (fun p hp=>by obtain rfl:=Option.some.inj hp;exact hx),trivial⟩ Aa.no (fun p=>Aru N self m p.1.1.1 p.1.2.2.2.2.1 p.1.2.2.2.2.2.1 p.1.2.2.2.2.2.2.1 p.1.2.2.2.2.2.2.2.1 p.2.1.1.2.1.1 p.2.1.1.2.2.1.1.1.1 p.2.2.1 p.2.2.2.1.1 p.2.2.2.1.2.1))
abbrev At2:Sta:=⟨[0,1,2,3,4],⟨[.agg [.i .i64,.arr (.int .i64) 4],.fz [.fe Qc],.fz [.fn 48 [.fe Qc] []],.fz [.mp 1],.own 0 0],[.segs [.fn 78 [] [.fz [.fe Qc],.fz [.fn 48 [.fe Qc] []],.fz [.mp 1],.own 0 0]],.map Qv (.int .i64)]⟩⟩
theorem B3d(N:Nat)(self:Int→Qd→(Qa)→(Qa)→(Qa)→(Qa)→Qk→Option QK)(s:Int)(s2:List Int)(u:Qa)(u2:Qa)(g:Qa)(g2:Qa)(g3:List QM):ev (Z:=Int×Qa×Qa×Qk) Try.prog (A2e N self) C0 [Yg N self] [] (some Atm) 400 false [.c [0],.c [1]] (stL At2 (((s,s2,()),(u,()),(((u2,()),()),()),((),()),(),()),((((),((g,()),(((g2,()),()),()),((),()),(),())),()),g3,()))) (stH At2 (((s,s2,()),(u,()),(((u2,()),()),()),((),()),(),()),((((),((g,()),(((g2,()),()),()),((),()),(),())),()),g3,())))=Aet N self s s2 u u2 g g2 g3:=by kernel_rfl
theorem Ah2(N:Nat)(self:Int→Qd→(Qa)→(Qa)→(Qa)→(Qa)→Qk→Option QK)(hself:A0 Try.prog (Ep self)):A0 Try.prog (Ep (Aet N self)):=A1 (B:=C0) (loops:=[Yg N self]) (leaves:=[]) (fun p=>Aet N self p.1.1.1 p.1.1.2.1 p.1.2.1.1 p.1.2.2.1.1.1.1 p.2.1.1.2.1.1 p.2.1.1.2.2.1.1.1.1 p.2.2.1) (fun r=>((r.1,()),((((),((r.2.1,()),(((r.2.2.1,()),()),()),((),()),(),())),()),r.2.2.2,()))) Atm (fun _ _ _=>rfl) (fun r z h=>by cases h;rfl) Try.func78 (by kernel_rfl) (by kernel_rfl) (by kernel_rfl) rfl rfl (by kernel_rfl) (fun args w=>Sem.pv_run _ _ _ (by kernel_rfl) w) (A5j N self hself) mixed ⟨Ap5 N self hself,trivial⟩ (fun z E Xc hE hX hret=>trivial) (fun p=>B3d N self p.1.1.1 p.1.1.2.1 p.1.2.1.1 p.1.2.2.1.1.1.1 p.2.1.1.2.1.1 p.2.1.1.2.2.1.1.1.1 p.2.2.1)
def Z3(N:Nat):Nat→Int→Qd→(Qa)→(Qa)→(Qa)→(Qa)→Qk→Option QK
 | 0=>fun _ _ _ _ _ _ _=>none
 | n+1=>Aet N (Z3 N n)
theorem Aci(N:Nat):∀n,A0 Try.prog (Ep (Z3 N n))
 | 0=>A0.none (fun _ _ _=>rfl) (fun args w=>Sem.pv_run _ _ _ (by kernel_rfl) w)
 | n+1=>Ah2 N (Z3 N n) (Aci N n)
noncomputable abbrev Aer(N:Nat):Spec:=Ep (Z3 N N)
theorem A3b(N:Nat):A0 Try.prog (Aer N):=Aci N N

def Ag1(N:Nat)(c:Int)(u:Qa)(g:Qa)(g2:Qa)(g3:List QM)(g4:Int)(g5:List Int)(g6:Int):Option (Bool×Qa×Qa×Qk×Int×List Int×Int):=
 (Rf N u g4 g5 c).bind fun(x_1,y_2)=>
 (Z3 N N x_1 y_2 g g2 g g2 g3).bind fun(x_3,y_4,y_5,y_6)=>
 some ((decide (x_3=g6)),y_4,y_5,y_6,g4,g5,g6)
noncomputable def Av7(N:Nat):List Spec:=[Ve N,Aer N]
theorem Ayb(N:Nat):AllP (A0 Try.prog) (Av7 N):=⟨Pq N,A3b N,trivial⟩
noncomputable def B5v:Code:=(Try.f81.body).getD .skip
noncomputable abbrev Aq1:Body:={ c:=B5v,n:=15,res:=[.tmp 6],outs:=[⟨[.b],[.segs [.fn 78 [] [.fz [.fe Qc],.fz [.fn 48 [.fe Qc] []],.fz [.mp 1],.own 0 0]],.map Qv (.int .i64),.segs [.i .i64,.arr (.int .i64) 4],.segs [.i .i64]]⟩],m0:=4 }
abbrev Aue:altD Aq1.outs→Option (Bool×Qa×Qa×Qk×Int×List Int×Int):=fun r=>some (r.1.1,r.2.1.1.2.1.1,r.2.1.1.2.2.1.1.1.1,r.2.2.1,r.2.2.2.1.1,r.2.2.2.1.2.1,r.2.2.2.2.1.1)
abbrev Atj:Sta:=⟨[0,1,2,3,4],⟨[.i .i64,.own 0 0,.fz [.fe Qc],.own 2 0,.own 3 0],[.segs [.fn 78 [] [.fz [.fe Qc],.fz [.fn 48 [.fe Qc] []],.fz [.mp 1],.own 0 0]],.map Qv (.int .i64),.segs [.i .i64,.arr (.int .i64) 4],.segs [.i .i64]]⟩⟩
theorem B31(N:Nat)(c:Int)(u:Qa)(g:Qa)(g2:Qa)(g3:List QM)(g4:Int)(g5:List Int)(g6:Int):ev (Z:=Bool×Qa×Qa×Qk×Int×List Int×Int) Try.prog (Av7 N) Aq1 [] [] (some Aue) 400 false [.c [0],.c [1]] (stL Atj ((c,(),(u,()),(),(),()),((((),((g,()),(((g2,()),()),()),((),()),(),())),()),g3,(g4,g5,()),(g6,()),()))) (stH Atj ((c,(),(u,()),(),(),()),((((),((g,()),(((g2,()),()),()),((),()),(),())),()),g3,(g4,g5,()),(g6,()),())))=Ag1 N c u g g2 g3 g4 g5 g6:=by kernel_rfl
noncomputable def Auh(N:Nat):Spec:={ f:=81,ins:=⟨[.i .i64,.own 0 0,.fz [.fe Qc],.own 2 0,.own 3 0],[.segs [.fn 78 [] [.fz [.fe Qc],.fz [.fn 48 [.fe Qc] []],.fz [.mp 1],.own 0 0]],.map Qv (.int .i64),.segs [.i .i64,.arr (.int .i64) 4],.segs [.i .i64]]⟩,outs:=[⟨[.b],[.segs [.fn 78 [] [.fz [.fe Qc],.fz [.fn 48 [.fe Qc] []],.fz [.mp 1],.own 0 0]],.map Qv (.int .i64),.segs [.i .i64,.arr (.int .i64) 4],.segs [.i .i64]]⟩],run:=fun p k=>(Ag1 N p.1.1 p.1.2.2.1.1 p.2.1.1.2.1.1 p.2.1.1.2.2.1.1.1.1 p.2.2.1 p.2.2.2.1.1 p.2.2.2.1.2.1 p.2.2.2.2.1.1).bind fun r=>k ((r.1,()),((((),((r.2.1,()),(((r.2.2.1,()),()),()),((),()),(),())),()),r.2.2.2.1,(r.2.2.2.2.1,r.2.2.2.2.2.1,()),(r.2.2.2.2.2.2,()),())) }
theorem Art(N:Nat):A0 Try.prog (Auh N):=A1 (B:=Aq1) (loops:=[]) (leaves:=[]) (fun p=>Ag1 N p.1.1 p.1.2.2.1.1 p.2.1.1.2.1.1 p.2.1.1.2.2.1.1.1.1 p.2.2.1 p.2.2.2.1.1 p.2.2.2.1.2.1 p.2.2.2.2.1.1) (fun r=>((r.1,()),((((),((r.2.1,()),(((r.2.2.1,()),()),()),((),()),(),())),()),r.2.2.2.1,(r.2.2.2.2.1,r.2.2.2.2.2.1,()),(r.2.2.2.2.2.2,()),()))) Aue (fun _ _ _=>rfl) (fun r z h=>by cases h;rfl) Try.func81 (by kernel_rfl) (by kernel_rfl) (by kernel_rfl) rfl rfl (by kernel_rfl) (fun args w=>Sem.pv_run _ _ _ (by kernel_rfl) w) (Ayb N) mixed trivial (fun z E Xc hE hX hret=>trivial) (fun p=>B31 N p.1.1 p.1.2.2.1.1 p.2.1.1.2.1.1 p.2.1.1.2.2.1.1.1.1 p.2.2.1 p.2.2.2.1.1 p.2.2.2.1.2.1 p.2.2.2.2.1.1)

def Js(N:Nat):Nat→Qd→(Qa)→Int→Int→(Qa)→(Qa)→Qk→Int→Qd→Int→Option (QE⊕(Qa×Qa×Qk×Int×List Int×Int))
 | 0,_,_,_,_,_,_,_,_,_,_=>none
 | n_+1,s,f,u,u2,f2,f3,g,f4,f5,f6=>
  br (decide (u2<u))
   (idx s u2 fun x_1=>
   (Ag1 N x_1 f f2 f3 g f4 f5 f6).bind fun(x_2,y_3,y_4,y_5,y_6,y_7,y_8)=>
   br x_2
    (some (.inl (u2,y_3,y_4,y_5,y_6,y_7,y_8)))
    (chk (u2+1)<|
    Js N n_ s f u (u2+1) y_3 y_4 y_5 y_6 y_7 y_8))
   (some (.inr (f2,f3,g,f4,f5,f6)))
def Afl(N:Nat)(s:List Int)(f:Qa)(f2:Qa)(f3:Qa)(g:List QM)(f4:Int)(f5:List Int)(f6:Int):Option QE:=
 (Js N N s f (s.length:Int) 0 f2 f3 g f4 f5 f6).bind fun e=>match e with
 | .inl (i_9,g_10,g2_11,g3_12,g4_13,g5_14,g6_15)=>
  some (i_9,g_10,g2_11,g3_12,g4_13,g5_14,g6_15)
 | .inr (g_16,g2_17,g3_18,g4_19,g5_20,g6_21)=>
  some (-1,g_16,g2_17,g3_18,g4_19,g5_20,g6_21)
noncomputable def Aep(N:Nat):List Spec:=[Auh N]
theorem Ane(N:Nat):AllP (A0 Try.prog) (Aep N):=⟨Art N,trivial⟩
noncomputable def B6l:Code:=(Try.f80.body).getD .skip
noncomputable abbrev R1:Body:={ c:=B6l,n:=19,res:=[.tmp 4],outs:=[⟨[.i .i64],[.segs [.fn 78 [] [.fz [.fe Qc],.fz [.fn 48 [.fe Qc] []],.fz [.mp 1],.own 0 0]],.map Qv (.int .i64),.segs [.i .i64,.arr (.int .i64) 4],.segs [.i .i64]]⟩],m0:=4 }
abbrev Asg:altD R1.outs→Option QE:=fun r=>some (r.1.1,r.2.1.1.2.1.1,r.2.1.1.2.2.1.1.1.1,r.2.2.1,r.2.2.2.1.1,r.2.2.2.1.2.1,r.2.2.2.2.1.1)
abbrev Um:List PI:=[.c [1,0,1,0,0,0],.c [1,0,1,0,0,1],.l [1,0,1,0,0],.b 0,.c [1,1]]
abbrev Nr:Sta:=⟨[0,1,7,8],⟨[.sl (.int .i64),.fn 81 [] [.own 0 0,.fz [.fe Qc],.own 2 0,.own 3 0],.i .i64,.i .i64],[.segs [.fn 78 [] [.fz [.fe Qc],.fz [.fn 48 [.fe Qc] []],.fz [.mp 1],.own 0 0]],.map Qv (.int .i64),.segs [.i .i64,.arr (.int .i64) 4],.segs [.i .i64]]⟩⟩
abbrev Ac0(rec:Qd→(Qa)→Int→Int→(Qa)→(Qa)→Qk→Int→Qd→Int→Option (QE⊕(Qa×Qa×Qk×Int×List Int×Int))):Leaf (QE⊕(Qa×Qa×Qk×Int×List Int×Int)):=⟨Um,Nr,fun p=>rec p.1.1 p.1.2.1.2.2.1.1 p.1.2.2.1 p.1.2.2.2.1 p.2.1.1.2.1.1 p.2.1.1.2.2.1.1.1.1 p.2.2.1 p.2.2.2.1.1 p.2.2.2.1.2.1 p.2.2.2.2.1.1⟩
abbrev A4l:Leaf (QE⊕(Qa×Qa×Qk×Int×List Int×Int)):=⟨[.c [1,0,1,0,0,1,1,0,0,1,1,0,0],.c [1,0,1,0,0,1,1,0,0,1,1,0,1],.b 1,.c [1,0,1,0,0,1,1,1],.l [1,0,1,0,0],.b 0,.c [1,1]],⟨[5],⟨[.i .i64],[.segs [.fn 78 [] [.fz [.fe Qc],.fz [.fn 48 [.fe Qc] []],.fz [.mp 1],.own 0 0]],.map Qv (.int .i64),.segs [.i .i64,.arr (.int .i64) 4],.segs [.i .i64]]⟩⟩,fun p=>some (.inl (p.1.1,p.2.1.1.2.1.1,p.2.1.1.2.2.1.1.1.1,p.2.2.1,p.2.2.2.1.1,p.2.2.2.1.2.1,p.2.2.2.2.1.1))⟩
abbrev A7v:Leaf (QE⊕(Qa×Qa×Qk×Int×List Int×Int)):=⟨[.c [1,1,0],.c [1,1,1]],⟨[],⟨[],[.segs [.fn 78 [] [.fz [.fe Qc],.fz [.fn 48 [.fe Qc] []],.fz [.mp 1],.own 0 0]],.map Qv (.int .i64),.segs [.i .i64,.arr (.int .i64) 4],.segs [.i .i64]]⟩⟩,fun p=>some (.inr (p.2.1.1.2.1.1,p.2.1.1.2.2.1.1.1.1,p.2.2.1,p.2.2.2.1.1,p.2.2.2.1.2.1,p.2.2.2.2.1.1))⟩
noncomputable def Yt(N:Nat):Ai:={ at_:=Um,sta:=Nr,exits:=[([.c [1,0,1,0,0,1,1,0,0,1,1,0,0],.c [1,0,1,0,0,1,1,0,0,1,1,0,1],.b 1,.c [1,0,1,0,0,1,1,1],.l [1,0,1,0,0],.b 0,.c [1,1]],⟨[5],⟨[.i .i64],[.segs [.fn 78 [] [.fz [.fe Qc],.fz [.fn 48 [.fe Qc] []],.fz [.mp 1],.own 0 0]],.map Qv (.int .i64),.segs [.i .i64,.arr (.int .i64) 4],.segs [.i .i64]]⟩⟩),([.c [1,1,0],.c [1,1,1]],⟨[],⟨[],[.segs [.fn 78 [] [.fz [.fe Qc],.fz [.fn 48 [.fe Qc] []],.fz [.mp 1],.own 0 0]],.map Qv (.int .i64),.segs [.i .i64,.arr (.int .i64) 4],.segs [.i .i64]]⟩⟩)],run:=fun p k=>(Js N N p.1.1 p.1.2.1.2.2.1.1 p.1.2.2.1 p.1.2.2.2.1 p.2.1.1.2.1.1 p.2.1.1.2.2.1.1.1.1 p.2.2.1 p.2.2.2.1.1 p.2.2.2.1.2.1 p.2.2.2.2.1.1).bind fun e=>match e with | .inl x=>k (.inl ((x.1,()),((((),((x.2.1,()),(((x.2.2.1,()),()),()),((),()),(),())),()),x.2.2.2.1,(x.2.2.2.2.1,x.2.2.2.2.2.1,()),(x.2.2.2.2.2.2,()),()))) | .inr x=>k (.inr (.inl ((),((((),((x.1,()),(((x.2.1,()),()),()),((),()),(),())),()),x.2.2.1,(x.2.2.2.1,x.2.2.2.2.1,()),(x.2.2.2.2.2,()),())))) }
theorem Aqe(N n_:Nat)(s:List Int)(f:Qa)(u:Int)(u2:Int)(f2:Qa)(f3:Qa)(g:List QM)(f4:Int)(f5:List Int)(f6:Int):ev (Z:=QE⊕(Qa×Qa×Qk×Int×List Int×Int)) Try.prog (Aep N) R1 [] [Ac0 (Js N n_),A4l,A7v] none 400 true Um (stL Nr ((s,((),((),(f,()),(),(),())),u,u2,()),((((),((f2,()),(((f3,()),()),()),((),()),(),())),()),g,(f4,f5,()),(f6,()),()))) (stH Nr ((s,((),((),(f,()),(),(),())),u,u2,()),((((),((f2,()),(((f3,()),()),()),((),()),(),())),()),g,(f4,f5,()),(f6,()),())))=Js N (n_+1) s f u u2 f2 f3 g f4 f5 f6:=by kernel_rfl
theorem Apa(N:Nat){top:Bool}:Ab Try.prog R1.c R1.n R1.m0 top (Yt N):=A3 (Z:=QE⊕(Qa×Qa×Qk×Int×List Int×Int)) (N:=N) (fun m p=>Js N m p.1.1 p.1.2.1.2.2.1.1 p.1.2.2.1 p.1.2.2.2.1 p.2.1.1.2.1.1 p.2.1.1.2.2.1.1.1.1 p.2.2.1 p.2.2.2.1.1 p.2.2.2.1.2.1 p.2.2.2.2.1.1) (fun e=>match e with | .inl x=>.inl ((x.1,()),((((),((x.2.1,()),(((x.2.2.1,()),()),()),((),()),(),())),()),x.2.2.2.1,(x.2.2.2.2.1,x.2.2.2.2.2.1,()),(x.2.2.2.2.2.2,()),())) | .inr x=>.inr (.inl ((),((((),((x.1,()),(((x.2.1,()),()),()),((),()),(),())),()),x.2.2.1,(x.2.2.2.1,x.2.2.2.2.1,()),(x.2.2.2.2.2,()),())))) (fun _ p k=>A9 (Js N N p.1.1 p.1.2.1.2.2.1.1 p.1.2.2.1 p.1.2.2.2.1 p.2.1.1.2.1.1 p.2.1.1.2.2.1.1.1.1 p.2.2.1 p.2.2.2.1.1 p.2.2.2.1.2.1 p.2.2.2.2.1.1) _ _ (fun e=>by rcases e with x | x<;>rfl)) (fun _=>rfl) (fun m z E Xc hE hX hrec hx=>A2 (B:=R1) (loops:=[]) (leaves:=[Ac0 (Js N m),A4l,A7v]) (Ane N) mixed trivial hE hX ⟨hrec,(fun p hp=>by obtain rfl:=Option.some.inj hp;exact hx),(fun p hp=>by obtain rfl:=Option.some.inj hp;exact hx),trivial⟩ Aa.no (fun p=>Aqe N m p.1.1 p.1.2.1.2.2.1.1 p.1.2.2.1 p.1.2.2.2.1 p.2.1.1.2.1.1 p.2.1.1.2.2.1.1.1.1 p.2.2.1 p.2.2.2.1.1 p.2.2.2.1.2.1 p.2.2.2.2.1.1))
abbrev Aus:Sta:=⟨[0,1],⟨[.sl (.int .i64),.fn 81 [] [.own 0 0,.fz [.fe Qc],.own 2 0,.own 3 0]],[.segs [.fn 78 [] [.fz [.fe Qc],.fz [.fn 48 [.fe Qc] []],.fz [.mp 1],.own 0 0]],.map Qv (.int .i64),.segs [.i .i64,.arr (.int .i64) 4],.segs [.i .i64]]⟩⟩
theorem B3r(N:Nat)(s:List Int)(f:Qa)(f2:Qa)(f3:Qa)(g:List QM)(f4:Int)(f5:List Int)(f6:Int):ev (Z:=Int×Qa×Qa×Qk×Int×List Int×Int) Try.prog (Aep N) R1 [Yt N] [] (some Asg) 400 false [.c [0],.c [1]] (stL Aus ((s,((),((),(f,()),(),(),())),()),((((),((f2,()),(((f3,()),()),()),((),()),(),())),()),g,(f4,f5,()),(f6,()),()))) (stH Aus ((s,((),((),(f,()),(),(),())),()),((((),((f2,()),(((f3,()),()),()),((),()),(),())),()),g,(f4,f5,()),(f6,()),())))=Afl N s f f2 f3 g f4 f5 f6:=by kernel_rfl
noncomputable def Atz(N:Nat):Spec:={ f:=80,ins:=⟨[.sl (.int .i64),.fn 81 [] [.own 0 0,.fz [.fe Qc],.own 2 0,.own 3 0]],[.segs [.fn 78 [] [.fz [.fe Qc],.fz [.fn 48 [.fe Qc] []],.fz [.mp 1],.own 0 0]],.map Qv (.int .i64),.segs [.i .i64,.arr (.int .i64) 4],.segs [.i .i64]]⟩,outs:=[⟨[.i .i64],[.segs [.fn 78 [] [.fz [.fe Qc],.fz [.fn 48 [.fe Qc] []],.fz [.mp 1],.own 0 0]],.map Qv (.int .i64),.segs [.i .i64,.arr (.int .i64) 4],.segs [.i .i64]]⟩],run:=fun p k=>(Afl N p.1.1 p.1.2.1.2.2.1.1 p.2.1.1.2.1.1 p.2.1.1.2.2.1.1.1.1 p.2.2.1 p.2.2.2.1.1 p.2.2.2.1.2.1 p.2.2.2.2.1.1).bind fun r=>k ((r.1,()),((((),((r.2.1,()),(((r.2.2.1,()),()),()),((),()),(),())),()),r.2.2.2.1,(r.2.2.2.2.1,r.2.2.2.2.2.1,()),(r.2.2.2.2.2.2,()),())) }
theorem Aow(N:Nat):A0 Try.prog (Atz N):=A1 (B:=R1) (loops:=[Yt N]) (leaves:=[]) (fun p=>Afl N p.1.1 p.1.2.1.2.2.1.1 p.2.1.1.2.1.1 p.2.1.1.2.2.1.1.1.1 p.2.2.1 p.2.2.2.1.1 p.2.2.2.1.2.1 p.2.2.2.2.1.1) (fun r=>((r.1,()),((((),((r.2.1,()),(((r.2.2.1,()),()),()),((),()),(),())),()),r.2.2.2.1,(r.2.2.2.2.1,r.2.2.2.2.2.1,()),(r.2.2.2.2.2.2,()),()))) Asg (fun _ _ _=>rfl) (fun r z h=>by cases h;rfl) Try.func80 (by kernel_rfl) (by kernel_rfl) (by kernel_rfl) rfl rfl (by kernel_rfl) (fun args w=>Sem.pv_run _ _ _ (by kernel_rfl) w) (Ane N) mixed ⟨Apa N,trivial⟩ (fun z E Xc hE hX hret=>trivial) (fun p=>B3r N p.1.1 p.1.2.1.2.2.1.1 p.2.1.1.2.1.1 p.2.1.1.2.2.1.1.1.1 p.2.2.1 p.2.2.2.1.1 p.2.2.2.1.2.1 p.2.2.2.2.1.1)

def I0(N:Nat):Nat→(Qa)→(Qa)→(Qa)→Qd→Int→Qd→Int→Qk→Option (List Int×Int)
 | 0,_,_,_,_,_,_,_,_=>none
 | n_+1,d,rest,rest2,out,s,s2,bad,g=>
  br (decide (s<(d.2.2.2.2.1.length:Int)))
   (idx d.2.2.2.2.1 s fun x_5=>
   (Afl N x_5.2.2 d rest rest2 g s s2 bad).bind fun(x_6,y_7,y_8,y_9,y_10,y_11,y_12)=>
   idx x_5.2.2 x_6 fun x_13=>
   lim (out.length+[x_13].length)<|
   (Rf N d y_10 y_11 x_13).bind fun(x_14,y_15)=>
   I0 N n_ d y_7 y_8 (out++[x_13]) x_14 y_15 y_12 y_9)
   (some ((out,bad)))
def A85(N:Nat)(d:Qa)(rest:Qa)(rest2:Qa)(g:List QM)(s:Int)(s2:List Int):Option (List Int×Int):=
 (Z3 N N s s2 rest rest2 rest rest2 g).bind fun(x_1,y_2,y_3,y_4)=>
 (I0 N N d y_2 y_3 [] s s2 x_1 y_4).bind fun(out_16,bad_17)=>
 some (out_16,bad_17)
def least_S(N:Nat)(d:Qa)(t:Qa):Option (List Int×Int):=
 A85 N d d t [] 0 (List.replicate 4 (0:Int))
noncomputable def Ih(N:Nat):List Spec:=[Ve N,Aer N,Atz N]
theorem Ly(N:Nat):AllP (A0 Try.prog) (Ih N):=⟨Pq N,A3b N,Aow N,trivial⟩
noncomputable def Aeu:Code:=(Try.f47.body).getD .skip
noncomputable abbrev Be:Body:={ c:=Aeu,n:=53,res:=[.tmp 4,.tmp 5],outs:=[⟨[.sl (.int .i64),.i .i64],[]⟩],m0:=0 }
abbrev I8:altD Be.outs→Option (List Int×Int):=fun r=>some (r.1.1,r.1.2.1)
abbrev P4:List PI:=[.c [1,1,1,1,1,1,1,0,0,0,0,0],.c [1,1,1,1,1,1,1,0,0,0,0,1],.c [1,1,1,1,1,1,1,0,0,0,1],.l [1,1,1,1,1,1,1,0,0,0],.b 0,.c [1,1,1,1,1,1,1,1]]
abbrev Jp:Sta:=⟨[2,7,8,9,10],⟨[.fz [.fe Qc],.own 0 0,.ols 1,.own 2 0,.own 3 0],[.segs [.fn 78 [] [.fz [.fe Qc],.fz [.fn 48 [.fe Qc] []],.fz [.mp 4],.own 0 0]],.lst (.int .i64),.segs [.i .i64,.arr (.int .i64) 4],.segs [.i .i64],.map Qv (.int .i64)]⟩⟩
abbrev A8t(rec:(Qa)→(Qa)→(Qa)→Qd→Int→Qd→Int→Qk→Option (List Int×Int)):Leaf (List Int×Int):=⟨P4,Jp,fun p=>rec p.1.1.1 p.2.1.1.2.1.1 p.2.1.1.2.2.1.1.1.1 p.2.2.1 p.2.2.2.1.1 p.2.2.2.1.2.1 p.2.2.2.2.1.1 p.2.2.2.2.2.1⟩
abbrev A0c:Leaf (List Int×Int):=⟨[.c [1,1,1,1,1,1,1,1,0],.c [1,1,1,1,1,1,1,1,1]],⟨[8,10],⟨[.ols 0,.own 1 0],[.lst (.int .i64),.segs [.i .i64]]⟩⟩,fun p=>some ((p.2.1,p.2.2.1.1))⟩
noncomputable def J4(N:Nat):Ai:={ at_:=P4,sta:=Jp,exits:=[([.c [1,1,1,1,1,1,1,1,0],.c [1,1,1,1,1,1,1,1,1]],⟨[8,10],⟨[.ols 0,.own 1 0],[.lst (.int .i64),.segs [.i .i64]]⟩⟩)],run:=fun p k=>(I0 N N p.1.1.1 p.2.1.1.2.1.1 p.2.1.1.2.2.1.1.1.1 p.2.2.1 p.2.2.2.1.1 p.2.2.2.1.2.1 p.2.2.2.2.1.1 p.2.2.2.2.2.1).bind fun e=>k (.inl (((),(),()),(e.1,(e.2,()),()))) }
theorem Aly(N n_:Nat)(d:Qa)(rest:Qa)(rest2:Qa)(out:List Int)(s:Int)(s2:List Int)(bad:Int)(g:List QM):ev (Z:=List Int×Int) Try.prog (Ih N) Be [] [A8t (I0 N n_),A0c] none 400 true P4 (stL Jp (((d,()),(),(),(),(),()),((((),((rest,()),(((rest2,()),()),()),((),()),(),())),()),out,(s,s2,()),(bad,()),g,()))) (stH Jp (((d,()),(),(),(),(),()),((((),((rest,()),(((rest2,()),()),()),((),()),(),())),()),out,(s,s2,()),(bad,()),g,())))=I0 N (n_+1) d rest rest2 out s s2 bad g:=by kernel_rfl
theorem A0s(N:Nat){top:Bool}:Ab Try.prog Be.c Be.n Be.m0 top (J4 N):=A3 (Z:=List Int×Int) (N:=N) (fun m p=>I0 N m p.1.1.1 p.2.1.1.2.1.1 p.2.1.1.2.2.1.1.1.1 p.2.2.1 p.2.2.2.1.1 p.2.2.2.1.2.1 p.2.2.2.2.1.1 p.2.2.2.2.2.1) (fun e=>.inl (((),(),()),(e.1,(e.2,()),()))) (fun _ _ _=>rfl) (fun _=>rfl) (fun m z E Xc hE hX hrec hx=>A2 (B:=Be) (loops:=[]) (leaves:=[A8t (I0 N m),A0c]) (Ly N) mixed trivial hE hX ⟨hrec,(fun p hp=>by obtain rfl:=Option.some.inj hp;exact hx),trivial⟩ Aa.no (fun p=>Aly N m p.1.1.1 p.2.1.1.2.1.1 p.2.1.1.2.2.1.1.1.1 p.2.2.1 p.2.2.2.1.1 p.2.2.2.1.2.1 p.2.2.2.2.1.1 p.2.2.2.2.2.1))
abbrev A0q:List PI:=[.c [1,1,1,1,1,1,0],.c [1,1,1,1,1,1,1]]
abbrev Q1:Sta:=⟨[2,7,8,9],⟨[.fz [.fe Qc],.own 0 0,.nils,.own 2 0],[.segs [.fn 78 [] [.fz [.fe Qc],.fz [.fn 48 [.fe Qc] []],.fz [.mp 1],.own 0 0]],.map Qv (.int .i64),.segs [.i .i64,.arr (.int .i64) 4]]⟩⟩
abbrev T6(N:Nat):Leaf (List Int×Int):=⟨A0q,Q1,fun p=>A85 N p.1.1.1 p.2.1.1.2.1.1 p.2.1.1.2.2.1.1.1.1 p.2.2.1 p.2.2.2.1.1 p.2.2.2.1.2.1⟩
theorem Ak2(N:Nat)(d:Qa)(rest:Qa)(rest2:Qa)(g:List QM)(s:Int)(s2:List Int):ev (Z:=List Int×Int) Try.prog (Ih N) Be [J4 N] [] (some I8) 400 true A0q (stL Q1 (((d,()),(),(),(),()),((((),((rest,()),(((rest2,()),()),()),((),()),(),())),()),g,(s,s2,()),()))) (stH Q1 (((d,()),(),(),(),()),((((),((rest,()),(((rest2,()),()),()),((),()),(),())),()),g,(s,s2,()),())))=A85 N d rest rest2 g s s2:=by kernel_rfl
theorem Ajo(N:Nat){z:List Int×Int}{E:EE}{Xc:Ctx}(hE:EOK Be.m0 E)(hX:CxOK true Xc)(hret:Aa Try.prog Be E Xc z (some I8)):Ag Try.prog Be.c Be.n Be.m0 E Xc z (T6 N):=A2 (B:=Be) (loops:=[J4 N]) (leaves:=[]) (Ly N) mixed ⟨A0s N,trivial⟩ hE hX trivial hret (fun p=>Ak2 N p.1.1.1 p.2.1.1.2.1.1 p.2.1.1.2.2.1.1.1.1 p.2.2.1 p.2.2.2.1.1 p.2.2.2.1.2.1)
abbrev Pk:Sta:=⟨[0,1],⟨[.fe Qc,.agg [.fn 48 [.fe Qc] []]],[]⟩⟩
theorem A5w(N:Nat)(d:Qa)(t:Qa):ev (Z:=List Int×Int) Try.prog (Ih N) Be [J4 N] [T6 N] (some I8) 400 false [.c [0],.c [1]] (stL Pk ((d,(((t,()),()),()),()),())) (stH Pk ((d,(((t,()),()),()),()),()))=least_S N d t:=by kernel_rfl
noncomputable def Uu(N:Nat):Spec:={ f:=47,ins:=⟨[.fe Qc,.agg [.fn 48 [.fe Qc] []]],[]⟩,outs:=[⟨[.sl (.int .i64),.i .i64],[]⟩],run:=fun p k=>(least_S N p.1.1 p.1.2.1.1.1.1).bind fun r=>k ((r.1,r.2,()),()) }
theorem A1j(N:Nat):A0 Try.prog (Uu N):=A1 (B:=Be) (loops:=[J4 N]) (leaves:=[T6 N]) (fun p=>least_S N p.1.1 p.1.2.1.1.1.1) (fun r=>((r.1,r.2,()),())) I8 (fun _ _ _=>rfl) (fun r z h=>by cases h;rfl) Try.func47 (by kernel_rfl) (by kernel_rfl) (by kernel_rfl) rfl rfl (by kernel_rfl) (fun args w=>Sem.pv_run _ _ _ (by kernel_rfl) w) (Ly N) mixed ⟨A0s N,trivial⟩ (fun z E Xc hE hX hret=>⟨Ajo N hE hX hret,trivial⟩) (fun p=>A5w N p.1.1 p.1.2.1.1.1.1)

def Af1(N:Nat)(b:Int)(b2:Int)(b3:Int)(b4:Int)(b5:List Qy):Option (List Int×Int×Int):=
 ((Al N b b2 b3 b4 b5).bind fun e=>match e with
 | .inl (x_1,y_2)=>
  (br (!decide (y_2=0))
   (some ([],0,y_2))
   ((least_S N x_1 x_1).bind fun(x_3,y_4)=>
   some (x_3,y_4,0)))
 | .inr x_5=>
  (br (!decide (x_5=0))
   (some ([],0,x_5))
   (none)))
noncomputable def As8(N:Nat):List Spec:=[Bw N,Uu N]
theorem B15(N:Nat):AllP (A0 Try.prog) (As8 N):=⟨Cb N,A1j N,trivial⟩
noncomputable def B79:Code:=(Try.f17.body).getD .skip
noncomputable abbrev Aqo:Body:={ c:=B79,n:=27,res:=[.tmp 2,.tmp 3,.tmp 4],outs:=[⟨[.sl (.int .i64),.i .i64,.i .i64],[]⟩],m0:=0 }
abbrev Aur:altD Aqo.outs→Option (List Int×Int×Int):=fun r=>some (r.1.1,r.1.2.1,r.1.2.2.1)
abbrev Ate:Sta:=⟨[0],⟨[.agg [.i .i64,.i .i64,.i .i64,.i .i64,.sl Qm]],[]⟩⟩
theorem B2x(N:Nat)(b:Int)(b2:Int)(b3:Int)(b4:Int)(b5:List Qy):ev (Z:=List Int×Int×Int) Try.prog (As8 N) Aqo [] [] (some Aur) 400 false [.c [0],.c [1]] (stL Ate (((b,b2,b3,b4,b5,()),()),())) (stH Ate (((b,b2,b3,b4,b5,()),()),()))=Af1 N b b2 b3 b4 b5:=by kernel_rfl
noncomputable def Auw(N:Nat):Spec:={ f:=17,ins:=⟨[.agg [.i .i64,.i .i64,.i .i64,.i .i64,.sl Qm]],[]⟩,outs:=[⟨[.sl (.int .i64),.i .i64,.i .i64],[]⟩],run:=fun p k=>(Af1 N p.1.1.1 p.1.1.2.1 p.1.1.2.2.1 p.1.1.2.2.2.1 p.1.1.2.2.2.2.1).bind fun r=>k ((r.1,r.2.1,r.2.2,()),()) }
theorem Apv(N:Nat):A0 Try.prog (Auw N):=A1 (B:=Aqo) (loops:=[]) (leaves:=[]) (fun p=>Af1 N p.1.1.1 p.1.1.2.1 p.1.1.2.2.1 p.1.1.2.2.2.1 p.1.1.2.2.2.2.1) (fun r=>((r.1,r.2.1,r.2.2,()),())) Aur (fun _ _ _=>rfl) (fun r z h=>by cases h;rfl) Try.func17 (by kernel_rfl) (by kernel_rfl) (by kernel_rfl) rfl rfl (by kernel_rfl) (fun args w=>Sem.pv_run _ _ _ (by kernel_rfl) w) (B15 N) mixed trivial (fun z E Xc hE hX hret=>trivial) (fun p=>B2x N p.1.1.1 p.1.1.2.1 p.1.1.2.2.1 p.1.1.2.2.2.1 p.1.1.2.2.2.2.1)

def V2(N:Nat)(rec:Int→Int→Int→Int→Int→Qd→Int→Int→Int→Int→Int→Int→Int→Int→Int→Int→Int→Int→Ql→Qd→Option Qu)(sure:Int)(u:Int)(u2:Int)(u3:Int)(u4:Int)(b:List Int)(b2:Int)(b3:Int)(g:Int)(g2:Int)(g3:Int)(g4:Int)(x:Int)(x2:Int)(x3:Int)(x4:Int)(r:Int)(r2:Int)(x5:List Qy)(r3:List Int):Option Qu:=
 chk (u4+1)<|
 rec sure u u2 u3 (u4+1) b b2 b3 g g2 g3 g4 x x2 x3 x4 r r2 x5 r3
def made_l2(N:Nat):Nat→Int→Int→Int→Int→Int→Qd→Int→Int→Int→Int→Int→Int→Int→Int→Int→Int→Int→Int→Ql→Qd→Option Qu
 | 0,_,_,_,_,_,_,_,_,_,_,_,_,_,_,_,_,_,_,_,_=>none
 | n_+1,sure,u,u2,u3,u4,b,b2,b3,g,g2,g3,g4,x,x2,x3,x4,r,r2,x5,r3=>
  br (decide (u4<u3))
   (br (decide (u4=sure))
    (lim (r3.length+[u4].length)<|
    V2 N (made_l2 N n_) sure u u2 u3 u4 b b2 b3 g g2 g3 g4 x x2 x3 x4 r r2 x5 (r3++[u4]))
    ((Jb N 3 b b2 b3).bind fun(x_33,y_34,y_35,y_36)=>
    br (!x_33)
     (lim (r3.length+[u4].length)<|
     V2 N (made_l2 N n_) sure u u2 u3 u4 y_34 y_35 y_36 g g2 g3 g4 x x2 x3 x4 r r2 x5 (r3++[u4]))
     (V2 N (made_l2 N n_) sure u u2 u3 u4 y_34 y_35 y_36 g g2 g3 g4 x x2 x3 x4 r r2 x5 r3)))
   (some ((u,u2,b,b2,b3,g,g2,g3,g4,x,x2,x3,x4,r,r2,x5,r3)))
def made_l1(N:Nat):Nat→Int→Int→Qd→Int→Int→Int→Int→Int→Int→Int→Int→Int→Int→Ql→Option (List Int×Int×Int×Int×Int×Int×Int×Int×Int×Int×Int×Ql)
 | 0,_,_,_,_,_,_,_,_,_,_,_,_,_,_=>none
 | n_+1,u,u2,b,b2,b3,g,g2,g3,g4,x,x2,x3,x4,x5=>
  br (decide (u2<u))
   ((D6 N 1 9 b b2 b3).bind fun(x_21,y_22,y_23,y_24)=>
   (D6 N 1 5 y_22 y_23 y_24).bind fun(x_25,y_26,y_27,y_28)=>
   chk (x-1)<|
   (B8 N (x-1) y_26 y_27 y_28).bind fun(x_29,y_30,y_31,y_32)=>
   (made_l2 N N x_29 u u2 x 0 y_30 y_31 y_32 g g2 g3 g4 x x2 x3 x4 x_21 x_25 x5 []).bind fun(u_37,u2_38,b_39,b2_40,b3_41,g_42,g2_43,g3_44,g4_45,x_46,x2_47,x3_48,x4_49,r_50,r2_51,x5_52,r3_53)=>
   lim (x5_52.length+[(r_50,r2_51,r3_53)].length)<|
   chk (u2_38+1)<|
   made_l1 N n_ u_37 (u2_38+1) b_39 b2_40 b3_41 g_42 g2_43 g3_44 g4_45 x_46 x2_47 x3_48 x4_49 (x5_52++[(r_50,r2_51,r3_53)]))
   (some ((b,b2,b3,g,g2,g3,g4,x,x2,x3,x4,x5)))
def Km(N:Nat)(rounds:Int)(b:List Int)(b2:Int)(b3:Int):Option (Int×Int×Int×Int×List Int×Int×Int×Ql):=
 (D6 N 1 4 b b2 b3).bind fun(x_1,y_2,y_3,y_4)=>
 (B8 N 4 y_2 y_3 y_4).bind fun(x_5,y_6,y_7,y_8)=>
 (B8 N 6 y_6 y_7 y_8).bind fun(x_9,y_10,y_11,y_12)=>
 (B8 N 3 y_10 y_11 y_12).bind fun(x_13,y_14,y_15,y_16)=>
 (B8 N rounds y_14 y_15 y_16).bind fun(x_17,y_18,y_19,y_20)=>
 (made_l1 N N x_17 0 y_18 y_19 y_20 0 0 0 0 x_1 x_5 x_9 x_13 []).bind fun(g_54,g2_55,g3_56,g4_57,g5_58,g6_59,g7_60,x_61,x2_62,x3_63,x4_64,x5_65)=>
 some (x_61,x2_62,x3_63,x4_64,g_54,g2_55,g3_56,x5_65)
noncomputable def Dd(N:Nat):List Spec:=[Hs N,Xw N,Ym N]
theorem Cq(N:Nat):AllP (A0 Try.prog) (Dd N):=⟨F7 N,Uz N,Vv N,trivial⟩
noncomputable def Ap1:Code:=(Try.f16.body).getD .skip
noncomputable abbrev Ac:Body:={ c:=Ap1,n:=61,res:=[.cell 4 48],outs:=[⟨[.agg [.i .i64,.i .i64,.i .i64,.i .i64,.ols 1]],[.segs [.sl (.int .u8),.i .i64,.i .u32],.lst Qm]⟩],m0:=1 }
abbrev Wk:altD Ac.outs→Option (Int×Int×Int×Int×List Int×Int×Int×Ql):=fun r=>some (r.1.1.1,r.1.1.2.1,r.1.1.2.2.1,r.1.1.2.2.2.1,r.2.1.1,r.2.1.2.1,r.2.1.2.2.1,r.2.2.1)
abbrev E0:List PI:=[.c [1,1,0,1,0,0,1,1,0,0,1,1,0,1,0,0,0],.c [1,1,0,1,0,0,1,1,0,0,1,1,0,1,0,0,1],.l [1,1,0,1,0,0,1,1,0,0,1,1,0,1,0,0],.b 2,.c [1,1,0,1,0,0,1,1,0,0,1,1,1],.b 1,.c [1,1,0,1,0,0,1,1,1],.l [1,1,0,1,0,0],.b 0,.c [1,1,1]]
abbrev Cc:Sta:=⟨[0,4,5,6,7,20,21,34,35],⟨[.own 0 0,.own 1 0,.own 2 0,.own 3 0,.i .i64,.i .i64,.i .i64,.i .i64,.i .i64],[.segs [.sl (.int .u8),.i .i64,.i .u32],.segs [.i .i64,.i .i64,.i .i64,.i .i64,.nils],.segs [.i .i64,.i .i64,.i .i64,.i .i64,.ols 4],.segs [.i .i64,.i .i64,.ols 5],.lst Qm,.lst (.int .i64)]⟩⟩
abbrev Er(rec:Int→Int→Int→Int→Int→Qd→Int→Int→Int→Int→Int→Int→Int→Int→Int→Int→Int→Int→Ql→Qd→Option Qu):Leaf Qu:=⟨E0,Cc,fun p=>rec p.1.2.2.2.2.1 p.1.2.2.2.2.2.1 p.1.2.2.2.2.2.2.1 p.1.2.2.2.2.2.2.2.1 p.1.2.2.2.2.2.2.2.2.1 p.2.1.1 p.2.1.2.1 p.2.1.2.2.1 p.2.2.1.1 p.2.2.1.2.1 p.2.2.1.2.2.1 p.2.2.1.2.2.2.1 p.2.2.2.1.1 p.2.2.2.1.2.1 p.2.2.2.1.2.2.1 p.2.2.2.1.2.2.2.1 p.2.2.2.2.1.1 p.2.2.2.2.1.2.1 p.2.2.2.2.2.1 p.2.2.2.2.2.2.1⟩
abbrev Cs:Leaf Qu:=⟨[.c [1,1,0,1,0,0,1,1,0,0,1,1,1],.b 1,.c [1,1,0,1,0,0,1,1,1],.l [1,1,0,1,0,0],.b 0,.c [1,1,1]],⟨[0,4,5,6,20,21],⟨[.own 0 0,.own 1 0,.own 2 0,.own 3 0,.i .i64,.i .i64],[.segs [.sl (.int .u8),.i .i64,.i .u32],.segs [.i .i64,.i .i64,.i .i64,.i .i64,.nils],.segs [.i .i64,.i .i64,.i .i64,.i .i64,.ols 4],.segs [.i .i64,.i .i64,.ols 5],.lst Qm,.lst (.int .i64)]⟩⟩,fun p=>some ((p.1.2.2.2.2.1,p.1.2.2.2.2.2.1,p.2.1.1,p.2.1.2.1,p.2.1.2.2.1,p.2.2.1.1,p.2.2.1.2.1,p.2.2.1.2.2.1,p.2.2.1.2.2.2.1,p.2.2.2.1.1,p.2.2.2.1.2.1,p.2.2.2.1.2.2.1,p.2.2.2.1.2.2.2.1,p.2.2.2.2.1.1,p.2.2.2.2.1.2.1,p.2.2.2.2.2.1,p.2.2.2.2.2.2.1))⟩
abbrev A47:List PI:=[.c [1,1,0,1,0,0,1,1,0,0,1,1,0,1,0,0,1,1,1],.l [1,1,0,1,0,0,1,1,0,0,1,1,0,1,0,0],.b 2,.c [1,1,0,1,0,0,1,1,0,0,1,1,1],.b 1,.c [1,1,0,1,0,0,1,1,1],.l [1,1,0,1,0,0],.b 0,.c [1,1,1]]
abbrev Tm:Sta:=⟨[0,4,5,6,7,20,21,34,35],⟨[.own 0 0,.own 1 0,.own 2 0,.own 3 0,.i .i64,.i .i64,.i .i64,.i .i64,.i .i64],[.segs [.sl (.int .u8),.i .i64,.i .u32],.segs [.i .i64,.i .i64,.i .i64,.i .i64,.nils],.segs [.i .i64,.i .i64,.i .i64,.i .i64,.ols 4],.segs [.i .i64,.i .i64,.ols 5],.lst Qm,.lst (.int .i64)]⟩⟩
abbrev Xi(N:Nat)(rec:Int→Int→Int→Int→Int→Qd→Int→Int→Int→Int→Int→Int→Int→Int→Int→Int→Int→Int→Ql→Qd→Option Qu):Leaf Qu:=⟨A47,Tm,fun p=>V2 N rec p.1.2.2.2.2.1 p.1.2.2.2.2.2.1 p.1.2.2.2.2.2.2.1 p.1.2.2.2.2.2.2.2.1 p.1.2.2.2.2.2.2.2.2.1 p.2.1.1 p.2.1.2.1 p.2.1.2.2.1 p.2.2.1.1 p.2.2.1.2.1 p.2.2.1.2.2.1 p.2.2.1.2.2.2.1 p.2.2.2.1.1 p.2.2.2.1.2.1 p.2.2.2.1.2.2.1 p.2.2.2.1.2.2.2.1 p.2.2.2.2.1.1 p.2.2.2.2.1.2.1 p.2.2.2.2.2.1 p.2.2.2.2.2.2.1⟩
theorem Ara(N:Nat)(rec:Int→Int→Int→Int→Int→Qd→Int→Int→Int→Int→Int→Int→Int→Int→Int→Int→Int→Int→Ql→Qd→Option Qu)(sure:Int)(u:Int)(u2:Int)(u3:Int)(u4:Int)(b:List Int)(b2:Int)(b3:Int)(g:Int)(g2:Int)(g3:Int)(g4:Int)(x:Int)(x2:Int)(x3:Int)(x4:Int)(r:Int)(r2:Int)(x5:List Qy)(r3:List Int):ev (Z:=Int×Int×List Int×Int×Int×Int×Int×Int×Int×Int×Int×Int×Int×Int×Int×Ql×List Int) Try.prog (Dd N) Ac [] [Er rec,Cs] none 400 true A47 (stL Tm (((),(),(),(),sure,u,u2,u3,u4,()),((b,b2,b3,()),(g,g2,g3,g4,(),()),(x,x2,x3,x4,(),()),(r,r2,(),()),x5,r3,()))) (stH Tm (((),(),(),(),sure,u,u2,u3,u4,()),((b,b2,b3,()),(g,g2,g3,g4,(),()),(x,x2,x3,x4,(),()),(r,r2,(),()),x5,r3,())))=V2 N rec sure u u2 u3 u4 b b2 b3 g g2 g3 g4 x x2 x3 x4 r r2 x5 r3:=by kernel_rfl
theorem Aqz(N:Nat)(rec:Int→Int→Int→Int→Int→Qd→Int→Int→Int→Int→Int→Int→Int→Int→Int→Int→Int→Int→Ql→Qd→Option Qu){z:Int×Int×List Int×Int×Int×Int×Int×Int×Int×Int×Int×Int×Int×Int×Int×Ql×List Int}{top:Bool}{E:EE}{Xc:Ctx}(hE:EOK Ac.m0 E)(hX:CxOK top Xc)(hrec:Ag Try.prog Ac.c Ac.n Ac.m0 E Xc z (Er rec))(h0:Ag Try.prog Ac.c Ac.n Ac.m0 E Xc z Cs):Ag Try.prog Ac.c Ac.n Ac.m0 E Xc z (Xi N rec):=A2 (B:=Ac) (loops:=[]) (leaves:=[Er rec,Cs]) (Cq N) mixed trivial hE hX ⟨hrec,h0,trivial⟩ Aa.no (fun p=>Ara N rec p.1.2.2.2.2.1 p.1.2.2.2.2.2.1 p.1.2.2.2.2.2.2.1 p.1.2.2.2.2.2.2.2.1 p.1.2.2.2.2.2.2.2.2.1 p.2.1.1 p.2.1.2.1 p.2.1.2.2.1 p.2.2.1.1 p.2.2.1.2.1 p.2.2.1.2.2.1 p.2.2.1.2.2.2.1 p.2.2.2.1.1 p.2.2.2.1.2.1 p.2.2.2.1.2.2.1 p.2.2.2.1.2.2.2.1 p.2.2.2.2.1.1 p.2.2.2.2.1.2.1 p.2.2.2.2.2.1 p.2.2.2.2.2.2.1)
noncomputable def Bg(N:Nat):Ai:={ at_:=E0,sta:=Cc,exits:=[([.c [1,1,0,1,0,0,1,1,0,0,1,1,1],.b 1,.c [1,1,0,1,0,0,1,1,1],.l [1,1,0,1,0,0],.b 0,.c [1,1,1]],⟨[0,4,5,6,20,21],⟨[.own 0 0,.own 1 0,.own 2 0,.own 3 0,.i .i64,.i .i64],[.segs [.sl (.int .u8),.i .i64,.i .u32],.segs [.i .i64,.i .i64,.i .i64,.i .i64,.nils],.segs [.i .i64,.i .i64,.i .i64,.i .i64,.ols 4],.segs [.i .i64,.i .i64,.ols 5],.lst Qm,.lst (.int .i64)]⟩⟩)],run:=fun p k=>(made_l2 N N p.1.2.2.2.2.1 p.1.2.2.2.2.2.1 p.1.2.2.2.2.2.2.1 p.1.2.2.2.2.2.2.2.1 p.1.2.2.2.2.2.2.2.2.1 p.2.1.1 p.2.1.2.1 p.2.1.2.2.1 p.2.2.1.1 p.2.2.1.2.1 p.2.2.1.2.2.1 p.2.2.1.2.2.2.1 p.2.2.2.1.1 p.2.2.2.1.2.1 p.2.2.2.1.2.2.1 p.2.2.2.1.2.2.2.1 p.2.2.2.2.1.1 p.2.2.2.2.1.2.1 p.2.2.2.2.2.1 p.2.2.2.2.2.2.1).bind fun e=>k (.inl (((),(),(),(),e.1,e.2.1,()),((e.2.2.1,e.2.2.2.1,e.2.2.2.2.1,()),(e.2.2.2.2.2.1,e.2.2.2.2.2.2.1,e.2.2.2.2.2.2.2.1,e.2.2.2.2.2.2.2.2.1,(),()),(e.2.2.2.2.2.2.2.2.2.1,e.2.2.2.2.2.2.2.2.2.2.1,e.2.2.2.2.2.2.2.2.2.2.2.1,e.2.2.2.2.2.2.2.2.2.2.2.2.1,(),()),(e.2.2.2.2.2.2.2.2.2.2.2.2.2.1,e.2.2.2.2.2.2.2.2.2.2.2.2.2.2.1,(),()),e.2.2.2.2.2.2.2.2.2.2.2.2.2.2.2.1,e.2.2.2.2.2.2.2.2.2.2.2.2.2.2.2.2,()))) }
theorem Tz(N n_:Nat)(sure:Int)(u:Int)(u2:Int)(u3:Int)(u4:Int)(b:List Int)(b2:Int)(b3:Int)(g:Int)(g2:Int)(g3:Int)(g4:Int)(x:Int)(x2:Int)(x3:Int)(x4:Int)(r:Int)(r2:Int)(x5:List Qy)(r3:List Int):ev (Z:=Int×Int×List Int×Int×Int×Int×Int×Int×Int×Int×Int×Int×Int×Int×Int×Ql×List Int) Try.prog (Dd N) Ac [] [Er (made_l2 N n_),Cs,Xi N (made_l2 N n_)] none 400 true E0 (stL Cc (((),(),(),(),sure,u,u2,u3,u4,()),((b,b2,b3,()),(g,g2,g3,g4,(),()),(x,x2,x3,x4,(),()),(r,r2,(),()),x5,r3,()))) (stH Cc (((),(),(),(),sure,u,u2,u3,u4,()),((b,b2,b3,()),(g,g2,g3,g4,(),()),(x,x2,x3,x4,(),()),(r,r2,(),()),x5,r3,())))=made_l2 N (n_+1) sure u u2 u3 u4 b b2 b3 g g2 g3 g4 x x2 x3 x4 r r2 x5 r3:=by kernel_rfl
theorem Fb(N:Nat){top:Bool}:Ab Try.prog Ac.c Ac.n Ac.m0 top (Bg N):=A3 (Z:=Int×Int×List Int×Int×Int×Int×Int×Int×Int×Int×Int×Int×Int×Int×Int×Ql×List Int) (N:=N) (fun m p=>made_l2 N m p.1.2.2.2.2.1 p.1.2.2.2.2.2.1 p.1.2.2.2.2.2.2.1 p.1.2.2.2.2.2.2.2.1 p.1.2.2.2.2.2.2.2.2.1 p.2.1.1 p.2.1.2.1 p.2.1.2.2.1 p.2.2.1.1 p.2.2.1.2.1 p.2.2.1.2.2.1 p.2.2.1.2.2.2.1 p.2.2.2.1.1 p.2.2.2.1.2.1 p.2.2.2.1.2.2.1 p.2.2.2.1.2.2.2.1 p.2.2.2.2.1.1 p.2.2.2.2.1.2.1 p.2.2.2.2.2.1 p.2.2.2.2.2.2.1) (fun e=>.inl (((),(),(),(),e.1,e.2.1,()),((e.2.2.1,e.2.2.2.1,e.2.2.2.2.1,()),(e.2.2.2.2.2.1,e.2.2.2.2.2.2.1,e.2.2.2.2.2.2.2.1,e.2.2.2.2.2.2.2.2.1,(),()),(e.2.2.2.2.2.2.2.2.2.1,e.2.2.2.2.2.2.2.2.2.2.1,e.2.2.2.2.2.2.2.2.2.2.2.1,e.2.2.2.2.2.2.2.2.2.2.2.2.1,(),()),(e.2.2.2.2.2.2.2.2.2.2.2.2.2.1,e.2.2.2.2.2.2.2.2.2.2.2.2.2.2.1,(),()),e.2.2.2.2.2.2.2.2.2.2.2.2.2.2.2.1,e.2.2.2.2.2.2.2.2.2.2.2.2.2.2.2.2,()))) (fun _ _ _=>rfl) (fun _=>rfl) (fun m z E Xc hE hX hrec hx=>A2 (B:=Ac) (loops:=[]) (leaves:=[Er (made_l2 N m),Cs,Xi N (made_l2 N m)]) (Cq N) mixed trivial hE hX ⟨hrec,(fun p hp=>by obtain rfl:=Option.some.inj hp;exact hx),Aqz N _ hE hX hrec (fun p hp=>by obtain rfl:=Option.some.inj hp;exact hx),trivial⟩ Aa.no (fun p=>Tz N m p.1.2.2.2.2.1 p.1.2.2.2.2.2.1 p.1.2.2.2.2.2.2.1 p.1.2.2.2.2.2.2.2.1 p.1.2.2.2.2.2.2.2.2.1 p.2.1.1 p.2.1.2.1 p.2.1.2.2.1 p.2.2.1.1 p.2.2.1.2.1 p.2.2.1.2.2.1 p.2.2.1.2.2.2.1 p.2.2.2.1.1 p.2.2.2.1.2.1 p.2.2.2.1.2.2.1 p.2.2.2.1.2.2.2.1 p.2.2.2.2.1.1 p.2.2.2.2.1.2.1 p.2.2.2.2.2.1 p.2.2.2.2.2.2.1))
abbrev E3:List PI:=[.c [1,1,0,1,0,0,0],.c [1,1,0,1,0,0,1],.l [1,1,0,1,0,0],.b 0,.c [1,1,1]]
abbrev C6:Sta:=⟨[0,4,5,20,21],⟨[.own 0 0,.own 1 0,.own 2 0,.i .i64,.i .i64],[.segs [.sl (.int .u8),.i .i64,.i .u32],.segs [.i .i64,.i .i64,.i .i64,.i .i64,.nils],.segs [.i .i64,.i .i64,.i .i64,.i .i64,.ols 3],.lst Qm]⟩⟩
abbrev Ld(rec:Int→Int→Qd→Int→Int→Int→Int→Int→Int→Int→Int→Int→Int→Ql→Option (List Int×Int×Int×Int×Int×Int×Int×Int×Int×Int×Int×Ql)):Leaf (List Int×Int×Int×Int×Int×Int×Int×Int×Int×Int×Int×Ql):=⟨E3,C6,fun p=>rec p.1.2.2.2.1 p.1.2.2.2.2.1 p.2.1.1 p.2.1.2.1 p.2.1.2.2.1 p.2.2.1.1 p.2.2.1.2.1 p.2.2.1.2.2.1 p.2.2.1.2.2.2.1 p.2.2.2.1.1 p.2.2.2.1.2.1 p.2.2.2.1.2.2.1 p.2.2.2.1.2.2.2.1 p.2.2.2.2.1⟩
abbrev Il:Leaf (List Int×Int×Int×Int×Int×Int×Int×Int×Int×Int×Int×Ql):=⟨[.c [1,1,1,0],.c [1,1,1,1]],⟨[4,5],⟨[.own 1 0,.own 2 0],[.segs [.sl (.int .u8),.i .i64,.i .u32],.segs [.i .i64,.i .i64,.i .i64,.i .i64,.nils],.segs [.i .i64,.i .i64,.i .i64,.i .i64,.ols 3],.lst Qm]⟩⟩,fun p=>some ((p.2.1.1,p.2.1.2.1,p.2.1.2.2.1,p.2.2.1.1,p.2.2.1.2.1,p.2.2.1.2.2.1,p.2.2.1.2.2.2.1,p.2.2.2.1.1,p.2.2.2.1.2.1,p.2.2.2.1.2.2.1,p.2.2.2.1.2.2.2.1,p.2.2.2.2.1))⟩
noncomputable def B5(N:Nat):Ai:={ at_:=E3,sta:=C6,exits:=[([.c [1,1,1,0],.c [1,1,1,1]],⟨[4,5],⟨[.own 1 0,.own 2 0],[.segs [.sl (.int .u8),.i .i64,.i .u32],.segs [.i .i64,.i .i64,.i .i64,.i .i64,.nils],.segs [.i .i64,.i .i64,.i .i64,.i .i64,.ols 3],.lst Qm]⟩⟩)],run:=fun p k=>(made_l1 N N p.1.2.2.2.1 p.1.2.2.2.2.1 p.2.1.1 p.2.1.2.1 p.2.1.2.2.1 p.2.2.1.1 p.2.2.1.2.1 p.2.2.1.2.2.1 p.2.2.1.2.2.2.1 p.2.2.2.1.1 p.2.2.2.1.2.1 p.2.2.2.1.2.2.1 p.2.2.2.1.2.2.2.1 p.2.2.2.2.1).bind fun e=>k (.inl (((),(),()),((e.1,e.2.1,e.2.2.1,()),(e.2.2.2.1,e.2.2.2.2.1,e.2.2.2.2.2.1,e.2.2.2.2.2.2.1,(),()),(e.2.2.2.2.2.2.2.1,e.2.2.2.2.2.2.2.2.1,e.2.2.2.2.2.2.2.2.2.1,e.2.2.2.2.2.2.2.2.2.2.1,(),()),e.2.2.2.2.2.2.2.2.2.2.2,()))) }
theorem Tj(N n_:Nat)(u:Int)(u2:Int)(b:List Int)(b2:Int)(b3:Int)(g:Int)(g2:Int)(g3:Int)(g4:Int)(x:Int)(x2:Int)(x3:Int)(x4:Int)(x5:List Qy):ev (Z:=List Int×Int×Int×Int×Int×Int×Int×Int×Int×Int×Int×Ql) Try.prog (Dd N) Ac [Bg N] [Ld (made_l1 N n_),Il] none 400 true E3 (stL C6 (((),(),(),u,u2,()),((b,b2,b3,()),(g,g2,g3,g4,(),()),(x,x2,x3,x4,(),()),x5,()))) (stH C6 (((),(),(),u,u2,()),((b,b2,b3,()),(g,g2,g3,g4,(),()),(x,x2,x3,x4,(),()),x5,())))=made_l1 N (n_+1) u u2 b b2 b3 g g2 g3 g4 x x2 x3 x4 x5:=by kernel_rfl
theorem E8(N:Nat){top:Bool}:Ab Try.prog Ac.c Ac.n Ac.m0 top (B5 N):=A3 (Z:=List Int×Int×Int×Int×Int×Int×Int×Int×Int×Int×Int×Ql) (N:=N) (fun m p=>made_l1 N m p.1.2.2.2.1 p.1.2.2.2.2.1 p.2.1.1 p.2.1.2.1 p.2.1.2.2.1 p.2.2.1.1 p.2.2.1.2.1 p.2.2.1.2.2.1 p.2.2.1.2.2.2.1 p.2.2.2.1.1 p.2.2.2.1.2.1 p.2.2.2.1.2.2.1 p.2.2.2.1.2.2.2.1 p.2.2.2.2.1) (fun e=>.inl (((),(),()),((e.1,e.2.1,e.2.2.1,()),(e.2.2.2.1,e.2.2.2.2.1,e.2.2.2.2.2.1,e.2.2.2.2.2.2.1,(),()),(e.2.2.2.2.2.2.2.1,e.2.2.2.2.2.2.2.2.1,e.2.2.2.2.2.2.2.2.2.1,e.2.2.2.2.2.2.2.2.2.2.1,(),()),e.2.2.2.2.2.2.2.2.2.2.2,()))) (fun _ _ _=>rfl) (fun _=>rfl) (fun m z E Xc hE hX hrec hx=>A2 (B:=Ac) (loops:=[Bg N]) (leaves:=[Ld (made_l1 N m),Il]) (Cq N) mixed ⟨Fb N,trivial⟩ hE hX ⟨hrec,(fun p hp=>by obtain rfl:=Option.some.inj hp;exact hx),trivial⟩ Aa.no (fun p=>Tj N m p.1.2.2.2.1 p.1.2.2.2.2.1 p.2.1.1 p.2.1.2.1 p.2.1.2.2.1 p.2.2.1.1 p.2.2.1.2.1 p.2.2.1.2.2.1 p.2.2.1.2.2.2.1 p.2.2.2.1.1 p.2.2.2.1.2.1 p.2.2.2.1.2.2.1 p.2.2.2.1.2.2.2.1 p.2.2.2.2.1))
abbrev Ww:Sta:=⟨[0,1],⟨[.own 0 0,.i .i64],[.segs [.sl (.int .u8),.i .i64,.i .u32]]⟩⟩
theorem Aen(N:Nat)(rounds:Int)(b:List Int)(b2:Int)(b3:Int):ev (Z:=Int×Int×Int×Int×List Int×Int×Int×Ql) Try.prog (Dd N) Ac [Bg N,B5 N] [] (some Wk) 400 false [.c [0],.c [1]] (stL Ww (((),rounds,()),((b,b2,b3,()),()))) (stH Ww (((),rounds,()),((b,b2,b3,()),())))=Km N rounds b b2 b3:=by kernel_rfl
noncomputable def A2n(N:Nat):Spec:={ f:=16,ins:=⟨[.own 0 0,.i .i64],[.segs [.sl (.int .u8),.i .i64,.i .u32]]⟩,outs:=[⟨[.agg [.i .i64,.i .i64,.i .i64,.i .i64,.ols 1]],[.segs [.sl (.int .u8),.i .i64,.i .u32],.lst Qm]⟩],run:=fun p k=>(Km N p.1.2.1 p.2.1.1 p.2.1.2.1 p.2.1.2.2.1).bind fun r=>k (((r.1,r.2.1,r.2.2.1,r.2.2.2.1,(),()),()),((r.2.2.2.2.1,r.2.2.2.2.2.1,r.2.2.2.2.2.2.1,()),r.2.2.2.2.2.2.2,())) }
theorem A6f(N:Nat):A0 Try.prog (A2n N):=A1 (B:=Ac) (loops:=[Bg N,B5 N]) (leaves:=[]) (fun p=>Km N p.1.2.1 p.2.1.1 p.2.1.2.1 p.2.1.2.2.1) (fun r=>(((r.1,r.2.1,r.2.2.1,r.2.2.2.1,(),()),()),((r.2.2.2.2.1,r.2.2.2.2.2.1,r.2.2.2.2.2.2.1,()),r.2.2.2.2.2.2.2,()))) Wk (fun _ _ _=>rfl) (fun r z h=>by cases h;rfl) Try.func16 (by kernel_rfl) (by kernel_rfl) (by kernel_rfl) rfl rfl (by kernel_rfl) (fun args w=>Sem.pv_run _ _ _ (by kernel_rfl) w) (Cq N) mixed ⟨Fb N,E8 N,trivial⟩ (fun z E Xc hE hX hret=>trivial) (fun p=>Aen N p.1.2.1 p.2.1.1 p.2.1.2.1 p.2.1.2.2.1)

def Af7(N:Nat)  : Option (Int×Int×Int×Int×Ql):=
 some (2,1,2,2,[(4,2,[0,1]),(3,1,[0,1]),(8,1,[0,1]),(1,1,[1])])
noncomputable def Atl(N:Nat):List Spec:=[]
theorem B05(N:Nat):AllP (A0 Try.prog) (Atl N):=trivial
noncomputable def B5m:Code:=(Try.f66.body).getD .skip
noncomputable abbrev Aqj:Body:={ c:=B5m,n:=11,res:=[.cell 0 48],outs:=[⟨[.agg [.i .i64,.i .i64,.i .i64,.i .i64,.sl Qm]],[]⟩],m0:=0 }
abbrev Av0:altD Aqj.outs→Option (Int×Int×Int×Int×Ql):=fun r=>some (r.1.1.1,r.1.1.2.1,r.1.1.2.2.1,r.1.1.2.2.2.1,r.1.1.2.2.2.2.1)
abbrev Asj:Sta:=⟨[],⟨[],[]⟩⟩
theorem B4l(N:Nat)  : ev (Z:=Int×Int×Int×Int×Ql) Try.prog (Atl N) Aqj [] [] (some Av0) 400 false [.c [0],.c [1]] (stL Asj ((),())) (stH Asj ((),()))=Af7 N:=by kernel_rfl
noncomputable def Ave(N:Nat):Spec:={ f:=66,ins:=⟨[],[]⟩,outs:=[⟨[.agg [.i .i64,.i .i64,.i .i64,.i .i64,.sl Qm]],[]⟩],run:=fun p k=>(Af7 N).bind fun r=>k (((r.1,r.2.1,r.2.2.1,r.2.2.2.1,r.2.2.2.2,()),()),()) }
theorem Apn(N:Nat):A0 Try.prog (Ave N):=A1 (B:=Aqj) (loops:=[]) (leaves:=[]) (fun p=>Af7 N ) (fun r=>(((r.1,r.2.1,r.2.2.1,r.2.2.2.1,r.2.2.2.2,()),()),())) Av0 (fun _ _ _=>rfl) (fun r z h=>by cases h;rfl) Try.func66 (by kernel_rfl) (by kernel_rfl) (by kernel_rfl) rfl rfl (by kernel_rfl) (fun args w=>Sem.pv_run _ _ _ (by kernel_rfl) w) (B05 N) mixed trivial (fun z E Xc hE hX hret=>trivial) (fun p=>B4l N )

end Go.Proofs.Ytgeijboidfadaaa.Fe

namespace Go.Proofs.Ytgeijboidfadaaa.Fe
set_option linter.all false
open Go

def zero1_l1(N:Nat):Nat→(Qd)→Int→Qd→Int→Int→Option Int
 | 0,_,_,_,_,_=>none
 | n_+1,u,n,u2,u3,u4=>
  br (decide (u4<u3))
   (idx u2 u4 fun x_1=>
   idx u x_1 fun x_2=>
   chk (n+x_2)<|
   chk (u4+1)<|
   zero1_l1 N n_ u (n+x_2) u2 u3 (u4+1))
   (some (n))
def Ru(N:Nat)(l:List Int)(u:Qd):Option Bool:=
 (zero1_l1 N N u 0 l (l.length:Int) 0).bind fun n_3=>
 some (decide (n_3=0))
noncomputable def A4c(N:Nat):List Spec:=[]
theorem Aa9(N:Nat):AllP (A0 Try.prog) (A4c N):=trivial
noncomputable def B3a:Code:=(Try.f92.body).getD .skip
noncomputable abbrev Jk:Body:={ c:=B3a,n:=22,res:=[.tmp 3],outs:=[⟨[.b],[]⟩],m0:=0 }
abbrev Ahi:altD Jk.outs→Option Bool:=fun r=>some r.1.1
abbrev Po:List PI:=[.c [1,1,0,1,0,0,0],.c [1,1,0,1,0,0,1],.l [1,1,0,1,0,0],.b 0,.c [1,1,1]]
abbrev K5:Sta:=⟨[1,4,7,8,9],⟨[.fe Qg,.i .i64,.sl (.int .i64),.i .i64,.i .i64],[]⟩⟩
abbrev A7c(rec:(Qd)→Int→Qd→Int→Int→Option Int):Leaf Int:=⟨Po,K5,fun p=>rec p.1.1 p.1.2.1 p.1.2.2.1 p.1.2.2.2.1 p.1.2.2.2.2.1⟩
abbrev Zk:Leaf Int:=⟨[.c [1,1,1,0],.c [1,1,1,1]],⟨[4],⟨[.i .i64],[]⟩⟩,fun p=>some (p.1.1)⟩
noncomputable def Te(N:Nat):Ai:={ at_:=Po,sta:=K5,exits:=[([.c [1,1,1,0],.c [1,1,1,1]],⟨[4],⟨[.i .i64],[]⟩⟩)],run:=fun p k=>(zero1_l1 N N p.1.1 p.1.2.1 p.1.2.2.1 p.1.2.2.2.1 p.1.2.2.2.2.1).bind fun e=>k (.inl ((e,()),())) }
theorem Akf(N n_:Nat)(u:Qd)(n:Int)(u2:List Int)(u3:Int)(u4:Int):ev (Z:=Int) Try.prog (A4c N) Jk [] [A7c (zero1_l1 N n_),Zk] none 400 true Po (stL K5 ((u,n,u2,u3,u4,()),())) (stH K5 ((u,n,u2,u3,u4,()),()))=zero1_l1 N (n_+1) u n u2 u3 u4:=by kernel_rfl
theorem Akq(N:Nat){top:Bool}:Ab Try.prog Jk.c Jk.n Jk.m0 top (Te N):=A3 (Z:=Int) (N:=N) (fun m p=>zero1_l1 N m p.1.1 p.1.2.1 p.1.2.2.1 p.1.2.2.2.1 p.1.2.2.2.2.1) (fun e=>.inl ((e,()),())) (fun _ _ _=>rfl) (fun _=>rfl) (fun m z E Xc hE hX hrec hx=>A2 (B:=Jk) (loops:=[]) (leaves:=[A7c (zero1_l1 N m),Zk]) (Aa9 N) mixed trivial hE hX ⟨hrec,(fun p hp=>by obtain rfl:=Option.some.inj hp;exact hx),trivial⟩ Aa.no (fun p=>Akf N m p.1.1 p.1.2.1 p.1.2.2.1 p.1.2.2.2.1 p.1.2.2.2.2.1))
abbrev Aia:Sta:=⟨[0,1],⟨[.sl (.int .i64),.fe Qg],[]⟩⟩
theorem Azi(N:Nat)(l:List Int)(u:Qd):ev (Z:=Bool) Try.prog (A4c N) Jk [Te N] [] (some Ahi) 400 false [.c [0],.c [1]] (stL Aia ((l,u,()),())) (stH Aia ((l,u,()),()))=Ru N l u:=by kernel_rfl
noncomputable def Aku(N:Nat):Spec:={ f:=92,ins:=⟨[.sl (.int .i64),.fe Qg],[]⟩,outs:=[⟨[.b],[]⟩],run:=fun p k=>(Ru N p.1.1 p.1.2.1).bind fun r=>k ((r,()),()) }
theorem Ai0(N:Nat):A0 Try.prog (Aku N):=A1 (B:=Jk) (loops:=[Te N]) (leaves:=[]) (fun p=>Ru N p.1.1 p.1.2.1) (fun r=>((r,()),())) Ahi (fun _ _ _=>rfl) (fun r z h=>by cases h;rfl) Try.func92 (by kernel_rfl) (by kernel_rfl) (by kernel_rfl) rfl rfl (by kernel_rfl) (fun args w=>Sem.pv_run _ _ _ (by kernel_rfl) w) (Aa9 N) mixed ⟨Akq N,trivial⟩ (fun z E Xc hE hX hret=>trivial) (fun p=>Azi N p.1.1 p.1.2.1)

def Li(N:Nat)(x:List Int)(g:Qd):Option (Bool×Qd):=
 (Ru N x g).bind fun x_1=>
 some ((!x_1),g)
noncomputable def A4k(N:Nat):List Spec:=[Aku N]
theorem Als(N:Nat):AllP (A0 Try.prog) (A4k N):=⟨Ai0 N,trivial⟩
noncomputable def Avy:Code:=(Try.f126.body).getD .skip
noncomputable abbrev Z8:Body:={ c:=Avy,n:=8,res:=[.tmp 3],outs:=[⟨[.b],[.segs [.fn 92 [] [.fe Qg]]]⟩],m0:=1 }
abbrev A3e:altD Z8.outs→Option (Bool×Qd):=fun r=>some (r.1.1,r.2.1.1.2.1)
abbrev A7e:Sta:=⟨[0,1],⟨[.sl (.int .i64),.own 0 0],[.segs [.fn 92 [] [.fe Qg]]]⟩⟩
theorem Ari(N:Nat)(x:List Int)(g:Qd):ev (Z:=Bool×Qd) Try.prog (A4k N) Z8 [] [] (some A3e) 400 false [.c [0],.c [1]] (stL A7e ((x,(),()),((((),(g,())),()),()))) (stH A7e ((x,(),()),((((),(g,())),()),())))=Li N x g:=by kernel_rfl
noncomputable def A46(N:Nat):Spec:={ f:=126,ins:=⟨[.sl (.int .i64),.own 0 0],[.segs [.fn 92 [] [.fe Qg]]]⟩,outs:=[⟨[.b],[.segs [.fn 92 [] [.fe Qg]]]⟩],run:=fun p k=>(Li N p.1.1 p.2.1.1.2.1).bind fun r=>k ((r.1,()),((((),(r.2,())),()),())) }
theorem A90(N:Nat):A0 Try.prog (A46 N):=A1 (B:=Z8) (loops:=[]) (leaves:=[]) (fun p=>Li N p.1.1 p.2.1.1.2.1) (fun r=>((r.1,()),((((),(r.2,())),()),()))) A3e (fun _ _ _=>rfl) (fun r z h=>by cases h;rfl) Try.func126 (by kernel_rfl) (by kernel_rfl) (by kernel_rfl) rfl rfl (by kernel_rfl) (fun args w=>Sem.pv_run _ _ _ (by kernel_rfl) w) (Als N) mixed trivial (fun z E Xc hE hX hret=>trivial) (fun p=>Ari N p.1.1 p.2.1.1.2.1)

def ixfz_l1(N:Nat):Nat→Qx→Int→Int→(Qd)→Option ((Int×Qd)⊕(Qd))
 | 0,_,_,_,_=>none
 | n_+1,s,u,u2,f=>
  br (decide (u2<u))
   (idx s u2 fun x_1=>
   (Li N x_1 f).bind fun(x_2,y_3)=>
   br x_2
    (some (.inl (u2,y_3)))
    (chk (u2+1)<|
    ixfz_l1 N n_ s u (u2+1) y_3))
   (some (.inr f))
def ixfz_S(N:Nat)(s:List Qd)(f:Qd):Option (Int×Qd):=
 (ixfz_l1 N N s (s.length:Int) 0 f).bind fun e=>match e with
 | .inl (i_4,g_5)=>
  some (i_4,g_5)
 | .inr g_6=>
  some (-1,g_6)
noncomputable def Aef(N:Nat):List Spec:=[A46 N]
theorem Amt(N:Nat):AllP (A0 Try.prog) (Aef N):=⟨A90 N,trivial⟩
noncomputable def B5l:Code:=(Try.f141.body).getD .skip
noncomputable abbrev R2:Body:={ c:=B5l,n:=19,res:=[.tmp 4],outs:=[⟨[.i .i64],[.segs [.fn 92 [] [.fe Qg]]]⟩],m0:=1 }
abbrev Asx:altD R2.outs→Option (Int×Qd):=fun r=>some (r.1.1,r.2.1.1.2.1)
abbrev U0:List PI:=[.c [1,0,1,0,0,0],.c [1,0,1,0,0,1],.l [1,0,1,0,0],.b 0,.c [1,1]]
abbrev Mf:Sta:=⟨[0,1,7,8],⟨[.sl Qg,.fn 126 [] [.own 0 0],.i .i64,.i .i64],[.segs [.fn 92 [] [.fe Qg]]]⟩⟩
abbrev Aby(rec:Qx→Int→Int→(Qd)→Option ((Int×Qd)⊕(Qd))):Leaf ((Int×Qd)⊕(Qd)):=⟨U0,Mf,fun p=>rec p.1.1 p.1.2.2.1 p.1.2.2.2.1 p.2.1.1.2.1⟩
abbrev A4p:Leaf ((Int×Qd)⊕(Qd)):=⟨[.c [1,0,1,0,0,1,1,0,0,1,1,0,0],.c [1,0,1,0,0,1,1,0,0,1,1,0,1],.b 1,.c [1,0,1,0,0,1,1,1],.l [1,0,1,0,0],.b 0,.c [1,1]],⟨[5],⟨[.i .i64],[.segs [.fn 92 [] [.fe Qg]]]⟩⟩,fun p=>some (.inl (p.1.1,p.2.1.1.2.1))⟩
abbrev A6g:Leaf ((Int×Qd)⊕(Qd)):=⟨[.c [1,1,0],.c [1,1,1]],⟨[],⟨[],[.segs [.fn 92 [] [.fe Qg]]]⟩⟩,fun p=>some (.inr p.2.1.1.2.1)⟩
noncomputable def Ye(N:Nat):Ai:={ at_:=U0,sta:=Mf,exits:=[([.c [1,0,1,0,0,1,1,0,0,1,1,0,0],.c [1,0,1,0,0,1,1,0,0,1,1,0,1],.b 1,.c [1,0,1,0,0,1,1,1],.l [1,0,1,0,0],.b 0,.c [1,1]],⟨[5],⟨[.i .i64],[.segs [.fn 92 [] [.fe Qg]]]⟩⟩),([.c [1,1,0],.c [1,1,1]],⟨[],⟨[],[.segs [.fn 92 [] [.fe Qg]]]⟩⟩)],run:=fun p k=>(ixfz_l1 N N p.1.1 p.1.2.2.1 p.1.2.2.2.1 p.2.1.1.2.1).bind fun e=>match e with | .inl x=>k (.inl ((x.1,()),((((),(x.2,())),()),()))) | .inr x=>k (.inr (.inl ((),((((),(x,())),()),())))) }
theorem Apc(N n_:Nat)(s:List Qd)(u:Int)(u2:Int)(f:Qd):ev (Z:=(Int×Qd)⊕(Qd)) Try.prog (Aef N) R2 [] [Aby (ixfz_l1 N n_),A4p,A6g] none 400 true U0 (stL Mf ((s,((),((),())),u,u2,()),((((),(f,())),()),()))) (stH Mf ((s,((),((),())),u,u2,()),((((),(f,())),()),())))=ixfz_l1 N (n_+1) s u u2 f:=by kernel_rfl
theorem Ar4(N:Nat){top:Bool}:Ab Try.prog R2.c R2.n R2.m0 top (Ye N):=A3 (Z:=(Int×Qd)⊕(Qd)) (N:=N) (fun m p=>ixfz_l1 N m p.1.1 p.1.2.2.1 p.1.2.2.2.1 p.2.1.1.2.1) (fun e=>match e with | .inl x=>.inl ((x.1,()),((((),(x.2,())),()),())) | .inr x=>.inr (.inl ((),((((),(x,())),()),())))) (fun _ p k=>A9 (ixfz_l1 N N p.1.1 p.1.2.2.1 p.1.2.2.2.1 p.2.1.1.2.1) _ _ (fun e=>by rcases e with x | x<;>rfl)) (fun _=>rfl) (fun m z E Xc hE hX hrec hx=>A2 (B:=R2) (loops:=[]) (leaves:=[Aby (ixfz_l1 N m),A4p,A6g]) (Amt N) mixed trivial hE hX ⟨hrec,(fun p hp=>by obtain rfl:=Option.some.inj hp;exact hx),(fun p hp=>by obtain rfl:=Option.some.inj hp;exact hx),trivial⟩ Aa.no (fun p=>Apc N m p.1.1 p.1.2.2.1 p.1.2.2.2.1 p.2.1.1.2.1))
abbrev Avi:Sta:=⟨[0,1],⟨[.sl Qg,.fn 126 [] [.own 0 0]],[.segs [.fn 92 [] [.fe Qg]]]⟩⟩
theorem B3s(N:Nat)(s:List Qd)(f:Qd):ev (Z:=Int×Qd) Try.prog (Aef N) R2 [Ye N] [] (some Asx) 400 false [.c [0],.c [1]] (stL Avi ((s,((),((),())),()),((((),(f,())),()),()))) (stH Avi ((s,((),((),())),()),((((),(f,())),()),())))=ixfz_S N s f:=by kernel_rfl
noncomputable def Av8(N:Nat):Spec:={ f:=141,ins:=⟨[.sl Qg,.fn 126 [] [.own 0 0]],[.segs [.fn 92 [] [.fe Qg]]]⟩,outs:=[⟨[.i .i64],[.segs [.fn 92 [] [.fe Qg]]]⟩],run:=fun p k=>(ixfz_S N p.1.1 p.2.1.1.2.1).bind fun r=>k ((r.1,()),((((),(r.2,())),()),())) }
theorem Ap9(N:Nat):A0 Try.prog (Av8 N):=A1 (B:=R2) (loops:=[Ye N]) (leaves:=[]) (fun p=>ixfz_S N p.1.1 p.2.1.1.2.1) (fun r=>((r.1,()),((((),(r.2,())),()),()))) Asx (fun _ _ _=>rfl) (fun r z h=>by cases h;rfl) Try.func141 (by kernel_rfl) (by kernel_rfl) (by kernel_rfl) rfl rfl (by kernel_rfl) (fun args w=>Sem.pv_run _ _ _ (by kernel_rfl) w) (Amt N) mixed ⟨Ar4 N,trivial⟩ (fun z E Xc hE hX hret=>trivial) (fun p=>B3s N p.1.1 p.2.1.1.2.1)

def A54(N:Nat)(s:List Qd)(f:Qd):Option (Bool×Qd):=
 (ixfz_S N s f).bind fun(x_1,y_2)=>
 some ((decide (0≤x_1)),y_2)
noncomputable def Av1(N:Nat):List Spec:=[Av8 N]
theorem B1p(N:Nat):AllP (A0 Try.prog) (Av1 N):=⟨Ap9 N,trivial⟩
noncomputable def B7e:Code:=(Try.f125.body).getD .skip
noncomputable abbrev Apw:Body:={ c:=B7e,n:=9,res:=[.tmp 4],outs:=[⟨[.b],[.segs [.fn 92 [] [.fe Qg]]]⟩],m0:=1 }
abbrev Aui:altD Apw.outs→Option (Bool×Qd):=fun r=>some (r.1.1,r.2.1.1.2.1)
abbrev Aux:Sta:=⟨[0,1],⟨[.sl Qg,.fn 126 [] [.own 0 0]],[.segs [.fn 92 [] [.fe Qg]]]⟩⟩
theorem B35(N:Nat)(s:List Qd)(f:Qd):ev (Z:=Bool×Qd) Try.prog (Av1 N) Apw [] [] (some Aui) 400 false [.c [0],.c [1]] (stL Aux ((s,((),((),())),()),((((),(f,())),()),()))) (stH Aux ((s,((),((),())),()),((((),(f,())),()),())))=A54 N s f:=by kernel_rfl
noncomputable def At8(N:Nat):Spec:={ f:=125,ins:=⟨[.sl Qg,.fn 126 [] [.own 0 0]],[.segs [.fn 92 [] [.fe Qg]]]⟩,outs:=[⟨[.b],[.segs [.fn 92 [] [.fe Qg]]]⟩],run:=fun p k=>(A54 N p.1.1 p.2.1.1.2.1).bind fun r=>k ((r.1,()),((((),(r.2,())),()),())) }
theorem Aps(N:Nat):A0 Try.prog (At8 N):=A1 (B:=Apw) (loops:=[]) (leaves:=[]) (fun p=>A54 N p.1.1 p.2.1.1.2.1) (fun r=>((r.1,()),((((),(r.2,())),()),()))) Aui (fun _ _ _=>rfl) (fun r z h=>by cases h;rfl) Try.func125 (by kernel_rfl) (by kernel_rfl) (by kernel_rfl) rfl rfl (by kernel_rfl) (fun args w=>Sem.pv_run _ _ _ (by kernel_rfl) w) (B1p N) mixed trivial (fun z E Xc hE hX hret=>trivial) (fun p=>B35 N p.1.1 p.2.1.1.2.1)

def Ls(N:Nat)(l:List Qd)(holds:Qd):Option Bool:=
 (A54 N l holds).bind fun(x_1,y_2)=>
 some (!x_1)
noncomputable def Acb(N:Nat):List Spec:=[At8 N]
theorem Aob(N:Nat):AllP (A0 Try.prog) (Acb N):=⟨Aps N,trivial⟩
noncomputable def B00:Code:=(Try.f91.body).getD .skip
noncomputable abbrev A84:Body:={ c:=B00,n:=9,res:=[.tmp 4],outs:=[⟨[.b],[]⟩],m0:=0 }
abbrev Adk:altD A84.outs→Option Bool:=fun r=>some r.1.1
abbrev Abj:Sta:=⟨[0,1],⟨[.sl Qg,.fn 92 [] [.fe Qg]],[]⟩⟩
theorem Aw3(N:Nat)(l:List Qd)(holds:Qd):ev (Z:=Bool) Try.prog (Acb N) A84 [] [] (some Adk) 400 false [.c [0],.c [1]] (stL Abj ((l,((),(holds,())),()),())) (stH Abj ((l,((),(holds,())),()),()))=Ls N l holds:=by kernel_rfl
noncomputable def Aax(N:Nat):Spec:={ f:=91,ins:=⟨[.sl Qg,.fn 92 [] [.fe Qg]],[]⟩,outs:=[⟨[.b],[]⟩],run:=fun p k=>(Ls N p.1.1 p.1.2.1.2.1).bind fun r=>k ((r,()),()) }
theorem Age(N:Nat):A0 Try.prog (Aax N):=A1 (B:=A84) (loops:=[]) (leaves:=[]) (fun p=>Ls N p.1.1 p.1.2.1.2.1) (fun r=>((r,()),())) Adk (fun _ _ _=>rfl) (fun r z h=>by cases h;rfl) Try.func91 (by kernel_rfl) (by kernel_rfl) (by kernel_rfl) rfl rfl (by kernel_rfl) (fun args w=>Sem.pv_run _ _ _ (by kernel_rfl) w) (Aob N) mixed trivial (fun z E Xc hE hX hret=>trivial) (fun p=>Aw3 N p.1.1 p.1.2.1.2.1)

end Go.Proofs.Ytgeijboidfadaaa.Fe

namespace Go.Proofs.Ytgeijboidfadaaa
set_option linter.all false
open Go

theorem Upd.trans_old{S T:List Nat}{a b c:World}(h:Upd S a b)(k:Upd T b c)(hT:∀x∈T,a.heap.size≤x):Upd S a c:=
 ⟨k.os.trans h.os,k.tape.trans h.tape,k.output.trans h.output,Nat.le_trans h.size k.size,fun i hi hs=>(k.same i (Nat.lt_of_lt_of_le hi h.size) (fun hk=>by have:=hT i hk;omega)).trans (h.same i hi hs)⟩
theorem A2i{M:Nat→Option Obj}:∀(l:List Int) (vs:List Value),RepL M (.int .i64) l vs↔vs=l.map (.int .i64)∧∀x∈l,inR .i64 x
 | [],vs=>by simp[RepL]
 | x::l,vs=>by
  simp only[RepL,RepC,List.map_cons,List.mem_cons,forall_eq_or_imp]
  constructor
  ·rintro ⟨v1,v2,rfl,⟨rfl,h1⟩,h2⟩
   obtain⟨rfl,h3⟩:=(A2i l v2).1 h2
   exact⟨rfl,h1,h3⟩
  ·rintro ⟨rfl,h1,h3⟩
   exact⟨_,_,rfl,⟨rfl,h1⟩,(A2i l _).2 ⟨rfl,h3⟩⟩
end Go.Proofs.Ytgeijboidfadaaa

namespace Go.Proofs.Ytgeijboidfadaaa
set_option linter.all false
open Go

theorem Acc.len1{e:TypeId}{lo:Nat}{w:World}{v:Value}{n:Nat}{cs:List Value}{ab:List Nat}(h:Acc e 1 lo w v n cs ab):cs.length=n:=by have:=h.1;omega
theorem Acc.blk1{e:TypeId}{lo:Nat}{w:World}{v:Value}{n:Nat}{cs:List Value}{ab:List Nat}(h:Acc e 1 lo w v n cs ab)(hn:0<n):∃b cap rest ty,v=.slice (some ⟨b,0,none⟩) n cap∧ab=[b]∧(n≤cap∧cap≤9223372036854775807)∧rest.length=cap-n∧Blk w b (cs++rest) ty:=by
 obtain⟨-,⟨_,h2,_⟩ | ⟨b,cap,rest,h1,h2,_,h3,h4,ty,h5⟩⟩:=h
 ·omega
 ·exact⟨b,cap,rest,ty,h1,h2,h3,by omega,h5⟩
theorem Acc.pop{e:TypeId}{lo:Nat}{w:World}{a:Option Addr}{n c:Nat}{cs:List Value}{x:Value}{ab:List Nat}(h:Acc e 1 lo w (.slice a (n+1) c) (n+1) (cs++[x]) ab):Acc e 1 lo w (.slice a n c) n cs ab:=by
 have hl:=h.len1
 simp only[List.length_append,List.length_cons,List.length_nil]at hl
 obtain⟨b,cap,rest,ty,h1,rfl,h3,h4,h5⟩:=h.blk1 (by omega)
 cases h1
 have hlo:=(h.lt b (by simp)).1
 refine⟨by omega,.inr ⟨b,c,x::rest,rfl,rfl,hlo,by omega,by simp;omega,ty,?_⟩⟩
 have:=h5
 rw[List.append_assoc]at this
 exact this
end Go.Proofs.Ytgeijboidfadaaa
namespace Go.Proofs.Ytgeijboidfadaaa.Fe
set_option linter.all false
open Go

abbrev Gl:=List (List Int)
def OR(w:World)(r:List Int)(v:Value):Prop:=∃b c rest ty,v=.slice (some ⟨b,0,none⟩) r.length c∧r.length≤c∧r.length≤1000000∧(∀x∈r,inR .i64 x)∧Blk w b (r.map (.int .i64)++rest) ty
def blkO:Value→Nat
 | .slice (some p) _ _=>p.block
 | _=>0
theorem OR.upd{w w':World}{r:List Int}{v:Value}{S:List Nat}(h:OR w r v)(hu:Upd S w w')(hb:blkO v∉S):OR w' r v:=by
 obtain⟨b,c,rest,ty,rfl,h1,h3,h4,h5⟩:=h
 exact⟨b,c,rest,ty,rfl,h1,h3,h4,hu.blk h5 hb⟩
theorem OR.lt{w:World}{r:List Int}{v:Value}(h:OR w r v):blkO v<w.heap.size:=by
 obtain⟨b,c,rest,ty,rfl,h1,h3,h4,h5⟩:=h
 exact A5 h5
theorem OR.fl{w:World}{r:List Int}{v:Value}(h:OR w r v):flat v=true:=by
 obtain⟨b,c,rest,ty,rfl,h1,h3,h4,h5⟩:=h
 rfl
structure PS (M:Nat→Option Obj) (bN bO:Nat) (tN tO:TypeId) (w:World) (now out:Gl) (vN vO:Value) (vs us:List Value) (ab ob:List Nat) (rb:Nat→List Nat) (col:Nat→Nat):Prop where
 mem:∀b o,M b=some o→w.heap[b]?=some o
 cN:Blk w bN [vN] tN
 cO:Blk w bO [vO] tO
 nO:Acc 23 1 0 w vN now.length vs ab
 nR:∀j,j<now.length→Acc 3 1 0 w (vs.getD j undef) (now.getD j []).length ((now.getD j []).map (.int .i64)) (rb j)
 oO:Acc 23 1 0 w vO out.length us ob
 oR:∀j,j<out.length→OR w (out.getD j []) (us.getD j undef)
 kN:col bN=0
 kO:col bO=1
 kM:∀b o,M b=some o→col b=2
 kA:∀b∈ab,col b=3
 kB:∀b∈ob,col b=4
 kQ:∀j,j<out.length→col (blkO (us.getD j undef))=5
 kR:∀j,j<now.length→∀b∈rb j,col b=6+j
def lowC(c:Nat):Prop:=c=2∨c=4∨c=5
structure Fr (col:Nat→Nat) (w:World) (col':Nat→Nat) (w':World):Prop where
 os:w'.os=w.os
 tape:w'.tape=w.tape
 output:w'.output=w.output
 size:w.heap.size≤w'.heap.size
 same:∀k,k<w.heap.size→lowC (col k)→w'.heap[k]?=w.heap[k]?
 two:∀k,k<w.heap.size→col k=2→col' k=2
 low:∀k,k<w.heap.size→lowC (col k)→lowC (col' k)
theorem Fr.refl(col:Nat→Nat)(w:World):Fr col w col w:=⟨rfl,rfl,rfl,Nat.le_refl _,fun _ _ _=>rfl,fun _ _ h=>h,fun _ _ h=>h⟩
theorem Fr.trans{c1 c2 c3:Nat→Nat}{w1 w2 w3:World}(h:Fr c1 w1 c2 w2)(k:Fr c2 w2 c3 w3):Fr c1 w1 c3 w3:=
 ⟨k.os.trans h.os,k.tape.trans h.tape,k.output.trans h.output,Nat.le_trans h.size k.size,fun i hi hl=>(k.same i (Nat.lt_of_lt_of_le hi h.size) (h.low i hi hl)).trans (h.same i hi hl),
  fun i hi h2=>k.two i (Nat.lt_of_lt_of_le hi h.size) (h.two i hi h2),fun i hi hl=>k.low i (Nat.lt_of_lt_of_le hi h.size) (h.low i hi hl)⟩
theorem Fr.upd{c1 c2:Nat→Nat}{w w':World}{S:List Nat}(hu:Upd S w w')(hS:∀k∈S,k<w.heap.size→¬lowC (c1 k))(hc:∀k,k<w.heap.size→c2 k=c1 k∨¬lowC (c1 k)):Fr c1 w c2 w':=
 ⟨hu.os,hu.tape,hu.output,hu.size,fun k hk hl=>hu.same k hk (fun h=>hS k h hk hl),fun k hk h=>by
  rcases hc k hk with h1 | h1
  ·rw[h1];exact h
  ·exact absurd (.inl h) h1,fun k hk h=>by
  rcases hc k hk with h1 | h1
  ·rw[h1];exact h
  ·exact absurd h h1⟩
section
variable {M:Nat→Option Obj} {bN bO:Nat} {tN tO:TypeId} {w w' w1 w2:World} {now out:Gl} {vN vO:Value} {vs us:List Value} {ab ob:List Nat} {rb:Nat→List Nat} {col:Nat→Nat}
theorem Br{α:Type}(l:List α)(j k:Nat)(x d:α)(hk:k<l.length):(l.set k x).getD j d=if j=k then x else l.getD j d:=by
 by_cases e:j=k
 ·subst e;rw[if_pos rfl];simp[List.getD_eq_getElem?_getD,hk]
 ·rw[if_neg e];simp[List.getD_eq_getElem?_getD,List.getElem?_set_ne (Ne.symm e)]
theorem Mb{α:Type}(l:List α)(j:Nat)(x d:α):(l++[x]).getD j d=if j=l.length then x else l.getD j d:=by
 by_cases e:j=l.length
 ·subst e;simp[List.getD_eq_getElem?_getD]
 ·rw[if_neg e]
  rcases Nat.lt_or_ge j l.length with h | h
  ·simp[List.getD_eq_getElem?_getD,List.getElem?_append_left h]
  ·have h2:l.length<j:=by omega
   simp[List.getD_eq_getElem?_getD,List.getElem?_eq_none (show(l++[x]).length≤j by simp;omega),List.getElem?_eq_none h]
theorem PS.step(h:PS M bN bO tN tO w now out vN vO vs us ab ob rb col){S:List Nat}(hu:Upd S w w')(hS:∀k∈S,w.heap.size≤k):PS M bN bO tN tO w' now out vN vO vs us ab ob rb col:=by
 have hlt:∀ {b:Nat},b<w.heap.size→b∉S:=fun hb hk=>by have:=hS _ hk;omega
 exact⟨fun b o e=>hu.blk (h.mem b o e) (hlt (A5 (h.mem b o e))),hu.blk h.cN (hlt (A5 h.cN)),hu.blk h.cO (hlt (A5 h.cO)),
  h.nO.upd hu (fun k hk=>hlt (h.nO.lt k hk).2),fun j hj=>(h.nR j hj).upd hu (fun k hk=>hlt ((h.nR j hj).lt k hk).2),h.oO.upd hu (fun k hk=>hlt (h.oO.lt k hk).2),
  fun j hj=>(h.oR j hj).upd hu (hlt (h.oR j hj).lt),h.kN,h.kO,h.kM,h.kA,h.kB,h.kQ,h.kR⟩
theorem PS.grow(h:PS M bN bO tN tO w now out vN vO vs us ab ob rb col){g:Nat}(hg:g<now.length){x:Int}{v':Value}{ab':List Nat}{b cap:Nat}{rest:List Value}{ty:TypeId}
  (hv:vN=.slice (some ⟨b,0,none⟩) now.length cap) (hab:ab=[b]) (hB:Blk w b (vs++rest) ty)
  (hu:Upd (rb g) w w1) (hA:Acc 3 1 0 w1 v' ((now.getD g []).length+1) ((now.getD g []).map (.int .i64)++[.int .i64 x]) ab') (hn:∀k∈ab',k∈rb g∨w.heap.size≤k)
  (hp:Put b (.cells (((vs++rest).set g v').toArray) ty (0,0)) w1 w2) :
  ∃col',PS M bN bO tN tO w2 (now.set g (now.getD g []++[x])) out vN vO (vs.set g v') us ab ob (fun j=>if j=g then ab' else rb j) col'∧Fr col w col' w2:=by
 subst hab
 have hvl:=h.nO.len1
 have hc3:col b=3:=h.kA b (by simp)
 have hcg:∀k∈rb g,col k=6+g:=h.kR g hg
 have hbr:b∉rb g:=fun hk=>by have:=hcg b hk;omega
 have hblt:=A5 hB
 have hkk:∀ {k:Nat},k<w.heap.size→(∀j,col k≠6+j)→col k≠3→k∉rb g∧k∉[b]:=fun{k} _ h1 h2=>⟨fun hk=>h1 g (hcg k hk),fun hk=>by simp at hk;subst hk;exact h2 hc3⟩
 have two:∀ {k:Nat} {o:Obj},w.heap[k]?=some o→k∉rb g∧k∉[b]→w2.heap[k]?=some o:=fun hk hh=>hp.upd.blk (hu.blk hk hh.1) hh.2
 refine⟨fun k=>if w.heap.size≤k then(if k∈ab' then 6+g else col k)else col k,⟨fun b' o e=>?_,?_,?_,?_,fun j hj=>?_,?_,fun j hj=>?_,?_,?_,fun b' o e=>?_,fun k hk=>?_,fun k hk=>?_,fun j hj=>?_,fun j hj k hk=>?_⟩,?_⟩
 ·exact two (h.mem b' o e) (hkk (A5 (h.mem b' o e)) (by rw[h.kM b' o e];intro j;omega) (by rw[h.kM b' o e];omega))
 ·exact two h.cN (hkk (A5 h.cN) (by rw[h.kN];intro j;omega) (by rw[h.kN];omega))
 ·exact two h.cO (hkk (A5 h.cO) (by rw[h.kO];intro j;omega) (by rw[h.kO];omega))
 ·obtain⟨b2,cap2,rest2,ty2,h1,h2,h3,h4,h5⟩:=h.nO.blk1 (by omega)
  rw[hv]at h1;cases h1
  refine⟨by simp[hvl],.inr ⟨b,cap,rest,by rw[List.length_set];exact hv,rfl,Nat.zero_le _,by rw[List.length_set];exact h3,?_,ty,?_⟩⟩
  ·have e1:(vs++rest).length=(vs++rest2).length:=by
    have e2:=hB.symm.trans h5
    simp only[Option.some.injEq,Obj.cells.injEq]at e2
    rw[List.toArray_inj e2.1]
   simp only[List.length_append]at e1
   simp;omega
  ·have:=hp.blk
   rwa [List.set_append_left _ _ (by omega)]at this
 ·simp only[List.length_set]at hj
  rw[Br _ _ _ _ _ (by omega),Br _ _ _ _ _ (by omega)]
  by_cases e:j=g
  ·subst e
   simp only[if_true]
   refine Acc.put (b:=b) ?_ hp (fun hk=>?_)
   ·simpa using hA
   ·rcases hn b hk with h1 | h1
    ·exact hbr h1
    ·omega
  ·simp only[if_neg e]
   refine((h.nR j hj).upd hu (fun k hk hk2=>?_)).put hp (fun hk=>?_)
   ·have:=h.kR j hj k hk;have:=hcg k hk2;omega
   ·have:=h.kR j hj b hk;omega
 ·refine(h.oO.upd hu (fun k hk hk2=>?_)).put hp (fun hk=>?_)
  ·have:=h.kB k hk;have:=hcg k hk2;omega
  ·have:=h.kB b hk;omega
 ·have h5:=h.kQ j hj
  refine((h.oR j hj).upd hu (fun hk=>?_)).upd hp.upd (fun hk=>?_)
  ·have:=hcg _ hk;omega
  ·simp only[List.mem_singleton]at hk;rw[hk]at h5;omega
 ·have:=A5 h.cN
  simp only[if_neg (show ¬w.heap.size≤bN by omega)];exact h.kN
 ·have:=A5 h.cO
  simp only[if_neg (show ¬w.heap.size≤bO by omega)];exact h.kO
 ·have:=A5 (h.mem b' o e)
  simp only[if_neg (show ¬w.heap.size≤b' by omega)];exact h.kM b' o e
 ·have:=(h.nO.lt k hk).2
  simp only[if_neg (show ¬w.heap.size≤k by omega)];exact h.kA k hk
 ·have:=(h.oO.lt k hk).2
  simp only[if_neg (show ¬w.heap.size≤k by omega)];exact h.kB k hk
 ·have:=(h.oR j hj).lt
  simp only[if_neg (show ¬w.heap.size≤blkO (us.getD j undef)by omega)];exact h.kQ j hj
 ·simp only[List.length_set]at hj
  by_cases e:j=g
  ·subst e
   simp only[if_true]at hk
   rcases hn k hk with h1 | h1
   ·have:=(h.nR j hj).lt k h1
    simp only[if_neg (show ¬w.heap.size≤k by omega)];exact hcg k h1
   ·simp only[if_pos h1,if_pos hk]
  ·simp only[if_neg e]at hk
   have:=(h.nR j hj).lt k hk
   simp only[if_neg (show ¬w.heap.size≤k by omega)];exact h.kR j hj k hk
 ·have hx:Upd (rb g++[b]) w w2:=(hu.mono (fun k hk=>by simp[hk])).trans (hp.upd.mono (fun k hk=>by simp at hk;simp[hk]))
  refine Fr.upd hx (fun k hk _ hl=>?_) (fun k hk=>.inl (by simp only[if_neg (show ¬w.heap.size≤k by omega)]))
  rcases List.mem_append.1 hk with h1 | h1
  ·have:=hcg k h1;rcases hl with h | h | h<;>omega
  ·simp only[List.mem_singleton]at h1;subst h1;rcases hl with h | h | h<;>omega
theorem PS.cut(h:PS M bN bO tN tO w now out vN vO vs us ab ob rb col){g:Nat}(hg:g<now.length){r:List Int}{v':Value}{b cap:Nat}{rest:List Value}{ty:TypeId}
  (hv:vN=.slice (some ⟨b,0,none⟩) now.length cap) (hab:ab=[b]) (hB:Blk w b (vs++rest) ty)
  (hA:Acc 3 1 0 w v' r.length (r.map (.int .i64)) (rb g))
  (hp:Put b (.cells (((vs++rest).set g v').toArray) ty (0,0)) w w2) :
  PS M bN bO tN tO w2 (now.set g r) out vN vO (vs.set g v') us ab ob rb col∧Fr col w col w2:=by
 subst hab
 have hvl:=h.nO.len1
 have hc3:col b=3:=h.kA b (by simp)
 have hne:∀ {k:Nat},col k≠3→k∉[b]:=fun{k} h2 hk=>by simp at hk;subst hk;exact h2 hc3
 have two:∀ {k:Nat} {o:Obj},w.heap[k]?=some o→k∉[b]→w2.heap[k]?=some o:=fun hk hh=>hp.upd.blk hk hh
 refine⟨⟨fun b' o e=>two (h.mem b' o e) (hne (by rw[h.kM b' o e];omega)),two h.cN (hne (by rw[h.kN];omega)),two h.cO (hne (by rw[h.kO];omega)),?_,fun j hj=>?_,?_,fun j hj=>?_,h.kN,h.kO,h.kM,h.kA,h.kB,h.kQ,fun j hj=>h.kR j (by simpa using hj)⟩,?_⟩
 ·obtain⟨b2,cap2,rest2,ty2,h1,h2,h3,h4,h5⟩:=h.nO.blk1 (by omega)
  rw[hv]at h1;cases h1
  refine⟨by simp[hvl],.inr ⟨b,cap,rest,by rw[List.length_set];exact hv,rfl,Nat.zero_le _,by rw[List.length_set];exact h3,?_,ty,?_⟩⟩
  ·have e1:(vs++rest).length=(vs++rest2).length:=by
    have e2:=hB.symm.trans h5
    simp only[Option.some.injEq,Obj.cells.injEq]at e2
    rw[List.toArray_inj e2.1]
   simp only[List.length_append]at e1
   simp;omega
  ·have:=hp.blk
   rwa [List.set_append_left _ _ (by omega)]at this
 ·simp only[List.length_set]at hj
  rw[Br _ _ _ _ _ (by omega),Br _ _ _ _ _ (by omega)]
  by_cases e:j=g
  ·subst e
   simp only[if_true]
   refine Acc.put (b:=b) hA hp (fun hk=>?_)
   have:=h.kR j hj b hk;omega
  ·simp only[if_neg e]
   exact(h.nR j hj).put hp (fun hk=>by have:=h.kR j hj b hk;omega)
 ·exact h.oO.put hp (fun hk=>by have:=h.kB b hk;omega)
 ·have h5:=h.kQ j hj
  exact(h.oR j hj).upd hp.upd (fun hk=>by simp only[List.mem_singleton]at hk;rw[hk]at h5;omega)
 ·exact Fr.upd hp.upd (fun k hk _ hl=>by simp only[List.mem_singleton]at hk;subst hk;rcases hl with h | h | h<;>omega) (fun k _=>.inl rfl)
theorem PS.more(h:PS M bN bO tN tO w now out vN vO vs us ab ob rb col){r:List Int}{v v':Value}{rb' ab':List Nat}
  (hR:Acc 3 1 0 w1 v r.length (r.map (.int .i64)) rb') (hn:∀k∈rb',w.heap.size≤k∧k∉ab')
  (hu:Upd ab w w1) (hA:Acc 23 1 0 w1 v' (now.length+1) (vs++[v]) ab') (hna:∀k∈ab',k∈ab∨w.heap.size≤k)
  (hp:Put bN (.cells #[v'] tN (0,0)) w1 w2) :
  ∃col',PS M bN bO tN tO w2 (now++[r]) out v' vO (vs++[v]) us ab' ob (fun j=>if j=now.length then rb' else rb j) col'∧Fr col w col' w2:=by
 have hvl:=h.nO.len1
 have hca:∀k∈ab,col k=3:=h.kA
 have hNlt:=A5 h.cN
 have hne:∀ {k:Nat},col k≠3→col k≠0→k∉ab∧k∉[bN]:=fun{k} h2 h3=>⟨fun hk=>h2 (hca k hk),fun hk=>by simp at hk;subst hk;exact h3 h.kN⟩
 have two:∀ {k:Nat} {o:Obj},w.heap[k]?=some o→k∉ab∧k∉[bN]→w2.heap[k]?=some o:=fun hk hh=>hp.upd.blk (hu.blk hk hh.1) hh.2
 have old:∀ {k:Nat},k<w.heap.size→(if w.heap.size≤k then(if k∈ab' then 3 else if k∈rb' then 6+now.length else col k)else col k)=col k:=fun hk=>by rw[if_neg (by omega)]
 refine⟨fun k=>if w.heap.size≤k then(if k∈ab' then 3 else if k∈rb' then 6+now.length else col k)else col k,⟨fun b' o e=>two (h.mem b' o e) (hne (by rw[h.kM b' o e];omega) (by rw[h.kM b' o e];omega)),hp.blk,two h.cO (hne (by rw[h.kO];omega) (by rw[h.kO];omega)),?_,fun j hj=>?_,?_,fun j hj=>?_,?_,?_,fun b' o e=>?_,fun k hk=>?_,fun k hk=>?_,fun j hj=>?_,fun j hj k hk=>?_⟩,?_⟩
 ·refine Acc.put (b:=bN) (by simpa using hA) hp (fun hk=>?_)
  rcases hna bN hk with h1 | h1
  ·have:=hca bN h1;have:=h.kN;omega
  ·omega
 ·rw[Mb,Mb,hvl]
  by_cases e:j=now.length
  ·subst e
   simp only[if_true]
   exact hR.put hp (fun hk=>by have:=(hn bN hk).1;omega)
  ·simp only[if_neg e]
   have hj':j<now.length:=by simp at hj;omega
   refine((h.nR j hj').upd hu (fun k hk hk2=>?_)).put hp (fun hk=>?_)
   ·have:=h.kR j hj' k hk;have:=hca k hk2;omega
   ·have:=h.kR j hj' bN hk;have:=h.kN;omega
 ·refine(h.oO.upd hu (fun k hk hk2=>?_)).put hp (fun hk=>?_)
  ·have:=h.kB k hk;have:=hca k hk2;omega
  ·have:=h.kB bN hk;have:=h.kN;omega
 ·have h5:=h.kQ j hj
  refine((h.oR j hj).upd hu (fun hk=>?_)).upd hp.upd (fun hk=>?_)
  ·have:=hca _ hk;omega
  ·simp only[List.mem_singleton]at hk;rw[hk]at h5;have:=h.kN;omega
 ·rw[old hNlt];exact h.kN
 ·rw[old (A5 h.cO)];exact h.kO
 ·rw[old (A5 (h.mem b' o e))];exact h.kM b' o e
 ·rcases hna k hk with h1 | h1
  ·rw[old (h.nO.lt k h1).2];exact hca k h1
  ·simp only[if_pos h1,if_pos hk]
 ·rw[old (h.oO.lt k hk).2];exact h.kB k hk
 ·rw[old (h.oR j hj).lt];exact h.kQ j hj
 ·by_cases e:j=now.length
  ·subst e
   simp only[if_true]at hk
   have h1:=hn k hk
   simp only[if_pos h1.1,if_neg h1.2,if_pos hk]
  ·simp only[if_neg e]at hk
   have hj':j<now.length:=by simp at hj;omega
   rw[old ((h.nR j hj').lt k hk).2];exact h.kR j hj' k hk
 ·have hx:Upd (ab++[bN]) w w2:=(hu.mono (fun k hk=>by simp[hk])).trans (hp.upd.mono (fun k hk=>by simp at hk;simp[hk]))
  refine Fr.upd hx (fun k hk _ hl=>?_) (fun k hk=>.inl (old hk))
  rcases List.mem_append.1 hk with h1 | h1
  ·have:=hca k h1;rcases hl with h | h | h<;>omega
  ·simp only[List.mem_singleton]at h1;subst h1;have:=h.kN;rcases hl with h | h | h<;>omega
theorem PS.less{r:List Int}{a:Option Addr}{c:Nat}(h:PS M bN bO tN tO w (now++[r]) out (.slice a (now++[r]).length c) vO vs us ab ob rb col)
  (hp:Put bN (.cells #[.slice a now.length c] tN (0,0)) w w2) :
  ∃vs',PS M bN bO tN tO w2 now out (.slice a now.length c) vO vs' us ab ob rb col∧Fr col w col w2:=by
 have hvl:=h.nO.len1
 simp only[List.length_append,List.length_cons,List.length_nil]at hvl
 have hne:∀ {k:Nat},col k≠0→k∉[bN]:=fun{k} h3 hk=>by simp at hk;subst hk;exact h3 h.kN
 have two:∀ {k:Nat} {o:Obj},w.heap[k]?=some o→k∉[bN]→w2.heap[k]?=some o:=fun hk hh=>hp.upd.blk hk hh
 have evs:vs=vs.take now.length++[vs.getD now.length undef]:=by
  have h1:=List.take_append_drop now.length vs
  have h2:vs.drop now.length=[vs.getD now.length undef]:=by
   rw[List.drop_eq_getElem_cons (by omega),List.drop_eq_nil_of_le (by omega)]
   simp[List.getD_eq_getElem?_getD,List.getElem?_eq_getElem (show now.length<vs.length by omega)]
  rw[h2]at h1;exact h1.symm
 have hgd:∀j,j<now.length→(vs.take now.length).getD j undef=vs.getD j undef:=fun j hj=>by
  simp[List.getD_eq_getElem?_getD,List.getElem?_take,hj]
 have hgn:∀j,j<now.length→(now++[r]).getD j []=now.getD j []:=fun j hj=>by rw[Mb,if_neg (by omega)]
 refine⟨vs.take now.length,⟨fun b' o e=>two (h.mem b' o e) (hne (by rw[h.kM b' o e];omega)),hp.blk,two h.cO (hne (by rw[h.kO];omega)),?_,fun j hj=>?_,?_,fun j hj=>?_,h.kN,h.kO,h.kM,h.kA,h.kB,h.kQ,fun j hj=>h.kR j (by simp;omega)⟩,?_⟩
 ·have h1:=h.nO
  simp only[List.length_append,List.length_cons,List.length_nil,Nat.zero_add]at h1
  rw[evs]at h1
  exact(Acc.pop h1).put hp (fun hk=>by have:=h.kA bN hk;have:=h.kN;omega)
 ·rw[hgd j hj]
  have h1:=h.nR j (by simp;omega)
  rw[hgn j hj]at h1
  exact h1.put hp (fun hk=>by have:=h.kR j (by simp;omega) bN hk;have:=h.kN;omega)
 ·exact h.oO.put hp (fun hk=>by have:=h.kB bN hk;have:=h.kN;omega)
 ·have h5:=h.kQ j hj
  exact(h.oR j hj).upd hp.upd (fun hk=>by simp only[List.mem_singleton]at hk;rw[hk]at h5;have:=h.kN;omega)
 ·exact Fr.upd hp.upd (fun k hk _ hl=>by simp only[List.mem_singleton]at hk;subst hk;have:=h.kN;rcases hl with h | h | h<;>omega) (fun k _=>.inl rfl)
theorem PS.noOut(h:PS M bN bO tN tO w now out vN vO vs us ab ob rb col)(hp:Put bO (.cells #[.slice none 0 0] tO (0,0)) w w2) :
  PS M bN bO tN tO w2 now [] vN (.slice none 0 0) vs [] ab [] rb col∧Fr col w col w2:=by
 have hne:∀ {k:Nat},col k≠1→k∉[bO]:=fun{k} h3 hk=>by simp at hk;subst hk;exact h3 h.kO
 have two:∀ {k:Nat} {o:Obj},w.heap[k]?=some o→k∉[bO]→w2.heap[k]?=some o:=fun hk hh=>hp.upd.blk hk hh
 refine⟨⟨fun b' o e=>two (h.mem b' o e) (hne (by rw[h.kM b' o e];omega)),two h.cN (hne (by rw[h.kN];omega)),hp.blk,?_,fun j hj=>?_,Acc.nil _ _ _ _,fun j hj=>by simp at hj,h.kN,h.kO,h.kM,h.kA,fun b hb=>by simp at hb,fun j hj=>by simp at hj,h.kR⟩,?_⟩
 ·exact h.nO.put hp (fun hk=>by have:=h.kA bO hk;have:=h.kO;omega)
 ·exact(h.nR j hj).put hp (fun hk=>by have:=h.kR j hj bO hk;have:=h.kO;omega)
 ·exact Fr.upd hp.upd (fun k hk _ hl=>by simp only[List.mem_singleton]at hk;subst hk;have:=h.kO;rcases hl with h | h | h<;>omega) (fun k _=>.inl rfl)
theorem PS.best(h:PS M bN bO tN tO w now out vN vO vs us ab ob rb col){r:List Int}{v v':Value}{ob':List Nat}
  (hR:OR w1 r v) (hn:w.heap.size≤blkO v∧blkO v∉ob')
  (hu:Upd ob w w1) (hA:Acc 23 1 0 w1 v' (out.length+1) (us++[v]) ob') (hna:∀k∈ob',k∈ob∨w.heap.size≤k)
  (hp:Put bO (.cells #[v'] tO (0,0)) w1 w2) {w0:World} {col0:Nat→Nat} (hf:Fr col0 w0 col w) (hob:∀k∈ob,w0.heap.size≤k) :
  ∃col',PS M bN bO tN tO w2 now (out++[r]) vN v' vs (us++[v]) ab ob' rb col'∧Fr col0 w0 col' w2:=by
 have hul:=h.oO.len1
 have hca:∀k∈ob,col k=4:=h.kB
 have hOlt:=A5 h.cO
 have hne:∀ {k:Nat},col k≠4→col k≠1→k∉ob∧k∉[bO]:=fun{k} h2 h3=>⟨fun hk=>h2 (hca k hk),fun hk=>by simp at hk;subst hk;exact h3 h.kO⟩
 have two:∀ {k:Nat} {o:Obj},w.heap[k]?=some o→k∉ob∧k∉[bO]→w2.heap[k]?=some o:=fun hk hh=>hp.upd.blk (hu.blk hk hh.1) hh.2
 have old:∀ {k:Nat},k<w.heap.size→(if w.heap.size≤k then(if k∈ob' then 4 else if k=blkO v then 5 else col k)else col k)=col k:=fun hk=>by rw[if_neg (by omega)]
 refine⟨fun k=>if w.heap.size≤k then(if k∈ob' then 4 else if k=blkO v then 5 else col k)else col k,⟨fun b' o e=>two (h.mem b' o e) (hne (by rw[h.kM b' o e];omega) (by rw[h.kM b' o e];omega)),two h.cN (hne (by rw[h.kN];omega) (by rw[h.kN];omega)),hp.blk,?_,fun j hj=>?_,?_,fun j hj=>?_,?_,?_,fun b' o e=>?_,fun k hk=>?_,fun k hk=>?_,fun j hj=>?_,fun j hj k hk=>?_⟩,?_⟩
 ·refine(h.nO.upd hu (fun k hk hk2=>?_)).put hp (fun hk=>?_)
  ·have:=h.kA k hk;have:=hca k hk2;omega
  ·have:=h.kA bO hk;have:=h.kO;omega
 ·refine((h.nR j hj).upd hu (fun k hk hk2=>?_)).put hp (fun hk=>?_)
  ·have:=h.kR j hj k hk;have:=hca k hk2;omega
  ·have:=h.kR j hj bO hk;have:=h.kO;omega
 ·refine Acc.put (b:=bO) (by simpa using hA) hp (fun hk=>?_)
  rcases hna bO hk with h1 | h1
  ·have:=hca bO h1;have:=h.kO;omega
  ·omega
 ·rw[Mb,Mb,hul]
  by_cases e:j=out.length
  ·subst e
   simp only[if_true]
   exact hR.upd hp.upd (fun hk=>by simp only[List.mem_singleton]at hk;omega)
  ·simp only[if_neg e]
   have hj':j<out.length:=by simp at hj;omega
   have h5:=h.kQ j hj'
   refine((h.oR j hj').upd hu (fun hk=>?_)).upd hp.upd (fun hk=>?_)
   ·have:=hca _ hk;omega
   ·simp only[List.mem_singleton]at hk;rw[hk]at h5;have:=h.kO;omega
 ·rw[old (A5 h.cN)];exact h.kN
 ·rw[old hOlt];exact h.kO
 ·rw[old (A5 (h.mem b' o e))];exact h.kM b' o e
 ·rw[old (h.nO.lt k hk).2];exact h.kA k hk
 ·rcases hna k hk with h1 | h1
  ·rw[old (h.oO.lt k h1).2];exact hca k h1
  ·simp only[if_pos h1,if_pos hk]
 ·rw[Mb,hul]
  by_cases e:j=out.length
  ·subst e
   simp only[if_true,if_pos hn.1,if_neg hn.2]
  ·simp only[if_neg e]
   have hj':j<out.length:=by simp at hj;omega
   rw[old (h.oR j hj').lt];exact h.kQ j hj'
 ·rw[old ((h.nR j hj).lt k hk).2];exact h.kR j hj k hk
 ·refine⟨(hp.upd.os.trans hu.os).trans hf.os,(hp.upd.tape.trans hu.tape).trans hf.tape,(hp.upd.output.trans hu.output).trans hf.output,Nat.le_trans hf.size (Nat.le_trans hu.size hp.upd.size),fun k hk hl=>?_,fun k hk h2=>?_,fun k hk hl=>?_⟩
  ·have hkw:k<w.heap.size:=Nat.lt_of_lt_of_le hk hf.size
   have hl2:=hf.low k hk hl
   refine(hp.upd.same k (Nat.lt_of_lt_of_le hkw hu.size) (fun hx=>?_)).trans ((hu.same k hkw (fun hx=>?_)).trans (hf.same k hk hl))
   ·simp only[List.mem_singleton]at hx;subst hx;have:=h.kO;rcases hl2 with h | h | h<;>omega
   ·have:=hob k hx;omega
  ·have hkw:k<w.heap.size:=Nat.lt_of_lt_of_le hk hf.size
   rw[old hkw];exact hf.two k hk h2
  ·have hkw:k<w.heap.size:=Nat.lt_of_lt_of_le hk hf.size
   rw[old hkw];exact hf.low k hk hl
end
end Go.Proofs.Ytgeijboidfadaaa.Fe

namespace Go.Proofs.Ytgeijboidfadaaa
set_option linter.all false
open Go
def Cl(w:World)(b o:Nat)(vs:List Value):Prop:=∀(i:Nat) (v:Value),vs[i]?=some v→w.cell? ⟨b,o+i,none⟩=some v
theorem Cl.cell{w:World}{b o i:Nat}{vs:List Value}{v:Value}(h:Cl w b o vs)(hi:vs[i]?=some v):w.cell? ⟨b,o+i,none⟩=some v:=h i v hi
theorem Cl.blk{w:World}{b:Nat}{vs:List Value}{ty:TypeId}(h:Blk w b vs ty):Cl w b 0 vs:=fun i v hi=>by rw[Nat.zero_add];exact Blk.cell h hi
def As(text:List Int)(word:Int)(k:Nat):List Nat:=(List.range' k (text.length-k)).filter fun j=>text.getD j 0==word
theorem Ajh{text:List Int}{word:Int}{k:Nat}(h:k<text.length)(e:text.getD k 0=word):As text word k=k::As text word (k+1):=by
 unfold As
 rw[show text.length-k=(text.length-(k+1))+1 by omega,List.range'_succ,List.filter_cons,if_pos (by simpa using e)]
theorem Ar0{text:List Int}{word:Int}{k:Nat}(h:k<text.length)(e:¬text.getD k 0=word):As text word k=As text word (k+1):=by
 unfold As
 rw[show text.length-k=(text.length-(k+1))+1 by omega,List.range'_succ,List.filter_cons,if_neg (by simpa using e)]
theorem Am7{text:List Int}{word:Int}{k:Nat}(h:text.length≤k):As text word k=[]:=by
 unfold As
 rw[show text.length-k=0 by omega];rfl
theorem D9{text:List Int}{word:Int}{k j:Nat}:j∈As text word k↔k≤j∧j<text.length∧text.getD j 0=word:=by
 unfold As
 rw[List.mem_filter,List.mem_range'_1]
 simp only[beq_iff_eq]
 constructor
 ·rintro ⟨⟨h1,h2⟩,h3⟩;exact⟨h1,by omega,h3⟩
 ·rintro ⟨h1,h2,h3⟩;exact⟨⟨h1,by omega⟩,h3⟩

noncomputable def c133:Code:=(Try.f154.body).getD .skip
noncomputable def B6o:List Item:=[.code (sub c133 [0]),.code (sub c133 [1])]
noncomputable def Afq:List Item:=[.code (sub c133 [1,0,0,0,0]),.code (sub c133 [1,0,0,0,1]),.code (sub c133 [1,0,0,1]),.inLoop (sub c133 [1,0,0]),.inBlock 0]
noncomputable def B5i:List Item:=[.code (sub c133 [1,0,0,0,1]),.code (sub c133 [1,0,0,1]),.inLoop (sub c133 [1,0,0]),.inBlock 0]
noncomputable def B72:List Item:=[.code (sub c133 [1,0,0,1,0,0,0]),.code (sub c133 [1,0,0,1,0,0,1]),.inBlock 1,.code (sub c133 [1,0,0,1,1]),.inLoop (sub c133 [1,0,0]),.inBlock 0]
noncomputable def B7g:List Item:=[]
noncomputable def B69:List Item:=[.code (sub c133 [1,0,0,1,0,0,1]),.inBlock 1,.code (sub c133 [1,0,0,1,1]),.inLoop (sub c133 [1,0,0]),.inBlock 0]
noncomputable def Ant:List Item:=[.code (sub c133 [1,0,0,1,0,0,1,0]),.inBlock 1,.code (sub c133 [1,0,0,1,1]),.inLoop (sub c133 [1,0,0]),.inBlock 0]
noncomputable def Arq:List Item:=[.code (sub c133 [1,0,0,1,1]),.inLoop (sub c133 [1,0,0]),.inBlock 0]
set_option maxHeartbeats 400000 in
theorem Aph(l bf bt bw of_ ot ow c:Nat)(a:Option Addr)(text:List Int)(fr:Nat)(word:Int)(S:List Nat)(J:List Nat→World→Prop)(Q:World→Prop)(w:World)(hbf:∀w',Upd (l::S) w w'→Cl w' bf of_ [.int .i64 ↑fr])(hbt:∀w',Upd (l::S) w w'→Cl w' bt ot [.slice a text.length c])(hbw:∀w',Upd (l::S) w w'→Cl w' bw ow [.int .i64 word])(hT:∀w',Upd (l::S) w w'→Ints .i64 0 w' (.slice a text.length c) text)(hfr:fr≤text.length∧text.length≤1000000)(hJ:J (As text word fr) w)(hx:∀r w1 w2,J r w1→Ext w1 w2→J r w2)(hy:∀k r w1,k∈As text word fr→J (k::r) w1→Upd (l::S) w w1→Dl Try.prog l #[.int .i64 ↑k] w1 (fun v w2=>Upd (l::S) w1 w2∧((v=.bool true∧J r w2)∨(v=.bool false∧Q w2)))):Fn Try.prog 154 #[(.func (.yield l) #[] #[]),(.pointer (some ⟨bf,of_,none⟩)),(.pointer (some ⟨bt,ot,none⟩)),(.pointer (some ⟨bw,ow,none⟩))] w (fun _ w'=>Upd (l::S) w w'∧(J [] w'∨Q w')):=by
 refine Fn.ofSt (c:=c133) 25 B6o [(0,(.func (.yield l) #[] #[])),(1,(.pointer (some ⟨bf,of_,none⟩))),(2,(.pointer (some ⟨bt,ot,none⟩))),(3,(.pointer (some ⟨bw,ow,none⟩)))] Try.func154 (by kernel_rfl) ⟨⟨rfl,by kernel_rfl⟩,by kernel_rfl⟩ (by kernel_rfl) ?_
 intro cs
 refine St.reg Afq [(0,true),(1,true)] (by kernel_rfl) (by kernel_rfl) ?_
 refine RX.q 2 [(0,true,(.int .i64 (↑fr:Int)))] [(0,(.func (.yield l) #[] #[])),(2,(.pointer (some ⟨bt,ot,none⟩))),(3,(.pointer (some ⟨bw,ow,none⟩))),(5,(.int .i64 (↑fr:Int)))] [.cell ⟨bf,of_+0,none⟩ (.int .i64 (↑fr:Int))] (by kernel_rfl) (Cl.cell (hbf w (Upd.refl _ w)) rfl) ?_
 refine RX.done [(0,(.func (.yield l) #[] #[])),(2,(.pointer (some ⟨bt,ot,none⟩))),(3,(.pointer (some ⟨bw,ow,none⟩))),(5,(.int .i64 (↑fr:Int)))] (by kernel_rfl) (by kernel_rfl) ?_
 have loop1:∀(N:Nat) (k:Nat) (w2:World),(fr≤k∧k≤text.length)→(J (As text word k) w2)→(Upd (l::S) w w2)→N=text.length-k→St Try.prog (fctx Try.prog 154 (fun _ w'=>Upd (l::S) w w'∧(J [] w'∨Q w')) cs) 25 Afq [(5,(.int .i64 (↑k:Int))),(0,(.func (.yield l) #[] #[])),(2,(.pointer (some ⟨bt,ot,none⟩))),(3,(.pointer (some ⟨bw,ow,none⟩)))] [] w2:=by
  intro N3
  induction N3 using Nat.strongRecOn with
  | ind N3 ih4=>?_
  intro k w2 hk hJk hE hN5
  refine St.reg B5i [(0,true),(1,true),(2,true),(3,true)] (by kernel_rfl) (by kernel_rfl) ?_
  have hb6:Cl w2 bt ot [(.slice a text.length c)]:=hbt w2 hE
  refine RX.q 4 [(1,true,(.slice a text.length c))] [(0,(.func (.yield l) #[] #[])),(2,(.pointer (some ⟨bt,ot,none⟩))),(3,(.pointer (some ⟨bw,ow,none⟩))),(5,(.int .i64 (↑k:Int))),(10,(.bool (decide ((↑k:Int)<(↑text.length:Int)))))] [.cell ⟨bt,ot+0,none⟩ (.slice a text.length c)] (by kernel_rfl) (Cl.cell hb6 rfl) ?_
  refine RX.done [(0,(.func (.yield l) #[] #[])),(2,(.pointer (some ⟨bt,ot,none⟩))),(3,(.pointer (some ⟨bw,ow,none⟩))),(5,(.int .i64 (↑k:Int))),(10,(.bool (decide ((↑k:Int)<(↑text.length:Int)))))] (by kernel_rfl) (by kernel_rfl) ?_
  refine St.cond (k1:=B72) (k2:=B7g) (decide ((↑k:Int)<(↑text.length:Int))) (by kernel_rfl) (fun hc7=>?_) (fun hc7=>?_)
  ·have hh8:(↑k:Int)<(↑text.length:Int):=by simpa using hc7
   clear hc7
   refine St.weak (L':=[(0,(.func (.yield l) #[] #[])),(2,(.pointer (some ⟨bt,ot,none⟩))),(3,(.pointer (some ⟨bw,ow,none⟩))),(5,(.int .i64 (↑k:Int)))]) (by kernel_rfl) ?_
   refine St.drw B69 [] [(0,true),(1,true),(2,true),(3,true),(4,true),(5,true),(6,true),(7,true),(8,true),(9,false),(10,true),(11,true)] mixed (by kernel_rfl) (by kernel_rfl) ?_
   intro w9 hd10 hds11
   by_cases hg22:(text.getD k 0)=word
   ·have hE23:Upd (l::S) w w9:=(Upd.ext hE hd10)
    have hb24:Cl w9 bt ot [(.slice a text.length c)]:=hbt w9 hE23
    have hD25:Ints .i64 0 w9 (.slice a text.length c) text:=hT w9 hE23
    obtain⟨b26,o27,hl28,hl29,hi30,hc31⟩:=Ints.at (P:=Try.prog) (t:=23) (e:=3) hD25 (by kernel_rfl) (by kernel_rfl) k (by omega)
    have hb32:Cl w9 bw ow [(.int .i64 word)]:=hbw w9 hE23
    refine RX.qd 9 [(0,true,(.slice a text.length c)),(2,true,(.pointer (some ⟨b26,o27,none⟩))),(3,true,(.int .i64 (text.getD k 0))),(4,true,(.int .i64 word)),(5,false,(.bool true))] [(0,(.func (.yield l) #[] #[])),(2,(.pointer (some ⟨bt,ot,none⟩))),(3,(.pointer (some ⟨bw,ow,none⟩))),(5,(.int .i64 (↑k:Int))),(19,(.bool true)),(20,(.func (.yield l) #[] #[])),(21,(.int .i64 (↑k:Int)))] [.cell ⟨bt,ot+0,none⟩ (.slice a text.length c),.raw (Instr.indexAt 23 (.slice a text.length c) (.int .i64 (↑k:Int))) (.pointer (some ⟨b26,o27,none⟩)),.cell ⟨b26,o27,none⟩ (.int .i64 (text.getD k 0)),.cell ⟨bw,ow+0,none⟩ (.int .i64 word),.eq (.bool ((text.getD k 0)==word)) (.bool true)] (by kernel_rfl) ⟨Cl.cell hb24 rfl,hi30 _,hc31,Cl.cell hb32 rfl,bT (by simpa using hg22)⟩ ⟨List.not_mem_nil,fun w' _=>hi30 w',List.not_mem_nil,List.not_mem_nil,trivial⟩ ?_
    have hD33:J (As text word k) w9:=(hx _ _ _ hJk hd10)
    have hJ37:=hD33;rw[Ajh (by omega) hg22]at hJ37
    refine RX.yieldL 22 l #[(.int .i64 (↑k:Int))] [(0,(.func (.yield l) #[] #[])),(2,(.pointer (some ⟨bt,ot,none⟩))),(3,(.pointer (some ⟨bw,ow,none⟩))),(5,(.int .i64 (↑k:Int))),(19,(.bool true)),(20,(.func (.yield l) #[] #[])),(21,(.int .i64 (↑k:Int)))] (by kernel_rfl) (by kernel_rfl) ?_
    refine Dl.mono (hy k _ w9 (D9.2 ⟨by omega,by omega,hg22⟩) hJ37 hE23) ?_
    rintro _ w34 ⟨hu35,⟨rfl,hv36⟩ | ⟨rfl,hv36⟩⟩
    ·refine RX.qd 2 [] [(0,(.func (.yield l) #[] #[])),(2,(.pointer (some ⟨bt,ot,none⟩))),(3,(.pointer (some ⟨bw,ow,none⟩))),(5,(.int .i64 (↑k:Int))),(24,(.bool false))] [] (by kernel_rfl) trivial trivial ?_
     refine RX.done [(0,(.func (.yield l) #[] #[])),(2,(.pointer (some ⟨bt,ot,none⟩))),(3,(.pointer (some ⟨bw,ow,none⟩))),(5,(.int .i64 (↑k:Int))),(24,(.bool false))] (by kernel_rfl) (by kernel_rfl) ?_
     refine St.cond (k1:=Ant) (k2:=Arq) false (by kernel_rfl) (fun hc=>?_) (fun hc=>?_)
     ·cases hc
     ·clear hc
      refine St.weak (L':=[(0,(.func (.yield l) #[] #[])),(2,(.pointer (some ⟨bt,ot,none⟩))),(3,(.pointer (some ⟨bw,ow,none⟩))),(5,(.int .i64 (↑k:Int)))]) (by kernel_rfl) ?_
      refine St.reg Afq [(0,true),(1,true),(2,true)] (by kernel_rfl) (by kernel_rfl) ?_
      refine RX.q 3 [(1,false,(.int .i64 ((↑k:Int)+1)))] [(0,(.func (.yield l) #[] #[])),(2,(.pointer (some ⟨bt,ot,none⟩))),(3,(.pointer (some ⟨bw,ow,none⟩))),(5,(.int .i64 ((↑k:Int)+1)))] [.eq (.int .i64 (IntKind.i64.wrap ((↑k:Int)+1))) (.int .i64 ((↑k:Int)+1))] (by kernel_rfl) (int64 (by omega)) ?_
      refine RX.done [(0,(.func (.yield l) #[] #[])),(2,(.pointer (some ⟨bt,ot,none⟩))),(3,(.pointer (some ⟨bw,ow,none⟩))),(5,(.int .i64 ((↑k:Int)+1)))] (by kernel_rfl) (by kernel_rfl) ?_
      have hE38:Upd (l::S) w w34:=(Upd.trans hE23 hu35)
      refine St.weak (by kernel_rfl) (ih4 _ ?_ (k+1) w34 (by omega) hv36 hE38 rfl)
      omega
    ·refine RX.qd 2 [] [(0,(.func (.yield l) #[] #[])),(2,(.pointer (some ⟨bt,ot,none⟩))),(3,(.pointer (some ⟨bw,ow,none⟩))),(5,(.int .i64 (↑k:Int))),(24,(.bool true))] [] (by kernel_rfl) trivial trivial ?_
     refine RX.done [(0,(.func (.yield l) #[] #[])),(2,(.pointer (some ⟨bt,ot,none⟩))),(3,(.pointer (some ⟨bw,ow,none⟩))),(5,(.int .i64 (↑k:Int))),(24,(.bool true))] (by kernel_rfl) (by kernel_rfl) ?_
     refine St.cond (k1:=Ant) (k2:=Arq) true (by kernel_rfl) (fun hc=>?_) (fun hc=>?_)
     ·clear hc
      refine St.weak (L':=[]) (by kernel_rfl) ?_
      refine St.ret [] [] (by kernel_rfl) Try.func154 (by kernel_rfl) .nil ?_
      have hE39:Upd (l::S) w w34:=(Upd.trans hE23 hu35)
      exact⟨hE39,.inr hv36⟩
     ·cases hc
   ·have hg40:¬(text.getD k 0)=word:=by simpa using hg22
    have hE41:Upd (l::S) w w9:=(Upd.ext hE hd10)
    have hb42:Cl w9 bt ot [(.slice a text.length c)]:=hbt w9 hE41
    have hD43:Ints .i64 0 w9 (.slice a text.length c) text:=hT w9 hE41
    obtain⟨b44,o45,hl46,hl47,hi48,hc49⟩:=Ints.at (P:=Try.prog) (t:=23) (e:=3) hD43 (by kernel_rfl) (by kernel_rfl) k (by omega)
    have hb50:Cl w9 bw ow [(.int .i64 word)]:=hbw w9 hE41
    refine RX.qd 9 [(0,true,(.slice a text.length c)),(2,true,(.pointer (some ⟨b44,o45,none⟩))),(3,true,(.int .i64 (text.getD k 0))),(4,true,(.int .i64 word)),(5,false,(.bool false))] [(0,(.func (.yield l) #[] #[])),(2,(.pointer (some ⟨bt,ot,none⟩))),(3,(.pointer (some ⟨bw,ow,none⟩))),(5,(.int .i64 (↑k:Int))),(19,(.bool false)),(20,undef),(21,undef)] [.cell ⟨bt,ot+0,none⟩ (.slice a text.length c),.raw (Instr.indexAt 23 (.slice a text.length c) (.int .i64 (↑k:Int))) (.pointer (some ⟨b44,o45,none⟩)),.cell ⟨b44,o45,none⟩ (.int .i64 (text.getD k 0)),.cell ⟨bw,ow+0,none⟩ (.int .i64 word),.eq (.bool ((text.getD k 0)==word)) (.bool false)] (by kernel_rfl) ⟨Cl.cell hb42 rfl,hi48 _,hc49,Cl.cell hb50 rfl,bF (by simpa using hg40)⟩ ⟨List.not_mem_nil,fun w' _=>hi48 w',List.not_mem_nil,List.not_mem_nil,trivial⟩ ?_
    refine RX.skip [(0,(.func (.yield l) #[] #[])),(2,(.pointer (some ⟨bt,ot,none⟩))),(3,(.pointer (some ⟨bw,ow,none⟩))),(5,(.int .i64 (↑k:Int))),(19,(.bool false)),(20,undef),(21,undef),(22,undef)] (by kernel_rfl) ?_
    refine RX.qd 2 [] [(0,(.func (.yield l) #[] #[])),(2,(.pointer (some ⟨bt,ot,none⟩))),(3,(.pointer (some ⟨bw,ow,none⟩))),(5,(.int .i64 (↑k:Int))),(24,(.bool false))] [] (by kernel_rfl) trivial trivial ?_
    refine RX.done [(0,(.func (.yield l) #[] #[])),(2,(.pointer (some ⟨bt,ot,none⟩))),(3,(.pointer (some ⟨bw,ow,none⟩))),(5,(.int .i64 (↑k:Int))),(24,(.bool false))] (by kernel_rfl) (by kernel_rfl) ?_
    refine St.cond (k1:=Ant) (k2:=Arq) false (by kernel_rfl) (fun hc=>?_) (fun hc=>?_)
    ·cases hc
    ·clear hc
     refine St.weak (L':=[(0,(.func (.yield l) #[] #[])),(2,(.pointer (some ⟨bt,ot,none⟩))),(3,(.pointer (some ⟨bw,ow,none⟩))),(5,(.int .i64 (↑k:Int)))]) (by kernel_rfl) ?_
     refine St.reg Afq [(0,true),(1,true),(2,true)] (by kernel_rfl) (by kernel_rfl) ?_
     refine RX.q 3 [(1,false,(.int .i64 ((↑k:Int)+1)))] [(0,(.func (.yield l) #[] #[])),(2,(.pointer (some ⟨bt,ot,none⟩))),(3,(.pointer (some ⟨bw,ow,none⟩))),(5,(.int .i64 ((↑k:Int)+1)))] [.eq (.int .i64 (IntKind.i64.wrap ((↑k:Int)+1))) (.int .i64 ((↑k:Int)+1))] (by kernel_rfl) (int64 (by omega)) ?_
     refine RX.done [(0,(.func (.yield l) #[] #[])),(2,(.pointer (some ⟨bt,ot,none⟩))),(3,(.pointer (some ⟨bw,ow,none⟩))),(5,(.int .i64 ((↑k:Int)+1)))] (by kernel_rfl) (by kernel_rfl) ?_
     have hD51:J (As text word k) w9:=(hx _ _ _ hJk hd10)
     refine St.weak (by kernel_rfl) (ih4 _ ?_ (k+1) w9 (by omega) (by rw[←Ar0 (by omega) hg40];exact hD51) hE41 rfl)
     omega
  ·have hh52:(↑text.length:Int)≤(↑k:Int):=by simpa using hc7
   clear hc7
   refine St.weak (L':=[]) (by kernel_rfl) ?_
   refine St.ret [] [] (by kernel_rfl) Try.func154 (by kernel_rfl) .nil ?_
   refine⟨hE,.inl ?_⟩
   rw[←Am7 (text:=text) (word:=word) (k:=k) (by omega)];exact hJk
 exact St.weak (by kernel_rfl) (loop1 _ fr w (by omega) hJ (Upd.refl (l::S) w) rfl)

theorem A1i(l bf bt bw c:Nat)(a:Option Addr)(text:List Int)(fr:Nat)(word:Int)(S:List Nat)(J:List Nat→World→Prop)(Q:World→Prop)(w:World)(hbf:Blk w bf [.int .i64 ↑fr] 3)(hbt:Blk w bt [.slice a text.length c] 23)(hbw:Blk w bw [.int .i64 word] 3)(hn:(bf≠l∧bt≠l∧bw≠l)∧bf∉S∧bt∉S∧bw∉S)(hT:∀w',Upd (l::S) w w'→Ints .i64 0 w' (.slice a text.length c) text)(hfr:fr≤text.length∧text.length≤1000000)(hJ:J (As text word fr) w)(hx:∀r w1 w2,J r w1→Ext w1 w2→J r w2)(hy:∀k r w1,k∈As text word fr→J (k::r) w1→Upd (l::S) w w1→Dl Try.prog l #[.int .i64 ↑k] w1 (fun v w2=>Upd (l::S) w1 w2∧((v=.bool true∧J r w2)∨(v=.bool false∧Q w2)))):Fn Try.prog 154 #[(.func (.yield l) #[] #[]),(.pointer (some ⟨bf,0,none⟩)),(.pointer (some ⟨bt,0,none⟩)),(.pointer (some ⟨bw,0,none⟩))] w (fun _ w'=>Upd (l::S) w w'∧(J [] w'∨Q w')):=by
 refine Aph l bf bt bw 0 0 0 c a text fr word S J Q w (fun w' hu=>Cl.blk (hu.blk hbf (by simp[hn]))) (fun w' hu=>Cl.blk (hu.blk hbt (by simp[hn]))) (fun w' hu=>Cl.blk (hu.blk hbw (by simp[hn]))) hT hfr hJ hx hy

noncomputable def c123:Code:=(Try.f140.body).getD .skip
noncomputable def Ap0:List Item:=[.code (sub c123 [0]),.code (sub c123 [1])]
noncomputable def Z2:List Item:=[.code (sub c123 [1,0]),.code (sub c123 [1,1])]
noncomputable def As2:List Item:=[.code (sub c123 [1,1])]
set_option maxHeartbeats 400000 in
theorem Acg(a:Option Addr)(n c:Nat)(fr word:Int)(w:World):Fn Try.prog 140 #[(.slice a n c),(.int .i64 fr),(.int .i64 word)] w (fun v w'=>∃b1 b2 b3,v=.func (.func 154) #[] #[.pointer (some ⟨b1,0,none⟩),.pointer (some ⟨b2,0,none⟩),.pointer (some ⟨b3,0,none⟩)]∧Blk w' b1 [.int .i64 fr] 3∧Blk w' b2 [.slice a n c] 23∧Blk w' b3 [.int .i64 word] 3∧(w.heap.size≤b1∧w.heap.size≤b2∧w.heap.size≤b3)∧Ext w w'):=by
 refine Fn.ofSt (c:=c123) 8 Ap0 [(0,(.slice a n c)),(1,(.int .i64 fr)),(2,(.int .i64 word))] Try.func140 (by kernel_rfl) ⟨⟨rfl,by kernel_rfl⟩,by kernel_rfl⟩ (by kernel_rfl) ?_
 intro cs
 refine St.reg Z2 [(0,false),(1,false),(2,false),(3,true)] (by kernel_rfl) (by kernel_rfl) ?_
 refine RX.new 3 (.cells #[(.slice a n c)] 23) (.ptr) [(0,(.slice a n c)),(1,(.int .i64 fr)),(2,(.int .i64 word))] (by kernel_rfl) ?_
 intro b1 w2 hn3
 have:=hn3.size;have:=hn3.at_
 have hb4:Blk w2 b1 [(.slice a n c)] 23:=hn3.blk
 refine RX.new 4 (.cells #[(.int .i64 fr)] 3) (.ptr) [(3,(.pointer (some ⟨b1,0,none⟩))),(0,(.slice a n c)),(1,(.int .i64 fr)),(2,(.int .i64 word))] (by kernel_rfl) ?_
 intro b5 w6 hn7
 have:=hn7.size;have:=hn7.at_
 have hb8:Blk w6 b5 [(.int .i64 fr)] 3:=hn7.blk
 refine RX.new 5 (.cells #[(.int .i64 word)] 3) (.ptr) [(4,(.pointer (some ⟨b5,0,none⟩))),(3,(.pointer (some ⟨b1,0,none⟩))),(0,(.slice a n c)),(1,(.int .i64 fr)),(2,(.int .i64 word))] (by kernel_rfl) ?_
 intro b9 w10 hn11
 have:=hn11.size;have:=hn11.at_
 have hb12:Blk w10 b9 [(.int .i64 word)] 3:=hn11.blk
 refine RX.q 1 [] [(3,(.pointer (some ⟨b1,0,none⟩))),(4,(.pointer (some ⟨b5,0,none⟩))),(5,(.pointer (some ⟨b9,0,none⟩)))] [] (by kernel_rfl) trivial ?_
 refine RX.done [(3,(.pointer (some ⟨b1,0,none⟩))),(4,(.pointer (some ⟨b5,0,none⟩))),(5,(.pointer (some ⟨b9,0,none⟩)))] (by kernel_rfl) (by kernel_rfl) ?_
 refine St.reg As2 [(0,true),(1,true)] (by kernel_rfl) (by kernel_rfl) ?_
 refine RX.q 2 [] [(6,(.func (.func 154) #[] #[(.pointer (some ⟨b5,0,none⟩)),(.pointer (some ⟨b1,0,none⟩)),(.pointer (some ⟨b9,0,none⟩))]))] [] (by kernel_rfl) trivial ?_
 refine RX.done [(6,(.func (.func 154) #[] #[(.pointer (some ⟨b5,0,none⟩)),(.pointer (some ⟨b1,0,none⟩)),(.pointer (some ⟨b9,0,none⟩))]))] (by kernel_rfl) (by kernel_rfl) ?_
 refine St.ret [.tmp 6] [(.func (.func 154) #[] #[(.pointer (some ⟨b5,0,none⟩)),(.pointer (some ⟨b1,0,none⟩)),(.pointer (some ⟨b9,0,none⟩))])] (by kernel_rfl) Try.func140 (by kernel_rfl) (.cons (.tmp rfl) .nil) ?_
 have hb13:Blk w10 b5 [(.int .i64 fr)] 3:=(Ext.blk hn11.ext hb8)
 have hb14:Blk w10 b1 [(.slice a n c)] 23:=(Ext.blk hn11.ext (Ext.blk hn7.ext hb4))
 have hE15:Upd [] w w10:=(Upd.ext (Upd.ext (Upd.ext (Upd.refl [] w) hn3.ext) hn7.ext) hn11.ext)
 exact⟨_,_,_,rfl,hb13,hb14,hb12,⟨by omega,by omega,by omega⟩,hE15⟩

end Go.Proofs.Ytgeijboidfadaaa

namespace Go.Proofs.Ytgeijboidfadaaa
set_option linter.all false
open Go

abbrev At3:=Nat×Nat×Nat
def key3(x:At3):Value:=.agg #[.int .i64 x.1,.int .i64 x.2.1,.int .i64 x.2.2]
abbrev Mv:=(Int×Int)×At3
def mvP(m:Mv):Value:=.agg #[.int .i64 m.1.1,.int .i64 m.1.2]
def H8(A B:List Int)(wd:Int)(x:At3):List Mv:=
 ((3,0),(x.1+1,x.2.1,x.2.2))::((As A wd x.2.1).map (fun(j:Nat)=>(((1:Int),(j:Int)),((x.1+1,j+1,x.2.2):At3)))++(As B wd x.2.2).map (fun(j:Nat)=>(((2:Int),(j:Int)),((x.1+1,x.2.1,j+1):At3))))
noncomputable def c122:Code:=(Try.f139.body).getD .skip
noncomputable def B7f:List Item:=[.code (sub c122 [0]),.code (sub c122 [1])]
noncomputable def B63:List Item:=[.code (sub c122 [1,0,0]),.code (sub c122 [1,0,1]),.code (sub c122 [1,1])]
noncomputable def B7b:List Item:=[.code (sub c122 [1,0,1]),.code (sub c122 [1,1])]
noncomputable def B03:List Item:=[.code (sub c122 [1,0,1,0]),.code (sub c122 [1,1])]
noncomputable def Azy:List Item:=[.code (sub c122 [1,1,0,0]),.code (sub c122 [1,1,0,1]),.code (sub c122 [1,1,1])]
noncomputable def Aro:List Item:=[.code (sub c122 [1,1,0,1,0]),.inBlock 0,.code (sub c122 [1,1,1])]
noncomputable def B5k:List Item:=[.code (sub c122 [1,1,1,0]),.code (sub c122 [1,1,1,1])]
noncomputable def B6q:List Item:=[.code (sub c122 [1,1,0,1,0,0]),.beginRound,.code (sub c122 [1,1,0,1,0,1])]
noncomputable def B6x:List Item:=[.beginRound,.code (sub c122 [1,1,0,1,0,1])]
noncomputable def B5u:List Item:=[.code (sub c122 [1,1,0,1,0,1,0,0]),.code (sub c122 [1,1,0,1,0,1,0,1]),.inBlock 1]
noncomputable def B4q:List Item:=[.code (sub c122 [1,1,0,1,0,1,0,1]),.inBlock 1]
noncomputable def Ath:List Item:=[.code (sub c122 [1,1,0,1,0,1,0,1,0]),.inBlock 1]
noncomputable def X0:List Item:=[]
noncomputable def Ahc:List Item:=[.code (sub c122 [1,1,1,1,0]),.inBlock 2]
noncomputable def B3z:List Item:=[.code (sub c122 [1,1,1,1,0,0]),.beginRound,.code (sub c122 [1,1,1,1,0,1])]
noncomputable def B2u:List Item:=[.beginRound,.code (sub c122 [1,1,1,1,0,1])]
noncomputable def B3c:List Item:=[.code (sub c122 [1,1,1,1,0,1,0,0]),.code (sub c122 [1,1,1,1,0,1,0,1]),.inBlock 3]
noncomputable def B3l:List Item:=[.code (sub c122 [1,1,1,1,0,1,0,1]),.inBlock 3]
noncomputable def As9:List Item:=[.code (sub c122 [1,1,1,1,0,1,0,1,0]),.inBlock 3]
set_option maxHeartbeats 1000000 in
theorem Azc(l bx bd d ox od oo:Nat)(xh xi xk:Nat)(aH aA aB:Option Addr)(cH cA cB:Nat)(vt:Value)(f:Int)(H A B:List Int)(S:List Nat)(J:List Mv→World→Prop)(Q:World→Prop)(w:World)(hbx:∀w',Upd (l::S) w w'→Cl w' bx ox [.int .i64 ↑xh,.int .i64 ↑xi,.int .i64 ↑xk])(hbd:∀w',Upd (l::S) w w'→Cl w' bd od [.pointer (some ⟨d,oo,none⟩)])(hd:∀w',Upd (l::S) w w'→Cl w' d oo [vt,.slice aH H.length cH,.int .i64 f,.slice aA A.length cA,.slice aB B.length cB])(hS:∀k∈l::S,k<w.heap.size)(hCH:∀w',Upd (l::S) w w'→Ints .i64 0 w' (.slice aH H.length cH) H)(hCA:∀w',Upd (l::S) w w'→Ints .i64 0 w' (.slice aA A.length cA) A)(hCB:∀w',Upd (l::S) w w'→Ints .i64 0 w' (.slice aB B.length cB) B)(hlt:(xh<H.length∧xi≤A.length∧xk≤B.length)∧H.length≤1000∧A.length≤1000∧B.length≤1000)(hJ:J (H8 A B (H.getD xh 0) (xh,xi,xk)) w)(hxJ:∀r,Bl w.heap.size (J r))(hxQ:Bl w.heap.size Q)(hy:∀m r w1,m∈H8 A B (H.getD xh 0) (xh,xi,xk)→J (m::r) w1→Upd (l::S) w w1→Dl Try.prog l #[mvP m,key3 m.2] w1 (fun v w2=>Upd (l::S) w1 w2∧((v=.bool true∧J r w2)∨(v=.bool false∧Q w2)))):Fn Try.prog 139 #[(.func (.yield l) #[] #[]),(.pointer (some ⟨bx,ox,none⟩)),(.pointer (some ⟨bd,od,none⟩))] w (fun _ w'=>Upd (l::S) w w'∧(J [] w'∨Q w')):=by
 refine Fn.ofSt (c:=c122) 78 B7f [(0,(.func (.yield l) #[] #[])),(1,(.pointer (some ⟨bx,ox,none⟩))),(2,(.pointer (some ⟨bd,od,none⟩)))] Try.func139 (by kernel_rfl) ⟨⟨rfl,by kernel_rfl⟩,by kernel_rfl⟩ (by kernel_rfl) ?_
 intro cs
 have hl0:=hS l (by simp)
 refine St.reg B63 [(0,false)] (by kernel_rfl) (by kernel_rfl) ?_
 refine RX.new 3 (.cells #[(.func (.yield l) #[] #[])] 210) (.ptr) [(0,(.func (.yield l) #[] #[])),(1,(.pointer (some ⟨bx,ox,none⟩))),(2,(.pointer (some ⟨bd,od,none⟩)))] (by kernel_rfl) ?_
 intro b1 w2 hn3
 have:=hn3.size;have:=hn3.at_
 have hb4:Blk w2 b1 [(.func (.yield l) #[] #[])] 210:=hn3.blk
 refine RX.done [(3,(.pointer (some ⟨b1,0,none⟩))),(1,(.pointer (some ⟨bx,ox,none⟩))),(2,(.pointer (some ⟨bd,od,none⟩)))] (by kernel_rfl) (by kernel_rfl) ?_
 refine St.reg B7b [(0,true),(1,true),(2,true),(3,true),(4,true),(5,true),(6,true),(7,true),(8,true),(9,true),(10,false),(11,true)] (by kernel_rfl) (by kernel_rfl) ?_
 have hE5:Upd (l::S) w w2:=(Upd.ext (Upd.refl (l::S) w) hn3.ext)
 have hb6:Cl w2 bx ox [(.int .i64 (↑xh:Int)),(.int .i64 (↑xi:Int)),(.int .i64 (↑xk:Int))]:=hbx w2 hE5
 refine RX.q 10 [(0,true,(.func (.yield l) #[] #[])),(3,true,(.int .i64 (↑xh:Int))),(4,false,(.int .i64 ((↑xh:Int)+1))),(6,true,(.int .i64 (↑xi:Int))),(8,true,(.int .i64 (↑xk:Int)))] [(1,(.pointer (some ⟨bx,ox,none⟩))),(2,(.pointer (some ⟨bd,od,none⟩))),(3,(.pointer (some ⟨b1,0,none⟩))),(6,(.func (.yield l) #[] #[])),(7,(.agg #[(.int .i64 3),(.int .i64 0)])),(15,(.agg #[(.int .i64 ((↑xh:Int)+1)),(.int .i64 (↑xi:Int)),(.int .i64 (↑xk:Int))]))] [.cell ⟨b1,0,none⟩ (.func (.yield l) #[] #[]),.cell ⟨bx,ox+0,none⟩ (.int .i64 (↑xh:Int)),.eq (.int .i64 (IntKind.i64.wrap ((↑xh:Int)+1))) (.int .i64 ((↑xh:Int)+1)),.cell ⟨bx,ox+1,none⟩ (.int .i64 (↑xi:Int)),.cell ⟨bx,ox+2,none⟩ (.int .i64 (↑xk:Int))] (by kernel_rfl) ⟨Blk.cell hb4 rfl,Cl.cell hb6 rfl,int64 (by omega),Cl.cell hb6 rfl,Cl.cell hb6 rfl⟩ ?_
 have hD7:J (H8 A B (H.getD xh 0) (xh,xi,xk)) w2:=(Bl.ext (hxJ _) hJ hn3.ext)
 refine RX.yield 16 l #[mvP ((3,0),(xh+1,xi,xk)),key3 (((3,0),(xh+1,xi,xk))).2] [(1,(.pointer (some ⟨bx,ox,none⟩))),(2,(.pointer (some ⟨bd,od,none⟩))),(3,(.pointer (some ⟨b1,0,none⟩))),(6,(.func (.yield l) #[] #[])),(7,(.agg #[(.int .i64 3),(.int .i64 0)])),(15,(.agg #[(.int .i64 ((↑xh:Int)+1)),(.int .i64 (↑xi:Int)),(.int .i64 (↑xk:Int))]))] (by kernel_rfl) ?_
 refine Dl.mono (hy ((3,0),(xh+1,xi,xk)) ((As A (H.getD xh 0) xi).map (fun(j:Nat)=>(((1:Int),(j:Int)),((xh+1,j+1,xk):At3)))++(As B (H.getD xh 0) xk).map (fun(j:Nat)=>(((2:Int),(j:Int)),((xh+1,xi,j+1):At3)))) w2 (List.mem_cons_self ..) hD7 hE5) ?_
 rintro _ w8 ⟨hu9,⟨rfl,hv10⟩ | ⟨rfl,hv10⟩⟩
 have:=hu9.size
 ·refine RX.q 1 [] [(1,(.pointer (some ⟨bx,ox,none⟩))),(2,(.pointer (some ⟨bd,od,none⟩))),(3,(.pointer (some ⟨b1,0,none⟩))),(17,(.bool false))] [] (by kernel_rfl) trivial ?_
  refine RX.done [(1,(.pointer (some ⟨bx,ox,none⟩))),(2,(.pointer (some ⟨bd,od,none⟩))),(3,(.pointer (some ⟨b1,0,none⟩))),(17,(.bool false))] (by kernel_rfl) (by kernel_rfl) ?_
  refine St.cond (k1:=B03) (k2:=Azy) false (by kernel_rfl) (fun hc=>?_) (fun hc=>?_)
  ·cases hc
  ·clear hc
   refine St.weak (L':=[(1,(.pointer (some ⟨bx,ox,none⟩))),(2,(.pointer (some ⟨bd,od,none⟩))),(3,(.pointer (some ⟨b1,0,none⟩)))]) (by kernel_rfl) ?_
   refine St.drw Aro [] [(0,true),(1,true),(2,true),(3,true),(4,true),(5,true),(6,true),(7,true),(8,true),(9,true),(10,true),(11,true),(12,true),(13,true),(14,true),(15,false)] mixed (by kernel_rfl) (by kernel_rfl) ?_
   intro w11 hd12 hds13
   have hE14:Upd (l::S) w w11:=(Upd.ext (Upd.trans hE5 hu9) hd12)
   have hb15:Cl w11 bd od [(.pointer (some ⟨d,oo,none⟩))]:=hbd w11 hE14
   have hb16:Cl w11 d oo [vt,(.slice aH H.length cH),(.int .i64 f),(.slice aA A.length cA),(.slice aB B.length cB)]:=hd w11 hE14
   have hb17:Cl w11 bx ox [(.int .i64 (↑xh:Int)),(.int .i64 (↑xi:Int)),(.int .i64 (↑xk:Int))]:=hbx w11 hE14
   have hD18:Ints .i64 0 w11 (.slice aH H.length cH) H:=hCH w11 hE14
   obtain⟨b19,o20,hl21,hl22,hi23,hc24⟩:=Ints.at (P:=Try.prog) (t:=23) (e:=3) hD18 (by kernel_rfl) (by kernel_rfl) xh (by omega)
   refine RX.qd 15 [(0,true,(.pointer (some ⟨d,oo,none⟩))),(3,true,(.slice aA A.length cA)),(5,true,(.int .i64 (↑xi:Int))),(6,true,(.pointer (some ⟨d,oo,none⟩))),(10,true,(.slice aH H.length cH)),(12,true,(.int .i64 (↑xh:Int))),(13,true,(.pointer (some ⟨b19,o20,none⟩))),(14,true,(.int .i64 (H.getD xh 0)))] [(1,(.pointer (some ⟨bx,ox,none⟩))),(2,(.pointer (some ⟨bd,od,none⟩))),(3,(.pointer (some ⟨b1,0,none⟩))),(21,(.slice aA A.length cA)),(23,(.int .i64 (↑xi:Int))),(32,(.int .i64 (H.getD xh 0)))] [.cell ⟨bd,od+0,none⟩ (.pointer (some ⟨d,oo,none⟩)),.cell ⟨d,oo+3,none⟩ (.slice aA A.length cA),.cell ⟨bx,ox+1,none⟩ (.int .i64 (↑xi:Int)),.cell ⟨bd,od+0,none⟩ (.pointer (some ⟨d,oo,none⟩)),.cell ⟨d,oo+1,none⟩ (.slice aH H.length cH),.cell ⟨bx,ox+0,none⟩ (.int .i64 (↑xh:Int)),.raw (Instr.indexAt 23 (.slice aH H.length cH) (.int .i64 (↑xh:Int))) (.pointer (some ⟨b19,o20,none⟩)),.cell ⟨b19,o20,none⟩ (.int .i64 (H.getD xh 0))] (by kernel_rfl) ⟨Cl.cell hb15 rfl,Cl.cell hb16 rfl,Cl.cell hb17 rfl,Cl.cell hb15 rfl,Cl.cell hb16 rfl,Cl.cell hb17 rfl,hi23 _,hc24⟩ ⟨List.not_mem_nil,List.not_mem_nil,List.not_mem_nil,List.not_mem_nil,List.not_mem_nil,List.not_mem_nil,fun w' _=>hi23 w',List.not_mem_nil⟩ ?_
   refine RX.callD 33 140 #[(.slice aA A.length cA),(.int .i64 (↑xi:Int)),(.int .i64 (H.getD xh 0))] [(1,(.pointer (some ⟨bx,ox,none⟩))),(2,(.pointer (some ⟨bd,od,none⟩))),(3,(.pointer (some ⟨b1,0,none⟩))),(21,(.slice aA A.length cA)),(23,(.int .i64 (↑xi:Int))),(32,(.int .i64 (H.getD xh 0)))] (fun _=>by kernel_rfl) (by kernel_rfl) ?_
   refine Fn.mono (Acg aA A.length cA (↑xi:Int) (H.getD xh 0) w11) ?_
   rintro _ w25 ⟨b27,b28,b29,rfl,hb30,hb31,hb32,hz33,hx26⟩
   refine⟨hx26.up,?_⟩
   have:=hx26.size
   have:=A5 hb30;have:=A5 hb31;have:=A5 hb32
   refine RX.done [(33,(.func (.func 154) #[] #[(.pointer (some ⟨b27,0,none⟩)),(.pointer (some ⟨b28,0,none⟩)),(.pointer (some ⟨b29,0,none⟩))])),(1,(.pointer (some ⟨bx,ox,none⟩))),(2,(.pointer (some ⟨bd,od,none⟩))),(3,(.pointer (some ⟨b1,0,none⟩)))] (by kernel_rfl) (by kernel_rfl) ?_
   refine St.rangeFunc (g:=.tmp 33) (ps:=#[34]) (assign:=(sub c122 [1,1,0,1,0,0])) (body:=(sub c122 [1,1,0,1,0,1])) (k:=Aro.tail) 154 #[] #[(.pointer (some ⟨b27,0,none⟩)),(.pointer (some ⟨b28,0,none⟩)),(.pointer (some ⟨b29,0,none⟩))] rfl (by kernel_rfl) (by kernel_rfl) (fun _=>by kernel_rfl) ?_
   intro tm34 w35 htm36 hx37 hsz38 hD39 hL40
   obtain⟨D41,hDe42⟩:∃D,D=w25.heap.size:=⟨_,rfl⟩
   rw[←hDe42]at hsz38 hD39 hL40 ⊢
   have hl43:w35.heap[D41+1]?=some (.loop (lrec 139 tm34 #[34] (sub c122 [1,1,0,1,0,0]) (sub c122 [1,1,0,1,0,1]) D41 .ready none)):=hL40
   clear hL40
   have:=hx37.size
   have hD44:J ((As A (H.getD xh 0) xi).map (fun(j:Nat)=>(((1:Int),(j:Int)),((xh+1,j+1,xk):At3)))++(As B (H.getD xh 0) xk).map (fun(j:Nat)=>(((2:Int),(j:Int)),((xh+1,xi,j+1):At3)))) w35:=(Bl.ext (hxJ _) (Bl.ext (hxJ _) (Bl.ext (hxJ _) hv10 hd12) hx26) hx37)
   have hb45:Blk w35 b1 [(.func (.yield l) #[] #[])] 210:=(Ext.blk hx37 (Ext.blk hx26 (Ext.blk hd12 (Upd.blk hu9 hb4 (fun hk=>by have:=hS _ hk;omega)))))
   have hE46:Upd (l::S) w w35:=(Upd.ext (Upd.ext hE14 hx26) hx37)
   have hb47:Blk w35 b27 [(.int .i64 (↑xi:Int))] 3:=(Ext.blk hx37 hb30)
   have hb48:Blk w35 b28 [(.slice aA A.length cA)] 23:=(Ext.blk hx37 hb31)
   have hb49:Blk w35 b29 [(.int .i64 (H.getD xh 0))] 3:=(Ext.blk hx37 hb32)
   refine Fn.mono (A1i (D41+1) b27 b28 b29 cA aA A xi (H.getD xh 0) (l::S) (fun r wv=>wv.heap[D41+1]?=some (.loop (lrec 139 tm34 #[34] (sub c122 [1,1,0,1,0,0]) (sub c122 [1,1,0,1,0,1]) D41 .ready none))∧J (r.map (fun(j:Nat)=>(((1:Int),(j:Int)),((xh+1,j+1,xk):At3)))++(As B (H.getD xh 0) xk).map (fun(j:Nat)=>(((2:Int),(j:Int)),((xh+1,xi,j+1):At3)))) wv) (fun wv=>wv.heap[D41+1]?=some (.loop (lrec 139 tm34 #[34] (sub c122 [1,1,0,1,0,0]) (sub c122 [1,1,0,1,0,1]) D41 .done (some .ret)))∧Q wv) w35 hb47 hb48 hb49 (by refine⟨by omega,?_⟩;refine⟨fun hk=>?_,fun hk=>?_,fun hk=>?_⟩<;>(have:=hS _ hk;omega)) (fun w' hu=>hCA w' (Upd.upd hE46 hu (by intro k hk;rcases List.mem_cons.1 hk with rfl | hk;exact .inl (by omega);exact .inr hk))) (by omega) ⟨hl43,hD44⟩ ?_ ?_) ?_
   ·intro r wa wb hj he
    exact⟨he.blk hj.1,Bl.ext (hxJ _) hj.2 he⟩
   ·rintro k50 r51 wa52 hk53 ⟨hl54,hj55⟩ hU56
    have hE57:Upd (l::S) w wa52:=Upd.upd hE46 hU56 (by intro k hk;rcases List.mem_cons.1 hk with rfl | hk;exact .inl (by omega);first | exact .inr hk | (simp only[List.mem_cons,List.not_mem_nil,or_false]at hk ⊢;omega))
    have:=hU56.size
    refine Dl.one B6q [(34,(.int .i64 (↑k50:Int))),(33,(.func (.func 154) #[] #[(.pointer (some ⟨b27,0,none⟩)),(.pointer (some ⟨b28,0,none⟩)),(.pointer (some ⟨b29,0,none⟩))])),(1,(.pointer (some ⟨bx,ox,none⟩))),(2,(.pointer (some ⟨bd,od,none⟩))),(3,(.pointer (some ⟨b1,0,none⟩)))] hl54 htm36 (by kernel_rfl) (by kernel_rfl) (fun c cs=>?_)
    have hb58:Blk wa52 b1 [(.func (.yield l) #[] #[])] 210:=hU56.blk hb45 (fun hk=>by rcases List.mem_cons.1 hk with hk | hk;omega;have:=hS _ hk;omega)
    have hkk:=D9.1 hk53
    refine St.weak (L':=[(34,(.int .i64 (↑k50:Int))),(1,(.pointer (some ⟨bx,ox,none⟩))),(3,(.pointer (some ⟨b1,0,none⟩)))]) (by kernel_rfl) ?_
    refine St.reg B6x [(0,true)] (by kernel_rfl) (by kernel_rfl) ?_
    refine RX.q 1 [] [(1,(.pointer (some ⟨bx,ox,none⟩))),(3,(.pointer (some ⟨b1,0,none⟩))),(4,(.int .i64 (↑k50:Int)))] [] (by kernel_rfl) trivial ?_
    refine RX.done [(1,(.pointer (some ⟨bx,ox,none⟩))),(3,(.pointer (some ⟨b1,0,none⟩))),(4,(.int .i64 (↑k50:Int)))] (by kernel_rfl) (by kernel_rfl) ?_
    refine St.beginRound (k':=B5u) hl54 rfl (by kernel_rfl) ?_
    intro w59 hp60
    have hl61:w59.heap[D41+1]?=some (.loop (lrec 139 tm34 #[34] (sub c122 [1,1,0,1,0,0]) (sub c122 [1,1,0,1,0,1]) D41 .busy none)):=hp60.blk
    have:=hp60.size
    have hJ62:=Bl.put (hxJ _) hj55 hp60 (by omega) hl54
    refine St.reg B4q [(0,true),(1,true),(2,true),(3,true),(4,true),(5,true),(6,true),(7,true),(8,true),(9,true),(10,true),(11,false),(12,true)] (by kernel_rfl) (by kernel_rfl) ?_
    have hb63:Blk w59 b1 [(.func (.yield l) #[] #[])] 210:=(Upd.blk hp60.upd hb58 (by simp<;>omega))
    have hE64:Upd (l::S) w w59:=(Upd.upd hE57 hp60.upd (by intro k hk;simp at hk;first | (left;omega) | (right;simp<;>omega)))
    have hb65:Cl w59 bx ox [(.int .i64 (↑xh:Int)),(.int .i64 (↑xi:Int)),(.int .i64 (↑xk:Int))]:=hbx w59 hE64
    refine RX.q 11 [(0,true,(.func (.yield l) #[] #[])),(4,true,(.int .i64 (↑xh:Int))),(5,false,(.int .i64 ((↑xh:Int)+1))),(7,false,(.int .i64 ((↑k50:Int)+1))),(9,true,(.int .i64 (↑xk:Int)))] [(35,(.func (.yield l) #[] #[])),(37,(.agg #[(.int .i64 1),(.int .i64 (↑k50:Int))])),(45,(.agg #[(.int .i64 ((↑xh:Int)+1)),(.int .i64 ((↑k50:Int)+1)),(.int .i64 (↑xk:Int))]))] [.cell ⟨b1,0,none⟩ (.func (.yield l) #[] #[]),.cell ⟨bx,ox+0,none⟩ (.int .i64 (↑xh:Int)),.eq (.int .i64 (IntKind.i64.wrap ((↑xh:Int)+1))) (.int .i64 ((↑xh:Int)+1)),.eq (.int .i64 (IntKind.i64.wrap ((↑k50:Int)+1))) (.int .i64 ((↑k50:Int)+1)),.cell ⟨bx,ox+2,none⟩ (.int .i64 (↑xk:Int))] (by kernel_rfl) ⟨Blk.cell hb63 rfl,Cl.cell hb65 rfl,int64 (by omega),int64 (by omega),Cl.cell hb65 rfl⟩ ?_
    refine RX.yield 46 l #[mvP ((fun(j:Nat)=>(((1:Int),(j:Int)),((xh+1,j+1,xk):At3))) k50),key3 ((fun(j:Nat)=>(((1:Int),(j:Int)),((xh+1,j+1,xk):At3))) k50).2] [(35,(.func (.yield l) #[] #[])),(37,(.agg #[(.int .i64 1),(.int .i64 (↑k50:Int))])),(45,(.agg #[(.int .i64 ((↑xh:Int)+1)),(.int .i64 ((↑k50:Int)+1)),(.int .i64 (↑xk:Int))]))] (by kernel_rfl) ?_
    refine Dl.mono (hy ((fun(j:Nat)=>(((1:Int),(j:Int)),((xh+1,j+1,xk):At3))) k50) (r51.map (fun(j:Nat)=>(((1:Int),(j:Int)),((xh+1,j+1,xk):At3)))++(As B (H.getD xh 0) xk).map (fun(j:Nat)=>(((2:Int),(j:Int)),((xh+1,xi,j+1):At3)))) w59 (List.mem_cons_of_mem _ (List.mem_append_left _ (List.mem_map_of_mem hk53))) hJ62 hE64) ?_
    rintro _ w66 ⟨hu67,⟨rfl,hv68⟩ | ⟨rfl,hv68⟩⟩
    have:=hu67.size
    ·refine RX.q 1 [] [(47,(.bool false))] [] (by kernel_rfl) trivial ?_
     refine RX.done [(47,(.bool false))] (by kernel_rfl) (by kernel_rfl) ?_
     refine St.cond (k1:=Ath) (k2:=X0) false (by kernel_rfl) (fun hc=>?_) (fun hc=>?_)
     ·cases hc
     ·clear hc
      refine St.weak (L':=[]) (by kernel_rfl) ?_
      have hb69:w66.heap[D41+1]?=some (.loop (lrec 139 tm34 #[34] (sub c122 [1,1,0,1,0,0]) (sub c122 [1,1,0,1,0,1]) D41 .busy none)):=(Upd.blk hu67 hl61 (fun hk=>by have:=hS _ hk;omega))
      refine St.roundEnd hb69 ?_
      intro w70 hp71
      have:=hp71.size
      exact⟨(Upd.upd (Upd.upd (Upd.upd (Upd.refl ((D41+1)::(l::S)) wa52) hp60.upd (by intro k hk;simp at hk;first | (left;omega) | (right;simp<;>omega))) hu67 (by intro k hk;right;simp at hk ⊢;first | exact .inr hk | (rcases hk with hk | hk<;>simp[hk]))) hp71.upd (by intro k hk;simp at hk;first | (left;omega) | (right;simp<;>omega))),.inl ⟨rfl,hp71.blk,(Bl.put (hxJ _) hv68 hp71 (by omega) hb69)⟩⟩
    ·refine RX.q 1 [] [(47,(.bool true))] [] (by kernel_rfl) trivial ?_
     refine RX.done [(47,(.bool true))] (by kernel_rfl) (by kernel_rfl) ?_
     refine St.cond (k1:=Ath) (k2:=X0) true (by kernel_rfl) (fun hc=>?_) (fun hc=>?_)
     ·clear hc
      refine St.weak (L':=[]) (by kernel_rfl) ?_
      have hb72:w66.heap[D41+1]?=some (.loop (lrec 139 tm34 #[34] (sub c122 [1,1,0,1,0,0]) (sub c122 [1,1,0,1,0,1]) D41 .busy none)):=(Upd.blk hu67 hl61 (fun hk=>by have:=hS _ hk;omega))
      refine St.roundRet hb72 ?_
      intro w73 hp74
      have:=hp74.size
      exact⟨(Upd.upd (Upd.upd (Upd.upd (Upd.refl ((D41+1)::(l::S)) wa52) hp60.upd (by intro k hk;simp at hk;first | (left;omega) | (right;simp<;>omega))) hu67 (by intro k hk;right;simp at hk ⊢;first | exact .inr hk | (rcases hk with hk | hk<;>simp[hk]))) hp74.upd (by intro k hk;simp at hk;first | (left;omega) | (right;simp<;>omega))),.inr ⟨rfl,hp74.blk,(Bl.put hxQ hv68 hp74 (by omega) hb72)⟩⟩
     ·cases hc
   ·rintro _ w75 ⟨hU76,⟨hl77,hJ78⟩ | ⟨hl79,hQ80⟩⟩
    ·refine⟨_,hl77,by simp[lrec],fun w81 hp82=>?_⟩
     have:=hU76.size;have:=hp82.size
     have hE83:Upd (l::S) w w81:=Upd.upd (Upd.upd hE46 hU76 (by intro k hk;rcases List.mem_cons.1 hk with rfl | hk;exact .inl (by omega);first | exact .inr hk | (simp only[List.mem_cons,List.not_mem_nil,or_false]at hk ⊢;omega))) hp82.upd (by intro k hk;simp at hk;left;omega)
     have hD84:w81.heap[D41]?=some (.deferred (some [])):=hp82.upd.blk (hU76.blk hD39 (fun hk=>by rcases List.mem_cons.1 hk with hk | hk;omega;have:=hS _ hk;omega)) (by simp)
     have hJ85:J ([].map (fun(j:Nat)=>(((1:Int),(j:Int)),((xh+1,j+1,xk):At3)))++(As B (H.getD xh 0) xk).map (fun(j:Nat)=>(((2:Int),(j:Int)),((xh+1,xi,j+1):At3)))) w81:=Bl.put (hxJ _) hJ78 hp82 (by omega) hl77
     have hb86:Blk w81 b1 [(.func (.yield l) #[] #[])] 210:=hp82.upd.blk (hU76.blk hb45 (fun hk=>by rcases List.mem_cons.1 hk with hk | hk;omega;have:=hS _ hk;omega)) (by simp;omega)
     refine At.norm 99 (k':=B5k) (by kernel_rfl) ?_
     refine St.toAt (n:=78) (L:=[(33,(.func (.func 154) #[] #[(.pointer (some ⟨b27,0,none⟩)),(.pointer (some ⟨b28,0,none⟩)),(.pointer (some ⟨b29,0,none⟩))])),(1,(.pointer (some ⟨bx,ox,none⟩))),(2,(.pointer (some ⟨bd,od,none⟩))),(3,(.pointer (some ⟨b1,0,none⟩)))]) ?_ htm36
     refine St.weak (L':=[(1,(.pointer (some ⟨bx,ox,none⟩))),(2,(.pointer (some ⟨bd,od,none⟩))),(3,(.pointer (some ⟨b1,0,none⟩)))]) (by kernel_rfl) ?_
     refine St.drw Ahc [] [(0,true),(1,true),(2,true),(3,true),(4,true),(5,true),(6,true),(7,true),(8,true),(9,true),(10,true),(11,true),(12,true),(13,true),(14,true),(15,false)] mixed (by kernel_rfl) (by kernel_rfl) ?_
     intro w87 hd88 hds89
     have hE90:Upd (l::S) w w87:=(Upd.ext hE83 hd88)
     have hb91:Cl w87 bd od [(.pointer (some ⟨d,oo,none⟩))]:=hbd w87 hE90
     have hb92:Cl w87 d oo [vt,(.slice aH H.length cH),(.int .i64 f),(.slice aA A.length cA),(.slice aB B.length cB)]:=hd w87 hE90
     have hb93:Cl w87 bx ox [(.int .i64 (↑xh:Int)),(.int .i64 (↑xi:Int)),(.int .i64 (↑xk:Int))]:=hbx w87 hE90
     have hD94:Ints .i64 0 w87 (.slice aH H.length cH) H:=hCH w87 hE90
     obtain⟨b95,o96,hl97,hl98,hi99,hc100⟩:=Ints.at (P:=Try.prog) (t:=23) (e:=3) hD94 (by kernel_rfl) (by kernel_rfl) xh (by omega)
     refine RX.qd 15 [(0,true,(.pointer (some ⟨d,oo,none⟩))),(3,true,(.slice aB B.length cB)),(5,true,(.int .i64 (↑xk:Int))),(6,true,(.pointer (some ⟨d,oo,none⟩))),(10,true,(.slice aH H.length cH)),(12,true,(.int .i64 (↑xh:Int))),(13,true,(.pointer (some ⟨b95,o96,none⟩))),(14,true,(.int .i64 (H.getD xh 0)))] [(1,(.pointer (some ⟨bx,ox,none⟩))),(3,(.pointer (some ⟨b1,0,none⟩))),(51,(.slice aB B.length cB)),(53,(.int .i64 (↑xk:Int))),(62,(.int .i64 (H.getD xh 0)))] [.cell ⟨bd,od+0,none⟩ (.pointer (some ⟨d,oo,none⟩)),.cell ⟨d,oo+4,none⟩ (.slice aB B.length cB),.cell ⟨bx,ox+2,none⟩ (.int .i64 (↑xk:Int)),.cell ⟨bd,od+0,none⟩ (.pointer (some ⟨d,oo,none⟩)),.cell ⟨d,oo+1,none⟩ (.slice aH H.length cH),.cell ⟨bx,ox+0,none⟩ (.int .i64 (↑xh:Int)),.raw (Instr.indexAt 23 (.slice aH H.length cH) (.int .i64 (↑xh:Int))) (.pointer (some ⟨b95,o96,none⟩)),.cell ⟨b95,o96,none⟩ (.int .i64 (H.getD xh 0))] (by kernel_rfl) ⟨Cl.cell hb91 rfl,Cl.cell hb92 rfl,Cl.cell hb93 rfl,Cl.cell hb91 rfl,Cl.cell hb92 rfl,Cl.cell hb93 rfl,hi99 _,hc100⟩ ⟨List.not_mem_nil,List.not_mem_nil,List.not_mem_nil,List.not_mem_nil,List.not_mem_nil,List.not_mem_nil,fun w' _=>hi99 w',List.not_mem_nil⟩ ?_
     refine RX.callD 63 140 #[(.slice aB B.length cB),(.int .i64 (↑xk:Int)),(.int .i64 (H.getD xh 0))] [(1,(.pointer (some ⟨bx,ox,none⟩))),(3,(.pointer (some ⟨b1,0,none⟩))),(51,(.slice aB B.length cB)),(53,(.int .i64 (↑xk:Int))),(62,(.int .i64 (H.getD xh 0)))] (fun _=>by kernel_rfl) (by kernel_rfl) ?_
     refine Fn.mono (Acg aB B.length cB (↑xk:Int) (H.getD xh 0) w87) ?_
     rintro _ w101 ⟨b103,b104,b105,rfl,hb106,hb107,hb108,hz109,hx102⟩
     refine⟨hx102.up,?_⟩
     have:=hx102.size
     have:=A5 hb106;have:=A5 hb107;have:=A5 hb108
     refine RX.done [(63,(.func (.func 154) #[] #[(.pointer (some ⟨b103,0,none⟩)),(.pointer (some ⟨b104,0,none⟩)),(.pointer (some ⟨b105,0,none⟩))])),(1,(.pointer (some ⟨bx,ox,none⟩))),(3,(.pointer (some ⟨b1,0,none⟩)))] (by kernel_rfl) (by kernel_rfl) ?_
     refine St.rangeFunc (g:=.tmp 63) (ps:=#[64]) (assign:=(sub c122 [1,1,1,1,0,0])) (body:=(sub c122 [1,1,1,1,0,1])) (k:=Ahc.tail) 154 #[] #[(.pointer (some ⟨b103,0,none⟩)),(.pointer (some ⟨b104,0,none⟩)),(.pointer (some ⟨b105,0,none⟩))] rfl (by kernel_rfl) (by kernel_rfl) (fun _=>by kernel_rfl) ?_
     intro tm110 w111 htm112 hx113 hsz114 hD115 hL116
     obtain⟨D117,hDe118⟩:∃D,D=w101.heap.size:=⟨_,rfl⟩
     rw[←hDe118]at hsz114 hD115 hL116 ⊢
     have hl119:w111.heap[D117+1]?=some (.loop (lrec 139 tm110 #[64] (sub c122 [1,1,1,1,0,0]) (sub c122 [1,1,1,1,0,1]) D117 .ready none)):=hL116
     clear hL116
     have:=hx113.size
     have hD120:J ((As B (H.getD xh 0) xk).map (fun(j:Nat)=>(((2:Int),(j:Int)),((xh+1,xi,j+1):At3)))) w111:=(Bl.ext (hxJ _) (Bl.ext (hxJ _) (Bl.ext (hxJ _) hJ85 hd88) hx102) hx113)
     have hb121:Blk w111 b1 [(.func (.yield l) #[] #[])] 210:=(Ext.blk hx113 (Ext.blk hx102 (Ext.blk hd88 hb86)))
     have hb122:w111.heap[D41]?=some (.deferred (some [])):=(Ext.blk hx113 (Ext.blk hx102 (Ext.blk hd88 hD84)))
     have hE123:Upd (l::S) w w111:=(Upd.ext (Upd.ext hE90 hx102) hx113)
     have hb124:Blk w111 b103 [(.int .i64 (↑xk:Int))] 3:=(Ext.blk hx113 hb106)
     have hb125:Blk w111 b104 [(.slice aB B.length cB)] 23:=(Ext.blk hx113 hb107)
     have hb126:Blk w111 b105 [(.int .i64 (H.getD xh 0))] 3:=(Ext.blk hx113 hb108)
     refine Fn.mono (A1i (D117+1) b103 b104 b105 cB aB B xk (H.getD xh 0) (l::S) (fun r wv=>wv.heap[D117+1]?=some (.loop (lrec 139 tm110 #[64] (sub c122 [1,1,1,1,0,0]) (sub c122 [1,1,1,1,0,1]) D117 .ready none))∧J (r.map (fun(j:Nat)=>(((2:Int),(j:Int)),((xh+1,xi,j+1):At3)))) wv) (fun wv=>wv.heap[D117+1]?=some (.loop (lrec 139 tm110 #[64] (sub c122 [1,1,1,1,0,0]) (sub c122 [1,1,1,1,0,1]) D117 .done (some .ret)))∧Q wv) w111 hb124 hb125 hb126 (by refine⟨by omega,?_⟩;refine⟨fun hk=>?_,fun hk=>?_,fun hk=>?_⟩<;>(have:=hS _ hk;omega)) (fun w' hu=>hCB w' (Upd.upd hE123 hu (by intro k hk;rcases List.mem_cons.1 hk with rfl | hk;exact .inl (by omega);exact .inr hk))) (by omega) ⟨hl119,hD120⟩ ?_ ?_) ?_
     ·intro r wa wb hj he
      exact⟨he.blk hj.1,Bl.ext (hxJ _) hj.2 he⟩
     ·rintro k127 r128 wa129 hk130 ⟨hl131,hj132⟩ hU133
      have hE134:Upd (l::S) w wa129:=Upd.upd hE123 hU133 (by intro k hk;rcases List.mem_cons.1 hk with rfl | hk;exact .inl (by omega);first | exact .inr hk | (simp only[List.mem_cons,List.not_mem_nil,or_false]at hk ⊢;omega))
      have:=hU133.size
      refine Dl.one B3z [(64,(.int .i64 (↑k127:Int))),(63,(.func (.func 154) #[] #[(.pointer (some ⟨b103,0,none⟩)),(.pointer (some ⟨b104,0,none⟩)),(.pointer (some ⟨b105,0,none⟩))])),(1,(.pointer (some ⟨bx,ox,none⟩))),(3,(.pointer (some ⟨b1,0,none⟩)))] hl131 htm112 (by kernel_rfl) (by kernel_rfl) (fun c cs=>?_)
      have hb135:Blk wa129 b1 [(.func (.yield l) #[] #[])] 210:=hU133.blk hb121 (fun hk=>by rcases List.mem_cons.1 hk with hk | hk;omega;have:=hS _ hk;omega)
      have hb136:wa129.heap[D41]?=some (.deferred (some [])):=hU133.blk hb122 (fun hk=>by rcases List.mem_cons.1 hk with hk | hk;omega;have:=hS _ hk;omega)
      have hkk:=D9.1 hk130
      refine St.weak (L':=[(64,(.int .i64 (↑k127:Int))),(1,(.pointer (some ⟨bx,ox,none⟩))),(3,(.pointer (some ⟨b1,0,none⟩)))]) (by kernel_rfl) ?_
      refine St.reg B2u [(0,true)] (by kernel_rfl) (by kernel_rfl) ?_
      refine RX.q 1 [] [(1,(.pointer (some ⟨bx,ox,none⟩))),(3,(.pointer (some ⟨b1,0,none⟩))),(5,(.int .i64 (↑k127:Int)))] [] (by kernel_rfl) trivial ?_
      refine RX.done [(1,(.pointer (some ⟨bx,ox,none⟩))),(3,(.pointer (some ⟨b1,0,none⟩))),(5,(.int .i64 (↑k127:Int)))] (by kernel_rfl) (by kernel_rfl) ?_
      refine St.beginRound (k':=B3c) hl131 rfl (by kernel_rfl) ?_
      intro w137 hp138
      have hl139:w137.heap[D117+1]?=some (.loop (lrec 139 tm110 #[64] (sub c122 [1,1,1,1,0,0]) (sub c122 [1,1,1,1,0,1]) D117 .busy none)):=hp138.blk
      have:=hp138.size
      have hJ140:=Bl.put (hxJ _) hj132 hp138 (by omega) hl131
      refine St.reg B3l [(0,true),(1,true),(2,true),(3,true),(4,true),(5,true),(6,true),(7,true),(8,true),(9,true),(10,true),(11,false),(12,true)] (by kernel_rfl) (by kernel_rfl) ?_
      have hb141:Blk w137 b1 [(.func (.yield l) #[] #[])] 210:=(Upd.blk hp138.upd hb135 (by simp<;>omega))
      have hE142:Upd (l::S) w w137:=(Upd.upd hE134 hp138.upd (by intro k hk;simp at hk;first | (left;omega) | (right;simp<;>omega)))
      have hb143:Cl w137 bx ox [(.int .i64 (↑xh:Int)),(.int .i64 (↑xi:Int)),(.int .i64 (↑xk:Int))]:=hbx w137 hE142
      refine RX.q 11 [(0,true,(.func (.yield l) #[] #[])),(4,true,(.int .i64 (↑xh:Int))),(5,false,(.int .i64 ((↑xh:Int)+1))),(7,true,(.int .i64 (↑xi:Int))),(9,false,(.int .i64 ((↑k127:Int)+1)))] [(65,(.func (.yield l) #[] #[])),(67,(.agg #[(.int .i64 2),(.int .i64 (↑k127:Int))])),(75,(.agg #[(.int .i64 ((↑xh:Int)+1)),(.int .i64 (↑xi:Int)),(.int .i64 ((↑k127:Int)+1))]))] [.cell ⟨b1,0,none⟩ (.func (.yield l) #[] #[]),.cell ⟨bx,ox+0,none⟩ (.int .i64 (↑xh:Int)),.eq (.int .i64 (IntKind.i64.wrap ((↑xh:Int)+1))) (.int .i64 ((↑xh:Int)+1)),.cell ⟨bx,ox+1,none⟩ (.int .i64 (↑xi:Int)),.eq (.int .i64 (IntKind.i64.wrap ((↑k127:Int)+1))) (.int .i64 ((↑k127:Int)+1))] (by kernel_rfl) ⟨Blk.cell hb141 rfl,Cl.cell hb143 rfl,int64 (by omega),Cl.cell hb143 rfl,int64 (by omega)⟩ ?_
      refine RX.yield 76 l #[mvP ((fun(j:Nat)=>(((2:Int),(j:Int)),((xh+1,xi,j+1):At3))) k127),key3 ((fun(j:Nat)=>(((2:Int),(j:Int)),((xh+1,xi,j+1):At3))) k127).2] [(65,(.func (.yield l) #[] #[])),(67,(.agg #[(.int .i64 2),(.int .i64 (↑k127:Int))])),(75,(.agg #[(.int .i64 ((↑xh:Int)+1)),(.int .i64 (↑xi:Int)),(.int .i64 ((↑k127:Int)+1))]))] (by kernel_rfl) ?_
      refine Dl.mono (hy ((fun(j:Nat)=>(((2:Int),(j:Int)),((xh+1,xi,j+1):At3))) k127) (r128.map (fun(j:Nat)=>(((2:Int),(j:Int)),((xh+1,xi,j+1):At3)))) w137 (List.mem_cons_of_mem _ (List.mem_append_right _ (List.mem_map_of_mem hk130))) hJ140 hE142) ?_
      rintro _ w144 ⟨hu145,⟨rfl,hv146⟩ | ⟨rfl,hv146⟩⟩
      have:=hu145.size
      ·refine RX.q 1 [] [(77,(.bool false))] [] (by kernel_rfl) trivial ?_
       refine RX.done [(77,(.bool false))] (by kernel_rfl) (by kernel_rfl) ?_
       refine St.cond (k1:=As9) (k2:=X0) false (by kernel_rfl) (fun hc=>?_) (fun hc=>?_)
       ·cases hc
       ·clear hc
        refine St.weak (L':=[]) (by kernel_rfl) ?_
        have hb147:w144.heap[D117+1]?=some (.loop (lrec 139 tm110 #[64] (sub c122 [1,1,1,1,0,0]) (sub c122 [1,1,1,1,0,1]) D117 .busy none)):=(Upd.blk hu145 hl139 (fun hk=>by have:=hS _ hk;omega))
        refine St.roundEnd hb147 ?_
        intro w148 hp149
        have:=hp149.size
        exact⟨(Upd.upd (Upd.upd (Upd.upd (Upd.refl ((D117+1)::(l::S)) wa129) hp138.upd (by intro k hk;simp at hk;first | (left;omega) | (right;simp<;>omega))) hu145 (by intro k hk;right;simp at hk ⊢;first | exact .inr hk | (rcases hk with hk | hk<;>simp[hk]))) hp149.upd (by intro k hk;simp at hk;first | (left;omega) | (right;simp<;>omega))),.inl ⟨rfl,hp149.blk,(Bl.put (hxJ _) hv146 hp149 (by omega) hb147)⟩⟩
      ·refine RX.q 1 [] [(77,(.bool true))] [] (by kernel_rfl) trivial ?_
       refine RX.done [(77,(.bool true))] (by kernel_rfl) (by kernel_rfl) ?_
       refine St.cond (k1:=As9) (k2:=X0) true (by kernel_rfl) (fun hc=>?_) (fun hc=>?_)
       ·clear hc
        refine St.weak (L':=[]) (by kernel_rfl) ?_
        have hb150:w144.heap[D117+1]?=some (.loop (lrec 139 tm110 #[64] (sub c122 [1,1,1,1,0,0]) (sub c122 [1,1,1,1,0,1]) D117 .busy none)):=(Upd.blk hu145 hl139 (fun hk=>by have:=hS _ hk;omega))
        refine St.roundRet hb150 ?_
        intro w151 hp152
        have:=hp152.size
        exact⟨(Upd.upd (Upd.upd (Upd.upd (Upd.refl ((D117+1)::(l::S)) wa129) hp138.upd (by intro k hk;simp at hk;first | (left;omega) | (right;simp<;>omega))) hu145 (by intro k hk;right;simp at hk ⊢;first | exact .inr hk | (rcases hk with hk | hk<;>simp[hk]))) hp152.upd (by intro k hk;simp at hk;first | (left;omega) | (right;simp<;>omega))),.inr ⟨rfl,hp152.blk,(Bl.put hxQ hv146 hp152 (by omega) hb150)⟩⟩
       ·cases hc
     ·rintro _ w153 ⟨hU154,⟨hl155,hJ156⟩ | ⟨hl157,hQ158⟩⟩
      ·refine⟨_,hl155,by simp[lrec],fun w159 hp160=>?_⟩
       have:=hU154.size;have:=hp160.size
       have hE161:Upd (l::S) w w159:=Upd.upd (Upd.upd hE123 hU154 (by intro k hk;rcases List.mem_cons.1 hk with rfl | hk;exact .inl (by omega);first | exact .inr hk | (simp only[List.mem_cons,List.not_mem_nil,or_false]at hk ⊢;omega))) hp160.upd (by intro k hk;simp at hk;left;omega)
       have hD162:w159.heap[D117]?=some (.deferred (some [])):=hp160.upd.blk (hU154.blk hD115 (fun hk=>by rcases List.mem_cons.1 hk with hk | hk;omega;have:=hS _ hk;omega)) (by simp)
       have hJ163:J ([].map (fun(j:Nat)=>(((2:Int),(j:Int)),((xh+1,xi,j+1):At3)))) w159:=Bl.put (hxJ _) hJ156 hp160 (by omega) hl155
       have hb164:Blk w159 b1 [(.func (.yield l) #[] #[])] 210:=hp160.upd.blk (hU154.blk hb121 (fun hk=>by rcases List.mem_cons.1 hk with hk | hk;omega;have:=hS _ hk;omega)) (by simp;omega)
       have hb165:w159.heap[D41]?=some (.deferred (some [])):=hp160.upd.blk (hU154.blk hb122 (fun hk=>by rcases List.mem_cons.1 hk with hk | hk;omega;have:=hS _ hk;omega)) (by simp;omega)
       refine At.norm 99 (k':=X0) (by kernel_rfl) ?_
       refine St.toAt (n:=78) (L:=[(63,(.func (.func 154) #[] #[(.pointer (some ⟨b103,0,none⟩)),(.pointer (some ⟨b104,0,none⟩)),(.pointer (some ⟨b105,0,none⟩))])),(1,(.pointer (some ⟨bx,ox,none⟩))),(3,(.pointer (some ⟨b1,0,none⟩)))]) ?_ htm112
       refine St.weak (L':=[]) (by kernel_rfl) ?_
       refine St.retMarks [D117,D41] [] [] (by kernel_rfl) Try.func139 (by kernel_rfl) (by simp<;>omega) (by simp[hD162,hb165]) ?_
       intro w166 hu167 hs168
       refine⟨.nil,?_⟩
       exact⟨Upd.upd hE161 hu167 (by intro k hk;simp at hk;left;omega),.inl (hxJ _ _ _ _ hJ163 hu167 (Di.cons (Di.cons (Di.nil _ _) (by omega) (fun _ _ _ e=>by rw[hb165]at e;cases e)) (by omega) (fun _ _ _ e=>by rw[hD162]at e;cases e)))⟩
      ·refine⟨_,hl157,by simp[lrec],fun w169 hp170=>?_⟩
       have:=hU154.size;have:=hp170.size
       have hE171:Upd (l::S) w w169:=Upd.upd (Upd.upd hE123 hU154 (by intro k hk;rcases List.mem_cons.1 hk with rfl | hk;exact .inl (by omega);first | exact .inr hk | (simp only[List.mem_cons,List.not_mem_nil,or_false]at hk ⊢;omega))) hp170.upd (by intro k hk;simp at hk;left;omega)
       have hD172:w169.heap[D117]?=some (.deferred (some [])):=hp170.upd.blk (hU154.blk hD115 (fun hk=>by rcases List.mem_cons.1 hk with hk | hk;omega;have:=hS _ hk;omega)) (by simp)
       have hJ173:Q w169:=Bl.put hxQ hQ158 hp170 (by omega) hl157
       have hb174:Blk w169 b1 [(.func (.yield l) #[] #[])] 210:=hp170.upd.blk (hU154.blk hb121 (fun hk=>by rcases List.mem_cons.1 hk with hk | hk;omega;have:=hS _ hk;omega)) (by simp;omega)
       have hb175:w169.heap[D41]?=some (.deferred (some [])):=hp170.upd.blk (hU154.blk hb122 (fun hk=>by rcases List.mem_cons.1 hk with hk | hk;omega;have:=hS _ hk;omega)) (by simp;omega)
       refine St.toAt (k:=.code .ret::Ahc.tail) (n:=78) (L:=[(63,(.func (.func 154) #[] #[(.pointer (some ⟨b103,0,none⟩)),(.pointer (some ⟨b104,0,none⟩)),(.pointer (some ⟨b105,0,none⟩))])),(1,(.pointer (some ⟨bx,ox,none⟩))),(3,(.pointer (some ⟨b1,0,none⟩)))]) ?_ htm112
       refine St.retMarks [D117,D41] [] [] (by kernel_rfl) Try.func139 (by kernel_rfl) (by simp<;>omega) (by simp[hD172,hb175]) ?_
       intro w176 hu177 hs178
       refine⟨.nil,?_⟩
       exact⟨Upd.upd hE171 hu177 (by intro k hk;simp at hk;left;omega),.inr (hxQ _ _ _ hJ173 hu177 (Di.cons (Di.cons (Di.nil _ _) (by omega) (fun _ _ _ e=>by rw[hb175]at e;cases e)) (by omega) (fun _ _ _ e=>by rw[hD172]at e;cases e)))⟩
    ·refine⟨_,hl79,by simp[lrec],fun w179 hp180=>?_⟩
     have:=hU76.size;have:=hp180.size
     have hE181:Upd (l::S) w w179:=Upd.upd (Upd.upd hE46 hU76 (by intro k hk;rcases List.mem_cons.1 hk with rfl | hk;exact .inl (by omega);first | exact .inr hk | (simp only[List.mem_cons,List.not_mem_nil,or_false]at hk ⊢;omega))) hp180.upd (by intro k hk;simp at hk;left;omega)
     have hD182:w179.heap[D41]?=some (.deferred (some [])):=hp180.upd.blk (hU76.blk hD39 (fun hk=>by rcases List.mem_cons.1 hk with hk | hk;omega;have:=hS _ hk;omega)) (by simp)
     have hJ183:Q w179:=Bl.put hxQ hQ80 hp180 (by omega) hl79
     have hb184:Blk w179 b1 [(.func (.yield l) #[] #[])] 210:=hp180.upd.blk (hU76.blk hb45 (fun hk=>by rcases List.mem_cons.1 hk with hk | hk;omega;have:=hS _ hk;omega)) (by simp;omega)
     refine St.toAt (k:=.code .ret::Aro.tail) (n:=78) (L:=[(33,(.func (.func 154) #[] #[(.pointer (some ⟨b27,0,none⟩)),(.pointer (some ⟨b28,0,none⟩)),(.pointer (some ⟨b29,0,none⟩))])),(1,(.pointer (some ⟨bx,ox,none⟩))),(2,(.pointer (some ⟨bd,od,none⟩))),(3,(.pointer (some ⟨b1,0,none⟩)))]) ?_ htm36
     refine St.retMarks [D41] [] [] (by kernel_rfl) Try.func139 (by kernel_rfl) (by simp<;>omega) (by simp[hD182]) ?_
     intro w185 hu186 hs187
     refine⟨.nil,?_⟩
     exact⟨Upd.upd hE181 hu186 (by intro k hk;simp at hk;left;omega),.inr (hxQ _ _ _ hJ183 hu186 (Di.cons (Di.nil _ _) (by omega) (fun _ _ _ e=>by rw[hD182]at e;cases e)))⟩
 ·refine RX.q 1 [] [(1,(.pointer (some ⟨bx,ox,none⟩))),(2,(.pointer (some ⟨bd,od,none⟩))),(3,(.pointer (some ⟨b1,0,none⟩))),(17,(.bool true))] [] (by kernel_rfl) trivial ?_
  refine RX.done [(1,(.pointer (some ⟨bx,ox,none⟩))),(2,(.pointer (some ⟨bd,od,none⟩))),(3,(.pointer (some ⟨b1,0,none⟩))),(17,(.bool true))] (by kernel_rfl) (by kernel_rfl) ?_
  refine St.cond (k1:=B03) (k2:=Azy) true (by kernel_rfl) (fun hc=>?_) (fun hc=>?_)
  ·clear hc
   refine St.weak (L':=[]) (by kernel_rfl) ?_
   refine St.ret [] [] (by kernel_rfl) Try.func139 (by kernel_rfl) .nil ?_
   have hE188:Upd (l::S) w w8:=(Upd.trans hE5 hu9)
   exact⟨hE188,.inr hv10⟩
  ·cases hc

end Go.Proofs.Ytgeijboidfadaaa

namespace Go.Proofs.Ytgeijboidfadaaa
set_option linter.all false
open Go

theorem Cl.of_seg{w:World}{b o:Nat}{ws us:List Value}{ty:TypeId}{z:Nat×Nat}(hb:w.heap[b]?=some (.cells ws.toArray ty z))(h:Seg ws o us):Cl w b o us:=fun i v hi=>by
 have:=Seg.row hb h i v hi
 rwa [Au]at this
theorem Ah3{M:Nat→Option Obj}{l:List Int}{v:Value}{w:World}(h:RepS M 1 (RepC M (.int .i64)) l v)(hM:∀b o,M b=some o→w.heap[b]?=some o):Ints .i64 0 w v l:=by
 obtain⟨hl,a,cap,rfl,hc,h⟩:=h
 refine⟨a,cap,rfl,hc,by simp,?_⟩
 rcases h with rfl | ⟨b,o,vs,ty,rfl,hm,hx⟩
 ·exact .inl rfl
 ·have hb:=hM _ _ hm
  refine .inr ⟨b,o,rfl,Nat.zero_le _,A5 hb,fun i x hi=>?_⟩
  rw[List.getElem?_map]at hi
  obtain⟨y,hy,rfl⟩:=Option.map_eq_some_iff.1 hi
  obtain⟨us,hs,rfl,_⟩:=hx i y hy
  rw[Nat.mul_one]at hs
  have:=Cl.of_seg hb hs 0 (.int .i64 y) rfl
  rw[Au]
  simpa using this
abbrev AtT:Ty:=.pair (.int .i64) (.pair (.int .i64) (.int .i64))
abbrev B86:Ty:=.pair (.sl (.sl (.int .i64))) (.pair (.sl (.int .i64)) (.pair (.int .i64) (.pair (.sl (.int .i64)) (.sl (.int .i64)))))
abbrev Move:=(Int×Int×Unit)×(Int×Int×Int×Unit)×Unit
def movP(m:Mv):Move:=((m.1.1,m.1.2,()),((m.2.1:Int),(m.2.2.1:Int),(m.2.2.2:Int),()),())
def At4(x:Int×Int×Int)(d:List (List Int)×List Int×Int×List Int×List Int):Option (List Move):=
 if(0≤x.1∧x.1<d.2.1.length)∧(0≤x.2.1∧x.2.1≤d.2.2.2.1.length)∧(0≤x.2.2∧x.2.2≤d.2.2.2.2.length)∧d.2.1.length≤1000∧d.2.2.2.1.length≤1000∧d.2.2.2.2.length≤1000 then
  some ((H8 d.2.2.2.1 d.2.2.2.2 (d.2.1.getD x.1.toNat 0) (x.1.toNat,x.2.1.toNat,x.2.2.toNat)).map movP)else none
abbrev Ah4:Avr:={ f:=139,cap:=[.fe AtT,.fe (.ptr B86)],elem:=[.agg [.i .i64,.i .i64],.agg [.i .i64,.i .i64,.i .i64]],run:=fun p=>At4 p.1 p.2.1 }
theorem Df{n:Int}(h:-1000000≤n∧n≤1000000):inR .i64 n:=Fz.2 (by omega)
theorem Ao7:Aei Try.prog Ah4:=by
 refine⟨by rfl,fun _=>by kernel_rfl,fun p es hes g vs hvs l S J Q w hM hS hJ hxJ hxQ hy=>?_⟩
 obtain⟨x,d,u⟩:=p
 simp only[At4]at hes
 split at hes
 rotate_left
 ·cases hes
 rename_i hc
 simp only[Option.some.injEq]at hes
 subst hes
 obtain⟨⟨hh0,hh1⟩,⟨ha0,ha1⟩,⟨hb0,hb1⟩,hH,hA,hB⟩:=hc
 obtain⟨h,a,b⟩:=x
 obtain⟨T,H,f,A,B⟩:=d
 dsimp only at *
 obtain⟨xh,rfl⟩:∃n:Nat,h=n:=⟨h.toNat,(Int.toNat_of_nonneg hh0).symm⟩
 obtain⟨xi,rfl⟩:∃n:Nat,a=n:=⟨a.toNat,(Int.toNat_of_nonneg ha0).symm⟩
 obtain⟨xk,rfl⟩:∃n:Nat,b=n:=⟨b.toNat,(Int.toNat_of_nonneg hb0).symm⟩
 simp only[Int.toNat_natCast]at hJ ⊢
 simp only[encs,enc,RepVs,RepV]at hvs
 obtain⟨v1,r1,rfl,⟨bx,ox,wx,tx,ux,rfl,hbx,hsx,hcx⟩,v2,r2,rfl,⟨bd,od,wd,td,ud,rfl,hbd,hsd,hcd⟩,rfl⟩:=hvs
 obtain⟨u1,u2,rfl,⟨rfl,_⟩,u3,u4,rfl,⟨rfl,_⟩,⟨rfl,_⟩⟩:=hcx
 obtain⟨bo,oo,wo,to,uo,rfl,hbo,hso,hco⟩:=hcd
 obtain⟨t1,t2,rfl,⟨vt,rfl,hT⟩,t3,t4,rfl,⟨vH,rfl,hrH⟩,t5,t6,rfl,⟨rfl,_⟩,t7,t8,rfl,⟨vA,rfl,hrA⟩,⟨vB,rfl,hrB⟩⟩:=hco
 obtain⟨_,aH,cH,rfl,_⟩:=id hrH
 obtain⟨_,aA,cA,rfl,_⟩:=id hrA
 obtain⟨_,aB,cB,rfl,_⟩:=id hrB
 have hmem:∀w',Upd (l::S) w w'→∀b o,g.M b=some o→w'.heap[b]?=some o:=fun w' hu b o hb=>hu.blk (hM b o hb).2 (hM b o hb).1
 have hfn:=Azc l bx bd bo ox od oo xh xi xk aH aA aB cH cA cB vt f H A B S (fun r=>J (r.map movP)) Q w (fun w' hu=>Cl.of_seg (hmem w' hu _ _ hbx) hsx) (fun w' hu=>Cl.of_seg (hmem w' hu _ _ hbd) hsd) (fun w' hu=>Cl.of_seg (hmem w' hu _ _ hbo) hso) hS
  (fun w' hu=>Ah3 hrH (hmem w' hu)) (fun w' hu=>Ah3 hrA (hmem w' hu)) (fun w' hu=>Ah3 hrB (hmem w' hu)) (by omega) hJ (fun r=>hxJ _) hxQ (fun m r w1 hm hj hu=>hy (movP m) (r.map movP) w1 [mvP m,key3 m.2] hj hu ?_)
 ·exact hfn
 ·have hb:(m.1.1=3∨m.1.1=1∨m.1.1=2)∧(0≤m.1.2∧m.1.2≤1000)∧m.2.1≤1001∧m.2.2.1≤1001∧m.2.2.2≤1001:=by
   simp only[H8,List.mem_cons,List.mem_append,List.mem_map]at hm
   rcases hm with rfl | ⟨j,hj',rfl⟩ | ⟨j,hj',rfl⟩
   ·refine⟨.inl rfl,?_,?_⟩<;>dsimp only<;>omega
   ·have:=D9.1 hj'
    refine⟨.inr (.inl rfl),?_,?_⟩<;>dsimp only<;>omega
   ·have:=D9.1 hj'
    refine⟨.inr (.inr rfl),?_,?_⟩<;>dsimp only<;>omega
  obtain⟨⟨s,k⟩,h',a',b'⟩:=m
  dsimp only at hb
  refine⟨_,_,rfl,⟨_,rfl,[_],[_],rfl,⟨_,rfl,rfl,Df (by dsimp only[movP];omega)⟩,[_],[],rfl,⟨_,rfl,rfl,Df (by dsimp only[movP];omega)⟩,rfl⟩,_,_,rfl,⟨_,rfl,[_],[_,_],rfl,⟨_,rfl,rfl,Df (by dsimp only[movP];omega)⟩,[_],[_],rfl,⟨_,rfl,rfl,Df (by dsimp only[movP];omega)⟩,[_],[],rfl,⟨_,rfl,rfl,Df (by dsimp only[movP];omega)⟩,rfl⟩,rfl⟩
end Go.Proofs.Ytgeijboidfadaaa

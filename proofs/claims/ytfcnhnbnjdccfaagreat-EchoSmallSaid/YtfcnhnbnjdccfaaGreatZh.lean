/-
  Parts of a proof, put together: Shl, E5, Pl16, Pl17, Pl18, InQ, EG, ES, EMr, EM, EN, EN2, EN3, EN4, ET, EU.
  Conditions: none.
-/
import Derived.Ground.Names2Prog
import Derived.Shelf.Lay
import Derived.Shelf.Slices.Delete
import Derived.Test.YtfcnhnbnjdccfaaGreatZd
import Derived.Test.YtfcnhnbnjdccfaaGreatZe
import Derived.Test.YtfcnhnbnjdccfaaGreatZf
import Derived.Test.YtfcnhnbnjdccfaaGreatZg
namespace Go.Proofs.YtfcnhnbnjdccfaaGreat
open Go Go.Proofs

shelf_lay Lays2.n23 Nm2 23 at Tryz as layDel

theorem Fn.ofCalls{P:Program}{f:FuncId}{args:Array Value}{w:World}{R:Ending→World→Prop}{R':Value→World→Prop}(h:Calls P f args w R)(hr:∀e w',R e w'→∃v,e=.returned v∧R' v w'):Fn P f args w R':=by
 intro cs
 obtain⟨e,w',fr,r,s,x⟩:=h cs
 obtain⟨v,rfl,r'⟩:=hr e w' r
 exact⟨v,w',fr,r',s,x⟩
theorem A8w{M:Nat→Option Obj}{k:IntKind}:∀(l:List Int) (vs:List Value),RepL M (.int k) l vs→vs=l.map (.int k)∧∀x∈l,inR k x
 | [],vs,h=>⟨h,fun _ h=>by cases h⟩
 | x::l,vs,h=>by
  obtain⟨v1,v2,rfl,⟨rfl,h1⟩,h2⟩:=h
  obtain⟨rfl,h3⟩:=A8w l v2 h2
  refine⟨rfl,fun y hy=>?_⟩
  rcases List.mem_cons.1 hy with rfl | hy
  ·exact h1
  ·exact h3 y hy
theorem Tu{M:Nat→Option Obj}{k:IntKind}:∀(l:List Int),(∀x∈l,inR k x)→RepL M (.int k) l (l.map (.int k))
 | [],_=>rfl
 | x::l,h=>⟨[.int k x],l.map (.int k),rfl,⟨rfl,h x (by simp)⟩,Tu l (fun y hy=>h y (by simp[hy]))⟩
theorem A3h(enc:Int→Value)(d:List Int)(vs rest:List Value)(h:vs.length=d.length):«Sort».putCells enc 0 d.toArray (vs++rest).toArray=(d.map enc++rest).toArray:=by
 apply Array.ext_getElem?
 intro k
 simp only[«Sort».putCells,Array.getElem?_mapIdx,List.getElem?_toArray]
 by_cases c:k<d.length
 ·rw[List.getElem?_append_left (by omega),List.getElem?_append_left (by simpa using c),List.getElem?_eq_getElem (by omega),List.getElem?_map,List.getElem?_eq_getElem c]
  simp[c]
 ·rw[List.getElem?_append_right (by omega),List.getElem?_append_right (by simp;omega),List.length_map,h]
  cases rest[k-d.length]? with
  | none=>rfl
  | some v=>simp[c]
def Cm(_N:Nat)(i j:Int)(l:List Int):Option (List Int):=if 0≤i∧i≤j∧j≤l.length∧0<l.length then some (l.take i.toNat++l.drop j.toNat)else none
noncomputable def Afa(N:Nat):Spec:={ f:=101,ins:=⟨[.ols 0,.i .i64,.i .i64],[.lst (.int .i64)]⟩,outs:=[⟨[.ols 1],[.dead,.lst (.int .i64)]⟩],run:=fun p k=>(Cm N p.1.2.1 p.1.2.2.1 p.2.1).bind fun r=>k (((),()),((),r,())) }
theorem Sim.inPlace{g:Gh}{w w':World}{l l':List Int}{b c n:Nat}{vs rest rest':List Value}{ty:TypeId}{h0:Nat→Option Blk'}(hs:Sim g h0 w)(hh:∀i k,h0 i=some k→i=0)(h00:h0 0=some (.lst (.int .i64) l))(he:g.ρ 0=some (some (b,c,n)))(h1:g.ρ 1=none)(hM:g.M b=none)(hb:w.heap[b]?=some (.cells (vs++rest).toArray ty (0,0)))
  (hos:w'.os=w.os) (htp:w'.tape=w.tape) (hout:w'.output=w.output) (hsz:w.heap.size≤w'.heap.size) (hsame:∀i,i<w.heap.size→i≠b→w'.heap[i]?=w.heap[i]?) (hb':w'.heap[b]?=some (.cells ((l'.map (Value.int .i64))++rest').toArray ty (0,0))) (hr:∀x∈l',inR .i64 x) (hl:l'.length≤1000000) (hc:l'.length≤c∧c≤9223372036854775807) (hrl:rest'.length=c-l'.length) :
  ∃g',Stp (Sw g h0 (List.range 1)) (fun i=>1≤i∧i<2) g w g' w'∧Sim g' (fun i=>([.dead,.lst (.int .i64) l']:List Blk')[i]?) w'∧RepV g' (.ols 1) (.slice (some ⟨b,0,none⟩) l'.length c):=by
 have hSw:Sw g h0 (List.range 1) b:=⟨0,by simp,_,c,n,h00,rfl,he⟩
 refine⟨newG g 1 (some (b,c,l'.length)),⟨hos,htp,hout,hsz,fun i hi hn=>?_,Hm h1,fun i h2 h3=>?_,fun i b' c' n' h2 h3=>?_,fun b' o h2=>.inl h2⟩,⟨fun b' o h2=>?_,fun i k hk=>?_,fun i j ki kj b' ci ni cj nj hi hj mi mj ei ej=>?_⟩,.inr ⟨b,c,l'.length,Ad _ _ _,rfl⟩⟩
 ·exact hsame i hi (fun e=>hn (e▸hSw))
 ·by_cases e:i=1
  ·omega
  ·simp only[newG,if_neg e]at h3
   exact absurd h2 h3
 ·by_cases e:i=1
  ·subst e
   rw[Ad]at h3
   simp only[Option.some.injEq,Prod.mk.injEq]at h3
   exact .inr (h3.1▸hSw)
  ·simp only[newG,if_neg e]at h3
   rw[h2]at h3;cases h3
 ·have h2':g.M b'=some o:=h2
  have hbb:=hs.mem b' o h2'
  rw[hsame b' (A8 hbb) (fun e=>by rw[e,hM]at h2';cases h2')]
  exact hbb
 ·match i,hk with
  | 0,hk=>simp at hk;subst hk;trivial
  | 1,hk=>
   simp at hk;subst hk
   refine⟨hl,.inr ⟨b,c,l'.map (Value.int .i64),rest',ty,Ad _ _ _,hb',Tu l' hr,hc,?_,hM⟩⟩
   simp[Ty.cells,hrl]
  | i+2,hk=>simp at hk
 ·match i,j,hi,hj with
  | 0,_,hi,_=>simp at hi;subst hi;cases mi
  | _,0,_,hj=>simp at hj;subst hj;cases mj
  | 1,1,_,_=>rfl
  | i+2,_,hi,_=>simp at hi
  | _,j+2,_,hj=>simp at hj
theorem A4t(N:Nat):A2 Tryz.prog (Afa N):=by
 refine⟨fun Z p κ=>?_,fun args w=>Sem.pv_run _ _ _ (by kernel_rfl) w,fun p r hpr g w vs hv hs hρ=>?_⟩
 ·show((Cm N _ _ _).bind _)=((Cm N _ _ _).bind _).bind κ
  cases Cm N _ _ _<;>rfl
 ·obtain⟨⟨⟨⟩,(i:Int),(j:Int),⟨⟩⟩,(l:List Int),⟨⟩⟩:=p
  have hpr':((Cm N i j l).bind fun r=>some (((),()),((),r,())))=some r:=hpr
  unfold Cm at hpr'
  split at hpr'
  rotate_left
  ·cases hpr'
  rename_i hc
  simp only[Option.bind_some]at hpr'
  cases hpr'
  obtain⟨hi0,hij,hjl,hl0⟩:=hc
  -- the arguments
  simp only[encs,enc,RepVs]at hv
  obtain⟨v0,us,rfl,h0,v1,us1,rfl,h1,v2,us2,rfl,h2,rfl⟩:=hv
  simp only[RepV]at h0 h1 h2
  obtain⟨rfl,hi1⟩:=h1
  obtain⟨rfl,hj1⟩:=h2
  have hB:=hs.blk 0 (.lst (.int .i64) l) rfl
  obtain⟨hlen,hB⟩:=hB
  rcases hB with⟨_,e⟩ | ⟨b,c,cs,rest,ty,e0,hb,hL,hcap,hrest,hM⟩
  ·rw[e]at hl0;simp at hl0
  rcases h0 with⟨e,_⟩ | ⟨b2,c2,n2,e,rfl⟩
  ·simp only[id]at e;rw[e0]at e;cases e
  simp only[id]at e
  rw[e0]at e
  simp only[Option.some.injEq,Prod.mk.injEq]at e
  obtain⟨rfl,rfl,rfl⟩:=e
  obtain⟨rfl,hr⟩:=A8w l cs hL
  obtain⟨i,rfl⟩:∃k:Nat,i=k:=⟨i.toNat,by omega⟩
  obtain⟨j,rfl⟩:∃k:Nat,j=k:=⟨j.toNat,by omega⟩
  simp only[Int.toNat_natCast]at *
  have hholds:«Sort».Holds (Value.int .i64) w b 0 l.toArray:=by
   intro k hk
   simp only[List.size_toArray]at hk
   have hcell:(l.map (Value.int .i64)++rest)[k]?=some (.int .i64 l[k]!):=by
    rw[List.getElem?_append_left (by simpa using hk),List.getElem?_map,List.getElem?_eq_getElem hk]
    simp[hk]
   refine⟨?_,?_⟩
   ·unfold World.cell?
    rw[hb]
    simpa using hcell
   ·unfold World.frozen?
    rw[hb]
    simp
  have hC:=Any.slices_Delete_int layDel b 0 c i j l w hholds hcap.1 hcap.2 (by omega) (by omega)
  refine Fn.ofCalls hC (fun e w' he=>?_)
  obtain⟨rfl,q,hw⟩:=he
  refine⟨_,rfl,?_⟩
  have hsz:(l.take i++l.drop j).length=l.length-(j-i):=by simp;omega
  have hheap:w'.heap=w.heap.modify b («Sort».onCells («Sort».putCells (Value.int .i64) 0 (l.take i++l.drop j++List.replicate (j-i) 0).toArray)):=by rw[hw];rfl
  have hb':w'.heap[b]?=some (.cells (((l.take i++l.drop j).map (Value.int .i64))++((List.replicate (j-i) (0:Int)).map (Value.int .i64)++rest)).toArray ty (0,0)):=by
   rw[hheap,Array.getElem?_modify,if_pos rfl,hb]
   simp only[Option.map_some,«Sort».onCells]
   rw[A3h _ _ _ _ (by simp;omega),List.map_append,List.append_assoc]
  obtain⟨g',st,hs',hv'⟩:=Sim.inPlace (l':=l.take i++l.drop j) (w':=w') hs (fun i k hk=>by
   match i,hk with
   | 0,_=>rfl
   | i+1,hk=>
    have hk':([.lst (.int .i64) l]:List Blk')[i+1]?=some k:=hk
    simp at hk') rfl e0 (hρ 1 (Nat.le_refl 1)) hM hb (by rw[hw];rfl) (by rw[hw];rfl) (by rw[hw];rfl) (by rw[hheap];simp) (fun k hk hne=>by rw[hheap,Array.getElem?_modify,if_neg (fun h=>hne h.symm)]) hb' (fun x hx=>by
    rcases List.mem_append.1 hx with hx | hx
    ·exact hr x (List.mem_of_mem_take hx)
    ·exact hr x (List.mem_of_mem_drop hx)) (by omega) (by omega) (by simp[Ty.cells]at hrest ⊢;omega)
  refine⟨g',st,hs',?_⟩
  rw[hsz]at hv'
  exact hv'
end Go.Proofs.YtfcnhnbnjdccfaaGreat

namespace Go.Proofs.YtfcnhnbnjdccfaaGreat
set_option linter.all false
open Go

def thinned_l1(N:Nat):Nat→Qe→Int→Int→Int→Qe→Option Qe
 | 0,_,_,_,_,_=>none
 | n_+1,common,many,i,k,out=>
  br (decide (i<(out.length:Int)))
   (br (decide (0<many))
    (br (decide (k<(common.length:Int)))
     (rng i out.length<|
     get out i.toNat fun x_1=>
     idx common k fun x_2=>
     br (decide (x_1=x_2))
      (chk (i+1)<|
      chk (k+1)<|
      thinned_l1 N n_ common many (i+1) (k+1) out)
      (chk (i+1)<|
      (Cm N i (i+1) out).bind fun x_3=>
      chk (many-1)<|
      thinned_l1 N n_ common (many-1) i k x_3))
     (chk (i+1)<|
     (Cm N i (i+1) out).bind fun x_4=>
     chk (many-1)<|
     thinned_l1 N n_ common (many-1) i k x_4))
    (some (out)))
   (some (out))
def Il(N:Nat)(l common:List Int)(many:Int):Option Qe:=
 grd (lmI (l.length:Int))<|
 (thinned_l1 N N common many 0 0 (l.take (min l.length (List.replicate (l.length:Int).toNat (0:Int)).length)++(List.replicate (l.length:Int).toNat (0:Int)).drop (min l.length (List.replicate (l.length:Int).toNat (0:Int)).length))).bind fun out_5=>
 some out_5
noncomputable def Yq(N:Nat):Oks:=[⟨_,A4t N⟩]
abbrev A1g:List StSh:=[⟨[.ols 0],[.lst (.int .i64)]⟩]
noncomputable abbrev Af7:Body:=mkB Tryz.f79 A1g 0
noncomputable def A52(N:Nat){top:Bool}:LpQ Af7 top:=mkL (Z:=List Int) (Yq N) [] [.c [1,1,1,0,1,0,0,0,0],.c [1,1,1,0,1,0,0,0,1],.c [1,1,1,0,1,0,0,1],.l [1,1,1,0,1,0,0],.b 0,.c [1,1,1,1]] ⟨[1,2,7,8,9],⟨[.sl (.int .i64),.i .i64,.ols 0,.i .i64,.i .i64],[.lst (.int .i64)]⟩⟩ (fun m p=>thinned_l1 N m p.1.1 p.1.2.1 p.1.2.2.2.1 p.1.2.2.2.2.1 p.2.1) [⟨[.c [1,1,1,1,0],.c [1,1,1,1,1]],⟨[7],⟨[.ols 0],[.lst (.int .i64)]⟩⟩,fun p=>some (p.2.1)⟩] (fun _=>[]) (fun k e=>k (.inl (((),()),(e,())))) N (fun m p=>by kernel_rfl)
noncomputable def Abc(N:Nat):Spec:=mkS 79 ⟨[.sl (.int .i64),.sl (.int .i64),.i .i64],[]⟩ A1g (fun p=>Il N p.1.1 p.1.2.1 p.1.2.2.1) (fun k r=>k (((),()),(r,())))
theorem A0b(N:Nat):A2 Tryz.prog (Abc N):=mkF (R:=List Int) (m0:=0) (Yq N) [A52 N] (fun r=>some r.2.1) [] Tryz.func79 (fun p=>by kernel_rfl) (by kernel_rfl) (fun _=>by kernel_rfl)

def middle_S(N:Nat)(e:List Qe)(e2:List Int)(e3 a b:Int):Option (List Int×Int):=
 ((B5 N e e2 e3 a b).bind fun e=>match e with
 | .inl (x_1,y_2)=>
  (br (!decide (y_2=0))
   (some ([],y_2))
   ((Gr N x_1.2.2.2.1 x_1.2.2.2.2).bind fun x_3=>
   chk ((x_1.2.2.2.1.length:Int)-(x_3.length:Int))<|
   chk ((x_1.2.2.2.2.length:Int)-(x_3.length:Int))<|
   chk (((x_1.2.2.2.1.length:Int)-(x_3.length:Int))+((x_1.2.2.2.2.length:Int)-(x_3.length:Int)))<|
   br (decide ((IntKind.i64.wrap (Int.tdiv (((x_1.2.2.2.1.length:Int)-(x_3.length:Int))+((x_1.2.2.2.2.length:Int)-(x_3.length:Int))) 2))≤((x_1.2.2.2.1.length:Int)-(x_3.length:Int))))
    ((Il N x_1.2.2.2.1 x_3 (IntKind.i64.wrap (Int.tdiv (((x_1.2.2.2.1.length:Int)-(x_3.length:Int))+((x_1.2.2.2.2.length:Int)-(x_3.length:Int))) 2))).bind fun x_4=>
    some (x_4,0))
    (chk (((x_1.2.2.2.1.length:Int)-(x_3.length:Int))+((x_1.2.2.2.2.length:Int)-(x_3.length:Int)))<|
    chk (((x_1.2.2.2.1.length:Int)-(x_3.length:Int))+((x_1.2.2.2.2.length:Int)-(x_3.length:Int)))<|
    chk ((((x_1.2.2.2.1.length:Int)-(x_3.length:Int))+((x_1.2.2.2.2.length:Int)-(x_3.length:Int)))-(IntKind.i64.wrap (Int.tdiv (((x_1.2.2.2.1.length:Int)-(x_3.length:Int))+((x_1.2.2.2.2.length:Int)-(x_3.length:Int))) 2)))<|
    (Il N x_1.2.2.2.2 x_3 ((((x_1.2.2.2.1.length:Int)-(x_3.length:Int))+((x_1.2.2.2.2.length:Int)-(x_3.length:Int)))-(IntKind.i64.wrap (Int.tdiv (((x_1.2.2.2.1.length:Int)-(x_3.length:Int))+((x_1.2.2.2.2.length:Int)-(x_3.length:Int))) 2)))).bind fun x_5=>
    some (x_5,0))))
 | .inr x_6=>
  (br (!decide (x_6=0))
   (some ([],x_6))
   (none)))
noncomputable def Afl(N:Nat):Spec:=mkS 38 ⟨[.agg [.sl Qf,.sl (.int .i64),.i .i64],.i .i64,.i .i64],[]⟩ [⟨[.sl (.int .i64),.i .i64],[]⟩] (fun p=>middle_S N p.1.1.1 p.1.1.2.1 p.1.1.2.2.1 p.1.2.1 p.1.2.2.1) (fun k r=>k ((r.1,r.2,()),()))
theorem A4j(N:Nat):A2 Tryz.prog (Afl N):=mkF (R:=List Int×Int) (m0:=0) [⟨_,Fk N⟩,⟨_,Ax N⟩,⟨_,A0b N⟩] [] (fun r=>some (r.1.1,r.1.2.1)) [] Tryz.func38 (fun p=>by kernel_rfl) (by kernel_rfl) (fun _=>by kernel_rfl)

noncomputable abbrev Mf(self:Qe→Qe→Option Int):Spec:=mkS 39 ⟨[.sl (.int .i64),.sl (.int .i64)],[]⟩ [⟨[.i .i64],[]⟩] (fun p=>self p.1.1 p.1.2.1) (fun k r=>k ((r,()),()))
def A3t(N:Nat)(self:Qe→Qe→Option Int)(a b:List Int):Option Int:=
 br (decide ((a.length:Int)=0))
  (chk ((a.length:Int)+(b.length:Int))<|
  some ((a.length:Int)+(b.length:Int)))
  (br (decide ((b.length:Int)=0))
   (chk ((a.length:Int)+(b.length:Int))<|
   some ((a.length:Int)+(b.length:Int)))
   (grd (decide ((0:Int)≤1∧1≤(a.length:Int)))<|
   (self (a.drop 1) b).bind fun x_1=>
   grd (decide ((0:Int)≤1∧1≤(b.length:Int)))<|
   (self a (b.drop 1)).bind fun x_2=>
   chk (1+(min x_1 x_2))<|
   idx a 0 fun x_3=>
   idx b 0 fun x_4=>
   br (decide (x_3=x_4))
    (grd (decide ((0:Int)≤1∧1≤(a.length:Int)))<|
    grd (decide ((0:Int)≤1∧1≤(b.length:Int)))<|
    (self (a.drop 1) (b.drop 1)).bind fun x_5=>
    some (min (1+(min x_1 x_2)) x_5))
    (some (1+(min x_1 x_2)))))
theorem A2x(N:Nat)(self:Qe→Qe→Option Int)(hself:A2 Tryz.prog (Mf self)):A2 Tryz.prog (Mf (A3t N self)):=mkF (R:=Int) (m0:=0) [⟨_,hself⟩] [] (fun r=>some r.1.1) [] Tryz.func39 (fun p=>by kernel_rfl) (by kernel_rfl) (fun _=>by kernel_rfl)
def Gy(N:Nat):Nat→Qe→Qe→Option Int
 | 0=>fun _ _=>none
 | n+1=>A3t N (Gy N n)
theorem A1e(N:Nat):∀n,A2 Tryz.prog (Mf (Gy N n))
 | 0=>A2.none (fun _ _ _=>rfl) (fun args w=>Sem.pv_run _ _ _ (by kernel_rfl) w)
 | n+1=>A2x N (Gy N n) (A1e N n)
noncomputable abbrev Am5(N:Nat):Spec:=Mf (Gy N N)
theorem Yu(N:Nat):A2 Tryz.prog (Am5 N):=A1e N N

def Ig(N:Nat)(rec:Qe→Qe→Int→Int→Option (List Int×Int))(l in_:List Int)(at_ i:Int):Option (List Int×Int):=
 chk (i+1)<|
 rec l in_ at_ (i+1)
def within_l1(N:Nat):Nat→Qe→Qe→Int→Int→Option (List Int×Int)
 | 0,_,_,_,_=>none
 | n_+1,l,in_,at_,i=>
  br (decide (i<(in_.length:Int)))
   (br (decide (at_<(l.length:Int)))
    (idx in_ i fun x_1=>
    idx l at_ fun x_2=>
    br (decide (x_1=x_2))
     (chk (at_+1)<|
     Ig N (within_l1 N n_) l in_ (at_+1) i)
     (Ig N (within_l1 N n_) l in_ at_ i))
    (some ((l,at_))))
   (some ((l,at_)))
def Lc(N:Nat)(l in_:List Int):Option Bool:=
 (within_l1 N N l in_ 0 0).bind fun(l_3,at__4)=>
 some (decide (at__4=(l_3.length:Int)))
noncomputable def Sb(N:Nat):Oks:=[]
abbrev A8d:List StSh:=[⟨[.b],[]⟩]
noncomputable abbrev A8x:Body:=mkB Tryz.f40 A8d 0
abbrev R7:List PI:=[.c [1,1,0,1,0,0,0,0],.c [1,1,0,1,0,0,0,1],.c [1,1,0,1,0,0,1],.l [1,1,0,1,0,0],.b 0,.c [1,1,1]]
abbrev P4:Sta:=⟨[0,1,5,6],⟨[.sl (.int .i64),.sl (.int .i64),.i .i64,.i .i64],[]⟩⟩
abbrev A6v(rec:Qe→Qe→Int→Int→Option (List Int×Int)):Leaf (List Int×Int):=⟨R7,P4,fun p=>rec p.1.1 p.1.2.1 p.1.2.2.1 p.1.2.2.2.1⟩
abbrev P1:Leaf (List Int×Int):=⟨[.c [1,1,1,0],.c [1,1,1,1]],⟨[0,5],⟨[.sl (.int .i64),.i .i64],[]⟩⟩,fun p=>some ((p.1.1,p.1.2.1))⟩
noncomputable def A83(N:Nat)(rec:Qe→Qe→Int→Int→Option (List Int×Int)){top:Bool}:JnQ (Z:=List Int×Int) A8x top none [A6v rec,P1]:=mkJ (Sb N) [] [] ⟨[.c [1,1,0,1,0,0,1,1],.l [1,1,0,1,0,0],.b 0,.c [1,1,1]],⟨[0,1,5,6],⟨[.sl (.int .i64),.sl (.int .i64),.i .i64,.i .i64],[]⟩⟩,fun p=>Ig N rec p.1.1 p.1.2.1 p.1.2.2.1 p.1.2.2.2.1⟩ (fun p=>by kernel_rfl)
noncomputable def A6i(N:Nat){top:Bool}:LpQ A8x top:=mkL (Z:=List Int×Int) (Sb N) [] R7 P4 (fun m p=>within_l1 N m p.1.1 p.1.2.1 p.1.2.2.1 p.1.2.2.2.1) [P1] (fun m=>[A83 N (within_l1 N m)]) (fun k e=>k (.inl ((e.1,e.2,()),()))) N (fun m p=>by kernel_rfl)
noncomputable def Aft(N:Nat):Spec:=mkS 40 ⟨[.sl (.int .i64),.sl (.int .i64)],[]⟩ A8d (fun p=>Lc N p.1.1 p.1.2.1) (fun k r=>k ((r,()),()))
theorem A33(N:Nat):A2 Tryz.prog (Aft N):=mkF (R:=Bool) (m0:=0) (Sb N) [A6i N] (fun r=>some r.1.1) [] Tryz.func40 (fun p=>by kernel_rfl) (by kernel_rfl) (fun _=>by kernel_rfl)

def Lq(N:Nat)(rec:Int→Int→Qj→Qe→Int→Qh→Option Qm)(a b:Int)(e:List Qe)(e2:List Int)(e3:Int)(out:List Qd):Option Qm:=
 chk (b+1)<|
 rec a (b+1) e e2 e3 out
def rconf_l2(N:Nat):Nat→Int→Int→Qj→Qe→Int→Qh→Option Qm
 | 0,_,_,_,_,_,_=>none
 | n_+1,a,b,e,e2,e3,out=>
  br (decide (b<(e.length:Int)))
   (idx e a fun x_2=>
   idx e b fun x_3=>
   (Gy N N x_2 x_3).bind fun x_4=>
   chk (2*e3)<|
   br (decide (x_4≤(2*e3)))
    (lim (out.length+[(a,b)].length)<|
    Lq N (rconf_l2 N n_) a b e e2 e3 (out++[(a,b)]))
    (Lq N (rconf_l2 N n_) a b e e2 e3 out))
   (some ((a,e,e2,e3,out)))
def rconf_l1(N:Nat):Nat→Int→Qj→Qe→Int→Qh→Option Qh
 | 0,_,_,_,_,_=>none
 | n_+1,a,e,e2,e3,out=>
  br (decide (a<(e.length:Int)))
   (chk (a+1)<|
   (rconf_l2 N N a (a+1) e e2 e3 out).bind fun(a_5,e_6,e2_7,e3_8,out_9)=>
   chk (a_5+1)<|
   rconf_l1 N n_ (a_5+1) e_6 e2_7 e3_8 out_9)
   (some (out))
def Lx(N:Nat)(e:List Qe)(e2:List Int)(e3:Int):Option (Qh×Int):=
 (rcheck_S N e e2 e3).bind fun x_1=>
 br (!decide (x_1=0))
  (some ([],x_1))
  ((rconf_l1 N N 0 e e2 e3 []).bind fun out_10=>
  some (out_10,0))
noncomputable def O4(N:Nat):Oks:=[⟨_,Dl N⟩,⟨_,Yu N⟩]
abbrev Adh:List StSh:=[⟨[.sl Qc,.i .i64],[]⟩]
noncomputable abbrev A49:Body:=mkB Tryz.f35 Adh 0
abbrev Up:List PI:=[.c [1,1,1,0,1,0,0,1,0,0,1,0,0,0,0],.c [1,1,1,0,1,0,0,1,0,0,1,0,0,0,1],.c [1,1,1,0,1,0,0,1,0,0,1,0,0,1],.l [1,1,1,0,1,0,0,1,0,0,1,0,0],.b 2,.b 1,.c [1,1,1,0,1,0,0,1,1],.l [1,1,1,0,1,0,0],.b 0,.c [1,1,1,1]]
abbrev Un:Sta:=⟨[1,5,6,7],⟨[.own 0 0,.ols 1,.i .i64,.i .i64],[.segs [.sl Qf,.sl (.int .i64),.i .i64],.lst Qc]⟩⟩
abbrev Ad4(rec:Int→Int→Qj→Qe→Int→Qh→Option Qm):Leaf Qm:=⟨Up,Un,fun p=>rec p.1.2.2.1 p.1.2.2.2.1 p.2.1.1 p.2.1.2.1 p.2.1.2.2.1 p.2.2.1⟩
abbrev Ts:Leaf Qm:=⟨[.c [1,1,1,0,1,0,0,1,1],.l [1,1,1,0,1,0,0],.b 0,.c [1,1,1,1]],⟨[1,5,6],⟨[.own 0 0,.ols 1,.i .i64],[.segs [.sl Qf,.sl (.int .i64),.i .i64],.lst Qc]⟩⟩,fun p=>some ((p.1.2.2.1,p.2.1.1,p.2.1.2.1,p.2.1.2.2.1,p.2.2.1))⟩
noncomputable def Ab8(N:Nat)(rec:Int→Int→Qj→Qe→Int→Qh→Option Qm){top:Bool}:JnQ (Z:=Int×List Qe×List Int×Int×Qh) A49 top none [Ad4 rec,Ts]:=mkJ (O4 N) [] [] ⟨[.c [1,1,1,0,1,0,0,1,0,0,1,0,0,1,1],.l [1,1,1,0,1,0,0,1,0,0,1,0,0],.b 2,.b 1,.c [1,1,1,0,1,0,0,1,1],.l [1,1,1,0,1,0,0],.b 0,.c [1,1,1,1]],⟨[1,5,6,7],⟨[.own 0 0,.ols 1,.i .i64,.i .i64],[.segs [.sl Qf,.sl (.int .i64),.i .i64],.lst Qc]⟩⟩,fun p=>Lq N rec p.1.2.2.1 p.1.2.2.2.1 p.2.1.1 p.2.1.2.1 p.2.1.2.2.1 p.2.2.1⟩ (fun p=>by kernel_rfl)
noncomputable def Wh(N:Nat){top:Bool}:LpQ A49 top:=mkL (Z:=Int×List Qe×List Int×Int×Qh) (O4 N) [] Up Un (fun m p=>rconf_l2 N m p.1.2.2.1 p.1.2.2.2.1 p.2.1.1 p.2.1.2.1 p.2.1.2.2.1 p.2.2.1) [Ts] (fun m=>[Ab8 N (rconf_l2 N m)]) (fun k e=>k (.inl (((),(),e.1,()),((e.2.1,e.2.2.1,e.2.2.2.1,()),e.2.2.2.2,())))) N (fun m p=>by kernel_rfl)
noncomputable def Acl(N:Nat){top:Bool}:LpQ A49 top:=mkL (Z:=Qh) (O4 N) [Wh N] [.c [1,1,1,0,1,0,0,0,0],.c [1,1,1,0,1,0,0,0,1],.c [1,1,1,0,1,0,0,1],.l [1,1,1,0,1,0,0],.b 0,.c [1,1,1,1]] ⟨[1,5,6],⟨[.own 0 0,.ols 1,.i .i64],[.segs [.sl Qf,.sl (.int .i64),.i .i64],.lst Qc]⟩⟩ (fun m p=>rconf_l1 N m p.1.2.2.1 p.2.1.1 p.2.1.2.1 p.2.1.2.2.1 p.2.2.1) [⟨[.c [1,1,1,1,0],.c [1,1,1,1,1]],⟨[5],⟨[.ols 0],[.lst Qc]⟩⟩,fun p=>some (p.2.1)⟩] (fun _=>[]) (fun k e=>k (.inl (((),()),(e,())))) N (fun m p=>by kernel_rfl)
noncomputable def Aju(N:Nat):Spec:=mkS 35 ⟨[.agg [.sl Qf,.sl (.int .i64),.i .i64]],[]⟩ Adh (fun p=>Lx N p.1.1.1 p.1.1.2.1 p.1.1.2.2.1) (fun k r=>k ((r.1,r.2,()),()))
theorem A6o(N:Nat):A2 Tryz.prog (Aju N):=mkF (R:=Qh×Int) (m0:=0) (O4 N) [Wh N,Acl N] (fun r=>some (r.1.1,r.1.2.1)) [] Tryz.func35 (fun p=>by kernel_rfl) (by kernel_rfl) (fun _=>by kernel_rfl)

def etexts_l1(N:Nat):Nat→Int→Int→Qh→Qh→Int→Int→Qj→Qe→Int→Qj→Qe→Int→Qj→Qe→Int→Option ((Unit)⊕(Int×Int×List Qe×List Int×Int×List Qe×List Int×Int×List Qe×List Int×Int))
 | 0,_,_,_,_,_,_,_,_,_,_,_,_,_,_,_=>none
 | n_+1,a,b,want,u,u2,u3,x,x2,x3,own,own2,own3,y,y2,y3=>
  br (decide (u3<u2))
   (idx u u3 fun x_13=>
   idx want u3 fun x_14=>
   br (!(decide (x_13.1=x_14.1)&&decide (x_13.2=x_14.2)))
    (some (.inl ()))
    (chk (u3+1)<|
    etexts_l1 N n_ a b want u u2 (u3+1) x x2 x3 own own2 own3 y y2 y3))
   (some (.inr (a,b,x,x2,x3,own,own2,own3,y,y2,y3)))
def etexts_S(N:Nat)(x:List Qe)(x2:List Int)(x3 a b:Int):Option Bool:=
 (great_S N x x2 x3).bind fun x_1=>
 br x_1
  ((B0 N).bind fun x_2=>
  some x_2)
  ((C9 N x x2 x3).bind fun(x_3,y_4,y_5)=>
  (C9 N x x2 x3).bind fun(x_6,y_7,y_8)=>
  (Nh N x_3 y_4 y_5).bind fun(x_9,y_10)=>
  (Lx N x_6 y_7 y_8).bind fun(x_11,y_12)=>
  br (!decide (y_10=y_12))
   (some false)
   (br (!decide ((x_9.length:Int)=(x_11.length:Int)))
    (some false)
    ((etexts_l1 N N a b x_11 x_9 (x_9.length:Int) 0 x x2 x3 x_3 y_4 y_5 x_6 y_7 y_8).bind fun e=>match e with
    | .inl _=>
     some false
    | .inr (a_15,b_16,x_17,x2_18,x3_19,own_20,own2_21,own3_22,y_23,y2_24,y3_25)=>
     (dist_S N own_20 own2_21 own3_22 a_15 b_16).bind fun(x_26,y_27)=>
     (Dx N own_20 own2_21 own3_22 a_15 b_16).bind fun(x_28,y_29)=>
     (middle_S N own_20 own2_21 own3_22 a_15 b_16).bind fun(x_30,y_31)=>
     (Jj N y_23 y2_24 y3_25 a_15 b_16).bind fun x_32=>
     br (!decide (x_32=0))
      (br (decide (y_27=x_32))
       (br (decide (y_29=x_32))
        (br (decide (y_31=x_32))
         (chk (x_26+(x_28.length:Int))<|
         chk ((x_26+(x_28.length:Int))+(x_30.length:Int))<|
         br (decide (((x_26+(x_28.length:Int))+(x_30.length:Int))=0))
          ((Hy N own_20 own2_21 own3_22 x_17 x2_18 x3_19).bind fun x_33=>
          br x_33
           ((B0 N).bind fun x_34=>
           some x_34)
           (some false))
          (some false))
         (some false))
        (some false))
       (some false))
      (idx y_23 a_15 fun x_35=>
      idx y_23 b_16 fun x_36=>
      (Gy N N x_35 x_36).bind fun x_37=>
      br (!decide (y_27=0))
       (some false)
       (br (!decide (y_29=0))
        (some false)
        (br (!decide (y_31=0))
         (some false)
         (br (!decide (x_26=x_37))
          (some false)
          (chk (2*(x_28.length:Int))<|
          chk ((x_35.length:Int)+(x_36.length:Int))<|
          chk (((x_35.length:Int)+(x_36.length:Int))-x_37)<|
          br (!decide ((2*(x_28.length:Int))=(((x_35.length:Int)+(x_36.length:Int))-x_37)))
           (some false)
           ((Lc N x_28 x_35).bind fun x_38=>
           br (!x_38)
            (some false)
            ((Lc N x_28 x_36).bind fun x_39=>
            br (!x_39)
             (some false)
             (br (decide ((x_30.length:Int)≤12))
              ((Gy N N x_30 x_35).bind fun x_40=>
              chk (x_37+1)<|
              br (decide (x_40≤(IntKind.i64.wrap (Int.tdiv (x_37+1) 2))))
               ((Gy N N x_30 x_36).bind fun x_41=>
               chk (x_37+1)<|
               br (decide (x_41≤(IntKind.i64.wrap (Int.tdiv (x_37+1) 2))))
                ((Hy N own_20 own2_21 own3_22 x_17 x2_18 x3_19).bind fun x_42=>
                br x_42
                 ((B0 N).bind fun x_43=>
                 some x_43)
                 (some false))
                (some false))
               (some false))
              (some false))))))))))))
noncomputable def A0u(N:Nat):Oks:=[⟨_,Y8 N⟩,⟨_,N5 N⟩,⟨_,Xh N⟩,⟨_,D2 N⟩,⟨_,F5 N⟩,⟨_,Dy N⟩,⟨_,Ex N⟩,⟨_,Gj N⟩,⟨_,A4j N⟩,⟨_,Yu N⟩,⟨_,A33 N⟩,⟨_,A6o N⟩]
abbrev A9t:List StSh:=[⟨[.b],[]⟩]
noncomputable abbrev Aie:Body:=mkB Tryz.f9 A9t 0
noncomputable def A5e(N:Nat){top:Bool}:LpQ Aie top:=mkL (Z:=(Unit)⊕(Int×Int×List Qe×List Int×Int×List Qe×List Int×Int×List Qe×List Int×Int)) (A0u N) [] [.c [1,1,1,1,1,1,0,1,0,0,0],.c [1,1,1,1,1,1,0,1,0,0,1],.l [1,1,1,1,1,1,0,1,0,0],.b 0,.c [1,1,1,1,1,1,1]] ⟨[1,2,3,7,8,11,51,52,53],⟨[.i .i64,.i .i64,.own 0 0,.own 1 0,.own 2 0,.sl Qc,.sl Qc,.i .i64,.i .i64],[.segs [.sl Qf,.sl (.int .i64),.i .i64],.segs [.sl Qf,.sl (.int .i64),.i .i64],.segs [.sl Qf,.sl (.int .i64),.i .i64]]⟩⟩ (fun m p=>etexts_l1 N m p.1.1 p.1.2.1 p.1.2.2.2.2.2.1 p.1.2.2.2.2.2.2.1 p.1.2.2.2.2.2.2.2.1 p.1.2.2.2.2.2.2.2.2.1 p.2.1.1 p.2.1.2.1 p.2.1.2.2.1 p.2.2.1.1 p.2.2.1.2.1 p.2.2.1.2.2.1 p.2.2.2.1.1 p.2.2.2.1.2.1 p.2.2.2.1.2.2.1) [⟨[.c [1,1,1,1,1,1,0,1,0,0,1,1,0,0,1,1,0,0],.c [1,1,1,1,1,1,0,1,0,0,1,1,0,0,1,1,0,1],.b 1,.c [1,1,1,1,1,1,0,1,0,0,1,1,1],.l [1,1,1,1,1,1,0,1,0,0],.b 0,.c [1,1,1,1,1,1,1]],⟨[],⟨[],[]⟩⟩,fun p=>some (.inl ())⟩,⟨[.c [1,1,1,1,1,1,1,0],.c [1,1,1,1,1,1,1,1]],⟨[1,2,3,7,8],⟨[.i .i64,.i .i64,.own 0 0,.own 1 0,.own 2 0],[.segs [.sl Qf,.sl (.int .i64),.i .i64],.segs [.sl Qf,.sl (.int .i64),.i .i64],.segs [.sl Qf,.sl (.int .i64),.i .i64]]⟩⟩,fun p=>some (.inr (p.1.1,p.1.2.1,p.2.1.1,p.2.1.2.1,p.2.1.2.2.1,p.2.2.1.1,p.2.2.1.2.1,p.2.2.1.2.2.1,p.2.2.2.1.1,p.2.2.2.1.2.1,p.2.2.2.1.2.2.1))⟩] (fun _=>[]) (fun k e=>match e with | .inl x=>k (.inl ((),())) | .inr x=>k (.inr (.inl ((x.1,x.2.1,(),(),(),()),((x.2.2.1,x.2.2.2.1,x.2.2.2.2.1,()),(x.2.2.2.2.2.1,x.2.2.2.2.2.2.1,x.2.2.2.2.2.2.2.1,()),(x.2.2.2.2.2.2.2.2.1,x.2.2.2.2.2.2.2.2.2.1,x.2.2.2.2.2.2.2.2.2.2,()),()))))) N (fun m p=>by kernel_rfl) (hg:=(by rintro _ _ (_ | _)<;>rfl))
noncomputable def Afs(N:Nat):Spec:=mkS 9 ⟨[.agg [.sl Qf,.sl (.int .i64),.i .i64],.i .i64,.i .i64],[]⟩ A9t (fun p=>etexts_S N p.1.1.1 p.1.1.2.1 p.1.1.2.2.1 p.1.2.1 p.1.2.2.1) (fun k r=>k ((r,()),()))
theorem A4n(N:Nat):A2 Tryz.prog (Afs N):=mkF (R:=Bool) (m0:=0) (A0u N) [A5e N] (fun r=>some r.1.1) [] Tryz.func9 (fun p=>by kernel_rfl) (by kernel_rfl) (fun _=>by kernel_rfl)

end Go.Proofs.YtfcnhnbnjdccfaaGreat

namespace Go.Proofs.YtfcnhnbnjdccfaaGreat
set_option linter.all false
open Go

section
variable {N:Nat} {T:List (List Int)} {H:List Int} {f:Int}
end
end Go.Proofs.YtfcnhnbnjdccfaaGreat

namespace Go.Proofs.YtfcnhnbnjdccfaaGreat
set_option linter.all false
open Go

section
variable {N:Nat} {T:List (List Int)} {H:List Int} {f:Int}
def thin:List Int→List Int→Nat→List Int
 | l,_,0=>l
 | [],_,_+1=>[]
 | x::l,y::c,m+1=>if x=y then x::thin l c (m+1)else thin l (y::c) m
 | _::l,[],m+1=>thin l [] m
theorem L9:∀(l c:List Int) (m:Nat),(thin l c m).Sublist l
 | l,_,0=>by unfold thin;exact List.Sublist.refl _
 | [],_,_+1=>by unfold thin;exact List.Sublist.refl _
 | x::l,y::c,m+1=>by
  unfold thin
  split
  ·exact(L9 l c (m+1)).cons_cons x
  ·exact(L9 l (y::c) m).cons x
 | x::l,[],m+1=>by unfold thin;exact(L9 l [] m).cons x
theorem M8:∀(l c:List Int) (m:Nat),c.Sublist l→c.Sublist (thin l c m)
 | l,c,0,h=>by unfold thin;exact h
 | [],c,m+1,h=>by unfold thin;exact h
 | x::l,y::c,m+1,h=>by
  unfold thin
  by_cases e:x=y
  ·rw[if_pos e]
   subst e
   refine(M8 l c (m+1) ?_).cons_cons x
   cases h with
   | cons _ h=>exact(List.sublist_cons_self x c).trans h
   | cons_cons _ h=>exact h
  ·rw[if_neg e]
   refine M8 l (y::c) m ?_
   cases h with
   | cons _ h=>exact h
   | cons_cons _ h=>exact absurd rfl e
 | x::l,[],m+1,h=>List.nil_sublist _
theorem Kl:∀(l c:List Int) (m:Nat),c.Sublist l→m+c.length≤l.length→(thin l c m).length+m=l.length
 | l,c,0,h,_=>by unfold thin;rfl
 | [],c,m+1,h,hl=>by simp at hl
 | x::l,y::c,m+1,h,hl=>by
  unfold thin
  simp only[List.length_cons]at hl
  by_cases e:x=y
  ·rw[if_pos e]
   subst e
   have h':c.Sublist l:=by
    cases h with
    | cons _ h=>exact(List.sublist_cons_self x c).trans h
    | cons_cons _ h=>exact h
   have:=Kl l c (m+1) h' (by omega)
   simp only[List.length_cons];omega
  ·rw[if_neg e]
   have h':(y::c).Sublist l:=by
    cases h with
    | cons _ h=>exact h
    | cons_cons _ h=>exact absurd rfl e
   have:=Kl l (y::c) m h' (by simp only[List.length_cons];omega)
   simp only[List.length_cons];omega
 | x::l,[],m+1,h,hl=>by
  unfold thin
  simp only[List.length_cons,List.length_nil]at hl
  have:=Kl l [] m (List.nil_sublist _) (by simp only[List.length_nil];omega)
  simp only[List.length_cons];omega
theorem Fq{c0:List Int}(hc0:c0.length≤100):∀(n:Nat) (p r c:List Int) (m k:Nat),p.length+r.length≤100→r.length<n→k≤c0.length→c0.drop k=c→m≤100 →
  thinned_l1 N n c0 m p.length k (p++r)=some (p++thin r c m)
 | 0,p,r,c,m,k,_,h,_,_,_=>by omega
 | n+1,p,r,c,m,k,hl,h,hk,hc,hm=>by
  unfold thinned_l1
  cases r with
  | nil=>
   rw[A3 (by simp)]
   have:thin [] c m=[]:=by cases m<;>(unfold thin;rfl)
   rw[this]
  | cons x r=>
   simp only[List.length_cons]at hl h
   rw[A4 (by simp;omega)]
   cases m with
   | zero=>
    rw[A3 (by simp)]
    unfold thin;rfl
   | succ m=>
    rw[A4 (by omega)]
    have hget:(p++x::r)[((p.length:Nat):Int).toNat]?=some x:=by simp
    have hdel:Cm N (p.length:Int) ((p.length:Int)+1) (p++x::r)=some (p++r):=by
     unfold Cm
     rw[if_pos ⟨by omega,by omega,by simp;omega,by simp;omega⟩]
     rw[show((p.length:Int)).toNat=p.length by omega,show((p.length:Int)+1).toNat=p.length+1 by omega,List.take_left,List.drop_length_add_append]
     simp
    by_cases hkc:k<c0.length
    ·have hck:c0[((k:Nat):Int).toNat]?=some (c0.getD k 0):=by simp[List.getD,hkc]
     have hd:=drop_cons hkc
     rw[hc]at hd
     generalize c0.getD k 0=y at *
     rw[A4 (by omega),Au (by simp;omega),get_eq hget,idx_eq (by omega) hck,hd]
     unfold thin
     by_cases e:x=y
     ·rw[A4 e,if_pos e,A5 (by omega),A5 (by omega)]
      have:=Fq hc0 n (p++[x]) r (c0.drop (k+1)) (m+1) (k+1) (by simp;omega) (by omega) (by omega) rfl (by omega)
      rw[show(((p++[x]).length:Nat):Int)=(p.length:Int)+1 by simp,show((k+1:Nat):Int)=(k:Int)+1 by omega]at this
      simpa using this
     ·rw[A3 e,if_neg e,A5 (by omega),hdel]
      simp only[Option.bind_some]
      rw[A5 (by omega),show((m+1:Nat):Int)-1=(m:Int)by omega]
      exact Fq hc0 n p r (y::c0.drop (k+1)) m k (by omega) (by omega) hk (by rw[←hd,hc]) (by omega)
    ·have hd:c=[]:=by rw[←hc,List.drop_of_length_le (by omega)]
     subst hd
     rw[A3 (by omega),A5 (by omega),hdel]
     simp only[Option.bind_some]
     rw[A5 (by omega),show((m+1:Nat):Int)-1=(m:Int)by omega]
     unfold thin
     exact Fq hc0 n p r [] m k (by omega) (by omega) hk hc (by omega)
theorem A1h{l c:List Int}{m:Nat}(hl:l.length≤50)(hc:c.length≤50)(hm:m≤50)(hN:100≤N):Il N l c m=some (thin l c m):=by
 unfold Il
 rw[I0 (Jr.2 (by omega))]
 have:=Fq (N:=N) (c0:=c) (by omega) N [] l c m 0 (by simp;omega) (by omega) (by omega) rfl (by omega)
 simp only[List.length_nil,List.nil_append,Int.natCast_zero,show((0:Nat):Int)=0 from rfl]at this
 have e:l.take (min l.length (List.replicate (l.length:Int).toNat (0:Int)).length)++(List.replicate (l.length:Int).toNat (0:Int)).drop (min l.length (List.replicate (l.length:Int).toNat (0:Int)).length)=l:=by simp
 rw[e,this];rfl
def midV(A B:List Int):List Int:=if Aq A B / 2≤(A.length:Int)-(cw A B).length then thin A (cw A B) (Aq A B / 2).toNat else thin B (cw A B) (Aq A B-Aq A B / 2).toNat
theorem A2e{a b:List Int}(h:a.Sublist b):lc a b=a.length:=by
 have h1:=Np a b a (List.Sublist.refl _) h
 have h2:=C2 a b
 omega
theorem Ao7{A B:List Int}:Aq (midV A B) A≤(Aq A B+1) / 2∧Aq (midV A B) B≤(Aq A B+1) / 2∧((midV A B).length≤A.length∨(midV A B).length≤B.length)∧∀x∈midV A B,x∈A∨x∈B:=by
 obtain⟨s1,s2,s3⟩:=Mj A B
 have d0:Aq A B=(A.length:Int)+B.length-2*(cw A B).length:=rfl
 have a1:=s1.length_le
 have b1:=s2.length_le
 unfold midV
 by_cases c:Aq A B / 2≤(A.length:Int)-(cw A B).length
 ·rw[if_pos c]
  have k1:=L9 A (cw A B) (Aq A B / 2).toNat
  have k2:=M8 A (cw A B) (Aq A B / 2).toNat s1
  have k3:=Kl A (cw A B) (Aq A B / 2).toNat s1 (by omega)
  generalize thin A (cw A B) (Aq A B / 2).toNat=K at *
  have e1:=A2e k1
  have e2:=Np K B (cw A B) k2 s2
  refine⟨?_,?_,.inl (by omega),fun x hx=>.inl (k1.subset hx)⟩
  ·rw[Di K A,e1];omega
  ·rw[Di K B];omega
 ·rw[if_neg c]
  have k1:=L9 B (cw A B) (Aq A B-Aq A B / 2).toNat
  have k2:=M8 B (cw A B) (Aq A B-Aq A B / 2).toNat s2
  have k3:=Kl B (cw A B) (Aq A B-Aq A B / 2).toNat s2 (by omega)
  generalize thin B (cw A B) (Aq A B-Aq A B / 2).toNat=K at *
  have e1:=A2e k1
  have e2:=Np K A (cw A B) k2 s1
  refine⟨?_,?_,.inr (by omega),fun x hx=>.inr (k1.subset hx)⟩
  ·rw[Di K A];omega
  ·rw[Di K B,e1];omega
theorem Anw{n:Int}(h:0≤n∧n≤1000):IntKind.i64.wrap (Int.tdiv n 2)=n / 2:=by
 rw[Int.tdiv_eq_ediv_of_nonneg h.1,wrap64 (by omega)]
theorem Aks(hN:100≤N)(h:Fine T H f){a b:Int}(ha:0≤a∧a<T.length)(hb:0≤b∧b<T.length):middle_S N T H f a b=some (midV (T.getD a.toNat []) (T.getD b.toNat []),0):=by
 unfold middle_S
 obtain⟨_,_,_,e⟩:=Ap (N:=N) (by omega) (h.open ha hb)
 rw[e]
 have la:=h.l (T.getD a.toNat []) (Aa (by omega))
 have lb:=h.l (T.getD b.toNat []) (Aa (by omega))
 simp only[Option.bind_some,decide_true,Bool.not_true,A6]
 generalize T.getD a.toNat []=A at *
 generalize T.getD b.toNat []=B at *
 obtain⟨s1,s2,s3⟩:=Mj A B
 have a1:=s1.length_le
 have b1:=s2.length_le
 have d0:Aq A B=(A.length:Int)+B.length-2*(cw A B).length:=rfl
 rw[R4 (by omega) la.2 lb.2]
 simp only[Option.bind_some]
 rw[A5 (by omega),A5 (by omega),A5 (by omega),show((A.length:Int)-((cw A B).length:Int))+((B.length:Int)-((cw A B).length:Int))=Aq A B by omega,Anw (by omega)]
 unfold midV
 by_cases c:Aq A B / 2≤(A.length:Int)-(cw A B).length
 ·rw[A4 c,if_pos c]
  have:=A1h (N:=N) (l:=A) (c:=cw A B) (m:=(Aq A B / 2).toNat) (by omega) (by omega) (by omega) hN
  rw[show(((Aq A B / 2).toNat:Nat):Int)=Aq A B / 2 by omega]at this
  rw[this];rfl
 ·rw[A3 c,if_neg c,A5 (by omega),A5 (by omega),A5 (by omega)]
  have:=A1h (N:=N) (l:=B) (c:=cw A B) (m:=(Aq A B-Aq A B / 2).toNat) (by omega) (by omega) (by omega) hN
  rw[show(((Aq A B-Aq A B / 2).toNat:Nat):Int)=Aq A B-Aq A B / 2 by omega]at this
  rw[this];rfl
theorem Abs(hN:20≤N){a b:Int}(h:Ao T H f a b≠0):middle_S N T H f a b=some ([],Ao T H f a b):=by
 unfold middle_S
 rw[Bu hN h]
 simp[h,br]
theorem Ag2(hN:20≤N)(h:Fine T H f){a b:Int}(ha:0≤a∧a<T.length)(hb:0≤b∧b<T.length):Dx N T H f a b=some (cw (T.getD a.toNat []) (T.getD b.toNat []),0):=by
 unfold Dx
 obtain⟨_,_,_,e⟩:=Ap hN (h.open ha hb)
 rw[e]
 have la:=h.l (T.getD a.toNat []) (Aa (by omega))
 have lb:=h.l (T.getD b.toNat []) (Aa (by omega))
 simp only[Option.bind_some,decide_true,Bool.not_true,A6]
 rw[R4 hN la.2 lb.2];rfl
theorem A6t(hN:20≤N){a b:Int}(h:Ao T H f a b≠0):Dx N T H f a b=some ([],Ao T H f a b):=by
 unfold Dx
 rw[Bu hN h]
 simp[h,br]
end
end Go.Proofs.YtfcnhnbnjdccfaaGreat

namespace Go.Proofs.YtfcnhnbnjdccfaaGreat
set_option linter.all false
open Go

section
variable {N:Nat} {T:List (List Int)} {H:List Int} {f:Int}
theorem O9:∀(n:Nat) (a b:List Int),a.length+b.length<n→a.length+b.length≤1000→Gy N n a b=some (Aq a b)
 | 0,a,b,h,_=>by omega
 | n+1,a,b,h,hl=>by
  show A3t N (Gy N n) a b=_
  unfold A3t
  rw[Di]
  cases a with
  | nil=>
   rw[A4 (by simp),A5 (by simp only[List.length_nil]at *;omega)]
   simp[lc]
  | cons x a=>
   cases b with
   | nil=>
    rw[A3 (by simp;omega),A4 (by simp),A5 (by simp only[List.length_nil]at *;omega)]
    rw[O1];simp
   | cons y b=>
    simp only[List.length_cons]at h hl
    rw[A3 (by simp;omega),A3 (by simp;omega),I0 (by simp;omega),List.drop_succ_cons,List.drop_zero,O9 n a (y::b) (by simp only[List.length_cons];omega) (by simp only[List.length_cons];omega)]
    simp only[Option.bind_some]
    rw[I0 (by simp;omega),List.drop_succ_cons,List.drop_zero,O9 n (x::a) b (by simp only[List.length_cons];omega) (by simp only[List.length_cons];omega)]
    simp only[Option.bind_some]
    have l1:=C2 a (y::b)
    have l2:=C2 (x::a) b
    have l4:=C2 a b
    have t1:=Vp a b y
    have t2:=Vp b a x
    rw[Od b (x::a),Od b a]at t2
    have d1:=Di a (y::b)
    have d2:=Di (x::a) b
    have d3:=Di a b
    have n1:=Jw a (y::b)
    have n2:=Jw (x::a) b
    simp only[List.length_cons]at d1 d2 l1 l2
    rw[A5 (by omega),idx_eq (a:=x) (by omega) (by simp),idx_eq (a:=y) (by omega) (by simp)]
    by_cases e:x=y
    ·rw[A4 e,I0 (by simp;omega),I0 (by simp;omega),O9 n a b (by omega) (by omega)]
     simp only[Option.bind_some,Option.some.injEq,List.length_cons]
     have:lc (x::a) (y::b)=lc a b+1:=by subst e;simp[lc];omega
     rw[this]
     omega
    ·rw[A3 e]
     simp only[Option.some.injEq,List.length_cons]
     have:lc (x::a) (y::b)=max (lc a (y::b)) (lc (x::a) b):=by simp[lc,e]
     rw[this]
     omega
theorem A45{a b:List Int}(h:a.length+b.length<N)(hl:a.length+b.length≤1000):Gy N N a b=some (Aq a b):=O9 N a b h hl
theorem Ln{l I:List Int}(hI:I.length≤1000)(hl:l.length≤1000):∀(n k p:Nat),I.length<n+k→k≤I.length→p≤l.length→(l.drop p).Sublist (I.drop k)→within_l1 N n l I p k=some (l,(l.length:Int))
 | 0,k,p,h,_,_,_=>by omega
 | n+1,k,p,h,hk,hp,hs=>by
  unfold within_l1
  by_cases c:k<I.length
  ·rw[A4 (by omega)]
   by_cases d:p<l.length
   ·have hd:=drop_cons c
    have hd2:=drop_cons d
    have hk':I[((k:Nat):Int).toNat]?=some (I.getD k 0):=by simp[List.getD,c]
    have hp':l[((p:Nat):Int).toNat]?=some (l.getD p 0):=by simp[List.getD,d]
    rw[hd,hd2]at hs
    generalize I.getD k 0=w at *
    generalize l.getD p 0=y at *
    rw[A4 (by omega),idx_eq (by omega) hk',idx_eq (by omega) hp']
    by_cases e:w=y
    ·subst e
     rw[A4 rfl,A5 (by omega)]
     unfold Ig
     rw[A5 (by omega)]
     have:=Ln hI hl n (k+1) (p+1) (by omega) (by omega) (by omega) (by
      cases hs with
      | cons _ h=>exact(List.sublist_cons_self w _).trans h
      | cons_cons _ h=>exact h)
     rw[show((k+1:Nat):Int)=(k:Int)+1 by omega,show((p+1:Nat):Int)=(p:Int)+1 by omega]at this
     exact this
    ·rw[A3 e]
     unfold Ig
     rw[A5 (by omega)]
     have:=Ln hI hl n (k+1) p (by omega) (by omega) hp (by
      rw[hd2]
      cases hs with
      | cons _ h=>exact h
      | cons_cons _ h=>exact absurd rfl e)
     rw[show((k+1:Nat):Int)=(k:Int)+1 by omega]at this
     exact this
   ·rw[A3 (by omega)]
    congr 2;omega
  ·rw[A3 (by omega)]
   rw[List.drop_of_length_le (l:=I) (by omega)]at hs
   have:=congrArg List.length (List.sublist_nil.1 hs)
   rw[List.length_drop]at this
   simp only[List.length_nil]at this
   congr 2;omega
theorem A8q{l I:List Int}(hI:I.length≤1000)(hN:I.length<N)(hs:l.Sublist I):Lc N l I=some true:=by
 unfold Lc
 have:=hs.length_le
 have:=Ln (N:=N) (l:=l) hI (by omega) N 0 0 (by omega) (by omega) (by omega) (by simpa using hs)
 rw[show((0:Nat):Int)=0 from rfl]at this
 rw[this]
 simp
theorem Z5(hN:20≤N)(h:Fine T H f){a s:Nat}{O:List (Int×Int)}(ha:a<T.length)(hO:O.length≤1000):∀(n k:Nat),T.length<n+k→s≤k→k≤T.length →
  rconf_l2 N n a k T H f (O++Ay (cE T f) a s k)=some ((a:Int),T,H,f,O++Ay (cE T f) a s T.length)
 | 0,k,h1,h2,h3=>by omega
 | n+1,k,h1,h2,h3=>by
  unfold rconf_l2
  have hT:=h.n
  have hf:=h.f
  by_cases c:k<T.length
  ·have la:=h.l (T.getD a []) (Aa ha)
   have lk:=h.l (T.getD k []) (Aa c)
   have hTa:T[((a:Nat):Int).toNat]?=some (T.getD a []):=by simp[List.getD,ha]
   have hTk:T[((k:Nat):Int).toNat]?=some (T.getD k []):=by simp[List.getD,c]
   rw[A4 (by omega),idx_eq (by omega) hTa,idx_eq (by omega) hTk,A45 (by omega) (by omega)]
   simp only[Option.bind_some]
   rw[A5 (by omega)]
   have rl:=Md (cE T f) a s k
   have next:=Z5 hN h (s:=s) ha hO n (k+1) (by omega) (by omega) (by omega)
   rw[show((k+1:Nat):Int)=(k:Int)+1 by omega]at next
   by_cases d:Aq (T.getD a []) (T.getD k [])≤2*f
   ·rw[A4 d,Bd (by simp;omega)]
    unfold Lq
    rw[A5 (by omega),List.append_assoc,←Gf h2 (by simpa [cE]using d)]
    exact next
   ·rw[A3 d]
    unfold Lq
    rw[A5 (by omega),←Ps (p:=cE T f) (a:=a) h2 (by simpa [cE]using d)]
    exact next
  ·have e:k=T.length:=by omega
   rw[A3 (by omega),e]
theorem Zp(hN:20≤N)(h:Fine T H f):∀(n k:Nat),T.length<n+k→k≤T.length→rconf_l1 N n k T H f (Ai (cE T f) T.length 1 k)=some (Ai (cE T f) T.length 1 T.length)
 | 0,k,h1,h2=>by omega
 | n+1,k,h1,h2=>by
  unfold rconf_l1
  have hT:=h.n
  by_cases c:k<T.length
  ·have al:=D4 (cE T f) T.length 1 k
   have:k*T.length≤5*5:=Nat.mul_le_mul (by omega) (by omega)
   rw[A4 (by omega),A5 (by omega)]
   have e:=Z5 (N:=N) hN h (s:=k+1) (O:=Ai (cE T f) T.length 1 k) c (by omega) N (k+1) (by omega) (by omega) (by omega)
   rw[Ef,List.append_nil,show((k+1:Nat):Int)=(k:Int)+1 by omega]at e
   rw[e]
   simp only[Option.bind_some]
   rw[A5 (by omega)]
   have next:=Zp hN h n (k+1) (by omega) (by omega)
   rw[Cx,show((k+1:Nat):Int)=(k:Int)+1 by omega]at next
   exact next
  ·have e:k=T.length:=by omega
   rw[A3 (by omega),e]
theorem Alq(hN:20≤N)(hm:Small T H)(h:Fine T H f):Lx N T H f=some (Ai (cE T f) T.length 1 T.length,0):=by
 unfold Lx
 have hT:=h.n
 rw[Ev hN hm,h.check]
 simp only[Option.bind_some,decide_true,Bool.not_true,A6]
 have:=Zp (N:=N) hN h N 0 (by omega) (by omega)
 rw[show Ai (cE T f) T.length 1 0=[]from rfl,show((0:Nat):Int)=0 from rfl]at this
 rw[this];rfl
theorem Th{W:List (Int×Int)}{a b f2 f3:Int}{T2 T3:List (List Int)}{H2 H3:List Int}(hW:W.length≤1000):∀(n k:Nat),W.length<n+k→k≤W.length→etexts_l1 N n a b W W (W.length:Int) k T H f T2 H2 f2 T3 H3 f3=some (.inr (a,b,T,H,f,T2,H2,f2,T3,H3,f3))
 | 0,k,h,_=>by omega
 | n+1,k,h,hk=>by
  unfold etexts_l1
  by_cases c:k<W.length
  ·rw[A4 (by omega),Ab (0,0) (by omega) (by omega),Ab (0,0) (by omega) (by omega)]
   simp only[decide_true,Bool.and_self,Bool.not_true,A6]
   rw[A5 (by omega)]
   have:=Th (a:=a) (b:=b) (f2:=f2) (f3:=f3) (T2:=T2) (T3:=T3) (H2:=H2) (H3:=H3) hW n (k+1) (by omega) (by omega)
   rw[show((k+1:Nat):Int)=(k:Int)+1 by omega]at this
   exact this
  ·rw[A3 (by omega)]
theorem A7v{a b:Int}(h0:(Ty.pair (.sl (.sl (.int .i64))) (.pair (.sl (.int .i64)) (.int .i64))).inB (T,H,f))(h1:(Ty.int .i64).inB a)(h2:(Ty.int .i64).inB b):etexts_S 1100 T H f a b=some true:=by
 unfold etexts_S
 rcases Q3 (N:=1100) (by omega) T H f with e | ⟨e,hm⟩
 ·rw[e];simp only[Option.bind_some,B1,Dh]
 ·rw[e]
  simp only[Option.bind_some,A6]
  have hmn:=hm.n
  rw[F8 (by omega) hm]
  simp only[Option.bind_some]
  have loop:∃W,W.length≤25∧Nh 1100 T H f=some (W,B9 T H f)∧Lx 1100 T H f=some (W,B9 T H f):=by
   by_cases c:B9 T H f=0
   ·have hF:=W3 c
    have al:=D4 (cE T f) T.length 1 T.length
    have hn:=hF.n
    have hn2:T.length*T.length≤5*5:=Nat.mul_le_mul (by omega) (by omega)
    exact⟨Ai (cE T f) T.length 1 T.length,by omega,by rw[Aop (by omega) hF,c],by rw[Alq (by omega) hm hF,c]⟩
   ·refine⟨[],by simp,?_,?_⟩
    ·unfold Nh
     rw[C8 (by omega)]
     simp only[Option.bind_some]
     rw[Al c]
    ·unfold Lx
     rw[Ev (by omega) hm]
     simp only[Option.bind_some]
     rw[Al c]
  obtain⟨W,hW,e1,e2⟩:=loop
  have e3:=Th (N:=1100) (T:=T) (H:=H) (f:=f) (W:=W) (a:=a) (b:=b) (f2:=f) (f3:=f) (T2:=T) (T3:=T) (H2:=H) (H3:=H) (by omega) 1100 0 (by omega) (by omega)
  rw[show((0:Nat):Int)=0 from rfl]at e3
  rw[e1,e2]
  simp only[Option.bind_some,decide_true,Bool.not_true,A6]
  rw[e3]
  simp only[Option.bind_some]
  rw[Jg (by omega) hm]
  by_cases c:Ao T H f a b=0
  ·obtain⟨hF,ha,hb,_⟩:=Ap (N:=1100) (by omega) c
   have la:=hF.l (T.getD a.toNat []) (Aa (by omega))
   have lb:=hF.l (T.getD b.toNat []) (Aa (by omega))
   have hTa:T[a.toNat]?=some (T.getD a.toNat []):=by
    have:a.toNat<T.length:=by omega
    simp[List.getD,this]
   have hTb:T[b.toNat]?=some (T.getD b.toNat []):=by
    have:b.toNat<T.length:=by omega
    simp[List.getD,this]
   rw[Aow (by omega) hF ha hb,Ag2 (by omega) hF ha hb,Aks (by omega) hF ha hb]
   simp only[Option.bind_some]
   rw[Bk c,idx_eq ha.1 hTa,idx_eq hb.1 hTb]
   generalize T.getD a.toNat []=A at *
   generalize T.getD b.toNat []=B at *
   obtain⟨s1,s2,s3⟩:=Mj A B
   obtain⟨m1,m2,m3,m4⟩:=Ao7 (A:=A) (B:=B)
   have n0:=Jw A B
   have d0:Aq A B=(A.length:Int)+B.length-2*(cw A B).length:=rfl
   have a1:=s1.length_le
   have b1:=s2.length_le
   rw[A45 (by omega) (by omega)]
   simp only[Option.bind_some,decide_true,Bool.not_true,A6]
   rw[A5 (by omega),A5 (by omega),A5 (by omega),Bk (by omega),A8q (by omega) (by omega) s1]
   simp only[Option.bind_some,Bool.not_true,A6]
   rw[A8q (by omega) (by omega) s2]
   simp only[Option.bind_some,Bool.not_true,A6]
   rw[A4 (by omega),A45 (by omega) (by omega)]
   simp only[Option.bind_some]
   rw[A5 (by omega),Anw (by omega),A4 m1,A45 (by omega) (by omega)]
   simp only[Option.bind_some]
   rw[A5 (by omega),A4 m2,Ky (by omega) hm,Dh]
   rfl
  ·rw[Ajy (by omega) c,A6t (by omega) c,Abs (by omega) c]
   simp only[Option.bind_some,decide_true,B1]
   rw[Al c,A5 (by simp),A5 (by simp),A4 (by simp),Ky (by omega) hm,Dh]
   rfl
end
end Go.Proofs.YtfcnhnbnjdccfaaGreat

namespace Go.Proofs.YtfcnhnbnjdccfaaGreat
set_option linter.all false
open Go
theorem A2.weak{R:Type}{f:FuncId}{ins:StSh}{outs:List StSh}{F F2:ins.den→Option R}{g:{Y:Type}→(altD outs→Y)→R→Y}(h:A2 Tryz.prog (mkS f ins outs F g))(hw:∀p r,F2 p=some r→F p=some r):A2 Tryz.prog (mkS f ins outs F2 g):=by
 refine⟨fun Y p κ=>?_,h.call,fun p r hr=>?_⟩
 ·show(F2 p).bind (g κ)=((F2 p).bind (g some)).bind κ
  cases e:F2 p with
  | none=>rfl
  | some x=>
   have:=h.nat Y p κ
   rw[show(mkS f ins outs F g).run p κ=(F p).bind (g κ)from rfl,show(mkS f ins outs F g).run p some=(F p).bind (g some)from rfl,hw p x e]at this
   exact this
 ·refine h.fn p r ?_
  have hr':(F2 p).bind (g some)=some r:=hr
  show(F p).bind (g some)=some r
  cases e:F2 p with
  | none=>rw[e]at hr';cases hr'
  | some x=>rw[hw p x e];rw[e]at hr';exact hr'
theorem Amp{R:Type}{f:FuncId}{ins:StSh}{outs:List StSh}{F:ins.den→Option R}{g:{Y:Type}→(altD outs→Y)→R→Y}{p:ins.den}{r:R}(h:F p=some r):(mkS f ins outs F g).run p some=g some r:=by
 show(F p).bind _=_
 rw[h];rfl
def Ty.inQ:(t:Ty)→t.den→Bool
 | .int .i64,n=>decide (-9223372036854775808≤n∧n≤9223372036854775807)
 | .int _,_=>false
 | .bool,_=>true
 | .pair a b,x=>a.inQ x.1&&b.inQ x.2
 | .sl a,l=>decide (l.length≤9223372036854775807)&&l.all a.inQ
 | .ptr a,x=>a.inQ x
theorem Ty.inQ_ok:∀ {t:Ty} {x:t.den},t.inQ x=true→t.inB x
 | .int k,n,h=>by
  cases k<;>simp only[Ty.inQ,Bool.false_eq_true,decide_eq_true_eq]at h
  exact Ep.2 h
 | .bool,_,_=>trivial
 | .pair a b,x,h=>by
  simp only[Ty.inQ,Bool.and_eq_true]at h
  exact⟨Ty.inQ_ok h.1,Ty.inQ_ok h.2⟩
 | .sl a,l,h=>by
  simp only[Ty.inQ,Bool.and_eq_true,decide_eq_true_eq]at h
  exact⟨h.1,fun x hx=>Ty.inQ_ok (List.all_eq_true.1 h.2 x hx)⟩
 | .ptr a,x,h=>Ty.inQ_ok (t:=a) (by simpa only[Ty.inQ]using h)
theorem Aq6{a b:Bool}{o:Option Bool}{r:Bool}(h:grd (a&&b) o=some r):a=true∧grd b o=some r:=by
 obtain⟨h1,h2⟩:=Az h
 simp only[Bool.and_eq_true]at h1
 exact⟨h1.1,by rw[h1.2];exact h2⟩
end Go.Proofs.YtfcnhnbnjdccfaaGreat

namespace Go.Proofs.YtfcnhnbnjdccfaaGreat
set_option linter.all false
open Go

def Sj(N:Nat)(a0:List Qe)(a1:List Int)(a2:Int)(a3:Int)(a4:Int):Option Bool:=grd ((.pair Qw (.pair Qf (.int .i64)):Ty).inQ (a0,a1,a2)&&((.pair (.int .i64) (.int .i64):Ty).inQ (a3,a4))) (some true)
noncomputable def Ach(N:Nat):Spec:=mkS 8 ⟨[.agg [.sl Qf,.sl (.int .i64),.i .i64],.agg [.i .i64,.i .i64]],[]⟩ [⟨[.b],[]⟩] (fun p=>Sj N p.1.1.1 p.1.1.2.1 p.1.1.2.2.1 p.1.2.1.1 p.1.2.1.2.1) (fun k r=>k ((r,()),()))
theorem N1(N:Nat):A2 Tryz.prog (Ach N):=A2.weak (A39 60000) fun p r h=>by
 obtain⟨q,h2⟩:=Az h
 cases h2
 simp only[Bool.and_eq_true]at q
 exact A82 (Ty.inQ_ok q.1) (Ty.inQ_ok q.2)
def W9(N:Nat)(a0:List Qe)(a1:List Int)(a2:Int)(a3:Int)(a4:Int)(a5:List Qd):Option Bool:=grd ((.pair Qw (.pair Qf (.int .i64)):Ty).inQ (a0,a1,a2)&&((.pair (.int .i64) (.int .i64):Ty).inQ (a3,a4)&&((.sl Qc:Ty).inQ a5))) (some true)
noncomputable def A66(N:Nat):Spec:=mkS 20 ⟨[.agg [.sl Qf,.sl (.int .i64),.i .i64],.agg [.i .i64,.i .i64],.sl Qc],[]⟩ [⟨[.b],[]⟩] (fun p=>W9 N p.1.1.1 p.1.1.2.1 p.1.1.2.2.1 p.1.2.1.1 p.1.2.1.2.1 p.1.2.2.1) (fun k r=>k ((r,()),()))
theorem Yz(N:Nat):A2 Tryz.prog (A66 N):=A2.weak (A0k 1100) fun p r h=>by
 obtain⟨q,h2⟩:=Az h
 cases h2
 simp only[Bool.and_eq_true]at q
 exact A4w (Ty.inQ_ok q.1) (Ty.inQ_ok q.2.1) (Ty.inQ_ok q.2.2)
def Su(N:Nat)(a0:List Qe)(a1:List Int)(a2:Int)(a3:Int)(a4:Int)(a5:List Qj):Option Bool:=grd ((.pair Qw (.pair Qf (.int .i64)):Ty).inQ (a0,a1,a2)&&((.pair (.int .i64) (.int .i64):Ty).inQ (a3,a4)&&((.sl Qw:Ty).inQ a5))) (some true)
noncomputable def Aa5(N:Nat):Spec:=mkS 10 ⟨[.agg [.sl Qf,.sl (.int .i64),.i .i64],.agg [.i .i64,.i .i64],.sl Qw],[]⟩ [⟨[.b],[]⟩] (fun p=>Su N p.1.1.1 p.1.1.2.1 p.1.1.2.2.1 p.1.2.1.1 p.1.2.1.2.1 p.1.2.2.1) (fun k r=>k ((r,()),()))
theorem Mu(N:Nat):A2 Tryz.prog (Aa5 N):=A2.weak (A4d 1100) fun p r h=>by
 obtain⟨q,h2⟩:=Az h
 cases h2
 simp only[Bool.and_eq_true]at q
 exact A5j (Ty.inQ_ok q.1) (Ty.inQ_ok q.2.1) (Ty.inQ_ok q.2.2)
def Nf(N:Nat)(a0:List Qe)(a1:List Int)(a2:Int)(a3:Int):Option Bool:=grd ((.pair Qw (.pair Qf (.int .i64)):Ty).inQ (a0,a1,a2)&&((.int .i64:Ty).inQ a3)) (some true)
noncomputable def A7n(N:Nat):Spec:=mkS 11 ⟨[.agg [.sl Qf,.sl (.int .i64),.i .i64],.i .i64],[]⟩ [⟨[.b],[]⟩] (fun p=>Nf N p.1.1.1 p.1.1.2.1 p.1.1.2.2.1 p.1.2.1) (fun k r=>k ((r,()),()))
theorem Kk(N:Nat):A2 Tryz.prog (A7n N):=A2.weak (A0e 2500) fun p r h=>by
 obtain⟨q,h2⟩:=Az h
 cases h2
 simp only[Bool.and_eq_true]at q
 exact A2y (Ty.inQ_ok q.1) (Ty.inQ_ok q.2)
def Sq(N:Nat)(a0:List Qe)(a1:List Int)(a2:Int)(a3:Int)(a4:Int):Option Bool:=grd ((.pair Qw (.pair Qf (.int .i64)):Ty).inQ (a0,a1,a2)&&((.int .i64:Ty).inQ a3&&((.int .i64:Ty).inQ a4))) (some true)
noncomputable def Aa8(N:Nat):Spec:=mkS 9 ⟨[.agg [.sl Qf,.sl (.int .i64),.i .i64],.i .i64,.i .i64],[]⟩ [⟨[.b],[]⟩] (fun p=>Sq N p.1.1.1 p.1.1.2.1 p.1.1.2.2.1 p.1.2.1 p.1.2.2.1) (fun k r=>k ((r,()),()))
theorem Mx(N:Nat):A2 Tryz.prog (Aa8 N):=A2.weak (A4n 1100) fun p r h=>by
 obtain⟨q,h2⟩:=Az h
 cases h2
 simp only[Bool.and_eq_true]at q
 exact A7v (Ty.inQ_ok q.1) (Ty.inQ_ok q.2.1) (Ty.inQ_ok q.2.2)
end Go.Proofs.YtfcnhnbnjdccfaaGreat

namespace Go.Proofs.YtfcnhnbnjdccfaaGreat
set_option linter.all false
open Go
noncomputable def Afy(_:Nat):Spec:={ f:=71,ins:=⟨[.undef,.undef,.undef,.undef],[]⟩,outs:=[],run:=fun _ _=>none }
theorem A3x(N:Nat):A2 Tryz.prog (Afy N):=⟨fun _ _ _=>rfl,(Ge N).call,fun _ _ h=>by cases h⟩
noncomputable def Af2(_:Nat):Spec:={ f:=71,ins:=⟨[.undef,.undef,.undef,.undef,.undef],[]⟩,outs:=[],run:=fun _ _=>none }
theorem A3z(N:Nat):A2 Tryz.prog (Af2 N):=⟨fun _ _ _=>rfl,(Ge N).call,fun _ _ h=>by cases h⟩

def Aj9(N:Nat)(heard faults:Int):Option (Int×List Int×List Int×List Int):=
 grd (decide ((0:Int)≤heard∧heard≤([1,4,2,2,3].length:Int)))<|
 some (faults,([1,4,2,2,3].take heard.toNat),[1,2,3],[4,2])
noncomputable def Ank(N:Nat):Spec:=mkS 4 ⟨[.i .i64,.i .i64],[]⟩ [⟨[.agg [.osl 0 2,.ols 1,.i .i64]],[.segs [.ols 2,.ols 3],.lst (.int .i64),.lst (.int .i64),.lst (.int .i64)]⟩] (fun p=>Aj9 N p.1.1 p.1.2.1) (fun k r=>k ((((),(),r.1,()),()),(((),(),()),r.2.1,r.2.2.1,r.2.2.2,())))
theorem A9y(N:Nat):A2 Tryz.prog (Ank N):=mkF (R:=Int×List Int×List Int×List Int) (m0:=0) [⟨_,A3z N⟩] [] (fun r=>some (r.1.1.2.2.1,r.2.2.1,r.2.2.2.1,r.2.2.2.2.1)) [] Tryz.func4 (fun p=>by kernel_rfl) (by kernel_rfl) (fun _=>by kernel_rfl)

def Hc(N:Nat)(u:Int)(d:Qa)(u2:Ql)(u3:Qa)(g_ g2_ g3_:Int)(g4_:List (Ql×Qd))(g5_:List Qd):Option Qo:=
 some ((u,d,g_,g2_,g3_,g4_,g5_))
def El(N:Nat)(rec:Int→Int→Int→Qg→Qh→Option Qo)(u:Int)(d:Qa)(u2:Ql)(u3:Qa)(u' x' x2' x3':Int)(rests':List (Ql×Qd))(out':List Qd)(q' q2' y' y2' y3':Int):Option Qo:=
 br (!decide (q'=3))
  (chk ((((rests'.find? fun(y:Ql×Qd)=>Ty.beq Qk y.1 (y',y2',y3')).map (·.2)).getD (Ty.dflt Qc)).1+1)<|
  br (decide (((((rests'.find? fun(y:Ql×Qd)=>Ty.beq Qk y.1 (y',y2',y3')).map (·.2)).getD (Ty.dflt Qc)).1+1)=(((rests'.find? fun(y:Ql×Qd)=>Ty.beq Qk y.1 (x',x2',x3')).map (·.2)).getD (Ty.dflt Qc)).1))
   (lim (out'.length+[(q',q2')].length)<|
   some ((u,d,y',y2',y3',rests',(out'++[(q',q2')]))))
   (rec x' x2' x3' rests' out'))
  (br (decide ((((rests'.find? fun(y:Ql×Qd)=>Ty.beq Qk y.1 (y',y2',y3')).map (·.2)).getD (Ty.dflt Qc)).1=(((rests'.find? fun(y:Ql×Qd)=>Ty.beq Qk y.1 (x',x2',x3')).map (·.2)).getD (Ty.dflt Qc)).1))
   (lim (out'.length+[(q',q2')].length)<|
   some ((u,d,y',y2',y3',rests',(out'++[(q',q2')]))))
   (rec x' x2' x3' rests' out'))
def Br(N:Nat):List Move→Int→(Qa)→(Ql)→(Qa)→Int→Int→Int→Qg→Qh→Option Qo
 | [],u,d,u2,u3,x,x2,x3,rests,out=>
  some ((u,d,x,x2,x3,rests,out))
 | e::es,u,d,u2,u3,x,x2,x3,rests,out=>
  El N (fun x_ x2_ x3_ rests_ out_=>Br N es u d u2 u3 x_ x2_ x3_ rests_ out_) u d u2 u3 u x x2 x3 rests out e.1.1 e.1.2.1 e.2.1.1 e.2.1.2.1 e.2.1.2.2.1
def Lk(N:Nat):Nat→Int→(Qa)→Int→Int→Int→Qg→Qh→Option Qh
 | 0,_,_,_,_,_,_,_=>none
 | n_+1,u,d,x,x2,x3,rests,out=>
  br (decide (x<(d.2.1.length:Int)))
   ((Gk N d x x2 x3).bind fun(x_4,y_5)=>
   ((D3 x_4 y_5).bind fun es=>Br N es u d x_4 y_5 x x2 x3 rests out).bind fun(u_6,d_7,x_8,x2_9,x3_10,rests_11,out_12)=>
   Lk N n_ u_6 d_7 x_8 x2_9 x3_10 rests_11 out_12)
   (some (out))
def Gx(N:Nat)(e:List Qe)(e2:List Int)(e3 p p2:Int):Option (Int×Qh):=
 ((B5 N e e2 e3 p p2).bind fun e=>match e with
 | .inl (x_1,y_2)=>
  (br (!decide (y_2=0))
   (some (y_2,[]))
   ((Eu N).bind fun _=>
   (Gm N x_1).bind fun x_3=>
   (Lk N N 0 x_1 0 0 0 x_3 []).bind fun out_13=>
   some (0,out_13)))
 | .inr x_14=>
  (br (!decide (x_14=0))
   (some (x_14,[]))
   ((Eu N).bind fun _=>
   none)))
noncomputable def Hr(N:Nat):Oks:=[⟨_,Ax N⟩,⟨_,H9 N⟩,⟨_,G0 N⟩,⟨_,Jn N⟩]
abbrev Nl:List StSh:=[⟨[.ols 0,.i .i64],[.lst Qc]⟩]
noncomputable abbrev B2:Body:=mkB Tryz.f5 Nl 0
noncomputable def De(N:Nat):List Spec:=(Hr N).map (·.1)
theorem Fm(N:Nat):AllP (A2 Tryz.prog) (De N):=allP_map (Hr N)
noncomputable def Xa:Code:=B2.c
abbrev Bi:Sta:=⟨[4,5,6,8,9,10,38],⟨[.nils,.i .i64,.fe Qb,.own 0 0,.own 1 0,.own 2 0,.fn 65 [] [.fe Qk,.fe (.ptr Qb)]],[.segs [.mp 3],.segs [.ols 4],.segs [.i .i64,.i .i64,.i .i64],.map Qk Qc,.lst Qc]⟩⟩
abbrev Ct:Sta:=⟨[4,5,8,9,10,11,12],⟨[.nils,.i .i64,.own 0 0,.own 1 0,.own 2 0,.own 5 0,.own 6 0],[.segs [.mp 3],.segs [.ols 4],.segs [.i .i64,.i .i64,.i .i64],.map Qk Qc,.lst Qc,.segs [.i .i64,.i .i64],.segs [.i .i64,.i .i64,.i .i64]]⟩⟩
abbrev Dm:Leaf Qo:=⟨[.c [1,1,1,1,1,1,0,0,0,0,0],.c [1,1,1,1,1,1,0,0,0,0,1],.c [1,1,1,1,1,1,0,0,0,1],.l [1,1,1,1,1,1,0,0,0],.b 0,.c [1,1,1,1,1,1,1]],⟨[4,5,6,8,9,10],⟨[.nils,.i .i64,.fe Qb,.own 0 0,.own 1 0,.own 2 0],[.segs [.mp 3],.segs [.ols 4],.segs [.i .i64,.i .i64,.i .i64],.map Qk Qc,.lst Qc]⟩⟩,fun p=>some ((p.1.2.1,p.1.2.2.1,p.2.2.2.1.1,p.2.2.2.1.2.1,p.2.2.2.1.2.2.1,p.2.2.2.2.1,p.2.2.2.2.2.1))⟩
noncomputable def Eo(N:Nat):Hs:={ at_:=[.c [1,1,1,1,1,1,0,0,0,1,0,0,1,1,0],.b 2,.s [1,1,1,1,1,1,0,0,0,1,0,0],.b 1,.l [1,1,1,1,1,1,0,0,0],.b 0,.c [1,1,1,1,1,1,1]],sta:=Bi,exits:=[([.c [1,1,1,1,1,1,0,0,0,0,0],.c [1,1,1,1,1,1,0,0,0,0,1],.c [1,1,1,1,1,1,0,0,0,1],.l [1,1,1,1,1,1,0,0,0],.b 0,.c [1,1,1,1,1,1,1]],⟨[4,5,6,8,9,10],⟨[.nils,.i .i64,.fe Qb,.own 0 0,.own 1 0,.own 2 0],[.segs [.mp 3],.segs [.ols 4],.segs [.i .i64,.i .i64,.i .i64],.map Qk Qc,.lst Qc]⟩⟩)],run:=fun p k=>((D3 p.1.2.2.2.2.2.2.1.2.1 p.1.2.2.2.2.2.2.1.2.2.1).bind fun es=>Br N es p.1.2.1 p.1.2.2.1 p.1.2.2.2.2.2.2.1.2.1 p.1.2.2.2.2.2.2.1.2.2.1 p.2.2.2.1.1 p.2.2.2.1.2.1 p.2.2.2.1.2.2.1 p.2.2.2.2.1 p.2.2.2.2.2.1).bind fun e=>k (.inl (((),e.1,e.2.1,(),(),(),()),(((),()),((),()),(e.2.2.1,e.2.2.2.1,e.2.2.2.2.1,()),e.2.2.2.2.2.1,e.2.2.2.2.2.2,()))) }
noncomputable abbrev Dr:Body:=mkB Tryz.f5 Nl 5
theorem Vg(N:Nat)(u:Int)(d:Qa)(u2:Ql)(u3:Qa)(x:Int)(x2:Int)(x3:Int)(rests:List (Ql×Qd))(out:List Qd):ev (Z:=Int×Qa×Int×Int×Int×Qg×Qh) Tryz.prog (De N) B2 [] [Dm] none 400 false (nrm B2.c 99 [.b 2,.s [1,1,1,1,1,1,0,0,0,1,0,0],.b 1,.l [1,1,1,1,1,1,0,0,0],.b 0,.c [1,1,1,1,1,1,1]]) (stL Bi (((),u,d,(),(),(),((),(u2,u3,())),()),(((),()),((),()),(x,x2,x3,()),rests,out,()))) (stH Bi (((),u,d,(),(),(),((),(u2,u3,())),()),(((),()),((),()),(x,x2,x3,()),rests,out,())))=Br N [] u d u2 u3 x x2 x3 rests out:=by kernel_rfl
theorem Ve(N:Nat)(e:Move)(es:List Move)(u:Int)(d:Qa)(u2:Ql)(u3:Qa)(x:Int)(x2:Int)(x3:Int)(rests:List (Ql×Qd))(out:List Qd):ev (Z:=Int×Qa×Int×Int×Int×Qg×Qh) Tryz.prog (De N) Dr [] [⟨[.r,.c [1,1,1,1,1,1,0,0,0,1,0,0,1,1,0,1]],Ct,fun p=>El N (fun x_ x2_ x3_ rests_ out_=>Br N es u d u2 u3 x_ x2_ x3_ rests_ out_) u d u2 u3 p.1.2.1 p.2.2.2.1.1 p.2.2.2.1.2.1 p.2.2.2.1.2.2.1 p.2.2.2.2.1 p.2.2.2.2.2.1 p.2.2.2.2.2.2.1.1 p.2.2.2.2.2.2.1.2.1 p.2.2.2.2.2.2.2.1.1 p.2.2.2.2.2.2.2.1.2.1 p.2.2.2.2.2.2.2.1.2.2.1⟩] none 400 false (nrm B2.c 99 [.c [1,1,1,1,1,1,0,0,0,1,0,0,1,1,0,0],.r,.c [1,1,1,1,1,1,0,0,0,1,0,0,1,1,0,1]]) (pars [39,40] (encs id Dq.elem e) (stL Bi (((),u,d,(),(),(),((),(u2,u3,())),()),(((),()),((),()),(x,x2,x3,()),rests,out,())))) (stH Bi (((),u,d,(),(),(),((),(u2,u3,())),()),(((),()),((),()),(x,x2,x3,()),rests,out,())))=Br N (e::es) u d u2 u3 x x2 x3 rests out:=by kernel_rfl
theorem Vf(N:Nat)(rec:Int→Int→Int→Qg→Qh→Option Qo)(u:Int)(d:Qa)(u2:Ql)(u3:Qa)(u':Int)(x':Int)(x2':Int)(x3':Int)(rests':List (Ql×Qd))(out':List Qd)(q':Int)(q2':Int)(y':Int)(y2':Int)(y3':Int):ev (Z:=Int×Qa×Int×Int×Int×Qg×Qh) Tryz.prog (De N) Dr [] [⟨[],⟨[],⟨[],[.segs [.mp 3],.segs [.ols 4],.segs [.i .i64,.i .i64,.i .i64],.map Qk Qc,.lst Qc]⟩⟩,fun p=>rec p.2.2.2.1.1 p.2.2.2.1.2.1 p.2.2.2.1.2.2.1 p.2.2.2.2.1 p.2.2.2.2.2.1⟩,⟨[.c [1,1,1,1,1,1,0,0,0,1,0,0,1,1,0,1,0,1,1,1,0,1],.b 3],⟨[],⟨[],[.segs [.mp 3],.segs [.ols 5],.segs [.i .i64,.i .i64,.i .i64],.map Qk Qc,.dead,.lst Qc]⟩⟩,fun p=>Hc N u d u2 u3 p.2.2.2.1.1 p.2.2.2.1.2.1 p.2.2.2.1.2.2.1 p.2.2.2.2.1 p.2.2.2.2.2.2.1⟩] none 400 false (nrm B2.c 99 [.c [1,1,1,1,1,1,0,0,0,1,0,0,1,1,0,1]]) (stL Ct (((),u',(),(),(),(),(),()),(((),()),((),()),(x',x2',x3',()),rests',out',(q',q2',()),(y',y2',y3',()),()))) (stH Ct (((),u',(),(),(),(),(),()),(((),()),((),()),(x',x2',x3',()),rests',out',(q',q2',()),(y',y2',y3',()),())))=El N rec u d u2 u3 u' x' x2' x3' rests' out' q' q2' y' y2' y3':=by kernel_rfl
theorem S5(N:Nat)(u:Int)(d:Qa)(u2:Ql)(u3:Qa)(g_:Int)(g2_:Int)(g3_:Int)(g4_:List (Ql×Qd))(g5_:List Qd):ev (Z:=Int×Qa×Int×Int×Int×Qg×Qh) Tryz.prog (De N) B2 [] [Dm] none 400 false (nrm B2.c 99 (.c [1,1,1,1,1,1,0,0,0,1,0,0,1,1,0,1,0,1,1,1,0,1]::[.b 2,.s [1,1,1,1,1,1,0,0,0,1,0,0],.b 1,.l [1,1,1,1,1,1,0,0,0],.b 0,.c [1,1,1,1,1,1,1]])) (Bi.tmps.zip (encs id Bi.sh.avs ((),u,d,(),(),(),((),(u2,u3,())),()))) (encBs id [.segs [.mp 3],.segs [.ols 5],.segs [.i .i64,.i .i64,.i .i64],.map Qk Qc,.dead,.lst Qc] (((),()),((),()),(g_,g2_,g3_,()),g4_,(),g5_,()))=Hc N u d u2 u3 g_ g2_ g3_ g4_ g5_:=by kernel_rfl
theorem Ka(N:Nat):Gg Tryz.prog B2.c B2.n B2.m0 true (Eo N):=by
 refine Ld (B:=B2) (is:=Dq) (g:=.tmp 38) (ps:=#[39,40]) (assign:=sub Xa [1,1,1,1,1,1,0,0,0,1,0,0,1,1,0,0]) (body:=sub Xa [1,1,1,1,1,1,0,0,0,1,0,0,1,1,0,1]) (Z:=Int×Qa×Int×Int×Int×Qg×Qh) (x:=Eo N) (fun p=>(p.1.2.2.2.2.2.2.1.2.1,p.1.2.2.2.2.2.2.1.2.2.1,())) (fun es p=>Br N es p.1.2.1 p.1.2.2.1 p.1.2.2.2.2.2.2.1.2.1 p.1.2.2.2.2.2.2.1.2.2.1 p.2.2.2.1.1 p.2.2.2.1.2.1 p.2.2.2.1.2.2.1 p.2.2.2.2.1 p.2.2.2.2.2.1) (staA:=Ct) (fun es q p=>El N (fun x_ x2_ x3_ rests_ out_=>Br N es q.2.1 q.2.2.1 q.2.2.2.2.2.2.1.2.1 q.2.2.2.2.2.2.1.2.2.1 x_ x2_ x3_ rests_ out_) q.2.1 q.2.2.1 q.2.2.2.2.2.2.1.2.1 q.2.2.2.2.2.2.1.2.2.1 p.1.2.1 p.2.2.2.1.1 p.2.2.2.1.2.1 p.2.2.2.1.2.2.1 p.2.2.2.2.1 p.2.2.2.2.2.1 p.2.2.2.2.2.2.1.1 p.2.2.2.2.2.2.1.2.1 p.2.2.2.2.2.2.2.1.1 p.2.2.2.2.2.2.2.1.2.1 p.2.2.2.2.2.2.2.1.2.2.1) [⟨[1,1,1,1,1,1,0,0,0,1,0,0,1,1,0,1,0,1,1,1,0,1],[.b 3],[.segs [.mp 3],.segs [.ols 5],.segs [.i .i64,.i .i64,.i .i64],.map Qk Qc,.dead,.lst Qc],fun q b=>Hc N q.2.1 q.2.2.1 q.2.2.2.2.2.2.1.2.1 q.2.2.2.2.2.2.1.2.2.1 ((),b).2.2.2.1.1 ((),b).2.2.2.1.2.1 ((),b).2.2.2.1.2.2.1 ((),b).2.2.2.2.1 ((),b).2.2.2.2.2.2.1⟩] (fun e=>.inl (((),e.1,e.2.1,(),(),(),()),(((),()),((),()),(e.2.2.1,e.2.2.2.1,e.2.2.2.2.1,()),e.2.2.2.2.2.1,e.2.2.2.2.2.2,()))) (fun _ _ _=>rfl) rfl (by kernel_rfl) (fun _=>by kernel_rfl) (by kernel_rfl) H7 (Nat.le_of_ble_eq_true (by kernel_rfl)) (by kernel_rfl) ?_ ?_ ?_ ?_
 ·exact fun z E Xc hE hX hx p hp a w hS=>ev_sound (z:=z) (B:=B2) (loops:=[]) (leaves:=[Dm]) (top:=true) (Fm N) mixed trivial hE hX ⟨(fun p hp=>by obtain rfl:=Option.some.inj hp;exact hx),trivial⟩ Bf.no 400 false _ _ _ ((Vg N p.1.2.1 p.1.2.2.1 p.1.2.2.2.2.2.2.1.2.1 p.1.2.2.2.2.2.2.1.2.2.1 p.2.2.2.1.1 p.2.2.2.1.2.1 p.2.2.2.1.2.2.1 p.2.2.2.2.1 p.2.2.2.2.2.1).trans hp) a w hS
 ·intro z E Xc hE hX hx e he q b hb a w hS
  simp only[List.mem_cons,List.not_mem_nil,or_false]at he
  rcases he with rfl
  ·exact ev_sound (z:=z) (B:=B2) (loops:=[]) (leaves:=[Dm]) (top:=true) (Fm N) mixed trivial hE hX ⟨(fun p hp=>by obtain rfl:=Option.some.inj hp;exact hx),trivial⟩ Bf.no 400 false _ _ _ ((S5 N q.2.1 q.2.2.1 q.2.2.2.2.2.2.1.2.1 q.2.2.2.2.2.2.1.2.2.1 ((),b).2.2.2.1.1 ((),b).2.2.2.1.2.1 ((),b).2.2.2.1.2.2.1 ((),b).2.2.2.2.1 ((),b).2.2.2.2.2.2.1).trans hb) a w hS
 ·exact fun z E Xc hE hX e es p hl hp a w hS=>ev_sound (z:=z) (B:=Dr) (loops:=[]) (leaves:=[_]) (top:=false) (Fm N) mixed trivial hE hX ⟨hl,trivial⟩ Bf.no 400 false _ _ _ ((Ve N e es p.1.2.1 p.1.2.2.1 p.1.2.2.2.2.2.2.1.2.1 p.1.2.2.2.2.2.2.1.2.2.1 p.2.2.2.1.1 p.2.2.2.1.2.1 p.2.2.2.1.2.2.1 p.2.2.2.2.1 p.2.2.2.2.2.1).trans hp) a w hS
 ·exact fun z E Xc hE hX es q he hs p hp a w hS=>ev_sound (z:=z) (B:=Dr) (loops:=[]) (leaves:=[_,_]) (top:=false) (Fm N) mixed trivial hE hX ⟨he,hs _ List.mem_cons_self,trivial⟩ Bf.no 400 false _ _ _ ((Vf N (fun x_ x2_ x3_ rests_ out_=>Br N es q.2.1 q.2.2.1 q.2.2.2.2.2.2.1.2.1 q.2.2.2.2.2.2.1.2.2.1 x_ x2_ x3_ rests_ out_) q.2.1 q.2.2.1 q.2.2.2.2.2.2.1.2.1 q.2.2.2.2.2.2.1.2.2.1 p.1.2.1 p.2.2.2.1.1 p.2.2.2.1.2.1 p.2.2.2.1.2.2.1 p.2.2.2.2.1 p.2.2.2.2.2.1 p.2.2.2.2.2.2.1.1 p.2.2.2.2.2.2.1.2.1 p.2.2.2.2.2.2.2.1.1 p.2.2.2.2.2.2.2.1.2.1 p.2.2.2.2.2.2.2.1.2.2.1).trans hp) a w hS
noncomputable def A03(N:Nat):LpQ B2 true:=mkL (Z:=Qh) (Hr N) [⟨Eo N,Ka N⟩] [.c [1,1,1,1,1,1,0,0,0,0,0],.c [1,1,1,1,1,1,0,0,0,0,1],.c [1,1,1,1,1,1,0,0,0,1],.l [1,1,1,1,1,1,0,0,0],.b 0,.c [1,1,1,1,1,1,1]] ⟨[4,5,6,8,9,10],⟨[.nils,.i .i64,.fe Qb,.own 0 0,.own 1 0,.own 2 0],[.segs [.mp 3],.segs [.ols 4],.segs [.i .i64,.i .i64,.i .i64],.map Qk Qc,.lst Qc]⟩⟩ (fun m p=>Lk N m p.1.2.1 p.1.2.2.1 p.2.2.2.1.1 p.2.2.2.1.2.1 p.2.2.2.1.2.2.1 p.2.2.2.2.1 p.2.2.2.2.2.1) [⟨[.c [1,1,1,1,1,1,1,0],.c [1,1,1,1,1,1,1,1]],⟨[9],⟨[.own 0 0],[.segs [.ols 1],.lst Qc]⟩⟩,fun p=>some (p.2.2.1)⟩] (fun _=>[]) (fun k e=>k (.inl (((),()),(((),()),e,())))) N (fun m p=>by kernel_rfl)
noncomputable def V3(N:Nat):Spec:=mkS 5 ⟨[.agg [.sl Qf,.sl (.int .i64),.i .i64],.agg [.i .i64,.i .i64]],[]⟩ Nl (fun p=>Gx N p.1.1.1 p.1.1.2.1 p.1.1.2.2.1 p.1.2.1.1 p.1.2.1.2.1) (fun k r=>k (((),r.1,()),(r.2,())))
theorem Kp(N:Nat):A2 Tryz.prog (V3 N):=mkF (R:=Int×Qh) (m0:=0) (Hr N) [⟨Eo N,Ka N⟩,A03 N] (fun r=>some (r.1.2.1,r.2.1)) [] Tryz.func5 (fun p=>by kernel_rfl) (by kernel_rfl) (fun _=>by kernel_rfl)

def Av(N:Nat)(x:List Qe)(x2:List Int)(x3 p p2:Int)(reading:List Qd)(marks:List Qj):Option Bool:=
 (Sj N x x2 x3 p p2).bind fun x_1=>
 br x_1
  ((W9 N x x2 x3 p p2 reading).bind fun x_2=>
  br x_2
   ((Su N x x2 x3 p p2 marks).bind fun x_3=>
   br x_3
    ((Nf N x x2 x3 p).bind fun x_4=>
    br x_4
     ((Sq N x x2 x3 p p2).bind fun x_5=>
     some x_5)
     (some false))
    (some false))
   (some false))
  (some false)
noncomputable def Akh(N:Nat):Spec:=mkS 7 ⟨[.agg [.sl Qf,.sl (.int .i64),.i .i64],.agg [.i .i64,.i .i64],.sl Qc,.sl Qw],[]⟩ [⟨[.b],[]⟩] (fun p=>Av N p.1.1.1 p.1.1.2.1 p.1.1.2.2.1 p.1.2.1.1 p.1.2.1.2.1 p.1.2.2.1 p.1.2.2.2.1) (fun k r=>k ((r,()),()))
theorem A68(N:Nat):A2 Tryz.prog (Akh N):=mkF (R:=Bool) (m0:=0) [⟨_,N1 N⟩,⟨_,Yz N⟩,⟨_,Mu N⟩,⟨_,Kk N⟩,⟨_,Mx N⟩] [] (fun r=>some r.1.1) [] Tryz.func7 (fun p=>by kernel_rfl) (by kernel_rfl) (fun _=>by kernel_rfl)

end Go.Proofs.YtfcnhnbnjdccfaaGreat

namespace Go.Proofs.YtfcnhnbnjdccfaaGreat
set_option linter.all false
open Go
structure Aq2 (n:Nat) (g:Gh) (w:World) (L:LL) (H:HH) (g':Gh) (a:Act) (w':World):Prop where
 ext:Ext w w'
 M:∀b o,g.M b=some o→g'.M b=some o
 Mn:∀b o,g'.M b=some o→g.M b=some o∨w.heap.size≤b
 oth:∀i b c k,g'.ρ i=some (some (b,c,k))→w.heap.size≤b
 sim:Sim g' (fun i=>H[i]?) w'
 tm:TmF g' (fun t=>L.lookup t) a.tmps
 sz:n≤a.tmps.size
 marks:∃Ds:List Nat,a.defers=Ds.map (fun D=>{ target:=.collected D,args:=#[] })∧Ds.Nodup∧∀D∈Ds,w.heap.size≤D∧w'.heap[D]?=some (.deferred (some []))
theorem Ao1{P:Program}{specs:List Spec}{B:Body}{f:FuncId}{ins:StSh}{fn:Func}{Z:Type}{x:Leaf Z}(F:ins.den→Option Z)(rt0:altD B.outs→Option Z){tmps:List Tmp}{fu:Nat}{k0:List PI}
  (hrt:∀r,rt0 r=none) (hf:P.funcs[f]?=some fn) (hb:fn.body=some B.c) (hm:B.m0=0) (hnb:ins.blks=[]) (htm:tmps=List.range' 0 ins.avs.length) (hk:nrm B.c 99 [.c []]=k0)
  (hall:AllP (A2 P) specs) (hmix:P.follows .mixedOrders=true) (hn:fn.ntmps=B.n)
  (hev:∀p,ev P specs B [] [x] (some rt0) fu false k0 (stL ⟨tmps,ins⟩ p) (stH ⟨tmps,ins⟩ p)=F p)
  (p:ins.den) (z:Z) (hz:F p=some z) (g:Gh) (w:World) (vs:List Value) (hv:RepVs g (encs id ins.avs p.1) vs) (hM:∀b o,g.M b=some o→w.heap[b]?=some o) (hρ:∀i,g.ρ i=none) (R:Value→World→Prop)
  (hK:∀cs q,x.fn q=some z→∀g' a w',Aq2 B.n g w (stL x.sta q) (stH x.sta q) g' a w'→At P (fctx P f R cs) (x.at_.map (itm B.c)) a w'):Fn P f vs.toArray w R:=by
 have hh:∀i,hOf p.2 i=none:=fun i=>by
  unfold hOf
  rw[List.getElem?_eq_none]
  rw[Af,hnb];exact Nat.zero_le _
 have hs:Sim g (hOf p.2) w:=⟨hM,fun i k hk=>(by rw[hh i]at hk;cases hk),fun i j ki kj b ci ni cj nj h1=>(by rw[hh i]at h1;cases h1)⟩
 have hE0:EOK0 B.m0 (fun _=>Ent (fun _=>False) B.m0 g w):=Ent.ok (fun i b c k hi e=>by rw[hρ i]at e;cases e) (fun i hi=>by omega)
 let E:EE:=fun ds g' w'=>Ent (fun _=>False) B.m0 g w g' w'∧Z0 w.heap.size ds g' w'
 have hE:EOK B.m0 E:=⟨⟨fun hn hs st he=>⟨hE0.step (ds:=[]) hn hs st he.1,he.2.step hs st⟩,fun ds g w he=>⟨hE0.bump ds g w he.1,he.2⟩,fun ds g w σ he h1 h2=>⟨hE0.reb ds g w σ he.1 h1 h2,he.2⟩⟩,⟨w.heap.size,fun ds g w' he=>he.1.size,fun ds g w' D he hD=>by
   obtain⟨Ds,rfl,_,hDs⟩:=he.2
   obtain⟨D',h1,h2⟩:=List.mem_map.1 hD
   cases h2
   exact A8 (hDs D h1).2.1,fun ds g w1 w2 T he hu hT=>⟨he.1.upd hu (fun k hk=>.inl (hT k hk).1),by
   obtain⟨Ds,rfl,hn,hDs⟩:=he.2
   refine⟨Ds,rfl,hn,fun D hD=>⟨(hDs D hD).1,hu.blk (hDs D hD).2.1 (fun hk=>(hT D hk).2 (List.mem_map.2 ⟨D,hD,rfl⟩)),(hDs D hD).2.2⟩⟩⟩⟩,fun ds g w1 w2 he hu hb hM=>⟨he.1.upd hu (fun k hk=>by cases hk),by
   obtain⟨Ds,rfl,hn,hDs⟩:=he.2
   refine⟨w1.heap.size::Ds,rfl,List.nodup_cons.2 ⟨fun hk=>?_,hn⟩,fun D hD=>?_⟩
   ·have:=A8 (hDs _ hk).2.1;omega
   ·rcases List.mem_cons.1 hD with rfl | hD
    ·exact⟨he.1.size,hb,hM⟩
    ·exact⟨(hDs D hD).1,hu.blk (hDs D hD).2.1,(hDs D hD).2.2⟩⟩⟩
 have hent:E [] g w:=⟨⟨rfl,rfl,rfl,Nat.le_refl _,fun _ _ _=>rfl,fun _ _ h=>h,fun _ _ h=>.inl h,fun _ _=>rfl,fun i b c k hi e=>by
  rw[hρ i]at e;cases e⟩,[],rfl,List.nodup_nil,by simp⟩
 refine Fn.of hf hb fun cs=>?_
 have hX:CxOK true (fctx P f R cs):=fun _=>rfl
 have hret:Bf P B E (fctx P f R cs) z (some rt0):=by
  rintro f' hf' r hrz
  cases hf'
  rw[hrt r]at hrz;cases hrz
 have hleaf:Be P B.c B.n B.m0 E (fctx P f R cs) z x:=by
  intro q hq a w' hS
  obtain⟨⟨g',hs',ht',hi',he⟩,hsz,_⟩:=hS
  refine hK cs q hq g' a w' ⟨⟨he.1.os,he.1.tape,he.1.output,he.1.size,fun b hb _=>he.1.same b hb (fun h=>h)⟩,he.1.M,fun b o h=>?_,fun i b c k h=>?_,hs',ht',hsz,?_⟩
  ·rcases he.1.Mn b o h with h1 | ⟨_,h1,_⟩
   ·exact .inl h1
   ·exact .inr (h1.resolve_right (fun h=>h))
  ·exact(he.1.oth i b c k (by omega) h).resolve_right (fun h=>h)
  ·obtain⟨Ds,e,h1,h2⟩:=he.2
   exact⟨Ds,e,h1,fun D hD=>⟨(h2 D hD).1,(h2 D hD).2.1⟩⟩
 have hsound:=ev_sound hall hmix (loops:=[]) trivial hE hX (leaves:=[x]) ⟨hleaf,trivial⟩ hret fu false k0 _ _ (by rw[hev p];exact hz)
 have hlen:vs.length=ins.avs.length:=by rw[(Ga hv).1,Hb]
 have hstart:SR B.n B.m0 E (stL ⟨tmps,ins⟩ p) (stH ⟨tmps,ins⟩ p) { tmps:=vs.toArray++Array.replicate (fn.ntmps-vs.toArray.size) undef,defers:=[] } w:=by
  refine⟨⟨g,hs,fun t a ha=>?_,fun i hi=>hρ i,hent⟩,by simp;omega,by rw[hm];exact Nat.zero_le _⟩
  have ha':((List.range' 0 (encs id ins.avs p.1).length).zip (encs id ins.avs p.1)).lookup t=some a:=by
   rw[Hb,←htm];exact ha
  obtain⟨_,h3⟩:=Jq _ 0 t a ha'
  obtain⟨v,h4,h5⟩:=(Ga hv).2 t a (by simpa using h3)
  have hlt:=(List.getElem?_eq_some_iff.1 h4).1
  have:(vs.toArray++Array.replicate (fn.ntmps-vs.toArray.size) undef).getD t undef=v:=by
   rw[Array.getD_eq_getD_getElem?,Array.getElem?_append_left (by simpa using hlt)]
   simp[h4]
  rw[this];exact h5
 have:=hsound _ w hstart
 rw[←hk]at this
 have h9:=At.nrmk (c:=B.c) 99 (k:=[.c []]) this
 have e9:sub B.c []=B.c:=by cases B.c<;>rfl
 simp only[List.map_cons,List.map_nil,itm,e9]at h9
 exact h9
end Go.Proofs.YtfcnhnbnjdccfaaGreat

namespace Go.Proofs.YtfcnhnbnjdccfaaGreat
set_option linter.all false
open Go

def A15(N:Nat)(d:((List (List Int))×((List Int)×(Int×((List Int)×(List Int))))))(g:List Int):Option ((((List (List Int))×((List Int)×(Int×((List Int)×(List Int))))))×List Int):=
 some (d,g)
def Ol(N:Nat)(e:List (List Int))(e2:List Int)(e3 p p2:Int):Option ((((List (List Int))×((List Int)×(Int×((List Int)×(List Int))))))×List Int):=
 ((B5 N e e2 e3 p p2).bind fun e=>match e with
 | .inl (x_1,y_2)=>
  (br (!decide (y_2=0))
   (none)
   (A15 N x_1 (List.replicate 539 (0:Int))))
 | .inr x_3=>
  (br (!decide (x_3=0))
   (none)
   (none)))

noncomputable def Sc(N:Nat):List Spec:=[Rw N]
theorem Aad(N:Nat):AllP (A2 Tryz.prog) (Sc N):=⟨Ax N,trivial⟩
noncomputable def Ajd:Code:=(Tryz.f6.body).getD .skip
noncomputable abbrev Pw:Body:={ c:=Ajd,n:=79,res:=[.tmp 4,.tmp 5],outs:=[⟨[],[]⟩],m0:=0 }
abbrev A1p:altD Pw.outs→Option ((((List (List Int))×((List Int)×(Int×((List Int)×(List Int))))))×List Int):=fun _=>none
abbrev A4b:List PI:=[.c [1,1,1,1,0],.c [1,1,1,1,1]]
abbrev A51:Sta:=⟨[6,8],⟨[.fe (.pair (.sl (.sl (.int .i64))) (.pair (.sl (.int .i64)) (.pair (.int .i64) (.pair (.sl (.int .i64)) (.sl (.int .i64)))))),.own 0 0],[.segs [.arr (.int .i64) 539]]⟩⟩
abbrev Ki(N:Nat):Leaf ((((List (List Int))×((List Int)×(Int×((List Int)×(List Int))))))×List Int):=⟨A4b,A51,fun p=>A15 N p.1.1 p.2.1.1⟩
abbrev A0o:Sta:=⟨[0,1],⟨[.agg [.sl (.sl (.int .i64)),.sl (.int .i64),.i .i64],.agg [.i .i64,.i .i64]],[]⟩⟩
theorem Ag5(N:Nat)(e:List (List Int))(e2:List Int)(e3:Int)(p:Int)(p2:Int):ev (Z:=(((List (List Int))×((List Int)×(Int×((List Int)×(List Int))))))×List Int) Tryz.prog (Sc N) Pw [] [Ki N] (some A1p) 400 false [.c [0],.c [1]] (stL A0o (((e,e2,e3,()),(p,p2,()),()),())) (stH A0o (((e,e2,e3,()),(p,p2,()),()),()))=Ol N e e2 e3 p p2:=by kernel_rfl

theorem An8{w:World}{b D:Nat}{cs:List Value}{ty:TypeId}{x:Option (List Deferred)}(h:Blk w b cs ty)(hD:w.heap[D]?=some (.deferred x)):b≠D:=by
 rintro rfl
 have h:w.heap[b]?=some (.cells cs.toArray ty (0,0)):=h
 rw[hD]at h;cases h
structure MkO (w w':World) (X:List (List (List Int))) (I A B:Nat) (v:Value):Prop where
 ext:Ext w w'
 val:∃bo hi us tyO,v=.tuple #[.slice (some ⟨bo,0,none⟩) I I,.int .i64 0]∧w.heap.size≤bo∧Blk w' bo us tyO∧Ar w' (bo+1) hi us X
 shp:Shp X I A B
set_option maxHeartbeats 1000000 in
theorem Aep{N:Nat}{T T1:List (List Int)}{H H1 A B:List Int}{f f1 a b:Int}{G G2:List Int}{X2:List (List (List Int))}(hq:Ol N T H f a b=some ((T1,H1,f1,A,B),G))(hnH:H1.length≤10)(hnA:A.length≤6)(hnB:B.length≤6)
  (hq2:mkI N (T1,H1,f1,A,B) (A.length+1) (B.length+1) (H1.length+1) 0 G (Ck (H1.length+1) (A.length+1) (B.length+1))=some (G2,X2)) (g:Gh) (hρ:∀i,g.ρ i=none) (w:World) (hM:∀b o,g.M b=some o→w.heap[b]?=some o) (vs:List Value)
  (hv:RepVs g (encs id [.agg [.sl (.sl (.int .i64)),.sl (.int .i64),.i .i64],.agg [.i .i64,.i .i64]] ((T,H,f,()),(a,b,()),())) vs) :
  Fn Tryz.prog 6 vs.toArray w (fun v w'=>MkO w w' X2 (H1.length+1) (A.length+1) (B.length+1) v):=by
 refine Ao1 (B:=Pw) (x:=Ki N) (ins:=⟨[.agg [.sl (.sl (.int .i64)),.sl (.int .i64),.i .i64],.agg [.i .i64,.i .i64]],[]⟩) (specs:=Sc N) (tmps:=[0,1]) (fu:=400) (fun p=>Ol N p.1.1.1 p.1.1.2.1 p.1.1.2.2.1 p.1.2.1.1 p.1.2.1.2.1) A1p (fun _=>rfl) Tryz.func6 (by kernel_rfl) rfl rfl rfl (by kernel_rfl) (Aad N) mixed (by kernel_rfl) (fun p=>Ag5 N p.1.1.1 p.1.1.2.1 p.1.1.2.2.1 p.1.2.1.1 p.1.2.1.2.1)
  (((T,H,f,()),(a,b,()),()),()) _ hq g w vs hv hM hρ _ ?_
 rintro cs ⟨⟨⟨T',H',f',A',B'⟩,u1,u2⟩,⟨G',u3⟩,u4⟩ hq3 g' a w' hr
 have hq3:some ((T',H',f',A',B'),G')=some ((T1,H1,f1,A,B),G):=hq3
 cases hq3
 have h6:RepV g' (.fe Mq (T1,H1,f1,A,B) 0) (a.tmps.getD 6 undef):=hr.tm 6 _ rfl
 have h8:RepV g' (.own 0 0) (a.tmps.getD 8 undef):=hr.tm 8 _ rfl
 have hB0:RepBlk g' w' 0 (.segs [.arr (.int .i64) 539 G]):=hr.sim.blk 0 _ rfl
 simp only[RepV]at h6 h8
 obtain⟨b0,c0,n0,us0,ty0,e0,hb0,⟨v1,v2,rfl,⟨hGl,hGr⟩,h3⟩,hm0⟩:=hB0
 obtain⟨_,_,_,e8,h8⟩:=h8
 rw[e0]at e8;cases e8
 have h3:v2=[]:=h3
 subst h3
 obtain⟨rfl,hGi⟩:=(Bs _ _).1 hGr
 have hb0:Blk w' b0 (G.map (.int .i64)) ty0:=by rw[List.append_nil]at hb0;exact hb0
 obtain⟨bd,od,ws,tyD,us,ep,hMD,hseg,hrep⟩:=h6
 have hrep0:=hrep
 simp only[RepC]at hrep
 obtain⟨_,_,rfl,⟨vT,rfl,hvT⟩,_,_,rfl,⟨vH,rfl,hvH⟩,_,_,rfl,⟨rfl,hvf⟩,_,_,rfl,⟨vA,rfl,hvA⟩,⟨vB,rfl,hvB⟩⟩:=hrep
 obtain⟨aH,cH,rfl⟩:∃aH cH,vH=.slice aH H1.length cH:=by
  obtain⟨-,x,y,e,-⟩:=hvH
  exact⟨x,y,e⟩
 obtain⟨aA,cA,rfl⟩:∃aA cA,vA=.slice aA A.length cA:=by
  obtain⟨-,x,y,e,-⟩:=hvA
  exact⟨x,y,e⟩
 obtain⟨aB,cB,rfl⟩:∃aB cB,vB=.slice aB B.length cB:=by
  obtain⟨-,x,y,e,-⟩:=hvB
  exact⟨x,y,e⟩
 have hwD:=hr.sim.mem _ _ hMD
 have hcl:=Cl.of_seg hwD hseg
 have hMw:∀b o,g'.M b=some o→b≠b0∧w'.heap[b]?=some o:=fun b o h=>⟨fun e=>(by rw[e,hm0]at h;cases h),hr.sim.mem b o h⟩
 have hd:∀ρ,RepV ⟨ρ,g'.M⟩ (.fe Mq (T1,H1,f1,A,B) 0) (.pointer (some ⟨bd,od,none⟩)):=fun ρ=>⟨bd,od,ws,tyD,_,rfl,hMD,hseg,hrep0⟩
 have hb0lo:w.heap.size≤b0:=hr.oth _ _ _ _ e0
 obtain⟨Ds,hds,hnd,hDs⟩:=hr.marks
 have hwalk:=W5 (X:=fctx Tryz.prog 6 (fun v w'=>MkO w w' X2 (H1.length+1) (A.length+1) (B.length+1) v) cs) (df:=a.defers) (N:=N) (M:=g'.M) (T:=T1) (H:=H1) (A:=A) (B:=B) (f:=f1) bd od b0 H1.length A.length B.length cH cA cB aH aA aB ty0 w' hnH hnA hnB hMw hm0 hd (A8 hwD) (Cl.cell hcl (i:=1) rfl) (Cl.cell hcl (i:=3) rfl) (Cl.cell hcl (i:=4) rfl) G hb0 hGl hGi G2 X2 hq2 (fun bo hi' us' tyO w2 hMS=>?_)
 ·have e:(Ki N).at_.map (itm Pw.c)=Akz:=by kernel_rfl
  rw[e]
  refine St.toAt (tm:=a.tmps) hwalk ⟨hr.sz,A53 _ (fun x hx=>?_)⟩
  simp only[List.mem_cons,List.not_mem_nil,or_false]at hx
  rcases hx with rfl | rfl
  ·exact ep
  ·exact h8
 ·rw[hds]
  refine St.reg Apj [(0,true),(1,true),(2,true)] (by kernel_rfl) (by kernel_rfl) ?_
  refine RX.q 3 [] [(4,.slice (some ⟨bo,0,none⟩) (H1.length+1) (H1.length+1)),(5,.int .i64 0)] [] (by kernel_rfl) trivial ?_
  refine RX.done [(4,.slice (some ⟨bo,0,none⟩) (H1.length+1) (H1.length+1)),(5,.int .i64 0)] (by kernel_rfl) (by kernel_rfl) ?_
  have hD2:∀D∈Ds,w2.heap[D]?=some (.deferred (some [])):=fun D hD=>hMS.upd.blk (hDs D hD).2 (fun hk=>by
   simp only[List.mem_singleton]at hk
   exact An8 hb0 (hDs D hD).2 hk.symm)
  have hDlt:∀D∈Ds,D<w'.heap.size:=fun D hD=>A8 (hDs D hD).2
  refine St.retMarks Ds [.tmp 4,.tmp 5] [.slice (some ⟨bo,0,none⟩) (H1.length+1) (H1.length+1),.int .i64 0] (by kernel_rfl) Tryz.func6 (by kernel_rfl) hnd hD2 ?_
  intro w3 hu3 hs3
  refine⟨.cons (.tmp (by kernel_rfl)) (.cons (.tmp (by kernel_rfl)) .nil),⟨?_,⟨bo,hi',us',tyO,rfl,?_,?_,?_⟩,hMS.shp⟩⟩
  ·have h1:Ext w w2:=hr.ext.trans_old hMS.upd (fun k hk=>by simp only[List.mem_singleton]at hk;omega)
   exact h1.trans_old hu3 (fun k hk=>(hDs k hk).1)
  ·have:=hr.ext.size;have:=hMS.low.2;omega
  ·exact hu3.blk hMS.blk (fun hk=>by have:=hDlt bo hk;have:=hMS.low.2;omega)
  ·exact hMS.mids.upd hu3 (fun k hk=>.inl (by have:=hDlt k hk;have:=hMS.low.2;omega))

end Go.Proofs.YtfcnhnbnjdccfaaGreat

namespace Go.Proofs.YtfcnhnbnjdccfaaGreat
set_option linter.all false
open Go

def gAx(w:World):Gh:=⟨fun _=>none,fun b=>w.heap[b]?⟩
theorem Amv(w:World):Sim (gAx w) (fun i=>([]:List Blk')[i]?) w:=
 ⟨fun b o h=>h,fun i k hk=>(by simp at hk),fun i j ki kj b ci ni cj nj h1=>(by simp at h1)⟩
theorem A9z{g:Gh}{w:World}{id:Nat}{l:List Int}{v:Value}(h:RepBlk g w id (.lst (.int .i64) l))(hv:RepV g (.ols id) v):RepS (gAx w).M 1 (RepC (gAx w).M (.int .i64)) l v:=by
 obtain⟨hl,⟨e,rfl⟩ | ⟨b,c,vs,rest,ty,e,hb,hL,hc,hr,hM⟩⟩:=h
 ·rcases hv with⟨_,rfl⟩ | ⟨b,c,n,e2,_⟩
  ·exact⟨by simp,none,0,rfl,Nat.le_refl _,.inl rfl⟩
  ·rw[e]at e2;cases e2
 ·rcases hv with⟨e2,_⟩ | ⟨b',c',n',e2,rfl⟩
  ·rw[e]at e2;cases e2
  ·rw[e]at e2;cases e2
   obtain⟨rfl,hx⟩:=(Bs l vs).1 hL
   refine⟨by omega,_,c,rfl,hc.1,.inr ⟨b,0,_,(ty,(0,0)),rfl,hb,fun k x hk=>⟨[.int .i64 x],fun j u hj=>?_,rfl,hx x (List.mem_of_getElem? hk)⟩⟩⟩
   cases j with
   | zero=>
    simp only[List.getElem?_cons_zero,Option.some.injEq]at hj
    subst hj
    simp only[Nat.mul_one,Nat.zero_add,Nat.add_zero]
    rw[List.getElem?_append_left (by have:=(List.getElem?_eq_some_iff.1 hk).1;simpa using this)]
    simp[hk]
   | succ j=>simp at hj
abbrev U5(hd r0 r1:List Int):List Blk':=[.segs [.ols 2,.ols 3],.lst (.int .i64) hd,.lst (.int .i64) r0,.lst (.int .i64) r1]
theorem A12{g:Gh}{w:World}{f a b:Int}{hd r0 r1:List Int}{vs:List Value}(hs:Sim g (fun i=>(U5 hd r0 r1)[i]?) w)
  (hv:RepVs g [.agg [.osl 0 2,.ols 1,.i .i64 f],.agg [.i .i64 a,.i .i64 b]] vs):RepVs (gAx w) [.agg [.sl (.sl (.int .i64)) [r0,r1],.sl (.int .i64) hd,.i .i64 f],.agg [.i .i64 a,.i .i64 b]] vs:=by
 have b0:=hs.blk 0 (.segs [.ols 2,.ols 3]) rfl
 have b1:=hs.blk 1 (.lst (.int .i64) hd) rfl
 have b2:=hs.blk 2 (.lst (.int .i64) r0) rfl
 have b3:=hs.blk 3 (.lst (.int .i64) r1) rfl
 obtain⟨v1,_,rfl,⟨ws,rfl,hws⟩,v2,_,rfl,⟨xs,rfl,hxs⟩,rfl⟩:=hv
 obtain⟨_,_,rfl,⟨va,rfl,ha⟩,_,_,rfl,⟨vb,rfl,hb⟩,_,_,rfl,⟨vc,rfl,hc⟩,rfl⟩:=hws
 obtain⟨_,_,rfl,⟨xa,rfl,hxa⟩,_,_,rfl,⟨xb,rfl,hxb⟩,rfl⟩:=hxs
 refine⟨_,_,rfl,⟨_,rfl,_,_,rfl,⟨va,rfl,?_⟩,_,_,rfl,⟨vb,rfl,A9z b1 hb⟩,_,_,rfl,⟨vc,rfl,hc⟩,rfl⟩,_,_,rfl,⟨_,rfl,_,_,rfl,⟨xa,rfl,hxa⟩,_,_,rfl,⟨xb,rfl,hxb⟩,rfl⟩,rfl⟩
 obtain⟨bb,c,n,us,ty,e,hbb,hp,hM⟩:=b0
 obtain⟨_,_,rfl,⟨v0,rfl,h0⟩,_,_,rfl,⟨v1,rfl,h1⟩,rfl⟩:=hp
 obtain⟨b',c',m,e2,rfl⟩:=ha
 rw[e]at e2;cases e2
 have q0:=A9z b2 h0
 have q1:=A9z b3 h1
 refine⟨by simp,_,2,rfl,Nat.le_refl _,.inr ⟨bb,0,_,(ty,(0,0)),rfl,hbb,fun i x hi=>?_⟩⟩
 match i,hi with
 | 0,hi=>
  cases hi
  exact⟨[v0],fun j u hj=>(by cases j with | zero=>exact hj | succ j=>simp at hj),v0,rfl,q0⟩
 | 1,hi=>
  cases hi
  exact⟨[v1],fun j u hj=>(by cases j with | zero=>exact hj | succ j=>simp at hj),v1,rfl,q1⟩
 | i+2,hi=>simp at hi
theorem A0t{M M':Nat→Option Obj}:∀(l:List (Int×Int)) (vs:List Value),RepL M (.pair (.int .i64) (.int .i64)) l vs→RepL M' (.pair (.int .i64) (.int .i64)) l vs
 | [],vs,h=>h
 | x::l,vs,h=>by
  obtain⟨v1,v2,rfl,h1,h2⟩:=h
  exact⟨v1,v2,rfl,h1,A0t l v2 h2⟩

def Cy(N:Nat)(f a b:Int)(hd r0 r1:List Int):Option (Int×List Int×List Int×List Int×List (Int×Int)):=(Gx N [r0,r1] hd f a b).bind fun r=>some (r.1,hd,r0,r1,r.2)
noncomputable def A5i(N:Nat):Spec:={ f:=5,ins:=⟨[.agg [.osl 0 2,.ols 1,.i .i64],.agg [.i .i64,.i .i64]],[.segs [.ols 2,.ols 3],.lst (.int .i64),.lst (.int .i64),.lst (.int .i64)]⟩,outs:=[⟨[.ols 4,.i .i64],[.segs [.ols 2,.ols 3],.lst (.int .i64),.lst (.int .i64),.lst (.int .i64),.lst (.pair (.int .i64) (.int .i64))]⟩],run:=fun p k=>(Cy N p.1.1.2.2.1 p.1.2.1.1 p.1.2.1.2.1 p.2.2.1 p.2.2.2.1 p.2.2.2.2.1).bind fun r=>k (((),r.1,()),(((),(),()),r.2.1,r.2.2.1,r.2.2.2.1,r.2.2.2.2,())) }
theorem X3(N:Nat):A2 Tryz.prog (A5i N):=by
 refine⟨fun Z p κ=>?_,fun args w=>Sem.pv_run _ _ _ (by kernel_rfl) w,fun p r hpr g w vs hv hs hρ=>?_⟩
 ·show((Cy N _ _ _ _ _ _).bind _)=((Cy N _ _ _ _ _ _).bind _).bind κ
  cases Cy N _ _ _ _ _ _<;>rfl
 ·obtain⟨⟨⟨u1,u2,(f:Int),u3⟩,⟨(a:Int),(b:Int),u4⟩,u5⟩,⟨u6,(hd:List Int),(r0:List Int),(r1:List Int),u7⟩⟩:=p
  have hpr':((Cy N f a b hd r0 r1).bind fun r=>some ((((),r.1,()),(((),(),()),r.2.1,r.2.2.1,r.2.2.2.1,r.2.2.2.2,())):(Unit×Int×Unit)×((Unit×Unit×Unit)×List Int×List Int×List Int×List (Int×Int)×Unit)))=some r:=hpr
  unfold Cy at hpr'
  cases hq:Gx N [r0,r1] hd f a b with
  | none=>rw[hq]at hpr';cases hpr'
  | some q=>
   obtain⟨e,L⟩:=q
   rw[hq]at hpr'
   have hr:=Option.some.inj hpr'
   subst hr
   have hs':Sim g (fun i=>(U5 hd r0 r1)[i]?) w:=hs
   have hrun:(V3 N).run ((([r0,r1],hd,f,()),(a,b,()),()),()) some=some (((),e,()),(L,())):=by
    show((Gx N [r0,r1] hd f a b).bind _)=_
    rw[hq];rfl
   have h:=(Kp N).fn ((([r0,r1],hd,f,()),(a,b,()),()),()) _ hrun (gAx w) w vs (A12 hs' hv) (Amv w) (fun _ _=>rfl)
   refine Fn.mono h ?_
   rintro v w' ⟨g1,st,hs1,hv1⟩
   have hE:Ext w w':=⟨st.os,st.tape,st.output,st.size,fun k hk _=>st.same k hk (by rintro ⟨i,hi,_⟩;have h:i∈([]:List Nat):=hi;simp at h)⟩
   have hb:=hs1.blk 0 (.lst (.pair (.int .i64) (.int .i64)) L) rfl
   obtain⟨ws,rfl,w0,_,rfl,hw0,w1,_,rfl,hw1,rfl⟩:=hv1
   have hlt:∀b o,g.M b=some o→b<w.heap.size:=fun b o h=>A8 (hs.mem b o h)
   have hres:∃x:Option (Nat×Nat×Nat),(∀b c n,x=some (b,c,n)→w.heap.size≤b)∧RepBlk (newG g 4 x) w' 4 (.lst (.pair (.int .i64) (.int .i64)) L)∧RepV (newG g 4 x) (.ols 4) w0:=by
    obtain⟨hl,⟨e0,rfl⟩ | ⟨bb,c,us,rest,ty,e0,hbb,hL,hc,hrs,hM⟩⟩:=hb
    ·rcases hw0 with⟨_,rfl⟩ | ⟨b2,c2,n2,e2,_⟩
     ·exact⟨none,fun _ _ _ h=>(by cases h),⟨hl,.inl ⟨Ad _ _ _,rfl⟩⟩,.inl ⟨Ad _ _ _,rfl⟩⟩
     ·rw[show(id 0:Nat)=0 from rfl,e0]at e2;cases e2
    ·rcases hw0 with⟨e2,_⟩ | ⟨b2,c2,n2,e2,rfl⟩
     ·rw[show(id 0:Nat)=0 from rfl,e0]at e2;cases e2
     ·rw[show(id 0:Nat)=0 from rfl,e0]at e2;cases e2
      have hfr:w.heap.size≤bb:=by
       rcases st.ρb 0 bb c L.length rfl e0 with h | ⟨i,hi,_⟩
       ·exact h
       ·have h:i∈([]:List Nat):=hi;simp at h
      have hMn:g.M bb=none:=by
       cases em:g.M bb with
       | none=>rfl
       | some o=>have:=hlt bb o em;omega
      exact⟨some (bb,c,L.length),fun _ _ _ h=>(by cases h;exact hfr),⟨hl,.inr ⟨bb,c,us,rest,ty,Ad _ _ _,hbb,A0t L us hL,hc,hrs,hMn⟩⟩,.inr ⟨bb,c,L.length,Ad _ _ _,rfl⟩⟩
   obtain⟨x,hx,hB,hV⟩:=hres
   obtain⟨st2,hs2⟩:=Hw (ab:=[]) (ids:=[]) (N:=4) hs' hE hE.size (by simp) (fun b c n h=>.inr (hx b c n h)) (hρ 4 (Nat.le_refl _)) hB
   refine⟨_,st2.mono (fun b hb=>(by obtain⟨i,hi,_⟩:=hb;cases hi)) (fun i hi=>(by subst hi;exact⟨Nat.le_refl _,Nat.lt_succ_self 4⟩)),?_,⟨_,rfl,_,_,rfl,hV,_,_,rfl,hw1,rfl⟩⟩
   have hf:(fun i=>if i=4 then some (Blk'.lst (.pair (.int .i64) (.int .i64)) L)else if i∈([]:List Nat)then some .dead else(U5 hd r0 r1)[i]?)=fun i=>([.segs [.ols 2,.ols 3],.lst (.int .i64) hd,.lst (.int .i64) r0,.lst (.int .i64) r1,.lst (.pair (.int .i64) (.int .i64)) L]:List Blk')[i]?:=by
    funext i
    match i with
    | 0=>rfl
    | 1=>rfl
    | 2=>rfl
    | 3=>rfl
    | 4=>rfl
    | i+5=>simp
   rw[hf]at hs2
   exact hs2
end Go.Proofs.YtfcnhnbnjdccfaaGreat

namespace Go.Proofs.YtfcnhnbnjdccfaaGreat
set_option linter.all false
open Go
def hide(w:World):List Nat→World
 | []=>w
 | b::l=>{ hide w l with heap:=(hide w l).heap.setIfInBounds b (.map #[] 0) }
theorem Rn(w:World):∀l,(hide w l).heap.size=w.heap.size
 | []=>rfl
 | b::l=>by
  show((hide w l).heap.setIfInBounds b _).size=_
  rw[Array.size_setIfInBounds,Rn w l]
theorem Y7(w:World):∀(l:List Nat) (k:Nat),k∉l→(hide w l).heap[k]?=w.heap[k]?
 | [],_,_=>rfl
 | b::l,k,h=>by
  show((hide w l).heap.setIfInBounds b _)[k]?=_
  rw[Array.getElem?_setIfInBounds_ne (fun e=>h (by simp[e]))]
  exact Y7 w l k (fun h2=>h (List.mem_cons_of_mem _ h2))
theorem Vm(w:World):∀(l:List Nat) (k:Nat),k∈l→k<w.heap.size→(hide w l).heap[k]?=some (.map #[] 0)
 | [],_,h,_=>by cases h
 | b::l,k,h,hk=>by
  show((hide w l).heap.setIfInBounds b _)[k]?=_
  by_cases e:k=b
  ·subst e
   simp[Rn,hk]
  ·rw[Array.getElem?_setIfInBounds_ne (fun e2=>e e2.symm)]
   exact Vm w l k ((List.mem_cons.1 h).resolve_left e) hk
theorem Xk(w:World):∀l,Upd l w (hide w l)
 | []=>Upd.refl _ _
 | b::l=>by
  have h:=Xk w l
  refine⟨h.os,h.tape,h.output,by rw[Rn];exact Nat.le_refl _,fun k hk hn=>Y7 w _ k hn⟩
theorem Adm{g:Gh}{h:Nat→Option Blk'}{w w':World}(hs:Sim g h w)(hE:Ext w w')(n0:Nat)(ks:List Blk')(xs:List (Nat×Nat×Nat))(hl:ks.length=xs.length)(hh0:∀i,n0≤i→h i=none)(hρ:∀i,n0≤i→g.ρ i=none)
  (hnd:(xs.map (·.1)).Nodup) (hfr:∀x∈xs,w.heap.size≤x.1∧x.1<w'.heap.size) (g':Gh) (hg':g'=⟨fun i=>if n0≤i then(xs[i-n0]?).map some else g.ρ i,frzM g.M [] w.heap.size (hide w' (xs.map (·.1)))⟩)
  (hB:∀j k,ks[j]?=some k→RepBlk g' w' (n0+j) k) {S:Nat→Prop} :
  Stp S (fun i=>n0≤i∧i<n0+ks.length) g w g' w'∧Sim g' (fun i=>if n0≤i then ks[i-n0]? else h i) w':=by
 have hMlt:∀b o,g.M b=some o→b<w.heap.size:=fun b o h=>A8 (hs.mem b o h)
 have hMi:∀b o,g'.M b=some o→g.M b=some o∨(g.M b=none∧w.heap.size≤b∧w'.heap[b]?=some o∧isCel o=true∧b∉xs.map (·.1)):=fun b o hb=>by
  rw[hg']at hb
  rcases L5 hb with h1 | ⟨h1,h2,h3,h4⟩
  ·exact .inl h1
  ·have hn:b∉xs.map (·.1):=fun hin=>by
    obtain⟨x,hx,rfl⟩:=List.mem_map.1 hin
    rw[Vm w' _ _ hin (hfr x hx).2]at h3
    cases h3;cases h4
   rw[Y7 w' _ _ hn]at h3
   exact .inr ⟨h1,h2.resolve_left (by simp),h3,h4,hn⟩
 have st:∀S:Nat→Prop,Stp S (fun i=>n0≤i∧i<n0+ks.length) g w g' w':=by
  intro S
  refine⟨hE.os,hE.tape,hE.output,hE.size,fun b hb _=>hE.same b hb (by simp),⟨fun i x hi=>?_,fun b o hb=>?_⟩,fun i h0 h1=>?_,fun i b c n h0 h1=>?_,fun b o hb=>?_⟩
  ·rw[hg']
   show(if n0≤i then _ else g.ρ i)=some x
   rw[if_neg (fun h=>by rw[hρ i h]at hi;cases hi)];exact hi
  ·rw[hg'];exact A2k b o hb
  ·rw[hg']at h1
   have h1:(if n0≤i then(xs[i-n0]?).map some else g.ρ i)≠none:=h1
   split at h1
   ·rename_i hi
    cases hx:xs[i-n0]? with
    | none=>rw[hx]at h1;exact absurd rfl h1
    | some x=>have:=(List.getElem?_eq_some_iff.1 hx).1;omega
   ·exact absurd h0 h1
  ·rw[hg']at h1
   have h1:(if n0≤i then(xs[i-n0]?).map some else g.ρ i)=some (some (b,c,n)):=h1
   split at h1
   ·cases hx:xs[i-n0]? with
    | none=>rw[hx]at h1;cases h1
    | some x=>
     rw[hx]at h1
     simp only[Option.map_some,Option.some.injEq]at h1
     have:=hfr x (List.mem_of_getElem? hx)
     rw[h1]at this
     exact .inl this.1
   ·rw[h0]at h1;cases h1
  ·rcases hMi b o hb with h1 | ⟨h1,h2,h3,h4,_⟩
   ·exact .inl h1
   ·exact .inr ⟨h1,.inl h2,h4⟩
 have hρ':∀i b c n,n0≤i→g'.ρ i=some (some (b,c,n))→xs[i-n0]?=some (b,c,n):=fun i b c n hi e=>by
  rw[hg']at e
  have e:(if n0≤i then(xs[i-n0]?).map some else g.ρ i)=some (some (b,c,n)):=e
  rw[if_pos hi]at e
  cases hx:xs[i-n0]? with
  | none=>rw[hx]at e;cases e
  | some x=>rw[hx]at e;simp only[Option.map_some,Option.some.injEq]at e;rw[e]
 refine⟨st S,hs.step (wr:=[]) (st (Sw g h [])) (fun b o hb=>?_) (fun i=>n0≤i) (fun i hi=>by simp only[if_neg hi]) (fun i hi=>by cases hi) (fun i k hi hk=>?_) (fun i j ki kj b ci ni cj nj hi h1 h2 m1 m2 e1 e2=>?_)⟩
 ·rcases hMi b o hb with h1 | ⟨_,_,h3,_⟩
  ·exact hE.blk (hs.mem b o h1)
  ·exact h3
 ·rw[if_pos hi]at hk
  have:=hB (i-n0) k hk
  rwa [show n0+(i-n0)=i by omega]at this
 ·have x1:=hρ' i b ci ni hi e1
  by_cases hj:n0≤j
  ·have x2:=hρ' j b cj nj hj e2
   obtain⟨l1,y1⟩:=List.getElem?_eq_some_iff.1 x1
   obtain⟨l2,y2⟩:=List.getElem?_eq_some_iff.1 x2
   have h3:(xs.map (·.1))[i-n0]'(by simpa using l1)=(xs.map (·.1))[j-n0]'(by simpa using l2):=by
    rw[List.getElem_map,List.getElem_map,y1,y2]
   have:=(List.getElem_inj hnd).1 h3
   omega
  ·rw[if_neg hj]at h2
   have e2':g.ρ j=some (some (b,cj,nj)):=by
    rw[hg']at e2
    have e2:(if n0≤j then(xs[j-n0]?).map some else g.ρ j)=some (some (b,cj,nj)):=e2
    rwa [if_neg hj]at e2
   have:=(hs.lt h2 m2 e2').1
   have:=(hfr _ (List.mem_of_getElem? x1)).1
   dsimp only at this
   omega
section
variable {M:Nat→Option Obj} {n:Nat} {w:World}
theorem Fb{b:Nat}{ty:TypeId}{r:List Int}(hM:∀b o,M b=some o→b<n)(hb:n≤b)(hB:Blk w b (r.map (.int .i64)) ty)(hr:∀x∈r,inR .i64 x)(hl:r.length≤1000):RepS (frzM M [] n w) 1 (RepC (frzM M [] n w) (.int .i64)) r (.slice (some ⟨b,0,none⟩) r.length r.length):=by
 have hMn:M b=none:=by
  cases e:M b with
  | none=>rfl
  | some o=>have:=hM b o e;omega
 refine⟨by omega,_,_,rfl,Nat.le_refl _,.inr ⟨b,0,_,(ty,(0,0)),rfl,Ri hMn (.inr hb) hB,fun k x hk=>⟨[.int .i64 x],fun j u hj=>?_,rfl,hr x (List.mem_of_getElem? hk)⟩⟩⟩
 cases j with
 | zero=>
  simp only[List.getElem?_cons_zero,Option.some.injEq]at hj
  subst hj
  simp[hk]
 | succ j=>simp at hj
theorem A7c{ρ:Nat→Option (Option (Nat×Nat×Nat))}(hM:∀b o,M b=some o→b<n):∀ {lo hi:Nat} {vs:List Value} {S:List (List Int)},Aj w lo hi vs S→n≤lo→A7 ⟨ρ,frzM M [] n w⟩ (S.map fun s=>.sl (.int .i64) s) vs
 | lo,hi,[],[],_,_=>rfl
 | lo,hi,v::vs,r::S,h,hn=>by
  obtain⟨b,ty,rfl,h1,h2,h3,h4,h5⟩:=h
  exact⟨[_],vs,rfl,⟨_,rfl,Fb hM (by omega) h4 h2 h3⟩,A7c hM h5 (by omega)⟩
 | _,_,[],_::_,h,_=>h.elim
 | _,_,_::_,[],h,_=>h.elim
theorem A6d{ρ:Nat→Option (Option (Nat×Nat×Nat))}(hM:∀b o,M b=some o→b<n):∀ {lo hi:Nat} {us:List Value} {X:List (List (List Int))},Ar w lo hi us X→n≤lo→A7 ⟨ρ,frzM M [] n w⟩ (X.map fun F=>.sl (.sl (.int .i64)) F) us
 | lo,hi,[],[],_,_=>rfl
 | lo,hi,u::us,F::X,h,hn=>by
  obtain⟨m,vs,mid,ty,rfl,h1,h2,h3,h4,h5⟩:=h
  have:=h4.le
  exact⟨[_],us,rfl,⟨_,rfl,Aj.rep h4 h3 hM (by omega) (by omega) h2⟩,A6d hM h5 (by omega)⟩
 | _,_,[],_::_,h,_=>h.elim
 | _,_,_::_,[],h,_=>h.elim
theorem A7.app{g:Gh}:∀ {ps qs:List AV} {vs us:List Value},A7 g ps vs→A7 g qs us→A7 g (ps++qs) (vs++us)
 | [],_,vs,us,h,h2=>by have h:vs=[]:=h;subst h;exact h2
 | p::ps,qs,vs,us,h,h2=>by
  obtain⟨v1,v2,rfl,h3,h4⟩:=h
  rw[List.append_assoc]
  exact⟨v1,v2++us,rfl,h3,A7.app h4 h2⟩
theorem A1l:∀ {lo hi:Nat} {us:List Value} {X0:List (List (List Int))} {F:List (List Int)},Ar w lo hi us (X0++[F])→∃us0 m vs mid ty,us=us0++[.slice (some ⟨m,0,none⟩) F.length F.length]∧Ar w lo m us0 X0∧lo≤m∧F.length≤1000∧Blk w m vs ty∧Aj w (m+1) mid vs F
 | lo,hi,[],[],F,h=>h.elim
 | lo,hi,[],_::_,F,h=>h.elim
 | lo,hi,u::us,[],F,h=>by
  obtain⟨m,vs,mid,ty,rfl,h1,h2,h3,h4,h5⟩:=h
  cases us with
  | nil=>exact⟨[],m,vs,mid,ty,rfl,h1,h1,h2,h3,h4⟩
  | cons=>exact h5.elim
 | lo,hi,u::us,G::X0,F,h=>by
  obtain⟨m,vs,mid,ty,rfl,h1,h2,h3,h4,h5⟩:=h
  obtain⟨us0,m',vs',mid',ty',rfl,q1,q2,q3,q4,q5⟩:=A1l h5
  have:=h4.le
  exact⟨_::us0,m',vs',mid',ty',rfl,⟨m,vs,mid,ty,rfl,h1,h2,h3,h4,q1⟩,by omega,q3,q4,q5⟩
end
theorem Ac2{g:Gh}{w w':World}{h:Nat→Option Blk'}(hs:Sim g h w)(hh0:∀i,h i=none)(hρ:∀i,g.ρ i=none)(hE:Ext w w'){bo hi:Nat}{us:List Value}{tyO:TypeId}(hbo:w.heap.size≤bo)(hO:Blk w' bo us tyO)
  (X0:List (List (List Int))) (s0 q:List Int) (S:List (List Int)) (hX:Ar w' (bo+1) hi us (X0++[s0::q::S])) (hX0:X0.length≤1000) :
  ∃g',Stp (Sw g h (List.range 0)) (fun i=>0≤i∧i<3) g w g' w'∧Sim g' (fun i=>([.segs ((X0.map fun F=>.sl (.sl (.int .i64)) F)++[.osl 1 (S.length+2)]),.segs (.sl (.int .i64) s0::.ols 2::S.map fun s=>.sl (.int .i64) s),.lst (.int .i64) q]:List Blk')[i]?) w' ∧
   RepV g' (.osl 0 (X0.length+1)) (.slice (some ⟨bo,0,none⟩) (X0.length+1) (X0.length+1)):=by
 have hMlt:∀b o,g.M b=some o→b<w.heap.size:=fun b o h=>A8 (hs.mem b o h)
 obtain⟨us0,m,vs,mid,ty,rfl,q1,q2,q3,q4,q5⟩:=A1l hX
 cases vs with
 | nil=>exact q5.elim
 | cons v0 vs=>
 obtain⟨b0,t0,rfl,p1,p2,p3,p4,p5⟩:=q5
 cases vs with
 | nil=>exact p5.elim
 | cons v1 vs=>
 obtain⟨b1,t1,rfl,r1,r2,r3,r4,r5⟩:=p5
 have hbolt:=A8 hO
 have hmlt:=A8 q4
 have hb1lt:=A8 r4
 have hu:=Xk w' [bo,m,b1]
 have hlen0:us0.length=X0.length:=q1.len
 have a1:=A6d (M:=g.M) (n:=w.heap.size) (ρ:=fun i=>if 0≤i then(([(bo,X0.length+1,X0.length+1),(m,S.length+2,S.length+2),(b1,q.length,q.length)]:List (Nat×Nat×Nat))[i-0]?).map some else g.ρ i) hMlt (q1.upd hu (fun k hk=>by simp only[List.mem_cons,List.not_mem_nil,or_false]at hk;omega)) (by omega)
 have a2:=Fb (M:=g.M) (n:=w.heap.size) hMlt (by omega) (hu.blk p4 (by simp only[List.mem_cons,List.not_mem_nil,or_false];omega)) p2 p3
 have a3:=A7c (M:=g.M) (n:=w.heap.size) (ρ:=fun i=>if 0≤i then(([(bo,X0.length+1,X0.length+1),(m,S.length+2,S.length+2),(b1,q.length,q.length)]:List (Nat×Nat×Nat))[i-0]?).map some else g.ρ i) hMlt (r5.upd hu (fun k hk=>by simp only[List.mem_cons,List.not_mem_nil,or_false]at hk;omega)) (by omega)
 have hNone:∀k,k∈[bo,m,b1]→frzM g.M [] w.heap.size (hide w' [bo,m,b1]) k=none:=fun k hk=>by
  cases e:frzM g.M [] w.heap.size (hide w' [bo,m,b1]) k with
  | none=>rfl
  | some o=>
   have hk2:w.heap.size≤k∧k<w'.heap.size:=by
    simp only[List.mem_cons,List.not_mem_nil,or_false]at hk
    rcases hk with rfl | rfl | rfl<;>omega
   rcases L5 e with h1 | ⟨_,_,h3,h4⟩
   ·have:=hMlt k o h1;omega
   ·rw[Vm w' _ _ hk hk2.2]at h3;cases h3;cases h4
 obtain⟨st,hs'⟩:=Adm (S:=Sw g h (List.range 0)) hs hE 0 [.segs ((X0.map fun F=>.sl (.sl (.int .i64)) F)++[.osl 1 (S.length+2)]),.segs (.sl (.int .i64) s0::.ols 2::S.map fun s=>.sl (.int .i64) s),.lst (.int .i64) q]
  [(bo,X0.length+1,X0.length+1),(m,S.length+2,S.length+2),(b1,q.length,q.length)] rfl (fun i _=>hh0 i) (fun i _=>hρ i) (by simp;omega) (fun x hx=>by
   simp only[List.mem_cons,List.not_mem_nil,or_false]at hx
   rcases hx with rfl | rfl | rfl<;>dsimp only<;>omega) _ rfl (fun j k hk=>by
   match j,hk with
   | 0,hk=>
    cases hk
    exact⟨bo,_,_,us0++[.slice (some ⟨m,0,none⟩) (s0::q::S).length (s0::q::S).length],tyO,rfl,hO,A7.app a1 ⟨[_],[],rfl,⟨_,rfl,⟨m,_,_,rfl,rfl⟩⟩,rfl⟩,hNone bo (by simp)⟩
   | 1,hk=>
    cases hk
    exact⟨m,_,_,_,ty,rfl,q4,⟨[_],_,rfl,⟨_,rfl,a2⟩,[_],_,rfl,⟨_,rfl,.inr ⟨b1,_,_,rfl,rfl⟩⟩,a3⟩,hNone m (by simp)⟩
   | 2,hk=>
    cases hk
    exact⟨by omega,.inr ⟨b1,q.length,q.map (.int .i64),[],t1,rfl,by rw[List.append_nil];exact r4,(Bs _ _).2 ⟨rfl,r2⟩,⟨Nat.le_refl _,by omega⟩,by simp,hNone b1 (by simp)⟩⟩
   | j+3,hk=>simp at hk)
 refine⟨_,st,?_,⟨bo,_,_,rfl,rfl⟩⟩
 have hf:(fun i=>if 0≤i then([.segs ((X0.map fun F=>.sl (.sl (.int .i64)) F)++[.osl 1 (S.length+2)]),.segs (.sl (.int .i64) s0::.ols 2::S.map fun s=>.sl (.int .i64) s),.lst (.int .i64) q]:List Blk')[i-0]? else h i)=fun i=>([.segs ((X0.map fun F=>.sl (.sl (.int .i64)) F)++[.osl 1 (S.length+2)]),.segs (.sl (.int .i64) s0::.ols 2::S.map fun s=>.sl (.int .i64) s),.lst (.int .i64) q]:List Blk')[i]?:=by
  funext i;simp
 rw[hf]at hs'
 exact hs'
end Go.Proofs.YtfcnhnbnjdccfaaGreat

namespace Go.Proofs.YtfcnhnbnjdccfaaGreat
set_option linter.all false
open Go
def mkX(N:Nat)(T:List (List Int))(H:List Int)(f a b:Int):Option (List (List (List Int))):=(Ol N T H f a b).bind fun q=>
 if q.1.2.1.length≤10∧q.1.2.2.2.1.length≤6∧q.1.2.2.2.2.length≤6 then(mkI N q.1 (q.1.2.2.2.1.length+1) (q.1.2.2.2.2.length+1) (q.1.2.1.length+1) 0 q.2 (Ck (q.1.2.1.length+1) (q.1.2.2.2.1.length+1) (q.1.2.2.2.2.length+1))).bind fun r=>some r.2 else none
theorem W6{N:Nat}{T:List (List Int)}{H:List Int}{f a b:Int}{X:List (List (List Int))}(hX:mkX N T H f a b=some X)(g:Gh)(hρ:∀i,g.ρ i=none)(w:World)(hM:∀b o,g.M b=some o→w.heap[b]?=some o)(vs:List Value)
  (hv:RepVs g (encs id [.agg [.sl (.sl (.int .i64)),.sl (.int .i64),.i .i64],.agg [.i .i64,.i .i64]] ((T,H,f,()),(a,b,()),())) vs) :
  Fn Tryz.prog 6 vs.toArray w (fun v w'=>Ext w w'∧∃bo hi us tyO,v=.tuple #[.slice (some ⟨bo,0,none⟩) X.length X.length,.int .i64 0]∧w.heap.size≤bo∧Blk w' bo us tyO∧Ar w' (bo+1) hi us X):=by
 unfold mkX at hX
 obtain⟨⟨⟨T1,H1,f1,A,B⟩,G⟩,hq,h2⟩:=bind_some hX
 dsimp only at h2
 split at h2
 rotate_left
 ·cases h2
 rename_i hc
 obtain⟨⟨G2,X2⟩,hq2,h3⟩:=bind_some h2
 cases h3
 refine Fn.mono (Aep hq hc.1 hc.2.1 hc.2.2 hq2 g hρ w hM vs hv) ?_
 rintro v w' ⟨hE,⟨bo,hi,us,tyO,rfl,hbo,hO,hM2⟩,hsh⟩
 exact⟨hE,bo,hi,us,tyO,by rw[show X2.length=H1.length+1 from hsh.1],hbo,hO,hM2⟩
theorem inR0:inR .i64 0:=by constructor<;>decide
def spl:List (List (List Int))→Option (List (List (List Int))×List Int×List Int×List (List Int))
 | []=>none
 | F::X=>match X with
  | []=>(match F with
   | s0::q::S=>some ([],s0,q,S)
   | _=>none)
  | G::Y=>(spl (G::Y)).bind fun r=>some (F::r.1,r.2)
theorem Ahi:∀(X:List (List (List Int))) (X0:List (List (List Int))) (s0 q:List Int) (S:List (List Int)),spl X=some (X0,s0,q,S)→X=X0++[s0::q::S]
 | [],_,_,_,_,h=>by cases h
 | [F],X0,s0,q,S,h=>by
  match F,h with
  | [],h=>cases h
  | [_],h=>cases h
  | a::b::c,h=>cases h;rfl
 | F::G::Y,X0,s0,q,S,h=>by
  rw[spl]at h
  obtain⟨⟨Y0,a,b,c⟩,h1,h2⟩:=bind_some h
  cases h2
  rw[Ahi _ _ _ _ _ h1];rfl
def markso_S(N:Nat)(T:List (List Int))(H:List Int)(f a b:Int):Option ((Int×(List Int)×(List Int))⊕((Int×(List Int)×(List Int)×(List Int))⊕((Int×(List Int)×(List Int)×(List Int)×(List Int))⊕((Int×(List (List Int))×(List Int)×(List Int))⊕((Int×(List (List Int))×(List Int)×(List Int)×(List Int))⊕((Int×(List (List Int))×(List Int)×(List Int)×(List Int)×(List Int))⊕((Int×(List (List Int))×(List (List Int))×(List Int)×(List Int))⊕((Int×(List (List Int))×(List (List Int))×(List Int)×(List Int)×(List Int))⊕((Int×(List (List Int))×(List (List Int))×(List Int)×(List Int)×(List Int)×(List Int))⊕((Int×(List (List Int))×(List (List Int))×(List (List Int))×(List Int)×(List Int))⊕((Int×(List (List Int))×(List (List Int))×(List (List Int))×(List Int)×(List Int)×(List Int))⊕((Int×(List (List Int))×(List (List Int))×(List (List Int))×(List Int)×(List Int)×(List Int)×(List Int))⊕((Int×(List (List Int))×(List (List Int))×(List (List Int))×(List (List Int))×(List Int)×(List Int))⊕((Int×(List (List Int))×(List (List Int))×(List (List Int))×(List (List Int))×(List Int)×(List Int)×(List Int))⊕(Int×(List (List Int))×(List (List Int))×(List (List Int))×(List (List Int))×(List Int)×(List Int)×(List Int)×(List Int)))))))))))))))):=(mkX N T H f a b).bind fun X=>(spl X).bind fun r=>match r.1 with
 | []=>(match r.2.2.2 with
  | []=>some (.inl (0,r.2.1,r.2.2.1))
  | [s2]=>some (.inr (.inl (0,r.2.1,s2,r.2.2.1)))
  | [s2,s3]=>some (.inr (.inr (.inl (0,r.2.1,s2,s3,r.2.2.1))))
  | _=>none)
 | [F0]=>(match r.2.2.2 with
  | []=>some (.inr (.inr (.inr (.inl (0,F0,r.2.1,r.2.2.1)))))
  | [s2]=>some (.inr (.inr (.inr (.inr (.inl (0,F0,r.2.1,s2,r.2.2.1))))))
  | [s2,s3]=>some (.inr (.inr (.inr (.inr (.inr (.inl (0,F0,r.2.1,s2,s3,r.2.2.1)))))))
  | _=>none)
 | [F0,F1]=>(match r.2.2.2 with
  | []=>some (.inr (.inr (.inr (.inr (.inr (.inr (.inl (0,F0,F1,r.2.1,r.2.2.1))))))))
  | [s2]=>some (.inr (.inr (.inr (.inr (.inr (.inr (.inr (.inl (0,F0,F1,r.2.1,s2,r.2.2.1)))))))))
  | [s2,s3]=>some (.inr (.inr (.inr (.inr (.inr (.inr (.inr (.inr (.inl (0,F0,F1,r.2.1,s2,s3,r.2.2.1))))))))))
  | _=>none)
 | [F0,F1,F2]=>(match r.2.2.2 with
  | []=>some (.inr (.inr (.inr (.inr (.inr (.inr (.inr (.inr (.inr (.inl (0,F0,F1,F2,r.2.1,r.2.2.1)))))))))))
  | [s2]=>some (.inr (.inr (.inr (.inr (.inr (.inr (.inr (.inr (.inr (.inr (.inl (0,F0,F1,F2,r.2.1,s2,r.2.2.1))))))))))))
  | [s2,s3]=>some (.inr (.inr (.inr (.inr (.inr (.inr (.inr (.inr (.inr (.inr (.inr (.inl (0,F0,F1,F2,r.2.1,s2,s3,r.2.2.1)))))))))))))
  | _=>none)
 | [F0,F1,F2,F3]=>(match r.2.2.2 with
  | []=>some (.inr (.inr (.inr (.inr (.inr (.inr (.inr (.inr (.inr (.inr (.inr (.inr (.inl (0,F0,F1,F2,F3,r.2.1,r.2.2.1))))))))))))))
  | [s2]=>some (.inr (.inr (.inr (.inr (.inr (.inr (.inr (.inr (.inr (.inr (.inr (.inr (.inr (.inl (0,F0,F1,F2,F3,r.2.1,s2,r.2.2.1)))))))))))))))
  | [s2,s3]=>some (.inr (.inr (.inr (.inr (.inr (.inr (.inr (.inr (.inr (.inr (.inr (.inr (.inr (.inr (0,F0,F1,F2,F3,r.2.1,s2,s3,r.2.2.1)))))))))))))))
  | _=>none)
 | _=>none
noncomputable def M7(N:Nat):Spec:={ f:=6,ins:=⟨[.agg [.sl (.sl (.int .i64)),.sl (.int .i64),.i .i64],.agg [.i .i64,.i .i64]],[]⟩,outs:=[⟨[.osl 0 1,.i .i64],[.segs [.osl 1 2],.segs [.sl (.int .i64),.ols 2],.lst (.int .i64)]⟩,⟨[.osl 0 1,.i .i64],[.segs [.osl 1 3],.segs [.sl (.int .i64),.ols 2,.sl (.int .i64)],.lst (.int .i64)]⟩,⟨[.osl 0 1,.i .i64],[.segs [.osl 1 4],.segs [.sl (.int .i64),.ols 2,.sl (.int .i64),.sl (.int .i64)],.lst (.int .i64)]⟩,⟨[.osl 0 2,.i .i64],[.segs [.sl (.sl (.int .i64)),.osl 1 2],.segs [.sl (.int .i64),.ols 2],.lst (.int .i64)]⟩,⟨[.osl 0 2,.i .i64],[.segs [.sl (.sl (.int .i64)),.osl 1 3],.segs [.sl (.int .i64),.ols 2,.sl (.int .i64)],.lst (.int .i64)]⟩,⟨[.osl 0 2,.i .i64],[.segs [.sl (.sl (.int .i64)),.osl 1 4],.segs [.sl (.int .i64),.ols 2,.sl (.int .i64),.sl (.int .i64)],.lst (.int .i64)]⟩,⟨[.osl 0 3,.i .i64],[.segs [.sl (.sl (.int .i64)),.sl (.sl (.int .i64)),.osl 1 2],.segs [.sl (.int .i64),.ols 2],.lst (.int .i64)]⟩,⟨[.osl 0 3,.i .i64],[.segs [.sl (.sl (.int .i64)),.sl (.sl (.int .i64)),.osl 1 3],.segs [.sl (.int .i64),.ols 2,.sl (.int .i64)],.lst (.int .i64)]⟩,⟨[.osl 0 3,.i .i64],[.segs [.sl (.sl (.int .i64)),.sl (.sl (.int .i64)),.osl 1 4],.segs [.sl (.int .i64),.ols 2,.sl (.int .i64),.sl (.int .i64)],.lst (.int .i64)]⟩,⟨[.osl 0 4,.i .i64],[.segs [.sl (.sl (.int .i64)),.sl (.sl (.int .i64)),.sl (.sl (.int .i64)),.osl 1 2],.segs [.sl (.int .i64),.ols 2],.lst (.int .i64)]⟩,⟨[.osl 0 4,.i .i64],[.segs [.sl (.sl (.int .i64)),.sl (.sl (.int .i64)),.sl (.sl (.int .i64)),.osl 1 3],.segs [.sl (.int .i64),.ols 2,.sl (.int .i64)],.lst (.int .i64)]⟩,⟨[.osl 0 4,.i .i64],[.segs [.sl (.sl (.int .i64)),.sl (.sl (.int .i64)),.sl (.sl (.int .i64)),.osl 1 4],.segs [.sl (.int .i64),.ols 2,.sl (.int .i64),.sl (.int .i64)],.lst (.int .i64)]⟩,⟨[.osl 0 5,.i .i64],[.segs [.sl (.sl (.int .i64)),.sl (.sl (.int .i64)),.sl (.sl (.int .i64)),.sl (.sl (.int .i64)),.osl 1 2],.segs [.sl (.int .i64),.ols 2],.lst (.int .i64)]⟩,⟨[.osl 0 5,.i .i64],[.segs [.sl (.sl (.int .i64)),.sl (.sl (.int .i64)),.sl (.sl (.int .i64)),.sl (.sl (.int .i64)),.osl 1 3],.segs [.sl (.int .i64),.ols 2,.sl (.int .i64)],.lst (.int .i64)]⟩,⟨[.osl 0 5,.i .i64],[.segs [.sl (.sl (.int .i64)),.sl (.sl (.int .i64)),.sl (.sl (.int .i64)),.sl (.sl (.int .i64)),.osl 1 4],.segs [.sl (.int .i64),.ols 2,.sl (.int .i64),.sl (.int .i64)],.lst (.int .i64)]⟩],run:=fun p k=>(markso_S N p.1.1.1 p.1.1.2.1 p.1.1.2.2.1 p.1.2.1.1 p.1.2.1.2.1).bind fun r=>match r with
 | .inl x=>k (.inl (((),x.1,()),(((),()),(x.2.1,(),()),x.2.2,())))
 | .inr (.inl x)=>k (.inr (.inl (((),x.1,()),(((),()),(x.2.1,(),x.2.2.1,()),x.2.2.2,()))))
 | .inr (.inr (.inl x))=>k (.inr (.inr (.inl (((),x.1,()),(((),()),(x.2.1,(),x.2.2.1,x.2.2.2.1,()),x.2.2.2.2,())))))
 | .inr (.inr (.inr (.inl x)))=>k (.inr (.inr (.inr (.inl (((),x.1,()),((x.2.1,(),()),(x.2.2.1,(),()),x.2.2.2,()))))))
 | .inr (.inr (.inr (.inr (.inl x))))=>k (.inr (.inr (.inr (.inr (.inl (((),x.1,()),((x.2.1,(),()),(x.2.2.1,(),x.2.2.2.1,()),x.2.2.2.2,())))))))
 | .inr (.inr (.inr (.inr (.inr (.inl x)))))=>k (.inr (.inr (.inr (.inr (.inr (.inl (((),x.1,()),((x.2.1,(),()),(x.2.2.1,(),x.2.2.2.1,x.2.2.2.2.1,()),x.2.2.2.2.2,()))))))))
 | .inr (.inr (.inr (.inr (.inr (.inr (.inl x))))))=>k (.inr (.inr (.inr (.inr (.inr (.inr (.inl (((),x.1,()),((x.2.1,x.2.2.1,(),()),(x.2.2.2.1,(),()),x.2.2.2.2,())))))))))
 | .inr (.inr (.inr (.inr (.inr (.inr (.inr (.inl x)))))))=>k (.inr (.inr (.inr (.inr (.inr (.inr (.inr (.inl (((),x.1,()),((x.2.1,x.2.2.1,(),()),(x.2.2.2.1,(),x.2.2.2.2.1,()),x.2.2.2.2.2,()))))))))))
 | .inr (.inr (.inr (.inr (.inr (.inr (.inr (.inr (.inl x))))))))=>k (.inr (.inr (.inr (.inr (.inr (.inr (.inr (.inr (.inl (((),x.1,()),((x.2.1,x.2.2.1,(),()),(x.2.2.2.1,(),x.2.2.2.2.1,x.2.2.2.2.2.1,()),x.2.2.2.2.2.2,())))))))))))
 | .inr (.inr (.inr (.inr (.inr (.inr (.inr (.inr (.inr (.inl x)))))))))=>k (.inr (.inr (.inr (.inr (.inr (.inr (.inr (.inr (.inr (.inl (((),x.1,()),((x.2.1,x.2.2.1,x.2.2.2.1,(),()),(x.2.2.2.2.1,(),()),x.2.2.2.2.2,()))))))))))))
 | .inr (.inr (.inr (.inr (.inr (.inr (.inr (.inr (.inr (.inr (.inl x))))))))))=>k (.inr (.inr (.inr (.inr (.inr (.inr (.inr (.inr (.inr (.inr (.inl (((),x.1,()),((x.2.1,x.2.2.1,x.2.2.2.1,(),()),(x.2.2.2.2.1,(),x.2.2.2.2.2.1,()),x.2.2.2.2.2.2,())))))))))))))
 | .inr (.inr (.inr (.inr (.inr (.inr (.inr (.inr (.inr (.inr (.inr (.inl x)))))))))))=>k (.inr (.inr (.inr (.inr (.inr (.inr (.inr (.inr (.inr (.inr (.inr (.inl (((),x.1,()),((x.2.1,x.2.2.1,x.2.2.2.1,(),()),(x.2.2.2.2.1,(),x.2.2.2.2.2.1,x.2.2.2.2.2.2.1,()),x.2.2.2.2.2.2.2,()))))))))))))))
 | .inr (.inr (.inr (.inr (.inr (.inr (.inr (.inr (.inr (.inr (.inr (.inr (.inl x))))))))))))=>k (.inr (.inr (.inr (.inr (.inr (.inr (.inr (.inr (.inr (.inr (.inr (.inr (.inl (((),x.1,()),((x.2.1,x.2.2.1,x.2.2.2.1,x.2.2.2.2.1,(),()),(x.2.2.2.2.2.1,(),()),x.2.2.2.2.2.2,())))))))))))))))
 | .inr (.inr (.inr (.inr (.inr (.inr (.inr (.inr (.inr (.inr (.inr (.inr (.inr (.inl x)))))))))))))=>k (.inr (.inr (.inr (.inr (.inr (.inr (.inr (.inr (.inr (.inr (.inr (.inr (.inr (.inl (((),x.1,()),((x.2.1,x.2.2.1,x.2.2.2.1,x.2.2.2.2.1,(),()),(x.2.2.2.2.2.1,(),x.2.2.2.2.2.2.1,()),x.2.2.2.2.2.2.2,()))))))))))))))))
 | .inr (.inr (.inr (.inr (.inr (.inr (.inr (.inr (.inr (.inr (.inr (.inr (.inr (.inr (x))))))))))))))=>k (.inr (.inr (.inr (.inr (.inr (.inr (.inr (.inr (.inr (.inr (.inr (.inr (.inr (.inr (((),x.1,()),((x.2.1,x.2.2.1,x.2.2.2.1,x.2.2.2.2.1,(),()),(x.2.2.2.2.2.1,(),x.2.2.2.2.2.2.1,x.2.2.2.2.2.2.2.1,()),x.2.2.2.2.2.2.2.2,()))))))))))))))))
 }
set_option maxHeartbeats 4000000 in
theorem A4h(N:Nat):A2 Tryz.prog (M7 N):=by
 refine⟨fun Z p κ=>?_,fun args w=>Sem.pv_run _ _ _ (by kernel_rfl) w,fun p r hpr g w vs hv hs hρ=>?_⟩
 ·show((markso_S N p.1.1.1 p.1.1.2.1 p.1.1.2.2.1 p.1.2.1.1 p.1.2.1.2.1).bind _)=((markso_S N p.1.1.1 p.1.1.2.1 p.1.1.2.2.1 p.1.2.1.1 p.1.2.1.2.1).bind _).bind κ
  cases markso_S N p.1.1.1 p.1.1.2.1 p.1.1.2.2.1 p.1.2.1.1 p.1.2.1.2.1 with
  | none=>rfl
  | some r=>rcases r with x | x | x | x | x | x | x | x | x | x | x | x | x | x | x<;>rfl
 ·obtain⟨⟨⟨(T:List (List Int)),(H:List Int),(f:Int),u1⟩,⟨(a:Int),(b:Int),u2⟩,u3⟩,u4⟩:=p
  have hh0:∀i,(hOf (ss:=(M7 N).ins.blks) u4) i=none:=fun i=>by
   show([]:List Blk')[i]?=none
   simp
  cases hX:mkX N T H f a b with
  | none=>
   have h:(M7 N).run (((T,H,f,u1),(a,b,u2),u3),u4) some=none:=by
    show((markso_S N T H f a b).bind _)=none
    unfold markso_S
    rw[hX];rfl
   rw[h]at hpr;cases hpr
  | some X=>
   have hm:=W6 hX g (fun i=>hρ i (Nat.zero_le _)) w hs.mem vs hv
   have key:∀(X0:List (List (List Int))) (s0 q:List Int) (S:List (List Int)),X=X0++[s0::q::S]→X0.length≤1000 →
     Fn Tryz.prog 6 vs.toArray w (fun v w'=>∃g',Stp (Sw g (hOf (ss:=(M7 N).ins.blks) u4) (List.range 0)) (fun i=>0≤i∧i<3) g w g' w'∧Sim g' (fun i=>([.segs ((X0.map fun F=>.sl (.sl (.int .i64)) F)++[.osl 1 (S.length+2)]),.segs (.sl (.int .i64) s0::.ols 2::S.map fun s=>.sl (.int .i64) s),.lst (.int .i64) q]:List Blk')[i]?) w' ∧
      RepV g' (.tup [.osl 0 (X0.length+1),.i .i64 0]) v):=by
    intro X0 s0 q S e h0
    subst e
    refine Fn.mono hm ?_
    rintro v w' ⟨hE,bo,hi,us,tyO,rfl,hbo,hO,hM2⟩
    obtain⟨g',st,hs',hV⟩:=Ac2 hs hh0 (fun i=>hρ i (Nat.zero_le _)) hE hbo hO X0 s0 q S hM2 h0
    refine⟨g',st,hs',⟨_,rfl,_,_,rfl,?_,_,_,rfl,⟨rfl,inR0⟩,rfl⟩⟩
    have e2:(X0++[s0::q::S]).length=X0.length+1:=by rw[List.length_append];rfl
    rw[e2];exact hV
   have hpr':(markso_S N T H f a b).bind _=some r:=hpr
   unfold markso_S at hpr'
   rw[hX]at hpr'
   cases hsp:spl X with
   | none=>rw[Option.bind_some,hsp]at hpr';cases hpr'
   | some rr=>
    obtain⟨X0,s0,q,S⟩:=rr
    have e:=Ahi _ _ _ _ _ hsp
    rw[Option.bind_some,hsp,Option.bind_some]at hpr'
    have fin:=key X0 s0 q S e
    clear hm key hX hsp
    dsimp only at hpr'
    split at hpr'

    ·split at hpr'
     ·have hr:=Option.some.inj hpr'
      subst hr
      exact fin (by simp)
     ·rename_i s2
      have hr:=Option.some.inj hpr'
      subst hr
      exact fin (by simp)
     ·rename_i s2 s3
      have hr:=Option.some.inj hpr'
      subst hr
      exact fin (by simp)
     ·cases hpr'
    ·rename_i F0
     split at hpr'
     ·have hr:=Option.some.inj hpr'
      subst hr
      exact fin (by simp)
     ·rename_i s2
      have hr:=Option.some.inj hpr'
      subst hr
      exact fin (by simp)
     ·rename_i s2 s3
      have hr:=Option.some.inj hpr'
      subst hr
      exact fin (by simp)
     ·cases hpr'
    ·rename_i F0 F1
     split at hpr'
     ·have hr:=Option.some.inj hpr'
      subst hr
      exact fin (by simp)
     ·rename_i s2
      have hr:=Option.some.inj hpr'
      subst hr
      exact fin (by simp)
     ·rename_i s2 s3
      have hr:=Option.some.inj hpr'
      subst hr
      exact fin (by simp)
     ·cases hpr'
    ·rename_i F0 F1 F2
     split at hpr'
     ·have hr:=Option.some.inj hpr'
      subst hr
      exact fin (by simp)
     ·rename_i s2
      have hr:=Option.some.inj hpr'
      subst hr
      exact fin (by simp)
     ·rename_i s2 s3
      have hr:=Option.some.inj hpr'
      subst hr
      exact fin (by simp)
     ·cases hpr'
    ·rename_i F0 F1 F2 F3
     split at hpr'
     ·have hr:=Option.some.inj hpr'
      subst hr
      exact fin (by simp)
     ·rename_i s2
      have hr:=Option.some.inj hpr'
      subst hr
      exact fin (by simp)
     ·rename_i s2 s3
      have hr:=Option.some.inj hpr'
      subst hr
      exact fin (by simp)
     ·cases hpr'
    ·cases hpr'
end Go.Proofs.YtfcnhnbnjdccfaaGreat

namespace Go.Proofs.YtfcnhnbnjdccfaaGreat
set_option linter.all false
open Go

theorem Ib{w:World}{lo hi:Nat}{us:List Value}{F:List (List Int)}{X:List (List (List Int))}(h:Ar w lo hi us (F::X)) :
  ∃m vs mid ty us',us=.slice (some ⟨m,0,none⟩) F.length F.length::us'∧lo≤m∧F.length≤1000∧Blk w m vs ty∧Aj w (m+1) mid vs F∧Ar w mid hi us' X:=by
 cases us with
 | nil=>exact h.elim
 | cons u us=>
  obtain⟨m,vs,mid,ty,rfl,h1,h2,h3,h4,h5⟩:=h
  exact⟨m,vs,mid,ty,us,rfl,h1,h2,h3,h4,h5⟩
theorem Air{w:World}{lo hi:Nat}{us:List Value}(h:Ar w lo hi us []):us=[]:=by
 cases us with
 | nil=>rfl
 | cons u us=>exact h.elim
theorem D0{w:World}{lo hi:Nat}{vs:List Value}{r:List Int}{F:List (List Int)}(h:Aj w lo hi vs (r::F)) :
  ∃b ty vs',vs=.slice (some ⟨b,0,none⟩) r.length r.length::vs'∧lo≤b∧(∀x∈r,inR .i64 x)∧r.length≤1000∧Blk w b (r.map (.int .i64)) ty∧Aj w (b+1) hi vs' F:=by
 cases vs with
 | nil=>exact h.elim
 | cons v vs=>
  obtain⟨b,ty,rfl,h1,h2,h3,h4,h5⟩:=h
  exact⟨b,ty,vs,rfl,h1,h2,h3,h4,h5⟩
theorem A72{w:World}{lo hi:Nat}{vs:List Value}(h:Aj w lo hi vs []):vs=[]∧lo≤hi:=by
 cases vs with
 | nil=>exact⟨rfl,h⟩
 | cons u us=>exact h.elim
abbrev Ahh(F0 F1 F3:List (List Int))(s20 s22 s23 s40 s41 s42 q21 q43:List Int):List Blk':=[.segs [.sl (.sl (.int .i64)) F0,.sl (.sl (.int .i64)) F1,.osl 5 4,.sl (.sl (.int .i64)) F3,.osl 6 4],
 .segs [.sl (.int .i64) s20,.ols 7,.sl (.int .i64) s22,.sl (.int .i64) s23],.segs [.sl (.int .i64) s40,.sl (.int .i64) s41,.sl (.int .i64) s42,.ols 8],.lst (.int .i64) q21,.lst (.int .i64) q43]
abbrev Ans(hd r0 r1:List Int)(F0 F1 F3:List (List Int))(s20 s22 s23 s40 s41 s42 q21 q43:List Int):List Blk':=U5 hd r0 r1++Ahh F0 F1 F3 s20 s22 s23 s40 s41 s42 q21 q43
set_option maxHeartbeats 2000000 in
theorem A6p{g:Gh}{w w':World}{hd r0 r1:List Int}(hs:Sim g (fun i=>(U5 hd r0 r1)[i]?) w)(hρ:∀i,4≤i→g.ρ i=none)(hE:Ext w w'){bo hi:Nat}{us:List Value}{tyO:TypeId}(hbo:w.heap.size≤bo)(hO:Blk w' bo us tyO)
  {F0 F1 F3:List (List Int)} {s20 s22 s23 s40 s41 s42 q21 q43:List Int} (hX:Ar w' (bo+1) hi us [F0,F1,[s20,q21,s22,s23],F3,[s40,s41,s42,q43]]) (S:Nat→Prop) :
  ∃g',Stp S (fun i=>4≤i∧i<9) g w g' w'∧Sim g' (fun i=>(Ans hd r0 r1 F0 F1 F3 s20 s22 s23 s40 s41 s42 q21 q43)[i]?) w'∧RepV g' (.osl 4 5) (.slice (some ⟨bo,0,none⟩) 5 5):=by
 have hMlt:∀b o,g.M b=some o→b<w.heap.size:=fun b o h=>A8 (hs.mem b o h)
 obtain⟨m0,vs0,d0,t0,_,rfl,a1,a2,a3,a4,hX⟩:=Ib hX
 obtain⟨m1,vs1,d1,t1,_,rfl,b1,b2,b3,b4,hX⟩:=Ib hX
 obtain⟨m2,vs2,d2,t2,_,rfl,c1,c2,c3,c4,hX⟩:=Ib hX
 obtain⟨m3,vs3,d3,t3,_,rfl,e1,e2,e3,e4,hX⟩:=Ib hX
 obtain⟨m4,vs4,d4,t4,_,rfl,f1,f2,f3,f4,hX⟩:=Ib hX
 obtain rfl:=Air hX
 obtain⟨r20,y20,_,rfl,g1,g2,g3,g4,c4⟩:=D0 c4
 obtain⟨r21,y21,_,rfl,h1,h2,h3,h4,c4⟩:=D0 c4
 obtain⟨r22,y22,_,rfl,i1,i2,i3,i4,c4⟩:=D0 c4
 obtain⟨r23,y23,_,rfl,j1,j2,j3,j4,c4⟩:=D0 c4
 obtain⟨rfl,c5⟩:=A72 c4
 obtain⟨r40,y40,_,rfl,k1,k2,k3,k4,f4⟩:=D0 f4
 obtain⟨r41,y41,_,rfl,l1,l2,l3,l4,f4⟩:=D0 f4
 obtain⟨r42,y42,_,rfl,n1,n2,n3,n4,f4⟩:=D0 f4
 obtain⟨r43,y43,_,rfl,p1,p2,p3,p4,f4⟩:=D0 f4
 obtain⟨rfl,f5⟩:=A72 f4
 have x0:=a4.le
 have x1:=b4.le
 have x3:=e4.le
 have z0:=A8 hO
 have z2:=A8 c3
 have z4:=A8 f3
 have z21:=A8 h4
 have z43:=A8 p4
 have hu:=Xk w' [bo,m2,m4,r21,r43]
 have qF0:=Aj.rep (M:=g.M) (n:=w.heap.size) (a4.upd hu (fun k hk=>by simp only[List.mem_cons,List.not_mem_nil,or_false]at hk;omega)) (hu.blk a3 (by simp only[List.mem_cons,List.not_mem_nil,or_false];omega)) hMlt (by omega) (by omega) a2
 have qF1:=Aj.rep (M:=g.M) (n:=w.heap.size) (b4.upd hu (fun k hk=>by simp only[List.mem_cons,List.not_mem_nil,or_false]at hk;omega)) (hu.blk b3 (by simp only[List.mem_cons,List.not_mem_nil,or_false];omega)) hMlt (by omega) (by omega) b2
 have qF3:=Aj.rep (M:=g.M) (n:=w.heap.size) (e4.upd hu (fun k hk=>by simp only[List.mem_cons,List.not_mem_nil,or_false]at hk;omega)) (hu.blk e3 (by simp only[List.mem_cons,List.not_mem_nil,or_false];omega)) hMlt (by omega) (by omega) e2
 have q20:=Fb (M:=g.M) (n:=w.heap.size) hMlt (by omega) (hu.blk g4 (by simp only[List.mem_cons,List.not_mem_nil,or_false];omega)) g2 g3
 have q22:=Fb (M:=g.M) (n:=w.heap.size) hMlt (by omega) (hu.blk i4 (by simp only[List.mem_cons,List.not_mem_nil,or_false];omega)) i2 i3
 have q23:=Fb (M:=g.M) (n:=w.heap.size) hMlt (by omega) (hu.blk j4 (by simp only[List.mem_cons,List.not_mem_nil,or_false];omega)) j2 j3
 have q40:=Fb (M:=g.M) (n:=w.heap.size) hMlt (by omega) (hu.blk k4 (by simp only[List.mem_cons,List.not_mem_nil,or_false];omega)) k2 k3
 have q41:=Fb (M:=g.M) (n:=w.heap.size) hMlt (by omega) (hu.blk l4 (by simp only[List.mem_cons,List.not_mem_nil,or_false];omega)) l2 l3
 have q42:=Fb (M:=g.M) (n:=w.heap.size) hMlt (by omega) (hu.blk n4 (by simp only[List.mem_cons,List.not_mem_nil,or_false];omega)) n2 n3
 have hNone:∀k,k∈[bo,m2,m4,r21,r43]→frzM g.M [] w.heap.size (hide w' [bo,m2,m4,r21,r43]) k=none:=fun k hk=>by
  cases e:frzM g.M [] w.heap.size (hide w' [bo,m2,m4,r21,r43]) k with
  | none=>rfl
  | some o=>
   have hk2:w.heap.size≤k∧k<w'.heap.size:=by
    simp only[List.mem_cons,List.not_mem_nil,or_false]at hk
    rcases hk with rfl | rfl | rfl | rfl | rfl<;>omega
   rcases L5 e with h1 | ⟨_,_,h3,h4⟩
   ·have:=hMlt k o h1;omega
   ·rw[Vm w' _ _ hk hk2.2]at h3;cases h3;cases h4
 obtain⟨MX,hMX⟩:∃MX,MX=frzM g.M [] w.heap.size (hide w' [bo,m2,m4,r21,r43]):=⟨_,rfl⟩
 rw[←hMX]at qF0 qF1 qF3 q20 q22 q23 q40 q41 q42 hNone
 obtain⟨st,hs'⟩:=Adm (S:=S) hs hE 4 (Ahh F0 F1 F3 s20 s22 s23 s40 s41 s42 q21 q43)
  [(bo,5,5),(m2,4,4),(m4,4,4),(r21,q21.length,q21.length),(r43,q43.length,q43.length)] rfl (fun i hi=>List.getElem?_eq_none (by show 4≤i;exact hi)) hρ (by simp;omega) (fun x hx=>by
   simp only[List.mem_cons,List.not_mem_nil,or_false]at hx
   rcases hx with rfl | rfl | rfl | rfl | rfl<;>dsimp only<;>omega) ⟨fun i=>if 4≤i then(([(bo,5,5),(m2,4,4),(m4,4,4),(r21,q21.length,q21.length),(r43,q43.length,q43.length)]:List (Nat×Nat×Nat))[i-4]?).map some else g.ρ i,MX⟩ (by rw[hMX];rfl) (fun j k hk=>by
   match j,hk with
   | 0,hk=>
    cases hk
    exact⟨bo,_,_,_,tyO,rfl,hO,⟨[_],_,rfl,⟨_,rfl,qF0⟩,[_],_,rfl,⟨_,rfl,qF1⟩,[_],_,rfl,⟨_,rfl,⟨m2,_,_,rfl,rfl⟩⟩,[_],_,rfl,⟨_,rfl,qF3⟩,[_],_,rfl,⟨_,rfl,⟨m4,_,_,rfl,rfl⟩⟩,rfl⟩,hNone bo (by simp)⟩
   | 1,hk=>
    cases hk
    exact⟨m2,_,_,_,t2,rfl,c3,⟨[_],_,rfl,⟨_,rfl,q20⟩,[_],_,rfl,⟨_,rfl,.inr ⟨r21,_,_,rfl,rfl⟩⟩,[_],_,rfl,⟨_,rfl,q22⟩,[_],_,rfl,⟨_,rfl,q23⟩,rfl⟩,hNone m2 (by simp)⟩
   | 2,hk=>
    cases hk
    exact⟨m4,_,_,_,t4,rfl,f3,⟨[_],_,rfl,⟨_,rfl,q40⟩,[_],_,rfl,⟨_,rfl,q41⟩,[_],_,rfl,⟨_,rfl,q42⟩,[_],_,rfl,⟨_,rfl,.inr ⟨r43,_,_,rfl,rfl⟩⟩,rfl⟩,hNone m4 (by simp)⟩
   | 3,hk=>
    cases hk
    exact⟨by omega,.inr ⟨r21,q21.length,q21.map (.int .i64),[],y21,rfl,by rw[List.append_nil];exact h4,(Bs _ _).2 ⟨rfl,h2⟩,⟨Nat.le_refl _,by omega⟩,by simp,hNone r21 (by simp)⟩⟩
   | 4,hk=>
    cases hk
    exact⟨by omega,.inr ⟨r43,q43.length,q43.map (.int .i64),[],y43,rfl,by rw[List.append_nil];exact p4,(Bs _ _).2 ⟨rfl,p2⟩,⟨Nat.le_refl _,by omega⟩,by simp,hNone r43 (by simp)⟩⟩
   | j+5,hk=>simp at hk)
 refine⟨_,st,?_,⟨bo,_,_,rfl,rfl⟩⟩
 have hf:(fun i=>if 4≤i then(Ahh F0 F1 F3 s20 s22 s23 s40 s41 s42 q21 q43)[i-4]? else(U5 hd r0 r1)[i]?)=fun i=>(Ans hd r0 r1 F0 F1 F3 s20 s22 s23 s40 s41 s42 q21 q43)[i]?:=by
  funext i
  match i with
  | 0=>rfl
  | 1=>rfl
  | 2=>rfl
  | 3=>rfl
  | i+4=>
   rw[if_pos (Nat.le_add_left 4 i)]
   show _=(U5 hd r0 r1++_)[i+4]?
   rw[List.getElem?_append_right (Nat.le_add_left 4 i)]
   rfl
 rw[hf]at hs'
 exact hs'

def five(X:List (List (List Int))):Option (List (List Int)×List (List Int)×List (List Int)×List (List Int)×List (List Int)):=match X with
 | [a,b,c,d,e]=>some (a,b,c,d,e)
 | _=>none
theorem Amh{X:List (List (List Int))}{a b c d e:List (List Int)}(h:five X=some (a,b,c,d,e)):X=[a,b,c,d,e]:=by
 unfold five at h
 split at h
 ·cases h;rfl
 ·cases h
def four(F:List (List Int)):Option (List Int×List Int×List Int×List Int):=match F with
 | [a,b,c,d]=>some (a,b,c,d)
 | _=>none
theorem Ada{F:List (List Int)}{a b c d:List Int}(h:four F=some (a,b,c,d)):F=[a,b,c,d]:=by
 unfold four at h
 split at h
 ·cases h;rfl
 ·cases h
def Gs(N:Nat)(f a b:Int)(hd r0 r1:List Int):Option (Int×List Int×List Int×List Int×List (List Int)×List (List Int)×List (List Int)×List Int×List Int×List Int×List Int×List Int×List Int×List Int×List Int):=
 (mkX N [r0,r1] hd f a b).bind fun X=>(five X).bind fun x=>(four x.2.2.1).bind fun y=>(four x.2.2.2.2).bind fun z=>some (0,hd,r0,r1,x.1,x.2.1,x.2.2.2.1,y.1,y.2.2.1,y.2.2.2,z.1,z.2.1,z.2.2.1,y.2.1,z.2.2.2)
noncomputable def A1w(N:Nat):Spec:={ f:=6,ins:=⟨[.agg [.osl 0 2,.ols 1,.i .i64],.agg [.i .i64,.i .i64]],[.segs [.ols 2,.ols 3],.lst (.int .i64),.lst (.int .i64),.lst (.int .i64)]⟩,outs:=[⟨[.osl 4 5,.i .i64],[.segs [.ols 2,.ols 3],.lst (.int .i64),.lst (.int .i64),.lst (.int .i64),.segs [.sl (.sl (.int .i64)),.sl (.sl (.int .i64)),.osl 5 4,.sl (.sl (.int .i64)),.osl 6 4],.segs [.sl (.int .i64),.ols 7,.sl (.int .i64),.sl (.int .i64)],.segs [.sl (.int .i64),.sl (.int .i64),.sl (.int .i64),.ols 8],.lst (.int .i64),.lst (.int .i64)]⟩],run:=fun p k=>(Gs N p.1.1.2.2.1 p.1.2.1.1 p.1.2.1.2.1 p.2.2.1 p.2.2.2.1 p.2.2.2.2.1).bind fun r=>k (((),r.1,()),(((),(),()),r.2.1,r.2.2.1,r.2.2.2.1,(r.2.2.2.2.1,r.2.2.2.2.2.1,(),r.2.2.2.2.2.2.1,(),()),(r.2.2.2.2.2.2.2.1,(),r.2.2.2.2.2.2.2.2.1,r.2.2.2.2.2.2.2.2.2.1,()),(r.2.2.2.2.2.2.2.2.2.2.1,r.2.2.2.2.2.2.2.2.2.2.2.1,r.2.2.2.2.2.2.2.2.2.2.2.2.1,(),()),r.2.2.2.2.2.2.2.2.2.2.2.2.2.1,r.2.2.2.2.2.2.2.2.2.2.2.2.2.2,())) }
theorem A48(N:Nat):A2 Tryz.prog (A1w N):=by
 refine⟨fun Z p κ=>?_,fun args w=>Sem.pv_run _ _ _ (by kernel_rfl) w,fun p r hpr g w vs hv hs hρ=>?_⟩
 ·show((Gs N _ _ _ _ _ _).bind _)=((Gs N _ _ _ _ _ _).bind _).bind κ
  cases Gs N _ _ _ _ _ _<;>rfl
 ·obtain⟨⟨⟨u1,u2,(f:Int),u3⟩,⟨(a:Int),(b:Int),u4⟩,u5⟩,⟨u6,(hd:List Int),(r0:List Int),(r1:List Int),u7⟩⟩:=p
  have hpr':(Gs N f a b hd r0 r1).bind _=some r:=hpr
  unfold Gs at hpr'
  cases hX:mkX N [r0,r1] hd f a b with
  | none=>rw[hX]at hpr';cases hpr'
  | some X=>
  rw[hX,Option.bind_some]at hpr'
  cases h5:five X with
  | none=>rw[h5]at hpr';cases hpr'
  | some x=>
  obtain⟨F0,F1,F2,F3,F4⟩:=x
  obtain rfl:=Amh h5
  rw[h5,Option.bind_some]at hpr'
  dsimp only at hpr'
  cases h2:four F2 with
  | none=>rw[h2]at hpr';cases hpr'
  | some y=>
  obtain⟨s20,q21,s22,s23⟩:=y
  rw[h2,Option.bind_some]at hpr'
  obtain rfl:=Ada h2
  cases h4:four F4 with
  | none=>rw[h4]at hpr';cases hpr'
  | some z=>
  obtain⟨s40,s41,s42,q43⟩:=z
  rw[h4,Option.bind_some,Option.bind_some]at hpr'
  obtain rfl:=Ada h4
  have hr:=Option.some.inj hpr'
  subst hr
  have hs':Sim g (fun i=>(U5 hd r0 r1)[i]?) w:=hs
  refine Fn.mono (W6 hX (gAx w) (fun _=>rfl) w (fun b o h=>h) vs (A12 hs' hv)) ?_
  rintro v w' ⟨hE,bo,hi,us,tyO,rfl,hbo,hO,hM2⟩
  obtain⟨g',st,hs2,hV⟩:=A6p hs' hρ hE hbo hO hM2 (Sw g (hOf (ss:=(A1w N).ins.blks) (u6,hd,r0,r1,u7)) (List.range 4))
  exact⟨g',st,hs2,⟨_,rfl,_,_,rfl,hV,_,_,rfl,⟨rfl,inR0⟩,rfl⟩⟩
end Go.Proofs.YtfcnhnbnjdccfaaGreat

namespace Go.Proofs.YtfcnhnbnjdccfaaGreat
set_option linter.all false
open Go

def Ag(N:Nat):Nat→Int→Int→Int→Int→(List Int)→Option ((Unit)⊕((Unit)⊕(Int×Int×List Int)))
 | 0,_,_,_,_,_=>none
 | n_+1,v,u,u2,u3,g=>
  br (decide (u3<12))
   ((Aj9 N 4 1).bind fun(x_2,y_3,y_4,y_5)=>
   (Cy N x_2 0 1 y_3 y_4 y_5).bind fun(x_6,y_7,y_8,y_9,y_10)=>
   (Gs N x_2 0 1 y_7 y_8 y_9).bind fun(x_11,y_12,y_13,y_14,y_15,y_16,y_17,y_18,y_19,y_20,y_21,y_22,y_23,y_24,y_25)=>
   br (!decide ((y_10.length:Int)=4))
    (some (.inl ()))
    (br (!decide ((y_25.length:Int)=3))
     (some (.inl ()))
     (br (!decide ((y_24.length:Int)=3))
      (some (.inl ()))
      (rng 1 y_13.length<|
      rng 0 y_14.length<|
      rng 1 y_12.length<|
      rng 3 y_12.length<|
      rng 0 y_10.length<|
      rng 3 y_10.length<|
      rng 2 y_25.length<|
      rng 1 y_24.length<|
      br (decide (u3=(0:Int)))
       (get y_13 1 fun _=>
       br (decide (u3=11))
        (rng 1 y_10.length<|
        get y_10 1 fun z_27=>
        (Av N [(y_13.set 1 v),y_14] y_12 x_2 0 1 (y_10.set 1 (v,z_27.2)) ([y_15,y_16,[y_18,y_24,y_19,y_20],y_17,[y_21,y_22,y_23,y_25]])).bind fun x_28=>
        br (!x_28)
         (some (.inr (.inl ())))
         (chk (u3+1)<|
         Ag N n_ v u u2 (u3+1) g))
        ((Av N [(y_13.set 1 v),y_14] y_12 x_2 0 1 y_10 ([y_15,y_16,[y_18,y_24,y_19,y_20],y_17,[y_21,y_22,y_23,y_25]])).bind fun x_29=>
        br (!x_29)
         (some (.inr (.inl ())))
         (chk (u3+1)<|
         Ag N n_ v u u2 (u3+1) g)))
       (br (decide (u3=(1:Int)))
        (get y_14 0 fun _=>
        br (decide (u3=11))
         (rng 1 y_10.length<|
         get y_10 1 fun z_31=>
         (Av N [y_13,(y_14.set 0 v)] y_12 x_2 0 1 (y_10.set 1 (v,z_31.2)) ([y_15,y_16,[y_18,y_24,y_19,y_20],y_17,[y_21,y_22,y_23,y_25]])).bind fun x_32=>
         br (!x_32)
          (some (.inr (.inl ())))
          (chk (u3+1)<|
          Ag N n_ v u u2 (u3+1) g))
         ((Av N [y_13,(y_14.set 0 v)] y_12 x_2 0 1 y_10 ([y_15,y_16,[y_18,y_24,y_19,y_20],y_17,[y_21,y_22,y_23,y_25]])).bind fun x_33=>
         br (!x_33)
          (some (.inr (.inl ())))
          (chk (u3+1)<|
          Ag N n_ v u u2 (u3+1) g)))
        (br (decide (u3=(2:Int)))
         (get y_12 1 fun _=>
         br (decide (u3=11))
          (rng 1 y_10.length<|
          get y_10 1 fun z_35=>
          (Av N [y_13,y_14] (y_12.set 1 v) x_2 0 1 (y_10.set 1 (v,z_35.2)) ([y_15,y_16,[y_18,y_24,y_19,y_20],y_17,[y_21,y_22,y_23,y_25]])).bind fun x_36=>
          br (!x_36)
           (some (.inr (.inl ())))
           (chk (u3+1)<|
           Ag N n_ v u u2 (u3+1) g))
          ((Av N [y_13,y_14] (y_12.set 1 v) x_2 0 1 y_10 ([y_15,y_16,[y_18,y_24,y_19,y_20],y_17,[y_21,y_22,y_23,y_25]])).bind fun x_37=>
          br (!x_37)
           (some (.inr (.inl ())))
           (chk (u3+1)<|
           Ag N n_ v u u2 (u3+1) g)))
         (br (decide (u3=(3:Int)))
          (get y_12 3 fun _=>
          br (decide (u3=11))
           (rng 1 y_10.length<|
           get y_10 1 fun z_39=>
           (Av N [y_13,y_14] (y_12.set 3 v) x_2 0 1 (y_10.set 1 (v,z_39.2)) ([y_15,y_16,[y_18,y_24,y_19,y_20],y_17,[y_21,y_22,y_23,y_25]])).bind fun x_40=>
           br (!x_40)
            (some (.inr (.inl ())))
            (chk (u3+1)<|
            Ag N n_ v u u2 (u3+1) g))
           ((Av N [y_13,y_14] (y_12.set 3 v) x_2 0 1 y_10 ([y_15,y_16,[y_18,y_24,y_19,y_20],y_17,[y_21,y_22,y_23,y_25]])).bind fun x_41=>
           br (!x_41)
            (some (.inr (.inl ())))
            (chk (u3+1)<|
            Ag N n_ v u u2 (u3+1) g)))
          (br (decide (u3=(4:Int)))
           (br (decide (u3=11))
            (rng 1 y_10.length<|
            get y_10 1 fun z_42=>
            (Av N [y_13,y_14] y_12 v 0 1 (y_10.set 1 (v,z_42.2)) ([y_15,y_16,[y_18,y_24,y_19,y_20],y_17,[y_21,y_22,y_23,y_25]])).bind fun x_43=>
            br (!x_43)
             (some (.inr (.inl ())))
             (chk (u3+1)<|
             Ag N n_ v u u2 (u3+1) g))
            ((Av N [y_13,y_14] y_12 v 0 1 y_10 ([y_15,y_16,[y_18,y_24,y_19,y_20],y_17,[y_21,y_22,y_23,y_25]])).bind fun x_44=>
            br (!x_44)
             (some (.inr (.inl ())))
             (chk (u3+1)<|
             Ag N n_ v u u2 (u3+1) g)))
           (br (decide (u3=(5:Int)))
            (br (decide (u3=11))
             (rng 1 y_10.length<|
             get y_10 1 fun z_45=>
             (Av N [y_13,y_14] y_12 x_2 v 1 (y_10.set 1 (v,z_45.2)) ([y_15,y_16,[y_18,y_24,y_19,y_20],y_17,[y_21,y_22,y_23,y_25]])).bind fun x_46=>
             br (!x_46)
              (some (.inr (.inl ())))
              (chk (u3+1)<|
              Ag N n_ v u u2 (u3+1) g))
             ((Av N [y_13,y_14] y_12 x_2 v 1 y_10 ([y_15,y_16,[y_18,y_24,y_19,y_20],y_17,[y_21,y_22,y_23,y_25]])).bind fun x_47=>
             br (!x_47)
              (some (.inr (.inl ())))
              (chk (u3+1)<|
              Ag N n_ v u u2 (u3+1) g)))
            (br (decide (u3=(6:Int)))
             (br (decide (u3=11))
              (rng 1 y_10.length<|
              get y_10 1 fun z_48=>
              (Av N [y_13,y_14] y_12 x_2 0 v (y_10.set 1 (v,z_48.2)) ([y_15,y_16,[y_18,y_24,y_19,y_20],y_17,[y_21,y_22,y_23,y_25]])).bind fun x_49=>
              br (!x_49)
               (some (.inr (.inl ())))
               (chk (u3+1)<|
               Ag N n_ v u u2 (u3+1) g))
              ((Av N [y_13,y_14] y_12 x_2 0 v y_10 ([y_15,y_16,[y_18,y_24,y_19,y_20],y_17,[y_21,y_22,y_23,y_25]])).bind fun x_50=>
              br (!x_50)
               (some (.inr (.inl ())))
               (chk (u3+1)<|
               Ag N n_ v u u2 (u3+1) g)))
             (br (decide (u3=(7:Int)))
              (get y_10 0 fun z_51=>
              br (decide (u3=11))
               (rng 1 (y_10.set 0 (z_51.1,v)).length<|
               get (y_10.set 0 (z_51.1,v)) 1 fun z_52=>
               (Av N [y_13,y_14] y_12 x_2 0 1 ((y_10.set 0 (z_51.1,v)).set 1 (v,z_52.2)) ([y_15,y_16,[y_18,y_24,y_19,y_20],y_17,[y_21,y_22,y_23,y_25]])).bind fun x_53=>
               br (!x_53)
                (some (.inr (.inl ())))
                (chk (u3+1)<|
                Ag N n_ v u u2 (u3+1) g))
               ((Av N [y_13,y_14] y_12 x_2 0 1 (y_10.set 0 (z_51.1,v)) ([y_15,y_16,[y_18,y_24,y_19,y_20],y_17,[y_21,y_22,y_23,y_25]])).bind fun x_54=>
               br (!x_54)
                (some (.inr (.inl ())))
                (chk (u3+1)<|
                Ag N n_ v u u2 (u3+1) g)))
              (br (decide (u3=(8:Int)))
               (get y_10 3 fun z_55=>
               br (decide (u3=11))
                (rng 1 (y_10.set 3 (z_55.1,v)).length<|
                get (y_10.set 3 (z_55.1,v)) 1 fun z_56=>
                (Av N [y_13,y_14] y_12 x_2 0 1 ((y_10.set 3 (z_55.1,v)).set 1 (v,z_56.2)) ([y_15,y_16,[y_18,y_24,y_19,y_20],y_17,[y_21,y_22,y_23,y_25]])).bind fun x_57=>
                br (!x_57)
                 (some (.inr (.inl ())))
                 (chk (u3+1)<|
                 Ag N n_ v u u2 (u3+1) g))
                ((Av N [y_13,y_14] y_12 x_2 0 1 (y_10.set 3 (z_55.1,v)) ([y_15,y_16,[y_18,y_24,y_19,y_20],y_17,[y_21,y_22,y_23,y_25]])).bind fun x_58=>
                br (!x_58)
                 (some (.inr (.inl ())))
                 (chk (u3+1)<|
                 Ag N n_ v u u2 (u3+1) g)))
               (br (decide (u3=(9:Int)))
                (get y_25 2 fun _=>
                br (decide (u3=11))
                 (rng 1 y_10.length<|
                 get y_10 1 fun z_60=>
                 (Av N [y_13,y_14] y_12 x_2 0 1 (y_10.set 1 (v,z_60.2)) ([y_15,y_16,[y_18,y_24,y_19,y_20],y_17,[y_21,y_22,y_23,(y_25.set 2 v)]])).bind fun x_61=>
                 br (!x_61)
                  (some (.inr (.inl ())))
                  (chk (u3+1)<|
                  Ag N n_ v u u2 (u3+1) g))
                 ((Av N [y_13,y_14] y_12 x_2 0 1 y_10 ([y_15,y_16,[y_18,y_24,y_19,y_20],y_17,[y_21,y_22,y_23,(y_25.set 2 v)]])).bind fun x_62=>
                 br (!x_62)
                  (some (.inr (.inl ())))
                  (chk (u3+1)<|
                  Ag N n_ v u u2 (u3+1) g)))
                (br (decide (u3=(10:Int)))
                 (get y_24 1 fun _=>
                 br (decide (u3=11))
                  (rng 1 y_10.length<|
                  get y_10 1 fun z_64=>
                  (Av N [y_13,y_14] y_12 x_2 0 1 (y_10.set 1 (v,z_64.2)) ([y_15,y_16,[y_18,(y_24.set 1 v),y_19,y_20],y_17,[y_21,y_22,y_23,y_25]])).bind fun x_65=>
                  br (!x_65)
                   (some (.inr (.inl ())))
                   (chk (u3+1)<|
                   Ag N n_ v u u2 (u3+1) g))
                  ((Av N [y_13,y_14] y_12 x_2 0 1 y_10 ([y_15,y_16,[y_18,(y_24.set 1 v),y_19,y_20],y_17,[y_21,y_22,y_23,y_25]])).bind fun x_66=>
                  br (!x_66)
                   (some (.inr (.inl ())))
                   (chk (u3+1)<|
                   Ag N n_ v u u2 (u3+1) g)))
                 (br (decide (u3=(11:Int)))
                  (br (decide (u3=11))
                   (rng 1 y_10.length<|
                   get y_10 1 fun z_67=>
                   (Av N [y_13,y_14] y_12 x_2 0 1 (y_10.set 1 (v,z_67.2)) ([y_15,y_16,[y_18,y_24,y_19,y_20],y_17,[y_21,y_22,y_23,y_25]])).bind fun x_68=>
                   br (!x_68)
                    (some (.inr (.inl ())))
                    (chk (u3+1)<|
                    Ag N n_ v u u2 (u3+1) g))
                   ((Av N [y_13,y_14] y_12 x_2 0 1 y_10 ([y_15,y_16,[y_18,y_24,y_19,y_20],y_17,[y_21,y_22,y_23,y_25]])).bind fun x_69=>
                   br (!x_69)
                    (some (.inr (.inl ())))
                    (chk (u3+1)<|
                    Ag N n_ v u u2 (u3+1) g)))
                  (none))))))))))))))))
   (some (.inr (.inr (u,u2,g))))
def Rq(N:Nat):Nat→Int→Int→(List Int)→Option ((Unit)⊕((Unit)⊕(Unit)))
 | 0,_,_,_=>none
 | n_+1,u,u2,g=>
  br (decide (u2<u))
   (rng u2 g.length<|
   get g u2.toNat fun x_1=>
   (Ag N N x_1 u u2 0 g).bind fun e=>match e with
   | .inl _=>
    some (.inl ())
   | .inr (.inl _)=>
    some (.inr (.inl ()))
   | .inr (.inr (u_70,u2_71,g_72))=>
    chk (u2_71+1)<|
    Rq N n_ u_70 (u2_71+1) g_72)
   (some (.inr (.inr ())))
def Rl(N:Nat):Nat→Int→Int→Int→Int→Int→Int→Int→Int→(List Int)→(List (List Int))→Option (Int×Int×Int×Int×Int×List Int×List (List Int))
 | 0,_,_,_,_,_,_,_,_,_,_=>none
 | n_+1,n,i,u,u2,u3,u4,u5,x,l,x2=>
  br (decide (u5<u4))
   (chk (u5+i)<|
   chk ((u5+i)+1)<|
   grd (!decide (((u5+i)+1)=0))<|
   lim (l.length+[(Int.tmod (IntKind.i64.wrap (Int.tdiv n ((u5+i)+1))) 3)].length)<|
   chk (u5+1)<|
   Rl N n_ n i u u2 u3 u4 (u5+1) x (l++[(Int.tmod (IntKind.i64.wrap (Int.tdiv n ((u5+i)+1))) 3)]) x2)
   (some ((n,u,u2,u3,x,l,x2)))
def Rs(N:Nat):Nat→Int→Int→Int→Int→Int→(List (List Int))→Option (Int×Int×Int×List (List Int))
 | 0,_,_,_,_,_,_=>none
 | n_+1,n,u,u2,u3,x,x2=>
  br (decide (u3<u2))
   (chk (n+u3)<|
   chk (1+(Int.tmod (n+u3) 3))<|
   (Rl N N n u3 u u2 u3 (1+(Int.tmod (n+u3) 3)) 0 x [] x2).bind fun(n_73,u_74,u2_75,u3_76,x_77,l_78,x2_79)=>
   lim (x2_79.length+[l_78].length)<|
   chk (u3_76+1)<|
   Rs N n_ n_73 u_74 u2_75 (u3_76+1) x_77 (x2_79++[l_78]))
   (some ((n,u,x,x2)))
def Rp(N:Nat):Nat→Int→Int→Int→Int→Int→(List (List Int))→(List Int)→Option (Int×Int×Int×List (List Int)×List Int)
 | 0,_,_,_,_,_,_,_=>none
 | n_+1,n,u,u2,u3,x,x2,x3=>
  br (decide (u3<u2))
   (chk (u3+2)<|
   grd (!decide ((u3+2)=0))<|
   lim (x3.length+[(Int.tmod (IntKind.i64.wrap (Int.tdiv n (u3+2))) 3)].length)<|
   chk (u3+1)<|
   Rp N n_ n u u2 (u3+1) x x2 (x3++[(Int.tmod (IntKind.i64.wrap (Int.tdiv n (u3+2))) 3)]))
   (some ((n,u,x,x2,x3)))
def A1(N:Nat)(rec:Int→Option ((Unit)⊕(Unit)))(n:Int)(l:List (Int×Int))(m:List (List (List Int)))(u:Int)(x:List (List Int))(x2:List Int)(x3 p p2:Int):Option ((Unit)⊕(Unit)):=
 (Av N x x2 x3 p p2 l m).bind fun x_96=>
 br (!x_96)
  (some (.inl ()))
  (chk (u+1)<|
  rec (u+1))
def A0(N:Nat):Nat→Int→Option ((Unit)⊕(Unit))
 | 0,_=>none
 | n_+1,u=>
  br (decide (u<60))
   (chk (1+(Int.tmod u 3))<|
   (Rs N N u u (1+(Int.tmod u 3)) 0 (Int.tmod u 4) []).bind fun(n_80,u_81,x_82,x2_83)=>
   (Rp N N n_80 u_81 (Int.tmod (IntKind.i64.wrap (Int.tdiv n_80 2)) 5) 0 x_82 x2_83 []).bind fun(n_84,u_85,x_86,x2_87,x3_88)=>
   grd (!decide ((x2_87.length:Int)=0))<|
   grd (!decide ((x2_87.length:Int)=0))<|
   (Gx N x2_87 x3_88 x_86 (Int.tmod n_84 (x2_87.length:Int)) (Int.tmod (IntKind.i64.wrap (Int.tdiv n_84 3)) (x2_87.length:Int))).bind fun(x_89,y_90)=>
   ((markso_S N x2_87 x3_88 x_86 (Int.tmod n_84 (x2_87.length:Int)) (Int.tmod (IntKind.i64.wrap (Int.tdiv n_84 3)) (x2_87.length:Int))).bind fun e=>match e with
   | .inl (x_91,y_92,y_93)=>
    (br (decide (0<(y_90.length:Int)))
     (br (decide ((Int.tmod n_84 3)=0))
      (grd (!decide ((y_90.length:Int)=0))<|
      grd (!decide ((y_90.length:Int)=0))<|
      rng (Int.tmod n_84 (y_90.length:Int)) y_90.length<|
      get y_90 ((Int.tmod n_84 (y_90.length:Int)).toNat) fun x_94=>
      chk (1+(Int.tmod x_94.1 3))<|
      rng (Int.tmod n_84 (y_90.length:Int)) y_90.length<|
      get y_90 ((Int.tmod n_84 (y_90.length:Int)).toNat) fun z_95=>
      br (decide ((Int.tmod n_84 2)=0))
       (grd (!decide ((y_93.length:Int)=0))<|
       grd (decide ((0:Int)≤(Int.tmod n_84 (y_93.length:Int))∧(Int.tmod n_84 (y_93.length:Int))≤(y_93.length:Int)))<|
       lim ((y_93.take ((Int.tmod n_84 (y_93.length:Int)).toNat)).length+[(Int.tmod n_84 5)].length)<|
       A1 N (A0 N n_) n_84 (y_90.set ((Int.tmod n_84 (y_90.length:Int)).toNat) ((1+(Int.tmod x_94.1 3)),z_95.2)) ([[y_92,((y_93.take ((Int.tmod n_84 (y_93.length:Int)).toNat))++[(Int.tmod n_84 5)])]]) u_85 x2_87 x3_88 x_86 (Int.tmod n_84 (x2_87.length:Int)) (Int.tmod (IntKind.i64.wrap (Int.tdiv n_84 3)) (x2_87.length:Int)))
       (A1 N (A0 N n_) n_84 (y_90.set ((Int.tmod n_84 (y_90.length:Int)).toNat) ((1+(Int.tmod x_94.1 3)),z_95.2)) ([[y_92,y_93]]) u_85 x2_87 x3_88 x_86 (Int.tmod n_84 (x2_87.length:Int)) (Int.tmod (IntKind.i64.wrap (Int.tdiv n_84 3)) (x2_87.length:Int))))
      (br (decide ((Int.tmod n_84 2)=0))
       (grd (!decide ((y_93.length:Int)=0))<|
       grd (decide ((0:Int)≤(Int.tmod n_84 (y_93.length:Int))∧(Int.tmod n_84 (y_93.length:Int))≤(y_93.length:Int)))<|
       lim ((y_93.take ((Int.tmod n_84 (y_93.length:Int)).toNat)).length+[(Int.tmod n_84 5)].length)<|
       A1 N (A0 N n_) n_84 y_90 ([[y_92,((y_93.take ((Int.tmod n_84 (y_93.length:Int)).toNat))++[(Int.tmod n_84 5)])]]) u_85 x2_87 x3_88 x_86 (Int.tmod n_84 (x2_87.length:Int)) (Int.tmod (IntKind.i64.wrap (Int.tdiv n_84 3)) (x2_87.length:Int)))
       (A1 N (A0 N n_) n_84 y_90 ([[y_92,y_93]]) u_85 x2_87 x3_88 x_86 (Int.tmod n_84 (x2_87.length:Int)) (Int.tmod (IntKind.i64.wrap (Int.tdiv n_84 3)) (x2_87.length:Int)))))
     (br (decide ((Int.tmod n_84 2)=0))
      (grd (!decide ((y_93.length:Int)=0))<|
      grd (decide ((0:Int)≤(Int.tmod n_84 (y_93.length:Int))∧(Int.tmod n_84 (y_93.length:Int))≤(y_93.length:Int)))<|
      lim ((y_93.take ((Int.tmod n_84 (y_93.length:Int)).toNat)).length+[(Int.tmod n_84 5)].length)<|
      A1 N (A0 N n_) n_84 y_90 ([[y_92,((y_93.take ((Int.tmod n_84 (y_93.length:Int)).toNat))++[(Int.tmod n_84 5)])]]) u_85 x2_87 x3_88 x_86 (Int.tmod n_84 (x2_87.length:Int)) (Int.tmod (IntKind.i64.wrap (Int.tdiv n_84 3)) (x2_87.length:Int)))
      (A1 N (A0 N n_) n_84 y_90 ([[y_92,y_93]]) u_85 x2_87 x3_88 x_86 (Int.tmod n_84 (x2_87.length:Int)) (Int.tmod (IntKind.i64.wrap (Int.tdiv n_84 3)) (x2_87.length:Int)))))
   | .inr (.inl (x_97,y_98,y_99,y_100))=>
    (br (decide (0<(y_90.length:Int)))
     (br (decide ((Int.tmod n_84 3)=0))
      (grd (!decide ((y_90.length:Int)=0))<|
      grd (!decide ((y_90.length:Int)=0))<|
      rng (Int.tmod n_84 (y_90.length:Int)) y_90.length<|
      get y_90 ((Int.tmod n_84 (y_90.length:Int)).toNat) fun x_101=>
      chk (1+(Int.tmod x_101.1 3))<|
      rng (Int.tmod n_84 (y_90.length:Int)) y_90.length<|
      get y_90 ((Int.tmod n_84 (y_90.length:Int)).toNat) fun z_102=>
      br (decide ((Int.tmod n_84 2)=0))
       (grd (!decide ((y_100.length:Int)=0))<|
       grd (decide ((0:Int)≤(Int.tmod n_84 (y_100.length:Int))∧(Int.tmod n_84 (y_100.length:Int))≤(y_100.length:Int)))<|
       lim ((y_100.take ((Int.tmod n_84 (y_100.length:Int)).toNat)).length+[(Int.tmod n_84 5)].length)<|
       A1 N (A0 N n_) n_84 (y_90.set ((Int.tmod n_84 (y_90.length:Int)).toNat) ((1+(Int.tmod x_101.1 3)),z_102.2)) ([[y_98,((y_100.take ((Int.tmod n_84 (y_100.length:Int)).toNat))++[(Int.tmod n_84 5)]),y_99]]) u_85 x2_87 x3_88 x_86 (Int.tmod n_84 (x2_87.length:Int)) (Int.tmod (IntKind.i64.wrap (Int.tdiv n_84 3)) (x2_87.length:Int)))
       (A1 N (A0 N n_) n_84 (y_90.set ((Int.tmod n_84 (y_90.length:Int)).toNat) ((1+(Int.tmod x_101.1 3)),z_102.2)) ([[y_98,y_100,y_99]]) u_85 x2_87 x3_88 x_86 (Int.tmod n_84 (x2_87.length:Int)) (Int.tmod (IntKind.i64.wrap (Int.tdiv n_84 3)) (x2_87.length:Int))))
      (br (decide ((Int.tmod n_84 2)=0))
       (grd (!decide ((y_100.length:Int)=0))<|
       grd (decide ((0:Int)≤(Int.tmod n_84 (y_100.length:Int))∧(Int.tmod n_84 (y_100.length:Int))≤(y_100.length:Int)))<|
       lim ((y_100.take ((Int.tmod n_84 (y_100.length:Int)).toNat)).length+[(Int.tmod n_84 5)].length)<|
       A1 N (A0 N n_) n_84 y_90 ([[y_98,((y_100.take ((Int.tmod n_84 (y_100.length:Int)).toNat))++[(Int.tmod n_84 5)]),y_99]]) u_85 x2_87 x3_88 x_86 (Int.tmod n_84 (x2_87.length:Int)) (Int.tmod (IntKind.i64.wrap (Int.tdiv n_84 3)) (x2_87.length:Int)))
       (A1 N (A0 N n_) n_84 y_90 ([[y_98,y_100,y_99]]) u_85 x2_87 x3_88 x_86 (Int.tmod n_84 (x2_87.length:Int)) (Int.tmod (IntKind.i64.wrap (Int.tdiv n_84 3)) (x2_87.length:Int)))))
     (br (decide ((Int.tmod n_84 2)=0))
      (grd (!decide ((y_100.length:Int)=0))<|
      grd (decide ((0:Int)≤(Int.tmod n_84 (y_100.length:Int))∧(Int.tmod n_84 (y_100.length:Int))≤(y_100.length:Int)))<|
      lim ((y_100.take ((Int.tmod n_84 (y_100.length:Int)).toNat)).length+[(Int.tmod n_84 5)].length)<|
      A1 N (A0 N n_) n_84 y_90 ([[y_98,((y_100.take ((Int.tmod n_84 (y_100.length:Int)).toNat))++[(Int.tmod n_84 5)]),y_99]]) u_85 x2_87 x3_88 x_86 (Int.tmod n_84 (x2_87.length:Int)) (Int.tmod (IntKind.i64.wrap (Int.tdiv n_84 3)) (x2_87.length:Int)))
      (A1 N (A0 N n_) n_84 y_90 ([[y_98,y_100,y_99]]) u_85 x2_87 x3_88 x_86 (Int.tmod n_84 (x2_87.length:Int)) (Int.tmod (IntKind.i64.wrap (Int.tdiv n_84 3)) (x2_87.length:Int)))))
   | .inr (.inr (.inl (x_103,y_104,y_105,y_106,y_107)))=>
    (br (decide (0<(y_90.length:Int)))
     (br (decide ((Int.tmod n_84 3)=0))
      (grd (!decide ((y_90.length:Int)=0))<|
      grd (!decide ((y_90.length:Int)=0))<|
      rng (Int.tmod n_84 (y_90.length:Int)) y_90.length<|
      get y_90 ((Int.tmod n_84 (y_90.length:Int)).toNat) fun x_108=>
      chk (1+(Int.tmod x_108.1 3))<|
      rng (Int.tmod n_84 (y_90.length:Int)) y_90.length<|
      get y_90 ((Int.tmod n_84 (y_90.length:Int)).toNat) fun z_109=>
      br (decide ((Int.tmod n_84 2)=0))
       (grd (!decide ((y_107.length:Int)=0))<|
       grd (decide ((0:Int)≤(Int.tmod n_84 (y_107.length:Int))∧(Int.tmod n_84 (y_107.length:Int))≤(y_107.length:Int)))<|
       lim ((y_107.take ((Int.tmod n_84 (y_107.length:Int)).toNat)).length+[(Int.tmod n_84 5)].length)<|
       A1 N (A0 N n_) n_84 (y_90.set ((Int.tmod n_84 (y_90.length:Int)).toNat) ((1+(Int.tmod x_108.1 3)),z_109.2)) ([[y_104,((y_107.take ((Int.tmod n_84 (y_107.length:Int)).toNat))++[(Int.tmod n_84 5)]),y_105,y_106]]) u_85 x2_87 x3_88 x_86 (Int.tmod n_84 (x2_87.length:Int)) (Int.tmod (IntKind.i64.wrap (Int.tdiv n_84 3)) (x2_87.length:Int)))
       (A1 N (A0 N n_) n_84 (y_90.set ((Int.tmod n_84 (y_90.length:Int)).toNat) ((1+(Int.tmod x_108.1 3)),z_109.2)) ([[y_104,y_107,y_105,y_106]]) u_85 x2_87 x3_88 x_86 (Int.tmod n_84 (x2_87.length:Int)) (Int.tmod (IntKind.i64.wrap (Int.tdiv n_84 3)) (x2_87.length:Int))))
      (br (decide ((Int.tmod n_84 2)=0))
       (grd (!decide ((y_107.length:Int)=0))<|
       grd (decide ((0:Int)≤(Int.tmod n_84 (y_107.length:Int))∧(Int.tmod n_84 (y_107.length:Int))≤(y_107.length:Int)))<|
       lim ((y_107.take ((Int.tmod n_84 (y_107.length:Int)).toNat)).length+[(Int.tmod n_84 5)].length)<|
       A1 N (A0 N n_) n_84 y_90 ([[y_104,((y_107.take ((Int.tmod n_84 (y_107.length:Int)).toNat))++[(Int.tmod n_84 5)]),y_105,y_106]]) u_85 x2_87 x3_88 x_86 (Int.tmod n_84 (x2_87.length:Int)) (Int.tmod (IntKind.i64.wrap (Int.tdiv n_84 3)) (x2_87.length:Int)))
       (A1 N (A0 N n_) n_84 y_90 ([[y_104,y_107,y_105,y_106]]) u_85 x2_87 x3_88 x_86 (Int.tmod n_84 (x2_87.length:Int)) (Int.tmod (IntKind.i64.wrap (Int.tdiv n_84 3)) (x2_87.length:Int)))))
     (br (decide ((Int.tmod n_84 2)=0))
      (grd (!decide ((y_107.length:Int)=0))<|
      grd (decide ((0:Int)≤(Int.tmod n_84 (y_107.length:Int))∧(Int.tmod n_84 (y_107.length:Int))≤(y_107.length:Int)))<|
      lim ((y_107.take ((Int.tmod n_84 (y_107.length:Int)).toNat)).length+[(Int.tmod n_84 5)].length)<|
      A1 N (A0 N n_) n_84 y_90 ([[y_104,((y_107.take ((Int.tmod n_84 (y_107.length:Int)).toNat))++[(Int.tmod n_84 5)]),y_105,y_106]]) u_85 x2_87 x3_88 x_86 (Int.tmod n_84 (x2_87.length:Int)) (Int.tmod (IntKind.i64.wrap (Int.tdiv n_84 3)) (x2_87.length:Int)))
      (A1 N (A0 N n_) n_84 y_90 ([[y_104,y_107,y_105,y_106]]) u_85 x2_87 x3_88 x_86 (Int.tmod n_84 (x2_87.length:Int)) (Int.tmod (IntKind.i64.wrap (Int.tdiv n_84 3)) (x2_87.length:Int)))))
   | .inr (.inr (.inr (.inl (x_110,y_111,y_112,y_113))))=>
    (br (decide (0<(y_90.length:Int)))
     (br (decide ((Int.tmod n_84 3)=0))
      (grd (!decide ((y_90.length:Int)=0))<|
      grd (!decide ((y_90.length:Int)=0))<|
      rng (Int.tmod n_84 (y_90.length:Int)) y_90.length<|
      get y_90 ((Int.tmod n_84 (y_90.length:Int)).toNat) fun x_114=>
      chk (1+(Int.tmod x_114.1 3))<|
      rng (Int.tmod n_84 (y_90.length:Int)) y_90.length<|
      get y_90 ((Int.tmod n_84 (y_90.length:Int)).toNat) fun z_115=>
      br (decide (1<(y_111.length:Int)))
       (br (decide ((Int.tmod n_84 2)=0))
        (grd (!decide ((y_113.length:Int)=0))<|
        grd (decide ((0:Int)≤(Int.tmod n_84 (y_113.length:Int))∧(Int.tmod n_84 (y_113.length:Int))≤(y_113.length:Int)))<|
        lim ((y_113.take ((Int.tmod n_84 (y_113.length:Int)).toNat)).length+[(Int.tmod n_84 5)].length)<|
        A1 N (A0 N n_) n_84 (y_90.set ((Int.tmod n_84 (y_90.length:Int)).toNat) ((1+(Int.tmod x_114.1 3)),z_115.2)) ([y_111,[y_112,((y_113.take ((Int.tmod n_84 (y_113.length:Int)).toNat))++[(Int.tmod n_84 5)])]]) u_85 x2_87 x3_88 x_86 (Int.tmod n_84 (x2_87.length:Int)) (Int.tmod (IntKind.i64.wrap (Int.tdiv n_84 3)) (x2_87.length:Int)))
        (A1 N (A0 N n_) n_84 (y_90.set ((Int.tmod n_84 (y_90.length:Int)).toNat) ((1+(Int.tmod x_114.1 3)),z_115.2)) ([y_111,[y_112,y_113]]) u_85 x2_87 x3_88 x_86 (Int.tmod n_84 (x2_87.length:Int)) (Int.tmod (IntKind.i64.wrap (Int.tdiv n_84 3)) (x2_87.length:Int))))
       (A1 N (A0 N n_) n_84 (y_90.set ((Int.tmod n_84 (y_90.length:Int)).toNat) ((1+(Int.tmod x_114.1 3)),z_115.2)) ([y_111,[y_112,y_113]]) u_85 x2_87 x3_88 x_86 (Int.tmod n_84 (x2_87.length:Int)) (Int.tmod (IntKind.i64.wrap (Int.tdiv n_84 3)) (x2_87.length:Int))))
      (br (decide (1<(y_111.length:Int)))
       (br (decide ((Int.tmod n_84 2)=0))
        (grd (!decide ((y_113.length:Int)=0))<|
        grd (decide ((0:Int)≤(Int.tmod n_84 (y_113.length:Int))∧(Int.tmod n_84 (y_113.length:Int))≤(y_113.length:Int)))<|
        lim ((y_113.take ((Int.tmod n_84 (y_113.length:Int)).toNat)).length+[(Int.tmod n_84 5)].length)<|
        A1 N (A0 N n_) n_84 y_90 ([y_111,[y_112,((y_113.take ((Int.tmod n_84 (y_113.length:Int)).toNat))++[(Int.tmod n_84 5)])]]) u_85 x2_87 x3_88 x_86 (Int.tmod n_84 (x2_87.length:Int)) (Int.tmod (IntKind.i64.wrap (Int.tdiv n_84 3)) (x2_87.length:Int)))
        (A1 N (A0 N n_) n_84 y_90 ([y_111,[y_112,y_113]]) u_85 x2_87 x3_88 x_86 (Int.tmod n_84 (x2_87.length:Int)) (Int.tmod (IntKind.i64.wrap (Int.tdiv n_84 3)) (x2_87.length:Int))))
       (A1 N (A0 N n_) n_84 y_90 ([y_111,[y_112,y_113]]) u_85 x2_87 x3_88 x_86 (Int.tmod n_84 (x2_87.length:Int)) (Int.tmod (IntKind.i64.wrap (Int.tdiv n_84 3)) (x2_87.length:Int)))))
     (br (decide (1<(y_111.length:Int)))
      (br (decide ((Int.tmod n_84 2)=0))
       (grd (!decide ((y_113.length:Int)=0))<|
       grd (decide ((0:Int)≤(Int.tmod n_84 (y_113.length:Int))∧(Int.tmod n_84 (y_113.length:Int))≤(y_113.length:Int)))<|
       lim ((y_113.take ((Int.tmod n_84 (y_113.length:Int)).toNat)).length+[(Int.tmod n_84 5)].length)<|
       A1 N (A0 N n_) n_84 y_90 ([y_111,[y_112,((y_113.take ((Int.tmod n_84 (y_113.length:Int)).toNat))++[(Int.tmod n_84 5)])]]) u_85 x2_87 x3_88 x_86 (Int.tmod n_84 (x2_87.length:Int)) (Int.tmod (IntKind.i64.wrap (Int.tdiv n_84 3)) (x2_87.length:Int)))
       (A1 N (A0 N n_) n_84 y_90 ([y_111,[y_112,y_113]]) u_85 x2_87 x3_88 x_86 (Int.tmod n_84 (x2_87.length:Int)) (Int.tmod (IntKind.i64.wrap (Int.tdiv n_84 3)) (x2_87.length:Int))))
      (A1 N (A0 N n_) n_84 y_90 ([y_111,[y_112,y_113]]) u_85 x2_87 x3_88 x_86 (Int.tmod n_84 (x2_87.length:Int)) (Int.tmod (IntKind.i64.wrap (Int.tdiv n_84 3)) (x2_87.length:Int)))))
   | .inr (.inr (.inr (.inr (.inl (x_116,y_117,y_118,y_119,y_120)))))=>
    (br (decide (0<(y_90.length:Int)))
     (br (decide ((Int.tmod n_84 3)=0))
      (grd (!decide ((y_90.length:Int)=0))<|
      grd (!decide ((y_90.length:Int)=0))<|
      rng (Int.tmod n_84 (y_90.length:Int)) y_90.length<|
      get y_90 ((Int.tmod n_84 (y_90.length:Int)).toNat) fun x_121=>
      chk (1+(Int.tmod x_121.1 3))<|
      rng (Int.tmod n_84 (y_90.length:Int)) y_90.length<|
      get y_90 ((Int.tmod n_84 (y_90.length:Int)).toNat) fun z_122=>
      br (decide (1<(y_117.length:Int)))
       (br (decide ((Int.tmod n_84 2)=0))
        (grd (!decide ((y_120.length:Int)=0))<|
        grd (decide ((0:Int)≤(Int.tmod n_84 (y_120.length:Int))∧(Int.tmod n_84 (y_120.length:Int))≤(y_120.length:Int)))<|
        lim ((y_120.take ((Int.tmod n_84 (y_120.length:Int)).toNat)).length+[(Int.tmod n_84 5)].length)<|
        A1 N (A0 N n_) n_84 (y_90.set ((Int.tmod n_84 (y_90.length:Int)).toNat) ((1+(Int.tmod x_121.1 3)),z_122.2)) ([y_117,[y_118,((y_120.take ((Int.tmod n_84 (y_120.length:Int)).toNat))++[(Int.tmod n_84 5)]),y_119]]) u_85 x2_87 x3_88 x_86 (Int.tmod n_84 (x2_87.length:Int)) (Int.tmod (IntKind.i64.wrap (Int.tdiv n_84 3)) (x2_87.length:Int)))
        (A1 N (A0 N n_) n_84 (y_90.set ((Int.tmod n_84 (y_90.length:Int)).toNat) ((1+(Int.tmod x_121.1 3)),z_122.2)) ([y_117,[y_118,y_120,y_119]]) u_85 x2_87 x3_88 x_86 (Int.tmod n_84 (x2_87.length:Int)) (Int.tmod (IntKind.i64.wrap (Int.tdiv n_84 3)) (x2_87.length:Int))))
       (A1 N (A0 N n_) n_84 (y_90.set ((Int.tmod n_84 (y_90.length:Int)).toNat) ((1+(Int.tmod x_121.1 3)),z_122.2)) ([y_117,[y_118,y_120,y_119]]) u_85 x2_87 x3_88 x_86 (Int.tmod n_84 (x2_87.length:Int)) (Int.tmod (IntKind.i64.wrap (Int.tdiv n_84 3)) (x2_87.length:Int))))
      (br (decide (1<(y_117.length:Int)))
       (br (decide ((Int.tmod n_84 2)=0))
        (grd (!decide ((y_120.length:Int)=0))<|
        grd (decide ((0:Int)≤(Int.tmod n_84 (y_120.length:Int))∧(Int.tmod n_84 (y_120.length:Int))≤(y_120.length:Int)))<|
        lim ((y_120.take ((Int.tmod n_84 (y_120.length:Int)).toNat)).length+[(Int.tmod n_84 5)].length)<|
        A1 N (A0 N n_) n_84 y_90 ([y_117,[y_118,((y_120.take ((Int.tmod n_84 (y_120.length:Int)).toNat))++[(Int.tmod n_84 5)]),y_119]]) u_85 x2_87 x3_88 x_86 (Int.tmod n_84 (x2_87.length:Int)) (Int.tmod (IntKind.i64.wrap (Int.tdiv n_84 3)) (x2_87.length:Int)))
        (A1 N (A0 N n_) n_84 y_90 ([y_117,[y_118,y_120,y_119]]) u_85 x2_87 x3_88 x_86 (Int.tmod n_84 (x2_87.length:Int)) (Int.tmod (IntKind.i64.wrap (Int.tdiv n_84 3)) (x2_87.length:Int))))
       (A1 N (A0 N n_) n_84 y_90 ([y_117,[y_118,y_120,y_119]]) u_85 x2_87 x3_88 x_86 (Int.tmod n_84 (x2_87.length:Int)) (Int.tmod (IntKind.i64.wrap (Int.tdiv n_84 3)) (x2_87.length:Int)))))
     (br (decide (1<(y_117.length:Int)))
      (br (decide ((Int.tmod n_84 2)=0))
       (grd (!decide ((y_120.length:Int)=0))<|
       grd (decide ((0:Int)≤(Int.tmod n_84 (y_120.length:Int))∧(Int.tmod n_84 (y_120.length:Int))≤(y_120.length:Int)))<|
       lim ((y_120.take ((Int.tmod n_84 (y_120.length:Int)).toNat)).length+[(Int.tmod n_84 5)].length)<|
       A1 N (A0 N n_) n_84 y_90 ([y_117,[y_118,((y_120.take ((Int.tmod n_84 (y_120.length:Int)).toNat))++[(Int.tmod n_84 5)]),y_119]]) u_85 x2_87 x3_88 x_86 (Int.tmod n_84 (x2_87.length:Int)) (Int.tmod (IntKind.i64.wrap (Int.tdiv n_84 3)) (x2_87.length:Int)))
       (A1 N (A0 N n_) n_84 y_90 ([y_117,[y_118,y_120,y_119]]) u_85 x2_87 x3_88 x_86 (Int.tmod n_84 (x2_87.length:Int)) (Int.tmod (IntKind.i64.wrap (Int.tdiv n_84 3)) (x2_87.length:Int))))
      (A1 N (A0 N n_) n_84 y_90 ([y_117,[y_118,y_120,y_119]]) u_85 x2_87 x3_88 x_86 (Int.tmod n_84 (x2_87.length:Int)) (Int.tmod (IntKind.i64.wrap (Int.tdiv n_84 3)) (x2_87.length:Int)))))
   | .inr (.inr (.inr (.inr (.inr (.inl (x_123,y_124,y_125,y_126,y_127,y_128))))))=>
    (br (decide (0<(y_90.length:Int)))
     (br (decide ((Int.tmod n_84 3)=0))
      (grd (!decide ((y_90.length:Int)=0))<|
      grd (!decide ((y_90.length:Int)=0))<|
      rng (Int.tmod n_84 (y_90.length:Int)) y_90.length<|
      get y_90 ((Int.tmod n_84 (y_90.length:Int)).toNat) fun x_129=>
      chk (1+(Int.tmod x_129.1 3))<|
      rng (Int.tmod n_84 (y_90.length:Int)) y_90.length<|
      get y_90 ((Int.tmod n_84 (y_90.length:Int)).toNat) fun z_130=>
      br (decide (1<(y_124.length:Int)))
       (br (decide ((Int.tmod n_84 2)=0))
        (grd (!decide ((y_128.length:Int)=0))<|
        grd (decide ((0:Int)≤(Int.tmod n_84 (y_128.length:Int))∧(Int.tmod n_84 (y_128.length:Int))≤(y_128.length:Int)))<|
        lim ((y_128.take ((Int.tmod n_84 (y_128.length:Int)).toNat)).length+[(Int.tmod n_84 5)].length)<|
        A1 N (A0 N n_) n_84 (y_90.set ((Int.tmod n_84 (y_90.length:Int)).toNat) ((1+(Int.tmod x_129.1 3)),z_130.2)) ([y_124,[y_125,((y_128.take ((Int.tmod n_84 (y_128.length:Int)).toNat))++[(Int.tmod n_84 5)]),y_126,y_127]]) u_85 x2_87 x3_88 x_86 (Int.tmod n_84 (x2_87.length:Int)) (Int.tmod (IntKind.i64.wrap (Int.tdiv n_84 3)) (x2_87.length:Int)))
        (A1 N (A0 N n_) n_84 (y_90.set ((Int.tmod n_84 (y_90.length:Int)).toNat) ((1+(Int.tmod x_129.1 3)),z_130.2)) ([y_124,[y_125,y_128,y_126,y_127]]) u_85 x2_87 x3_88 x_86 (Int.tmod n_84 (x2_87.length:Int)) (Int.tmod (IntKind.i64.wrap (Int.tdiv n_84 3)) (x2_87.length:Int))))
       (A1 N (A0 N n_) n_84 (y_90.set ((Int.tmod n_84 (y_90.length:Int)).toNat) ((1+(Int.tmod x_129.1 3)),z_130.2)) ([y_124,[y_125,y_128,y_126,y_127]]) u_85 x2_87 x3_88 x_86 (Int.tmod n_84 (x2_87.length:Int)) (Int.tmod (IntKind.i64.wrap (Int.tdiv n_84 3)) (x2_87.length:Int))))
      (br (decide (1<(y_124.length:Int)))
       (br (decide ((Int.tmod n_84 2)=0))
        (grd (!decide ((y_128.length:Int)=0))<|
        grd (decide ((0:Int)≤(Int.tmod n_84 (y_128.length:Int))∧(Int.tmod n_84 (y_128.length:Int))≤(y_128.length:Int)))<|
        lim ((y_128.take ((Int.tmod n_84 (y_128.length:Int)).toNat)).length+[(Int.tmod n_84 5)].length)<|
        A1 N (A0 N n_) n_84 y_90 ([y_124,[y_125,((y_128.take ((Int.tmod n_84 (y_128.length:Int)).toNat))++[(Int.tmod n_84 5)]),y_126,y_127]]) u_85 x2_87 x3_88 x_86 (Int.tmod n_84 (x2_87.length:Int)) (Int.tmod (IntKind.i64.wrap (Int.tdiv n_84 3)) (x2_87.length:Int)))
        (A1 N (A0 N n_) n_84 y_90 ([y_124,[y_125,y_128,y_126,y_127]]) u_85 x2_87 x3_88 x_86 (Int.tmod n_84 (x2_87.length:Int)) (Int.tmod (IntKind.i64.wrap (Int.tdiv n_84 3)) (x2_87.length:Int))))
       (A1 N (A0 N n_) n_84 y_90 ([y_124,[y_125,y_128,y_126,y_127]]) u_85 x2_87 x3_88 x_86 (Int.tmod n_84 (x2_87.length:Int)) (Int.tmod (IntKind.i64.wrap (Int.tdiv n_84 3)) (x2_87.length:Int)))))
     (br (decide (1<(y_124.length:Int)))
      (br (decide ((Int.tmod n_84 2)=0))
       (grd (!decide ((y_128.length:Int)=0))<|
       grd (decide ((0:Int)≤(Int.tmod n_84 (y_128.length:Int))∧(Int.tmod n_84 (y_128.length:Int))≤(y_128.length:Int)))<|
       lim ((y_128.take ((Int.tmod n_84 (y_128.length:Int)).toNat)).length+[(Int.tmod n_84 5)].length)<|
       A1 N (A0 N n_) n_84 y_90 ([y_124,[y_125,((y_128.take ((Int.tmod n_84 (y_128.length:Int)).toNat))++[(Int.tmod n_84 5)]),y_126,y_127]]) u_85 x2_87 x3_88 x_86 (Int.tmod n_84 (x2_87.length:Int)) (Int.tmod (IntKind.i64.wrap (Int.tdiv n_84 3)) (x2_87.length:Int)))
       (A1 N (A0 N n_) n_84 y_90 ([y_124,[y_125,y_128,y_126,y_127]]) u_85 x2_87 x3_88 x_86 (Int.tmod n_84 (x2_87.length:Int)) (Int.tmod (IntKind.i64.wrap (Int.tdiv n_84 3)) (x2_87.length:Int))))
      (A1 N (A0 N n_) n_84 y_90 ([y_124,[y_125,y_128,y_126,y_127]]) u_85 x2_87 x3_88 x_86 (Int.tmod n_84 (x2_87.length:Int)) (Int.tmod (IntKind.i64.wrap (Int.tdiv n_84 3)) (x2_87.length:Int)))))
   | .inr (.inr (.inr (.inr (.inr (.inr (.inl (x_131,y_132,y_133,y_134,y_135)))))))=>
    (br (decide (0<(y_90.length:Int)))
     (br (decide ((Int.tmod n_84 3)=0))
      (grd (!decide ((y_90.length:Int)=0))<|
      grd (!decide ((y_90.length:Int)=0))<|
      rng (Int.tmod n_84 (y_90.length:Int)) y_90.length<|
      get y_90 ((Int.tmod n_84 (y_90.length:Int)).toNat) fun x_136=>
      chk (1+(Int.tmod x_136.1 3))<|
      rng (Int.tmod n_84 (y_90.length:Int)) y_90.length<|
      get y_90 ((Int.tmod n_84 (y_90.length:Int)).toNat) fun z_137=>
      br (decide (1<(y_132.length:Int)))
       (br (decide ((Int.tmod n_84 2)=0))
        (grd (!decide ((y_135.length:Int)=0))<|
        grd (decide ((0:Int)≤(Int.tmod n_84 (y_135.length:Int))∧(Int.tmod n_84 (y_135.length:Int))≤(y_135.length:Int)))<|
        lim ((y_135.take ((Int.tmod n_84 (y_135.length:Int)).toNat)).length+[(Int.tmod n_84 5)].length)<|
        A1 N (A0 N n_) n_84 (y_90.set ((Int.tmod n_84 (y_90.length:Int)).toNat) ((1+(Int.tmod x_136.1 3)),z_137.2)) ([y_132,y_133,[y_134,((y_135.take ((Int.tmod n_84 (y_135.length:Int)).toNat))++[(Int.tmod n_84 5)])]]) u_85 x2_87 x3_88 x_86 (Int.tmod n_84 (x2_87.length:Int)) (Int.tmod (IntKind.i64.wrap (Int.tdiv n_84 3)) (x2_87.length:Int)))
        (A1 N (A0 N n_) n_84 (y_90.set ((Int.tmod n_84 (y_90.length:Int)).toNat) ((1+(Int.tmod x_136.1 3)),z_137.2)) ([y_132,y_133,[y_134,y_135]]) u_85 x2_87 x3_88 x_86 (Int.tmod n_84 (x2_87.length:Int)) (Int.tmod (IntKind.i64.wrap (Int.tdiv n_84 3)) (x2_87.length:Int))))
       (A1 N (A0 N n_) n_84 (y_90.set ((Int.tmod n_84 (y_90.length:Int)).toNat) ((1+(Int.tmod x_136.1 3)),z_137.2)) ([y_132,y_133,[y_134,y_135]]) u_85 x2_87 x3_88 x_86 (Int.tmod n_84 (x2_87.length:Int)) (Int.tmod (IntKind.i64.wrap (Int.tdiv n_84 3)) (x2_87.length:Int))))
      (br (decide (1<(y_132.length:Int)))
       (br (decide ((Int.tmod n_84 2)=0))
        (grd (!decide ((y_135.length:Int)=0))<|
        grd (decide ((0:Int)≤(Int.tmod n_84 (y_135.length:Int))∧(Int.tmod n_84 (y_135.length:Int))≤(y_135.length:Int)))<|
        lim ((y_135.take ((Int.tmod n_84 (y_135.length:Int)).toNat)).length+[(Int.tmod n_84 5)].length)<|
        A1 N (A0 N n_) n_84 y_90 ([y_132,y_133,[y_134,((y_135.take ((Int.tmod n_84 (y_135.length:Int)).toNat))++[(Int.tmod n_84 5)])]]) u_85 x2_87 x3_88 x_86 (Int.tmod n_84 (x2_87.length:Int)) (Int.tmod (IntKind.i64.wrap (Int.tdiv n_84 3)) (x2_87.length:Int)))
        (A1 N (A0 N n_) n_84 y_90 ([y_132,y_133,[y_134,y_135]]) u_85 x2_87 x3_88 x_86 (Int.tmod n_84 (x2_87.length:Int)) (Int.tmod (IntKind.i64.wrap (Int.tdiv n_84 3)) (x2_87.length:Int))))
       (A1 N (A0 N n_) n_84 y_90 ([y_132,y_133,[y_134,y_135]]) u_85 x2_87 x3_88 x_86 (Int.tmod n_84 (x2_87.length:Int)) (Int.tmod (IntKind.i64.wrap (Int.tdiv n_84 3)) (x2_87.length:Int)))))
     (br (decide (1<(y_132.length:Int)))
      (br (decide ((Int.tmod n_84 2)=0))
       (grd (!decide ((y_135.length:Int)=0))<|
       grd (decide ((0:Int)≤(Int.tmod n_84 (y_135.length:Int))∧(Int.tmod n_84 (y_135.length:Int))≤(y_135.length:Int)))<|
       lim ((y_135.take ((Int.tmod n_84 (y_135.length:Int)).toNat)).length+[(Int.tmod n_84 5)].length)<|
       A1 N (A0 N n_) n_84 y_90 ([y_132,y_133,[y_134,((y_135.take ((Int.tmod n_84 (y_135.length:Int)).toNat))++[(Int.tmod n_84 5)])]]) u_85 x2_87 x3_88 x_86 (Int.tmod n_84 (x2_87.length:Int)) (Int.tmod (IntKind.i64.wrap (Int.tdiv n_84 3)) (x2_87.length:Int)))
       (A1 N (A0 N n_) n_84 y_90 ([y_132,y_133,[y_134,y_135]]) u_85 x2_87 x3_88 x_86 (Int.tmod n_84 (x2_87.length:Int)) (Int.tmod (IntKind.i64.wrap (Int.tdiv n_84 3)) (x2_87.length:Int))))
      (A1 N (A0 N n_) n_84 y_90 ([y_132,y_133,[y_134,y_135]]) u_85 x2_87 x3_88 x_86 (Int.tmod n_84 (x2_87.length:Int)) (Int.tmod (IntKind.i64.wrap (Int.tdiv n_84 3)) (x2_87.length:Int)))))
   | .inr (.inr (.inr (.inr (.inr (.inr (.inr (.inl (x_138,y_139,y_140,y_141,y_142,y_143))))))))=>
    (br (decide (0<(y_90.length:Int)))
     (br (decide ((Int.tmod n_84 3)=0))
      (grd (!decide ((y_90.length:Int)=0))<|
      grd (!decide ((y_90.length:Int)=0))<|
      rng (Int.tmod n_84 (y_90.length:Int)) y_90.length<|
      get y_90 ((Int.tmod n_84 (y_90.length:Int)).toNat) fun x_144=>
      chk (1+(Int.tmod x_144.1 3))<|
      rng (Int.tmod n_84 (y_90.length:Int)) y_90.length<|
      get y_90 ((Int.tmod n_84 (y_90.length:Int)).toNat) fun z_145=>
      br (decide (1<(y_139.length:Int)))
       (br (decide ((Int.tmod n_84 2)=0))
        (grd (!decide ((y_143.length:Int)=0))<|
        grd (decide ((0:Int)≤(Int.tmod n_84 (y_143.length:Int))∧(Int.tmod n_84 (y_143.length:Int))≤(y_143.length:Int)))<|
        lim ((y_143.take ((Int.tmod n_84 (y_143.length:Int)).toNat)).length+[(Int.tmod n_84 5)].length)<|
        A1 N (A0 N n_) n_84 (y_90.set ((Int.tmod n_84 (y_90.length:Int)).toNat) ((1+(Int.tmod x_144.1 3)),z_145.2)) ([y_139,y_140,[y_141,((y_143.take ((Int.tmod n_84 (y_143.length:Int)).toNat))++[(Int.tmod n_84 5)]),y_142]]) u_85 x2_87 x3_88 x_86 (Int.tmod n_84 (x2_87.length:Int)) (Int.tmod (IntKind.i64.wrap (Int.tdiv n_84 3)) (x2_87.length:Int)))
        (A1 N (A0 N n_) n_84 (y_90.set ((Int.tmod n_84 (y_90.length:Int)).toNat) ((1+(Int.tmod x_144.1 3)),z_145.2)) ([y_139,y_140,[y_141,y_143,y_142]]) u_85 x2_87 x3_88 x_86 (Int.tmod n_84 (x2_87.length:Int)) (Int.tmod (IntKind.i64.wrap (Int.tdiv n_84 3)) (x2_87.length:Int))))
       (A1 N (A0 N n_) n_84 (y_90.set ((Int.tmod n_84 (y_90.length:Int)).toNat) ((1+(Int.tmod x_144.1 3)),z_145.2)) ([y_139,y_140,[y_141,y_143,y_142]]) u_85 x2_87 x3_88 x_86 (Int.tmod n_84 (x2_87.length:Int)) (Int.tmod (IntKind.i64.wrap (Int.tdiv n_84 3)) (x2_87.length:Int))))
      (br (decide (1<(y_139.length:Int)))
       (br (decide ((Int.tmod n_84 2)=0))
        (grd (!decide ((y_143.length:Int)=0))<|
        grd (decide ((0:Int)≤(Int.tmod n_84 (y_143.length:Int))∧(Int.tmod n_84 (y_143.length:Int))≤(y_143.length:Int)))<|
        lim ((y_143.take ((Int.tmod n_84 (y_143.length:Int)).toNat)).length+[(Int.tmod n_84 5)].length)<|
        A1 N (A0 N n_) n_84 y_90 ([y_139,y_140,[y_141,((y_143.take ((Int.tmod n_84 (y_143.length:Int)).toNat))++[(Int.tmod n_84 5)]),y_142]]) u_85 x2_87 x3_88 x_86 (Int.tmod n_84 (x2_87.length:Int)) (Int.tmod (IntKind.i64.wrap (Int.tdiv n_84 3)) (x2_87.length:Int)))
        (A1 N (A0 N n_) n_84 y_90 ([y_139,y_140,[y_141,y_143,y_142]]) u_85 x2_87 x3_88 x_86 (Int.tmod n_84 (x2_87.length:Int)) (Int.tmod (IntKind.i64.wrap (Int.tdiv n_84 3)) (x2_87.length:Int))))
       (A1 N (A0 N n_) n_84 y_90 ([y_139,y_140,[y_141,y_143,y_142]]) u_85 x2_87 x3_88 x_86 (Int.tmod n_84 (x2_87.length:Int)) (Int.tmod (IntKind.i64.wrap (Int.tdiv n_84 3)) (x2_87.length:Int)))))
     (br (decide (1<(y_139.length:Int)))
      (br (decide ((Int.tmod n_84 2)=0))
       (grd (!decide ((y_143.length:Int)=0))<|
       grd (decide ((0:Int)≤(Int.tmod n_84 (y_143.length:Int))∧(Int.tmod n_84 (y_143.length:Int))≤(y_143.length:Int)))<|
       lim ((y_143.take ((Int.tmod n_84 (y_143.length:Int)).toNat)).length+[(Int.tmod n_84 5)].length)<|
       A1 N (A0 N n_) n_84 y_90 ([y_139,y_140,[y_141,((y_143.take ((Int.tmod n_84 (y_143.length:Int)).toNat))++[(Int.tmod n_84 5)]),y_142]]) u_85 x2_87 x3_88 x_86 (Int.tmod n_84 (x2_87.length:Int)) (Int.tmod (IntKind.i64.wrap (Int.tdiv n_84 3)) (x2_87.length:Int)))
       (A1 N (A0 N n_) n_84 y_90 ([y_139,y_140,[y_141,y_143,y_142]]) u_85 x2_87 x3_88 x_86 (Int.tmod n_84 (x2_87.length:Int)) (Int.tmod (IntKind.i64.wrap (Int.tdiv n_84 3)) (x2_87.length:Int))))
      (A1 N (A0 N n_) n_84 y_90 ([y_139,y_140,[y_141,y_143,y_142]]) u_85 x2_87 x3_88 x_86 (Int.tmod n_84 (x2_87.length:Int)) (Int.tmod (IntKind.i64.wrap (Int.tdiv n_84 3)) (x2_87.length:Int)))))
   | .inr (.inr (.inr (.inr (.inr (.inr (.inr (.inr (.inl (x_146,y_147,y_148,y_149,y_150,y_151,y_152)))))))))=>
    (br (decide (0<(y_90.length:Int)))
     (br (decide ((Int.tmod n_84 3)=0))
      (grd (!decide ((y_90.length:Int)=0))<|
      grd (!decide ((y_90.length:Int)=0))<|
      rng (Int.tmod n_84 (y_90.length:Int)) y_90.length<|
      get y_90 ((Int.tmod n_84 (y_90.length:Int)).toNat) fun x_153=>
      chk (1+(Int.tmod x_153.1 3))<|
      rng (Int.tmod n_84 (y_90.length:Int)) y_90.length<|
      get y_90 ((Int.tmod n_84 (y_90.length:Int)).toNat) fun z_154=>
      br (decide (1<(y_147.length:Int)))
       (br (decide ((Int.tmod n_84 2)=0))
        (grd (!decide ((y_152.length:Int)=0))<|
        grd (decide ((0:Int)≤(Int.tmod n_84 (y_152.length:Int))∧(Int.tmod n_84 (y_152.length:Int))≤(y_152.length:Int)))<|
        lim ((y_152.take ((Int.tmod n_84 (y_152.length:Int)).toNat)).length+[(Int.tmod n_84 5)].length)<|
        A1 N (A0 N n_) n_84 (y_90.set ((Int.tmod n_84 (y_90.length:Int)).toNat) ((1+(Int.tmod x_153.1 3)),z_154.2)) ([y_147,y_148,[y_149,((y_152.take ((Int.tmod n_84 (y_152.length:Int)).toNat))++[(Int.tmod n_84 5)]),y_150,y_151]]) u_85 x2_87 x3_88 x_86 (Int.tmod n_84 (x2_87.length:Int)) (Int.tmod (IntKind.i64.wrap (Int.tdiv n_84 3)) (x2_87.length:Int)))
        (A1 N (A0 N n_) n_84 (y_90.set ((Int.tmod n_84 (y_90.length:Int)).toNat) ((1+(Int.tmod x_153.1 3)),z_154.2)) ([y_147,y_148,[y_149,y_152,y_150,y_151]]) u_85 x2_87 x3_88 x_86 (Int.tmod n_84 (x2_87.length:Int)) (Int.tmod (IntKind.i64.wrap (Int.tdiv n_84 3)) (x2_87.length:Int))))
       (A1 N (A0 N n_) n_84 (y_90.set ((Int.tmod n_84 (y_90.length:Int)).toNat) ((1+(Int.tmod x_153.1 3)),z_154.2)) ([y_147,y_148,[y_149,y_152,y_150,y_151]]) u_85 x2_87 x3_88 x_86 (Int.tmod n_84 (x2_87.length:Int)) (Int.tmod (IntKind.i64.wrap (Int.tdiv n_84 3)) (x2_87.length:Int))))
      (br (decide (1<(y_147.length:Int)))
       (br (decide ((Int.tmod n_84 2)=0))
        (grd (!decide ((y_152.length:Int)=0))<|
        grd (decide ((0:Int)≤(Int.tmod n_84 (y_152.length:Int))∧(Int.tmod n_84 (y_152.length:Int))≤(y_152.length:Int)))<|
        lim ((y_152.take ((Int.tmod n_84 (y_152.length:Int)).toNat)).length+[(Int.tmod n_84 5)].length)<|
        A1 N (A0 N n_) n_84 y_90 ([y_147,y_148,[y_149,((y_152.take ((Int.tmod n_84 (y_152.length:Int)).toNat))++[(Int.tmod n_84 5)]),y_150,y_151]]) u_85 x2_87 x3_88 x_86 (Int.tmod n_84 (x2_87.length:Int)) (Int.tmod (IntKind.i64.wrap (Int.tdiv n_84 3)) (x2_87.length:Int)))
        (A1 N (A0 N n_) n_84 y_90 ([y_147,y_148,[y_149,y_152,y_150,y_151]]) u_85 x2_87 x3_88 x_86 (Int.tmod n_84 (x2_87.length:Int)) (Int.tmod (IntKind.i64.wrap (Int.tdiv n_84 3)) (x2_87.length:Int))))
       (A1 N (A0 N n_) n_84 y_90 ([y_147,y_148,[y_149,y_152,y_150,y_151]]) u_85 x2_87 x3_88 x_86 (Int.tmod n_84 (x2_87.length:Int)) (Int.tmod (IntKind.i64.wrap (Int.tdiv n_84 3)) (x2_87.length:Int)))))
     (br (decide (1<(y_147.length:Int)))
      (br (decide ((Int.tmod n_84 2)=0))
       (grd (!decide ((y_152.length:Int)=0))<|
       grd (decide ((0:Int)≤(Int.tmod n_84 (y_152.length:Int))∧(Int.tmod n_84 (y_152.length:Int))≤(y_152.length:Int)))<|
       lim ((y_152.take ((Int.tmod n_84 (y_152.length:Int)).toNat)).length+[(Int.tmod n_84 5)].length)<|
       A1 N (A0 N n_) n_84 y_90 ([y_147,y_148,[y_149,((y_152.take ((Int.tmod n_84 (y_152.length:Int)).toNat))++[(Int.tmod n_84 5)]),y_150,y_151]]) u_85 x2_87 x3_88 x_86 (Int.tmod n_84 (x2_87.length:Int)) (Int.tmod (IntKind.i64.wrap (Int.tdiv n_84 3)) (x2_87.length:Int)))
       (A1 N (A0 N n_) n_84 y_90 ([y_147,y_148,[y_149,y_152,y_150,y_151]]) u_85 x2_87 x3_88 x_86 (Int.tmod n_84 (x2_87.length:Int)) (Int.tmod (IntKind.i64.wrap (Int.tdiv n_84 3)) (x2_87.length:Int))))
      (A1 N (A0 N n_) n_84 y_90 ([y_147,y_148,[y_149,y_152,y_150,y_151]]) u_85 x2_87 x3_88 x_86 (Int.tmod n_84 (x2_87.length:Int)) (Int.tmod (IntKind.i64.wrap (Int.tdiv n_84 3)) (x2_87.length:Int)))))
   | .inr (.inr (.inr (.inr (.inr (.inr (.inr (.inr (.inr (.inl (x_155,y_156,y_157,y_158,y_159,y_160))))))))))=>
    (br (decide (0<(y_90.length:Int)))
     (br (decide ((Int.tmod n_84 3)=0))
      (grd (!decide ((y_90.length:Int)=0))<|
      grd (!decide ((y_90.length:Int)=0))<|
      rng (Int.tmod n_84 (y_90.length:Int)) y_90.length<|
      get y_90 ((Int.tmod n_84 (y_90.length:Int)).toNat) fun x_161=>
      chk (1+(Int.tmod x_161.1 3))<|
      rng (Int.tmod n_84 (y_90.length:Int)) y_90.length<|
      get y_90 ((Int.tmod n_84 (y_90.length:Int)).toNat) fun z_162=>
      br (decide (1<(y_156.length:Int)))
       (br (decide ((Int.tmod n_84 2)=0))
        (grd (!decide ((y_160.length:Int)=0))<|
        grd (decide ((0:Int)≤(Int.tmod n_84 (y_160.length:Int))∧(Int.tmod n_84 (y_160.length:Int))≤(y_160.length:Int)))<|
        lim ((y_160.take ((Int.tmod n_84 (y_160.length:Int)).toNat)).length+[(Int.tmod n_84 5)].length)<|
        A1 N (A0 N n_) n_84 (y_90.set ((Int.tmod n_84 (y_90.length:Int)).toNat) ((1+(Int.tmod x_161.1 3)),z_162.2)) ([y_156,y_157,y_158,[y_159,((y_160.take ((Int.tmod n_84 (y_160.length:Int)).toNat))++[(Int.tmod n_84 5)])]]) u_85 x2_87 x3_88 x_86 (Int.tmod n_84 (x2_87.length:Int)) (Int.tmod (IntKind.i64.wrap (Int.tdiv n_84 3)) (x2_87.length:Int)))
        (A1 N (A0 N n_) n_84 (y_90.set ((Int.tmod n_84 (y_90.length:Int)).toNat) ((1+(Int.tmod x_161.1 3)),z_162.2)) ([y_156,y_157,y_158,[y_159,y_160]]) u_85 x2_87 x3_88 x_86 (Int.tmod n_84 (x2_87.length:Int)) (Int.tmod (IntKind.i64.wrap (Int.tdiv n_84 3)) (x2_87.length:Int))))
       (A1 N (A0 N n_) n_84 (y_90.set ((Int.tmod n_84 (y_90.length:Int)).toNat) ((1+(Int.tmod x_161.1 3)),z_162.2)) ([y_156,y_157,y_158,[y_159,y_160]]) u_85 x2_87 x3_88 x_86 (Int.tmod n_84 (x2_87.length:Int)) (Int.tmod (IntKind.i64.wrap (Int.tdiv n_84 3)) (x2_87.length:Int))))
      (br (decide (1<(y_156.length:Int)))
       (br (decide ((Int.tmod n_84 2)=0))
        (grd (!decide ((y_160.length:Int)=0))<|
        grd (decide ((0:Int)≤(Int.tmod n_84 (y_160.length:Int))∧(Int.tmod n_84 (y_160.length:Int))≤(y_160.length:Int)))<|
        lim ((y_160.take ((Int.tmod n_84 (y_160.length:Int)).toNat)).length+[(Int.tmod n_84 5)].length)<|
        A1 N (A0 N n_) n_84 y_90 ([y_156,y_157,y_158,[y_159,((y_160.take ((Int.tmod n_84 (y_160.length:Int)).toNat))++[(Int.tmod n_84 5)])]]) u_85 x2_87 x3_88 x_86 (Int.tmod n_84 (x2_87.length:Int)) (Int.tmod (IntKind.i64.wrap (Int.tdiv n_84 3)) (x2_87.length:Int)))
        (A1 N (A0 N n_) n_84 y_90 ([y_156,y_157,y_158,[y_159,y_160]]) u_85 x2_87 x3_88 x_86 (Int.tmod n_84 (x2_87.length:Int)) (Int.tmod (IntKind.i64.wrap (Int.tdiv n_84 3)) (x2_87.length:Int))))
       (A1 N (A0 N n_) n_84 y_90 ([y_156,y_157,y_158,[y_159,y_160]]) u_85 x2_87 x3_88 x_86 (Int.tmod n_84 (x2_87.length:Int)) (Int.tmod (IntKind.i64.wrap (Int.tdiv n_84 3)) (x2_87.length:Int)))))
     (br (decide (1<(y_156.length:Int)))
      (br (decide ((Int.tmod n_84 2)=0))
       (grd (!decide ((y_160.length:Int)=0))<|
       grd (decide ((0:Int)≤(Int.tmod n_84 (y_160.length:Int))∧(Int.tmod n_84 (y_160.length:Int))≤(y_160.length:Int)))<|
       lim ((y_160.take ((Int.tmod n_84 (y_160.length:Int)).toNat)).length+[(Int.tmod n_84 5)].length)<|
       A1 N (A0 N n_) n_84 y_90 ([y_156,y_157,y_158,[y_159,((y_160.take ((Int.tmod n_84 (y_160.length:Int)).toNat))++[(Int.tmod n_84 5)])]]) u_85 x2_87 x3_88 x_86 (Int.tmod n_84 (x2_87.length:Int)) (Int.tmod (IntKind.i64.wrap (Int.tdiv n_84 3)) (x2_87.length:Int)))
       (A1 N (A0 N n_) n_84 y_90 ([y_156,y_157,y_158,[y_159,y_160]]) u_85 x2_87 x3_88 x_86 (Int.tmod n_84 (x2_87.length:Int)) (Int.tmod (IntKind.i64.wrap (Int.tdiv n_84 3)) (x2_87.length:Int))))
      (A1 N (A0 N n_) n_84 y_90 ([y_156,y_157,y_158,[y_159,y_160]]) u_85 x2_87 x3_88 x_86 (Int.tmod n_84 (x2_87.length:Int)) (Int.tmod (IntKind.i64.wrap (Int.tdiv n_84 3)) (x2_87.length:Int)))))
   | .inr (.inr (.inr (.inr (.inr (.inr (.inr (.inr (.inr (.inr (.inl (x_163,y_164,y_165,y_166,y_167,y_168,y_169)))))))))))=>
    (br (decide (0<(y_90.length:Int)))
     (br (decide ((Int.tmod n_84 3)=0))
      (grd (!decide ((y_90.length:Int)=0))<|
      grd (!decide ((y_90.length:Int)=0))<|
      rng (Int.tmod n_84 (y_90.length:Int)) y_90.length<|
      get y_90 ((Int.tmod n_84 (y_90.length:Int)).toNat) fun x_170=>
      chk (1+(Int.tmod x_170.1 3))<|
      rng (Int.tmod n_84 (y_90.length:Int)) y_90.length<|
      get y_90 ((Int.tmod n_84 (y_90.length:Int)).toNat) fun z_171=>
      br (decide (1<(y_164.length:Int)))
       (br (decide ((Int.tmod n_84 2)=0))
        (grd (!decide ((y_169.length:Int)=0))<|
        grd (decide ((0:Int)≤(Int.tmod n_84 (y_169.length:Int))∧(Int.tmod n_84 (y_169.length:Int))≤(y_169.length:Int)))<|
        lim ((y_169.take ((Int.tmod n_84 (y_169.length:Int)).toNat)).length+[(Int.tmod n_84 5)].length)<|
        A1 N (A0 N n_) n_84 (y_90.set ((Int.tmod n_84 (y_90.length:Int)).toNat) ((1+(Int.tmod x_170.1 3)),z_171.2)) ([y_164,y_165,y_166,[y_167,((y_169.take ((Int.tmod n_84 (y_169.length:Int)).toNat))++[(Int.tmod n_84 5)]),y_168]]) u_85 x2_87 x3_88 x_86 (Int.tmod n_84 (x2_87.length:Int)) (Int.tmod (IntKind.i64.wrap (Int.tdiv n_84 3)) (x2_87.length:Int)))
        (A1 N (A0 N n_) n_84 (y_90.set ((Int.tmod n_84 (y_90.length:Int)).toNat) ((1+(Int.tmod x_170.1 3)),z_171.2)) ([y_164,y_165,y_166,[y_167,y_169,y_168]]) u_85 x2_87 x3_88 x_86 (Int.tmod n_84 (x2_87.length:Int)) (Int.tmod (IntKind.i64.wrap (Int.tdiv n_84 3)) (x2_87.length:Int))))
       (A1 N (A0 N n_) n_84 (y_90.set ((Int.tmod n_84 (y_90.length:Int)).toNat) ((1+(Int.tmod x_170.1 3)),z_171.2)) ([y_164,y_165,y_166,[y_167,y_169,y_168]]) u_85 x2_87 x3_88 x_86 (Int.tmod n_84 (x2_87.length:Int)) (Int.tmod (IntKind.i64.wrap (Int.tdiv n_84 3)) (x2_87.length:Int))))
      (br (decide (1<(y_164.length:Int)))
       (br (decide ((Int.tmod n_84 2)=0))
        (grd (!decide ((y_169.length:Int)=0))<|
        grd (decide ((0:Int)≤(Int.tmod n_84 (y_169.length:Int))∧(Int.tmod n_84 (y_169.length:Int))≤(y_169.length:Int)))<|
        lim ((y_169.take ((Int.tmod n_84 (y_169.length:Int)).toNat)).length+[(Int.tmod n_84 5)].length)<|
        A1 N (A0 N n_) n_84 y_90 ([y_164,y_165,y_166,[y_167,((y_169.take ((Int.tmod n_84 (y_169.length:Int)).toNat))++[(Int.tmod n_84 5)]),y_168]]) u_85 x2_87 x3_88 x_86 (Int.tmod n_84 (x2_87.length:Int)) (Int.tmod (IntKind.i64.wrap (Int.tdiv n_84 3)) (x2_87.length:Int)))
        (A1 N (A0 N n_) n_84 y_90 ([y_164,y_165,y_166,[y_167,y_169,y_168]]) u_85 x2_87 x3_88 x_86 (Int.tmod n_84 (x2_87.length:Int)) (Int.tmod (IntKind.i64.wrap (Int.tdiv n_84 3)) (x2_87.length:Int))))
       (A1 N (A0 N n_) n_84 y_90 ([y_164,y_165,y_166,[y_167,y_169,y_168]]) u_85 x2_87 x3_88 x_86 (Int.tmod n_84 (x2_87.length:Int)) (Int.tmod (IntKind.i64.wrap (Int.tdiv n_84 3)) (x2_87.length:Int)))))
     (br (decide (1<(y_164.length:Int)))
      (br (decide ((Int.tmod n_84 2)=0))
       (grd (!decide ((y_169.length:Int)=0))<|
       grd (decide ((0:Int)≤(Int.tmod n_84 (y_169.length:Int))∧(Int.tmod n_84 (y_169.length:Int))≤(y_169.length:Int)))<|
       lim ((y_169.take ((Int.tmod n_84 (y_169.length:Int)).toNat)).length+[(Int.tmod n_84 5)].length)<|
       A1 N (A0 N n_) n_84 y_90 ([y_164,y_165,y_166,[y_167,((y_169.take ((Int.tmod n_84 (y_169.length:Int)).toNat))++[(Int.tmod n_84 5)]),y_168]]) u_85 x2_87 x3_88 x_86 (Int.tmod n_84 (x2_87.length:Int)) (Int.tmod (IntKind.i64.wrap (Int.tdiv n_84 3)) (x2_87.length:Int)))
       (A1 N (A0 N n_) n_84 y_90 ([y_164,y_165,y_166,[y_167,y_169,y_168]]) u_85 x2_87 x3_88 x_86 (Int.tmod n_84 (x2_87.length:Int)) (Int.tmod (IntKind.i64.wrap (Int.tdiv n_84 3)) (x2_87.length:Int))))
      (A1 N (A0 N n_) n_84 y_90 ([y_164,y_165,y_166,[y_167,y_169,y_168]]) u_85 x2_87 x3_88 x_86 (Int.tmod n_84 (x2_87.length:Int)) (Int.tmod (IntKind.i64.wrap (Int.tdiv n_84 3)) (x2_87.length:Int)))))
   | .inr (.inr (.inr (.inr (.inr (.inr (.inr (.inr (.inr (.inr (.inr (.inl (x_172,y_173,y_174,y_175,y_176,y_177,y_178,y_179))))))))))))=>
    (br (decide (0<(y_90.length:Int)))
     (br (decide ((Int.tmod n_84 3)=0))
      (grd (!decide ((y_90.length:Int)=0))<|
      grd (!decide ((y_90.length:Int)=0))<|
      rng (Int.tmod n_84 (y_90.length:Int)) y_90.length<|
      get y_90 ((Int.tmod n_84 (y_90.length:Int)).toNat) fun x_180=>
      chk (1+(Int.tmod x_180.1 3))<|
      rng (Int.tmod n_84 (y_90.length:Int)) y_90.length<|
      get y_90 ((Int.tmod n_84 (y_90.length:Int)).toNat) fun z_181=>
      br (decide (1<(y_173.length:Int)))
       (br (decide ((Int.tmod n_84 2)=0))
        (grd (!decide ((y_179.length:Int)=0))<|
        grd (decide ((0:Int)≤(Int.tmod n_84 (y_179.length:Int))∧(Int.tmod n_84 (y_179.length:Int))≤(y_179.length:Int)))<|
        lim ((y_179.take ((Int.tmod n_84 (y_179.length:Int)).toNat)).length+[(Int.tmod n_84 5)].length)<|
        A1 N (A0 N n_) n_84 (y_90.set ((Int.tmod n_84 (y_90.length:Int)).toNat) ((1+(Int.tmod x_180.1 3)),z_181.2)) ([y_173,y_174,y_175,[y_176,((y_179.take ((Int.tmod n_84 (y_179.length:Int)).toNat))++[(Int.tmod n_84 5)]),y_177,y_178]]) u_85 x2_87 x3_88 x_86 (Int.tmod n_84 (x2_87.length:Int)) (Int.tmod (IntKind.i64.wrap (Int.tdiv n_84 3)) (x2_87.length:Int)))
        (A1 N (A0 N n_) n_84 (y_90.set ((Int.tmod n_84 (y_90.length:Int)).toNat) ((1+(Int.tmod x_180.1 3)),z_181.2)) ([y_173,y_174,y_175,[y_176,y_179,y_177,y_178]]) u_85 x2_87 x3_88 x_86 (Int.tmod n_84 (x2_87.length:Int)) (Int.tmod (IntKind.i64.wrap (Int.tdiv n_84 3)) (x2_87.length:Int))))
       (A1 N (A0 N n_) n_84 (y_90.set ((Int.tmod n_84 (y_90.length:Int)).toNat) ((1+(Int.tmod x_180.1 3)),z_181.2)) ([y_173,y_174,y_175,[y_176,y_179,y_177,y_178]]) u_85 x2_87 x3_88 x_86 (Int.tmod n_84 (x2_87.length:Int)) (Int.tmod (IntKind.i64.wrap (Int.tdiv n_84 3)) (x2_87.length:Int))))
      (br (decide (1<(y_173.length:Int)))
       (br (decide ((Int.tmod n_84 2)=0))
        (grd (!decide ((y_179.length:Int)=0))<|
        grd (decide ((0:Int)≤(Int.tmod n_84 (y_179.length:Int))∧(Int.tmod n_84 (y_179.length:Int))≤(y_179.length:Int)))<|
        lim ((y_179.take ((Int.tmod n_84 (y_179.length:Int)).toNat)).length+[(Int.tmod n_84 5)].length)<|
        A1 N (A0 N n_) n_84 y_90 ([y_173,y_174,y_175,[y_176,((y_179.take ((Int.tmod n_84 (y_179.length:Int)).toNat))++[(Int.tmod n_84 5)]),y_177,y_178]]) u_85 x2_87 x3_88 x_86 (Int.tmod n_84 (x2_87.length:Int)) (Int.tmod (IntKind.i64.wrap (Int.tdiv n_84 3)) (x2_87.length:Int)))
        (A1 N (A0 N n_) n_84 y_90 ([y_173,y_174,y_175,[y_176,y_179,y_177,y_178]]) u_85 x2_87 x3_88 x_86 (Int.tmod n_84 (x2_87.length:Int)) (Int.tmod (IntKind.i64.wrap (Int.tdiv n_84 3)) (x2_87.length:Int))))
       (A1 N (A0 N n_) n_84 y_90 ([y_173,y_174,y_175,[y_176,y_179,y_177,y_178]]) u_85 x2_87 x3_88 x_86 (Int.tmod n_84 (x2_87.length:Int)) (Int.tmod (IntKind.i64.wrap (Int.tdiv n_84 3)) (x2_87.length:Int)))))
     (br (decide (1<(y_173.length:Int)))
      (br (decide ((Int.tmod n_84 2)=0))
       (grd (!decide ((y_179.length:Int)=0))<|
       grd (decide ((0:Int)≤(Int.tmod n_84 (y_179.length:Int))∧(Int.tmod n_84 (y_179.length:Int))≤(y_179.length:Int)))<|
       lim ((y_179.take ((Int.tmod n_84 (y_179.length:Int)).toNat)).length+[(Int.tmod n_84 5)].length)<|
       A1 N (A0 N n_) n_84 y_90 ([y_173,y_174,y_175,[y_176,((y_179.take ((Int.tmod n_84 (y_179.length:Int)).toNat))++[(Int.tmod n_84 5)]),y_177,y_178]]) u_85 x2_87 x3_88 x_86 (Int.tmod n_84 (x2_87.length:Int)) (Int.tmod (IntKind.i64.wrap (Int.tdiv n_84 3)) (x2_87.length:Int)))
       (A1 N (A0 N n_) n_84 y_90 ([y_173,y_174,y_175,[y_176,y_179,y_177,y_178]]) u_85 x2_87 x3_88 x_86 (Int.tmod n_84 (x2_87.length:Int)) (Int.tmod (IntKind.i64.wrap (Int.tdiv n_84 3)) (x2_87.length:Int))))
      (A1 N (A0 N n_) n_84 y_90 ([y_173,y_174,y_175,[y_176,y_179,y_177,y_178]]) u_85 x2_87 x3_88 x_86 (Int.tmod n_84 (x2_87.length:Int)) (Int.tmod (IntKind.i64.wrap (Int.tdiv n_84 3)) (x2_87.length:Int)))))
   | .inr (.inr (.inr (.inr (.inr (.inr (.inr (.inr (.inr (.inr (.inr (.inr (.inl (x_182,y_183,y_184,y_185,y_186,y_187,y_188)))))))))))))=>
    (br (decide (0<(y_90.length:Int)))
     (br (decide ((Int.tmod n_84 3)=0))
      (grd (!decide ((y_90.length:Int)=0))<|
      grd (!decide ((y_90.length:Int)=0))<|
      rng (Int.tmod n_84 (y_90.length:Int)) y_90.length<|
      get y_90 ((Int.tmod n_84 (y_90.length:Int)).toNat) fun x_189=>
      chk (1+(Int.tmod x_189.1 3))<|
      rng (Int.tmod n_84 (y_90.length:Int)) y_90.length<|
      get y_90 ((Int.tmod n_84 (y_90.length:Int)).toNat) fun z_190=>
      br (decide (1<(y_183.length:Int)))
       (br (decide ((Int.tmod n_84 2)=0))
        (grd (!decide ((y_188.length:Int)=0))<|
        grd (decide ((0:Int)≤(Int.tmod n_84 (y_188.length:Int))∧(Int.tmod n_84 (y_188.length:Int))≤(y_188.length:Int)))<|
        lim ((y_188.take ((Int.tmod n_84 (y_188.length:Int)).toNat)).length+[(Int.tmod n_84 5)].length)<|
        A1 N (A0 N n_) n_84 (y_90.set ((Int.tmod n_84 (y_90.length:Int)).toNat) ((1+(Int.tmod x_189.1 3)),z_190.2)) ([y_183,y_184,y_185,y_186,[y_187,((y_188.take ((Int.tmod n_84 (y_188.length:Int)).toNat))++[(Int.tmod n_84 5)])]]) u_85 x2_87 x3_88 x_86 (Int.tmod n_84 (x2_87.length:Int)) (Int.tmod (IntKind.i64.wrap (Int.tdiv n_84 3)) (x2_87.length:Int)))
        (A1 N (A0 N n_) n_84 (y_90.set ((Int.tmod n_84 (y_90.length:Int)).toNat) ((1+(Int.tmod x_189.1 3)),z_190.2)) ([y_183,y_184,y_185,y_186,[y_187,y_188]]) u_85 x2_87 x3_88 x_86 (Int.tmod n_84 (x2_87.length:Int)) (Int.tmod (IntKind.i64.wrap (Int.tdiv n_84 3)) (x2_87.length:Int))))
       (A1 N (A0 N n_) n_84 (y_90.set ((Int.tmod n_84 (y_90.length:Int)).toNat) ((1+(Int.tmod x_189.1 3)),z_190.2)) ([y_183,y_184,y_185,y_186,[y_187,y_188]]) u_85 x2_87 x3_88 x_86 (Int.tmod n_84 (x2_87.length:Int)) (Int.tmod (IntKind.i64.wrap (Int.tdiv n_84 3)) (x2_87.length:Int))))
      (br (decide (1<(y_183.length:Int)))
       (br (decide ((Int.tmod n_84 2)=0))
        (grd (!decide ((y_188.length:Int)=0))<|
        grd (decide ((0:Int)≤(Int.tmod n_84 (y_188.length:Int))∧(Int.tmod n_84 (y_188.length:Int))≤(y_188.length:Int)))<|
        lim ((y_188.take ((Int.tmod n_84 (y_188.length:Int)).toNat)).length+[(Int.tmod n_84 5)].length)<|
        A1 N (A0 N n_) n_84 y_90 ([y_183,y_184,y_185,y_186,[y_187,((y_188.take ((Int.tmod n_84 (y_188.length:Int)).toNat))++[(Int.tmod n_84 5)])]]) u_85 x2_87 x3_88 x_86 (Int.tmod n_84 (x2_87.length:Int)) (Int.tmod (IntKind.i64.wrap (Int.tdiv n_84 3)) (x2_87.length:Int)))
        (A1 N (A0 N n_) n_84 y_90 ([y_183,y_184,y_185,y_186,[y_187,y_188]]) u_85 x2_87 x3_88 x_86 (Int.tmod n_84 (x2_87.length:Int)) (Int.tmod (IntKind.i64.wrap (Int.tdiv n_84 3)) (x2_87.length:Int))))
       (A1 N (A0 N n_) n_84 y_90 ([y_183,y_184,y_185,y_186,[y_187,y_188]]) u_85 x2_87 x3_88 x_86 (Int.tmod n_84 (x2_87.length:Int)) (Int.tmod (IntKind.i64.wrap (Int.tdiv n_84 3)) (x2_87.length:Int)))))
     (br (decide (1<(y_183.length:Int)))
      (br (decide ((Int.tmod n_84 2)=0))
       (grd (!decide ((y_188.length:Int)=0))<|
       grd (decide ((0:Int)≤(Int.tmod n_84 (y_188.length:Int))∧(Int.tmod n_84 (y_188.length:Int))≤(y_188.length:Int)))<|
       lim ((y_188.take ((Int.tmod n_84 (y_188.length:Int)).toNat)).length+[(Int.tmod n_84 5)].length)<|
       A1 N (A0 N n_) n_84 y_90 ([y_183,y_184,y_185,y_186,[y_187,((y_188.take ((Int.tmod n_84 (y_188.length:Int)).toNat))++[(Int.tmod n_84 5)])]]) u_85 x2_87 x3_88 x_86 (Int.tmod n_84 (x2_87.length:Int)) (Int.tmod (IntKind.i64.wrap (Int.tdiv n_84 3)) (x2_87.length:Int)))
       (A1 N (A0 N n_) n_84 y_90 ([y_183,y_184,y_185,y_186,[y_187,y_188]]) u_85 x2_87 x3_88 x_86 (Int.tmod n_84 (x2_87.length:Int)) (Int.tmod (IntKind.i64.wrap (Int.tdiv n_84 3)) (x2_87.length:Int))))
      (A1 N (A0 N n_) n_84 y_90 ([y_183,y_184,y_185,y_186,[y_187,y_188]]) u_85 x2_87 x3_88 x_86 (Int.tmod n_84 (x2_87.length:Int)) (Int.tmod (IntKind.i64.wrap (Int.tdiv n_84 3)) (x2_87.length:Int)))))
   | .inr (.inr (.inr (.inr (.inr (.inr (.inr (.inr (.inr (.inr (.inr (.inr (.inr (.inl (x_191,y_192,y_193,y_194,y_195,y_196,y_197,y_198))))))))))))))=>
    (br (decide (0<(y_90.length:Int)))
     (br (decide ((Int.tmod n_84 3)=0))
      (grd (!decide ((y_90.length:Int)=0))<|
      grd (!decide ((y_90.length:Int)=0))<|
      rng (Int.tmod n_84 (y_90.length:Int)) y_90.length<|
      get y_90 ((Int.tmod n_84 (y_90.length:Int)).toNat) fun x_199=>
      chk (1+(Int.tmod x_199.1 3))<|
      rng (Int.tmod n_84 (y_90.length:Int)) y_90.length<|
      get y_90 ((Int.tmod n_84 (y_90.length:Int)).toNat) fun z_200=>
      br (decide (1<(y_192.length:Int)))
       (br (decide ((Int.tmod n_84 2)=0))
        (grd (!decide ((y_198.length:Int)=0))<|
        grd (decide ((0:Int)≤(Int.tmod n_84 (y_198.length:Int))∧(Int.tmod n_84 (y_198.length:Int))≤(y_198.length:Int)))<|
        lim ((y_198.take ((Int.tmod n_84 (y_198.length:Int)).toNat)).length+[(Int.tmod n_84 5)].length)<|
        A1 N (A0 N n_) n_84 (y_90.set ((Int.tmod n_84 (y_90.length:Int)).toNat) ((1+(Int.tmod x_199.1 3)),z_200.2)) ([y_192,y_193,y_194,y_195,[y_196,((y_198.take ((Int.tmod n_84 (y_198.length:Int)).toNat))++[(Int.tmod n_84 5)]),y_197]]) u_85 x2_87 x3_88 x_86 (Int.tmod n_84 (x2_87.length:Int)) (Int.tmod (IntKind.i64.wrap (Int.tdiv n_84 3)) (x2_87.length:Int)))
        (A1 N (A0 N n_) n_84 (y_90.set ((Int.tmod n_84 (y_90.length:Int)).toNat) ((1+(Int.tmod x_199.1 3)),z_200.2)) ([y_192,y_193,y_194,y_195,[y_196,y_198,y_197]]) u_85 x2_87 x3_88 x_86 (Int.tmod n_84 (x2_87.length:Int)) (Int.tmod (IntKind.i64.wrap (Int.tdiv n_84 3)) (x2_87.length:Int))))
       (A1 N (A0 N n_) n_84 (y_90.set ((Int.tmod n_84 (y_90.length:Int)).toNat) ((1+(Int.tmod x_199.1 3)),z_200.2)) ([y_192,y_193,y_194,y_195,[y_196,y_198,y_197]]) u_85 x2_87 x3_88 x_86 (Int.tmod n_84 (x2_87.length:Int)) (Int.tmod (IntKind.i64.wrap (Int.tdiv n_84 3)) (x2_87.length:Int))))
      (br (decide (1<(y_192.length:Int)))
       (br (decide ((Int.tmod n_84 2)=0))
        (grd (!decide ((y_198.length:Int)=0))<|
        grd (decide ((0:Int)≤(Int.tmod n_84 (y_198.length:Int))∧(Int.tmod n_84 (y_198.length:Int))≤(y_198.length:Int)))<|
        lim ((y_198.take ((Int.tmod n_84 (y_198.length:Int)).toNat)).length+[(Int.tmod n_84 5)].length)<|
        A1 N (A0 N n_) n_84 y_90 ([y_192,y_193,y_194,y_195,[y_196,((y_198.take ((Int.tmod n_84 (y_198.length:Int)).toNat))++[(Int.tmod n_84 5)]),y_197]]) u_85 x2_87 x3_88 x_86 (Int.tmod n_84 (x2_87.length:Int)) (Int.tmod (IntKind.i64.wrap (Int.tdiv n_84 3)) (x2_87.length:Int)))
        (A1 N (A0 N n_) n_84 y_90 ([y_192,y_193,y_194,y_195,[y_196,y_198,y_197]]) u_85 x2_87 x3_88 x_86 (Int.tmod n_84 (x2_87.length:Int)) (Int.tmod (IntKind.i64.wrap (Int.tdiv n_84 3)) (x2_87.length:Int))))
       (A1 N (A0 N n_) n_84 y_90 ([y_192,y_193,y_194,y_195,[y_196,y_198,y_197]]) u_85 x2_87 x3_88 x_86 (Int.tmod n_84 (x2_87.length:Int)) (Int.tmod (IntKind.i64.wrap (Int.tdiv n_84 3)) (x2_87.length:Int)))))
     (br (decide (1<(y_192.length:Int)))
      (br (decide ((Int.tmod n_84 2)=0))
       (grd (!decide ((y_198.length:Int)=0))<|
       grd (decide ((0:Int)≤(Int.tmod n_84 (y_198.length:Int))∧(Int.tmod n_84 (y_198.length:Int))≤(y_198.length:Int)))<|
       lim ((y_198.take ((Int.tmod n_84 (y_198.length:Int)).toNat)).length+[(Int.tmod n_84 5)].length)<|
       A1 N (A0 N n_) n_84 y_90 ([y_192,y_193,y_194,y_195,[y_196,((y_198.take ((Int.tmod n_84 (y_198.length:Int)).toNat))++[(Int.tmod n_84 5)]),y_197]]) u_85 x2_87 x3_88 x_86 (Int.tmod n_84 (x2_87.length:Int)) (Int.tmod (IntKind.i64.wrap (Int.tdiv n_84 3)) (x2_87.length:Int)))
       (A1 N (A0 N n_) n_84 y_90 ([y_192,y_193,y_194,y_195,[y_196,y_198,y_197]]) u_85 x2_87 x3_88 x_86 (Int.tmod n_84 (x2_87.length:Int)) (Int.tmod (IntKind.i64.wrap (Int.tdiv n_84 3)) (x2_87.length:Int))))
      (A1 N (A0 N n_) n_84 y_90 ([y_192,y_193,y_194,y_195,[y_196,y_198,y_197]]) u_85 x2_87 x3_88 x_86 (Int.tmod n_84 (x2_87.length:Int)) (Int.tmod (IntKind.i64.wrap (Int.tdiv n_84 3)) (x2_87.length:Int)))))
   | .inr (.inr (.inr (.inr (.inr (.inr (.inr (.inr (.inr (.inr (.inr (.inr (.inr (.inr (x_201,y_202,y_203,y_204,y_205,y_206,y_207,y_208,y_209))))))))))))))=>
    (br (decide (0<(y_90.length:Int)))
     (br (decide ((Int.tmod n_84 3)=0))
      (grd (!decide ((y_90.length:Int)=0))<|
      grd (!decide ((y_90.length:Int)=0))<|
      rng (Int.tmod n_84 (y_90.length:Int)) y_90.length<|
      get y_90 ((Int.tmod n_84 (y_90.length:Int)).toNat) fun x_210=>
      chk (1+(Int.tmod x_210.1 3))<|
      rng (Int.tmod n_84 (y_90.length:Int)) y_90.length<|
      get y_90 ((Int.tmod n_84 (y_90.length:Int)).toNat) fun z_211=>
      br (decide (1<(y_202.length:Int)))
       (br (decide ((Int.tmod n_84 2)=0))
        (grd (!decide ((y_209.length:Int)=0))<|
        grd (decide ((0:Int)≤(Int.tmod n_84 (y_209.length:Int))∧(Int.tmod n_84 (y_209.length:Int))≤(y_209.length:Int)))<|
        lim ((y_209.take ((Int.tmod n_84 (y_209.length:Int)).toNat)).length+[(Int.tmod n_84 5)].length)<|
        A1 N (A0 N n_) n_84 (y_90.set ((Int.tmod n_84 (y_90.length:Int)).toNat) ((1+(Int.tmod x_210.1 3)),z_211.2)) ([y_202,y_203,y_204,y_205,[y_206,((y_209.take ((Int.tmod n_84 (y_209.length:Int)).toNat))++[(Int.tmod n_84 5)]),y_207,y_208]]) u_85 x2_87 x3_88 x_86 (Int.tmod n_84 (x2_87.length:Int)) (Int.tmod (IntKind.i64.wrap (Int.tdiv n_84 3)) (x2_87.length:Int)))
        (A1 N (A0 N n_) n_84 (y_90.set ((Int.tmod n_84 (y_90.length:Int)).toNat) ((1+(Int.tmod x_210.1 3)),z_211.2)) ([y_202,y_203,y_204,y_205,[y_206,y_209,y_207,y_208]]) u_85 x2_87 x3_88 x_86 (Int.tmod n_84 (x2_87.length:Int)) (Int.tmod (IntKind.i64.wrap (Int.tdiv n_84 3)) (x2_87.length:Int))))
       (A1 N (A0 N n_) n_84 (y_90.set ((Int.tmod n_84 (y_90.length:Int)).toNat) ((1+(Int.tmod x_210.1 3)),z_211.2)) ([y_202,y_203,y_204,y_205,[y_206,y_209,y_207,y_208]]) u_85 x2_87 x3_88 x_86 (Int.tmod n_84 (x2_87.length:Int)) (Int.tmod (IntKind.i64.wrap (Int.tdiv n_84 3)) (x2_87.length:Int))))
      (br (decide (1<(y_202.length:Int)))
       (br (decide ((Int.tmod n_84 2)=0))
        (grd (!decide ((y_209.length:Int)=0))<|
        grd (decide ((0:Int)≤(Int.tmod n_84 (y_209.length:Int))∧(Int.tmod n_84 (y_209.length:Int))≤(y_209.length:Int)))<|
        lim ((y_209.take ((Int.tmod n_84 (y_209.length:Int)).toNat)).length+[(Int.tmod n_84 5)].length)<|
        A1 N (A0 N n_) n_84 y_90 ([y_202,y_203,y_204,y_205,[y_206,((y_209.take ((Int.tmod n_84 (y_209.length:Int)).toNat))++[(Int.tmod n_84 5)]),y_207,y_208]]) u_85 x2_87 x3_88 x_86 (Int.tmod n_84 (x2_87.length:Int)) (Int.tmod (IntKind.i64.wrap (Int.tdiv n_84 3)) (x2_87.length:Int)))
        (A1 N (A0 N n_) n_84 y_90 ([y_202,y_203,y_204,y_205,[y_206,y_209,y_207,y_208]]) u_85 x2_87 x3_88 x_86 (Int.tmod n_84 (x2_87.length:Int)) (Int.tmod (IntKind.i64.wrap (Int.tdiv n_84 3)) (x2_87.length:Int))))
       (A1 N (A0 N n_) n_84 y_90 ([y_202,y_203,y_204,y_205,[y_206,y_209,y_207,y_208]]) u_85 x2_87 x3_88 x_86 (Int.tmod n_84 (x2_87.length:Int)) (Int.tmod (IntKind.i64.wrap (Int.tdiv n_84 3)) (x2_87.length:Int)))))
     (br (decide (1<(y_202.length:Int)))
      (br (decide ((Int.tmod n_84 2)=0))
       (grd (!decide ((y_209.length:Int)=0))<|
       grd (decide ((0:Int)≤(Int.tmod n_84 (y_209.length:Int))∧(Int.tmod n_84 (y_209.length:Int))≤(y_209.length:Int)))<|
       lim ((y_209.take ((Int.tmod n_84 (y_209.length:Int)).toNat)).length+[(Int.tmod n_84 5)].length)<|
       A1 N (A0 N n_) n_84 y_90 ([y_202,y_203,y_204,y_205,[y_206,((y_209.take ((Int.tmod n_84 (y_209.length:Int)).toNat))++[(Int.tmod n_84 5)]),y_207,y_208]]) u_85 x2_87 x3_88 x_86 (Int.tmod n_84 (x2_87.length:Int)) (Int.tmod (IntKind.i64.wrap (Int.tdiv n_84 3)) (x2_87.length:Int)))
       (A1 N (A0 N n_) n_84 y_90 ([y_202,y_203,y_204,y_205,[y_206,y_209,y_207,y_208]]) u_85 x2_87 x3_88 x_86 (Int.tmod n_84 (x2_87.length:Int)) (Int.tmod (IntKind.i64.wrap (Int.tdiv n_84 3)) (x2_87.length:Int))))
      (A1 N (A0 N n_) n_84 y_90 ([y_202,y_203,y_204,y_205,[y_206,y_209,y_207,y_208]]) u_85 x2_87 x3_88 x_86 (Int.tmod n_84 (x2_87.length:Int)) (Int.tmod (IntKind.i64.wrap (Int.tdiv n_84 3)) (x2_87.length:Int)))))))
   (some (.inr ()))
def G4(N:Nat):Nat→Int→Int→Int→Int→Int→Int→Int→(List (List Int))→(List Int)→(List (List Int))→(List Int)→(List Int)→Option (Int×Int×Int×Int×Int×List (List Int)×List Int×List (List Int)×List Int×List Int)
 | 0,_,_,_,_,_,_,_,_,_,_,_,_=>none
 | n_+1,n,u,u2,u3,texts,words,heard,texts2,texts3,heard2,heard3,words2=>
  br (decide (u3<u2))
   (br (decide (u3<7))
    (lim (texts2.length+([[u3]]).length)<|
    br (decide (u3<8))
     (lim (words2.length+[u3].length)<|
     lim (heard3.length+[(Int.tmod u3 10)].length)<|
     chk (u3+1)<|
     G4 N n_ n u u2 (u3+1) texts words heard (texts2++[[u3]]) texts3 heard2 (heard3++[(Int.tmod u3 10)]) (words2++[u3]))
     (lim (heard3.length+[(Int.tmod u3 10)].length)<|
     chk (u3+1)<|
     G4 N n_ n u u2 (u3+1) texts words heard (texts2++[[u3]]) texts3 heard2 (heard3++[(Int.tmod u3 10)]) words2))
    (br (decide (u3<8))
     (lim (words2.length+[u3].length)<|
     lim (heard3.length+[(Int.tmod u3 10)].length)<|
     chk (u3+1)<|
     G4 N n_ n u u2 (u3+1) texts words heard texts2 texts3 heard2 (heard3++[(Int.tmod u3 10)]) (words2++[u3]))
     (lim (heard3.length+[(Int.tmod u3 10)].length)<|
     chk (u3+1)<|
     G4 N n_ n u u2 (u3+1) texts words heard texts2 texts3 heard2 (heard3++[(Int.tmod u3 10)]) words2)))
   (some ((n,u,texts,words,heard,texts2,texts3,heard2,heard3,words2)))
def I5(N:Nat):Nat→Int→Int→Int→Int→(List ((List (List Int))×((List Int)×Int)))→Option ((Unit)⊕((Unit)⊕(Int)))
 | 0,_,_,_,_,_=>none
 | n_+1,n,u,u2,u3,g=>
  br (decide (u3<u2))
   (rng u3 g.length<|
   get g u3.toNat fun x_222=>
   (Sj N x_222.1 x_222.2.1 x_222.2.2 0 0).bind fun x_223=>
   br (!x_223)
    (some (.inl ()))
    ((Sq N x_222.1 x_222.2.1 x_222.2.2 0 0).bind fun x_224=>
    br (!x_224)
     (some (.inl ()))
     ((Su N x_222.1 x_222.2.1 x_222.2.2 0 0 []).bind fun x_225=>
     br (!x_225)
      (some (.inl ()))
      ((Nf N x_222.1 x_222.2.1 x_222.2.2 n).bind fun x_226=>
      br (!x_226)
       (some (.inl ()))
       (rng u3 [5,6,10].length<|
       get [5,6,10] u3.toNat fun x_227=>
       (D7 N x_222.1 x_222.2.1 x_222.2.2).bind fun x_228=>
       br (decide (n≤x_227))
        (br (decide (0<n))
         (br (!((decide (x_228=0))==true))
          (some (.inr (.inl ())))
          (chk (u3+1)<|
          I5 N n_ n u u2 (u3+1) g))
         (br (!((decide (x_228=0))==(decide (u3=2))))
          (some (.inr (.inl ())))
          (chk (u3+1)<|
          I5 N n_ n u u2 (u3+1) g)))
        (br (!((decide (x_228=0))==false))
         (some (.inr (.inl ())))
         (chk (u3+1)<|
         I5 N n_ n u u2 (u3+1) g)))))))
   (some (.inr (.inr u)))
def A0w(N:Nat)(rec:Int→Option ((Unit)⊕((Unit)⊕(Unit))))(n u:Int)(texts:List (List Int))(texts2:List Int)(texts3:Int)(words:List (List Int))(words2:List Int)(words3:Int)(heard:List (List Int))(heard2:List Int)(heard3:Int):Option ((Unit)⊕((Unit)⊕(Unit))):=
 (I5 N N n u ([(texts,texts2,texts3),(words,words2,words3),(heard,heard2,heard3)].length:Int) 0 [(texts,texts2,texts3),(words,words2,words3),(heard,heard2,heard3)]).bind fun e=>match e with
 | .inl _=>
  some (.inl ())
 | .inr (.inl _)=>
  some (.inr (.inl ()))
 | .inr (.inr u_229)=>
  chk (u_229+1)<|
  rec (u_229+1)
def Ly(N:Nat):Nat→Int→Option ((Unit)⊕((Unit)⊕(Unit)))
 | 0,_=>none
 | n_+1,u=>
  br (decide (u<12))
   ((G4 N N u u u 0 0 0 0 [] [1] ([[1]]) [] []).bind fun(n_212,u_213,texts_214,words_215,heard_216,texts2_217,texts3_218,heard2_219,heard3_220,words2_221)=>
   A0w N (Ly N n_) n_212 u_213 texts2_217 texts3_218 texts_214 [words2_221] [] words_215 heard2_219 heard3_220 heard_216)
   (some (.inr (.inr ())))
def Ww(N:Nat)  : Option Bool:=
 (Rq N N ([-9223372036854775808,-1,0,1,2,3,4,5,8,9,10,98,99,100,9223372036854775807].length:Int) 0 [-9223372036854775808,-1,0,1,2,3,4,5,8,9,10,98,99,100,9223372036854775807]).bind fun e=>match e with
 | .inl _=>
  some false
 | .inr (.inl _)=>
  some false
 | .inr (.inr _)=>
  (A0 N N 0).bind fun e=>match e with
  | .inl _=>
   some false
  | .inr _=>
   (Ly N N 0).bind fun e=>match e with
   | .inl _=>
    some false
   | .inr (.inl _)=>
    some false
   | .inr (.inr _)=>
    (B0 N).bind fun x_230=>
    some x_230
noncomputable def Bm(N:Nat):Oks:=[⟨_,A3x N⟩,⟨_,X3 N⟩,⟨_,A48 N⟩,⟨_,N1 N⟩,⟨_,Mu N⟩,⟨_,Kk N⟩,⟨_,Mx N⟩,⟨_,A9y N⟩,⟨_,Kp N⟩,⟨_,A68 N⟩,⟨_,A4h N⟩,⟨_,C0 N⟩,⟨_,D2 N⟩]
abbrev A8u:List StSh:=[⟨[.b],[]⟩]
noncomputable abbrev Ce:Body:=mkB Tryz.f3 A8u 0
noncomputable def B4(N:Nat){top:Bool}:LpQ Ce top:=mkL (Z:=(Unit)⊕((Unit)⊕(Int×Int×List Int))) (Bm N) [] [.c [1,0,1,0,0,1,1,0,0,1,1,0,0,0],.c [1,0,1,0,0,1,1,0,0,1,1,0,0,1],.l [1,0,1,0,0,1,1,0,0,1,1,0,0],.b 2,.b 1,.c [1,0,1,0,0,1,1,1],.l [1,0,1,0,0],.b 0,.c [1,1]] ⟨[2,31,32,33,37],⟨[.i .i64,.ols 0,.i .i64,.i .i64,.i .i64],[.lst (.int .i64)]⟩⟩ (fun m p=>Ag N m p.1.1 p.1.2.2.1 p.1.2.2.2.1 p.1.2.2.2.2.1 p.2.1) [⟨[.c [1,0,1,0,0,1,1,0,0,1,1,0,0,1,1,0,0,1,1,1,1,0,1,0,0],.c [1,0,1,0,0,1,1,0,0,1,1,0,0,1,1,0,0,1,1,1,1,0,1,0,1],.c [1,0,1,0,0,1,1,0,0,1,1,0,0,1,1,0,0,1,1,1,1,1],.b 3,.c [1,0,1,0,0,1,1,0,0,1,1,0,0,1,1,1],.l [1,0,1,0,0,1,1,0,0,1,1,0,0],.b 2,.b 1,.c [1,0,1,0,0,1,1,1],.l [1,0,1,0,0],.b 0,.c [1,1]],⟨[],⟨[],[]⟩⟩,fun p=>some (.inl ())⟩,⟨[.c [1,0,1,0,0,1,1,0,0,1,1,0,0,1,1,0,0,1,1,1,1,1,1,1,1,1,0,0],.c [1,0,1,0,0,1,1,0,0,1,1,0,0,1,1,0,0,1,1,1,1,1,1,1,1,1,0,1],.b 3,.c [1,0,1,0,0,1,1,0,0,1,1,0,0,1,1,1],.l [1,0,1,0,0,1,1,0,0,1,1,0,0],.b 2,.b 1,.c [1,0,1,0,0,1,1,1],.l [1,0,1,0,0],.b 0,.c [1,1]],⟨[],⟨[],[]⟩⟩,fun p=>some (.inr (.inl ()))⟩,⟨[.c [1,0,1,0,0,1,1,1],.l [1,0,1,0,0],.b 0,.c [1,1]],⟨[31,32,33],⟨[.ols 0,.i .i64,.i .i64],[.lst (.int .i64)]⟩⟩,fun p=>some (.inr (.inr (p.1.2.1,p.1.2.2.1,p.2.1)))⟩] (fun _=>[]) (fun k e=>match e with | .inl x=>k (.inl ((),())) | .inr (.inl x)=>k (.inr (.inl ((),()))) | .inr (.inr x)=>k (.inr (.inr (.inl (((),x.1,x.2.1,()),(x.2.2,())))))) N (fun m p=>by kernel_rfl) (hg:=(by rintro _ _ (_ | _ | _)<;>rfl))
noncomputable def Bg(N:Nat){top:Bool}:LpQ Ce top:=mkL (Z:=(Unit)⊕((Unit)⊕(Unit))) (Bm N) [B4 N] [.c [1,0,1,0,0,0],.c [1,0,1,0,0,1],.l [1,0,1,0,0],.b 0,.c [1,1]] ⟨[31,32,33],⟨[.ols 0,.i .i64,.i .i64],[.lst (.int .i64)]⟩⟩ (fun m p=>Rq N m p.1.2.1 p.1.2.2.1 p.2.1) [⟨[.c [1,0,1,0,0,1,1,0,0,1,1,0,0,1,1,0,0,1,1,1,1,0,1,0,0],.c [1,0,1,0,0,1,1,0,0,1,1,0,0,1,1,0,0,1,1,1,1,0,1,0,1],.c [1,0,1,0,0,1,1,0,0,1,1,0,0,1,1,0,0,1,1,1,1,1],.b 3,.c [1,0,1,0,0,1,1,0,0,1,1,0,0,1,1,1],.l [1,0,1,0,0,1,1,0,0,1,1,0,0],.b 2,.b 1,.c [1,0,1,0,0,1,1,1],.l [1,0,1,0,0],.b 0,.c [1,1]],⟨[],⟨[],[]⟩⟩,fun p=>some (.inl ())⟩,⟨[.c [1,0,1,0,0,1,1,0,0,1,1,0,0,1,1,0,0,1,1,1,1,1,1,1,1,1,0,0],.c [1,0,1,0,0,1,1,0,0,1,1,0,0,1,1,0,0,1,1,1,1,1,1,1,1,1,0,1],.b 3,.c [1,0,1,0,0,1,1,0,0,1,1,0,0,1,1,1],.l [1,0,1,0,0,1,1,0,0,1,1,0,0],.b 2,.b 1,.c [1,0,1,0,0,1,1,1],.l [1,0,1,0,0],.b 0,.c [1,1]],⟨[],⟨[],[]⟩⟩,fun p=>some (.inr (.inl ()))⟩,⟨[.c [1,1,0,0],.c [1,1,0,1],.c [1,1,1]],⟨[],⟨[],[]⟩⟩,fun p=>some (.inr (.inr ()))⟩] (fun _=>[]) (fun k e=>match e with | .inl x=>k (.inl ((),())) | .inr (.inl x)=>k (.inr (.inl ((),()))) | .inr (.inr x)=>k (.inr (.inr (.inl ((),()))))) N (fun m p=>by kernel_rfl) (hg:=(by rintro _ _ (_ | _ | _)<;>rfl))
noncomputable def Bq(N:Nat){top:Bool}:LpQ Ce top:=mkL (Z:=Int×Int×Int×Int×Int×List Int×List (List Int)) (Bm N) [B4 N,Bg N] [.c [1,1,0,1,0,0,1,1,0,0,1,1,0,1,0,0,1,1,0,0,1,1,0,1,0,0,0],.c [1,1,0,1,0,0,1,1,0,0,1,1,0,1,0,0,1,1,0,0,1,1,0,1,0,0,1],.l [1,1,0,1,0,0,1,1,0,0,1,1,0,1,0,0,1,1,0,0,1,1,0,1,0,0],.b 8,.c [1,1,0,1,0,0,1,1,0,0,1,1,0,1,0,0,1,1,0,0,1,1,1],.b 7,.c [1,1,0,1,0,0,1,1,0,0,1,1,0,1,0,0,1,1,1],.l [1,1,0,1,0,0,1,1,0,0,1,1,0,1,0,0],.b 6,.c [1,1,0,1,0,0,1,1,0,0,1,1,1],.b 5,.c [1,1,0,1,0,0,1,1,1],.l [1,1,0,1,0,0],.b 4,.c [1,1,1]] ⟨[12,13,14,15,153,161,162,169,170],⟨[.i .i64,.own 0 0,.i .i64,.ols 1,.i .i64,.i .i64,.i .i64,.i .i64,.i .i64],[.segs [.ols 2,.nils,.i .i64],.lst (.int .i64),.lst (.sl (.int .i64))]⟩⟩ (fun m p=>Rl N m p.1.1 p.1.2.2.1 p.1.2.2.2.2.1 p.1.2.2.2.2.2.1 p.1.2.2.2.2.2.2.1 p.1.2.2.2.2.2.2.2.1 p.1.2.2.2.2.2.2.2.2.1 p.2.1.2.2.1 p.2.2.1 p.2.2.2.1) [⟨[.c [1,1,0,1,0,0,1,1,0,0,1,1,0,1,0,0,1,1,0,0,1,1,1],.b 7,.c [1,1,0,1,0,0,1,1,0,0,1,1,0,1,0,0,1,1,1],.l [1,1,0,1,0,0,1,1,0,0,1,1,0,1,0,0],.b 6,.c [1,1,0,1,0,0,1,1,0,0,1,1,1],.b 5,.c [1,1,0,1,0,0,1,1,1],.l [1,1,0,1,0,0],.b 4,.c [1,1,1]],⟨[12,13,15,153,161,162],⟨[.i .i64,.own 0 0,.ols 1,.i .i64,.i .i64,.i .i64],[.segs [.ols 2,.nils,.i .i64],.lst (.int .i64),.lst (.sl (.int .i64))]⟩⟩,fun p=>some ((p.1.1,p.1.2.2.2.1,p.1.2.2.2.2.1,p.1.2.2.2.2.2.1,p.2.1.2.2.1,p.2.2.1,p.2.2.2.1))⟩] (fun _=>[]) (fun k e=>k (.inl ((e.1,(),(),e.2.1,e.2.2.1,e.2.2.2.1,()),(((),(),e.2.2.2.2.1,()),e.2.2.2.2.2.1,e.2.2.2.2.2.2,())))) N (fun m p=>by kernel_rfl)
noncomputable def By(N:Nat){top:Bool}:LpQ Ce top:=mkL (Z:=Int×Int×Int×List (List Int)) (Bm N) [B4 N,Bg N,Bq N] [.c [1,1,0,1,0,0,1,1,0,0,1,1,0,1,0,0,0],.c [1,1,0,1,0,0,1,1,0,0,1,1,0,1,0,0,1],.l [1,1,0,1,0,0,1,1,0,0,1,1,0,1,0,0],.b 6,.c [1,1,0,1,0,0,1,1,0,0,1,1,1],.b 5,.c [1,1,0,1,0,0,1,1,1],.l [1,1,0,1,0,0],.b 4,.c [1,1,1]] ⟨[12,13,153,161,162],⟨[.i .i64,.own 0 0,.i .i64,.i .i64,.i .i64],[.segs [.ols 1,.nils,.i .i64],.lst (.sl (.int .i64))]⟩⟩ (fun m p=>Rs N m p.1.1 p.1.2.2.1 p.1.2.2.2.1 p.1.2.2.2.2.1 p.2.1.2.2.1 p.2.2.1) [⟨[.c [1,1,0,1,0,0,1,1,0,0,1,1,1,0,0],.c [1,1,0,1,0,0,1,1,0,0,1,1,1,0,1],.c [1,1,0,1,0,0,1,1,0,0,1,1,1,1],.b 5,.c [1,1,0,1,0,0,1,1,1],.l [1,1,0,1,0,0],.b 4,.c [1,1,1]],⟨[12,13,153],⟨[.i .i64,.own 0 0,.i .i64],[.segs [.ols 1,.nils,.i .i64],.lst (.sl (.int .i64))]⟩⟩,fun p=>some ((p.1.1,p.1.2.2.1,p.2.1.2.2.1,p.2.2.1))⟩] (fun _=>[]) (fun k e=>k (.inl ((e.1,(),e.2.1,()),(((),(),e.2.2.1,()),e.2.2.2,())))) N (fun m p=>by kernel_rfl)
noncomputable def Cc(N:Nat){top:Bool}:LpQ Ce top:=mkL (Z:=Int×Int×Int×List (List Int)×List Int) (Bm N) [B4 N,Bg N,Bq N,By N] [.c [1,1,0,1,0,0,1,1,0,0,1,1,1,0,1,0,0,0],.c [1,1,0,1,0,0,1,1,0,0,1,1,1,0,1,0,0,1],.l [1,1,0,1,0,0,1,1,0,0,1,1,1,0,1,0,0],.b 10,.c [1,1,0,1,0,0,1,1,0,0,1,1,1,1],.b 5,.c [1,1,0,1,0,0,1,1,1],.l [1,1,0,1,0,0],.b 4,.c [1,1,1]] ⟨[12,13,153,193,194],⟨[.i .i64,.own 0 0,.i .i64,.i .i64,.i .i64],[.segs [.ols 1,.ols 2,.i .i64],.lst (.sl (.int .i64)),.lst (.int .i64)]⟩⟩ (fun m p=>Rp N m p.1.1 p.1.2.2.1 p.1.2.2.2.1 p.1.2.2.2.2.1 p.2.1.2.2.1 p.2.2.1 p.2.2.2.1) [⟨[.c [1,1,0,1,0,0,1,1,0,0,1,1,1,1,0],.c [1,1,0,1,0,0,1,1,0,0,1,1,1,1,1],.b 5,.c [1,1,0,1,0,0,1,1,1],.l [1,1,0,1,0,0],.b 4,.c [1,1,1]],⟨[12,13,153],⟨[.i .i64,.own 0 0,.i .i64],[.segs [.ols 1,.ols 2,.i .i64],.lst (.sl (.int .i64)),.lst (.int .i64)]⟩⟩,fun p=>some ((p.1.1,p.1.2.2.1,p.2.1.2.2.1,p.2.2.1,p.2.2.2.1))⟩] (fun _=>[]) (fun k e=>k (.inl ((e.1,(),e.2.1,()),(((),(),e.2.2.1,()),e.2.2.2.1,e.2.2.2.2,())))) N (fun m p=>by kernel_rfl)
abbrev Pf:List PI:=[.c [1,1,0,1,0,0,0],.c [1,1,0,1,0,0,1],.l [1,1,0,1,0,0],.b 4,.c [1,1,1]]
abbrev Pm:Sta:=⟨[153],⟨[.i .i64],[]⟩⟩
abbrev A6n(rec:Int→Option ((Unit)⊕(Unit))):Leaf ((Unit)⊕(Unit)):=⟨Pf,Pm,fun p=>rec p.1.1⟩
abbrev Pz:Leaf ((Unit)⊕(Unit)):=⟨[.c [1,1,0,1,0,0,1,1,0,0,1,1,1,1,1,1,1,1,1,1,0,0],.c [1,1,0,1,0,0,1,1,0,0,1,1,1,1,1,1,1,1,1,1,0,1],.b 5,.c [1,1,0,1,0,0,1,1,1],.l [1,1,0,1,0,0],.b 4,.c [1,1,1]],⟨[],⟨[],[]⟩⟩,fun p=>some (.inl ())⟩
abbrev Rb:Leaf ((Unit)⊕(Unit)):=⟨[.c [1,1,1,0,0],.c [1,1,1,0,1],.c [1,1,1,1]],⟨[],⟨[],[]⟩⟩,fun p=>some (.inr ())⟩
noncomputable def A8e(N:Nat)(rec:Int→Option ((Unit)⊕(Unit))){top:Bool}:JnQ (Z:=(Unit)⊕(Unit)) Ce top none [A6n rec,Pz,Rb]:=mkJ (Bm N) [B4 N,Bg N,Bq N,By N,Cc N] [] ⟨[.c [1,1,0,1,0,0,1,1,0,0,1,1,1,1,1,1,1,1,1,0],.c [1,1,0,1,0,0,1,1,0,0,1,1,1,1,1,1,1,1,1,1],.b 5,.c [1,1,0,1,0,0,1,1,1],.l [1,1,0,1,0,0],.b 4,.c [1,1,1]],⟨[12,13,18,19,21,153],⟨[.i .i64,.own 0 0,.own 1 0,.sl (.pair (.int .i64) (.int .i64)),.sl (.sl (.sl (.int .i64))),.i .i64],[.segs [.sl (.sl (.int .i64)),.sl (.int .i64),.i .i64],.segs [.i .i64,.i .i64]]⟩⟩,fun p=>A1 N rec p.1.1 p.1.2.2.2.1 p.1.2.2.2.2.1 p.1.2.2.2.2.2.1 p.2.1.1 p.2.1.2.1 p.2.1.2.2.1 p.2.2.1.1 p.2.2.1.2.1⟩ (fun p=>by kernel_rfl)
noncomputable def Er(N:Nat){top:Bool}:LpQ Ce top:=mkL (Z:=(Unit)⊕(Unit)) (Bm N) [B4 N,Bg N,Bq N,By N,Cc N] Pf Pm (fun m p=>A0 N m p.1.1) [Pz,Rb] (fun m=>[A8e N (A0 N m)]) (fun k e=>match e with | .inl x=>k (.inl ((),())) | .inr x=>k (.inr (.inl ((),())))) N (fun m p=>by kernel_rfl) (hg:=(by rintro _ _ (_ | _)<;>rfl))
noncomputable def Hi(N:Nat){top:Bool}:LpQ Ce top:=mkL (Z:=Int×Int×Int×Int×Int×List (List Int)×List Int×List (List Int)×List Int×List Int) (Bm N) [B4 N,Bg N,Bq N,By N,Cc N,Er N] [.c [1,1,1,0,1,0,0,1,1,0,0,1,1,0,1,0,0,0],.c [1,1,1,0,1,0,0,1,1,0,0,1,1,0,1,0,0,1],.l [1,1,1,0,1,0,0,1,1,0,0,1,1,0,1,0,0],.b 14,.c [1,1,1,0,1,0,0,1,1,0,0,1,1,1],.b 13,.c [1,1,1,0,1,0,0,1,1,1],.l [1,1,1,0,1,0,0],.b 12,.c [1,1,1,1]] ⟨[23,24,25,26,310,320,321],⟨[.i .i64,.own 0 0,.own 1 0,.own 2 0,.i .i64,.i .i64,.i .i64],[.segs [.ols 3,.ols 4,.i .i64],.segs [.osl 5 1,.nils,.i .i64],.segs [.ols 6,.ols 7,.i .i64],.lst (.sl (.int .i64)),.lst (.int .i64),.segs [.ols 8],.lst (.sl (.int .i64)),.lst (.int .i64),.lst (.int .i64)]⟩⟩ (fun m p=>G4 N m p.1.1 p.1.2.2.2.2.1 p.1.2.2.2.2.2.1 p.1.2.2.2.2.2.2.1 p.2.1.2.2.1 p.2.2.1.2.2.1 p.2.2.2.1.2.2.1 p.2.2.2.2.1 p.2.2.2.2.2.1 p.2.2.2.2.2.2.2.1 p.2.2.2.2.2.2.2.2.1 p.2.2.2.2.2.2.2.2.2.1) [⟨[.c [1,1,1,0,1,0,0,1,1,0,0,1,1,1,0],.c [1,1,1,0,1,0,0,1,1,0,0,1,1,1,1],.b 13,.c [1,1,1,0,1,0,0,1,1,1],.l [1,1,1,0,1,0,0],.b 12,.c [1,1,1,1]],⟨[23,24,25,26,310],⟨[.i .i64,.own 0 0,.own 1 0,.own 2 0,.i .i64],[.segs [.ols 3,.ols 4,.i .i64],.segs [.osl 5 1,.nils,.i .i64],.segs [.ols 6,.ols 7,.i .i64],.lst (.sl (.int .i64)),.lst (.int .i64),.segs [.ols 8],.lst (.sl (.int .i64)),.lst (.int .i64),.lst (.int .i64)]⟩⟩,fun p=>some ((p.1.1,p.1.2.2.2.2.1,p.2.1.2.2.1,p.2.2.1.2.2.1,p.2.2.2.1.2.2.1,p.2.2.2.2.1,p.2.2.2.2.2.1,p.2.2.2.2.2.2.2.1,p.2.2.2.2.2.2.2.2.1,p.2.2.2.2.2.2.2.2.2.1))⟩] (fun _=>[]) (fun k e=>k (.inl ((e.1,(),(),(),e.2.1,()),(((),(),e.2.2.1,()),((),(),e.2.2.2.1,()),((),(),e.2.2.2.2.1,()),e.2.2.2.2.2.1,e.2.2.2.2.2.2.1,((),()),e.2.2.2.2.2.2.2.1,e.2.2.2.2.2.2.2.2.1,e.2.2.2.2.2.2.2.2.2,())))) N (fun m p=>by kernel_rfl)
noncomputable def Kr(N:Nat){top:Bool}:LpQ Ce top:=mkL (Z:=(Unit)⊕((Unit)⊕(Int))) (Bm N) [B4 N,Bg N,Bq N,By N,Cc N,Er N,Hi N] [.c [1,1,1,0,1,0,0,1,1,0,0,1,1,1,1,0,0,0],.c [1,1,1,0,1,0,0,1,1,0,0,1,1,1,1,0,0,1],.l [1,1,1,0,1,0,0,1,1,0,0,1,1,1,1,0,0],.b 16,.b 13,.c [1,1,1,0,1,0,0,1,1,1],.l [1,1,1,0,1,0,0],.b 12,.c [1,1,1,1]] ⟨[23,310,356,357,358],⟨[.i .i64,.i .i64,.ols 0,.i .i64,.i .i64],[.lst (.pair (.sl (.sl (.int .i64))) (.pair (.sl (.int .i64)) (.int .i64)))]⟩⟩ (fun m p=>I5 N m p.1.1 p.1.2.1 p.1.2.2.2.1 p.1.2.2.2.2.1 p.2.1) [⟨[.c [1,1,1,0,1,0,0,1,1,0,0,1,1,1,1,0,0,1,1,0,0,1,0,1,0,0],.c [1,1,1,0,1,0,0,1,1,0,0,1,1,1,1,0,0,1,1,0,0,1,0,1,0,1],.c [1,1,1,0,1,0,0,1,1,0,0,1,1,1,1,0,0,1,1,0,0,1,1],.b 17,.c [1,1,1,0,1,0,0,1,1,0,0,1,1,1,1,0,0,1,1,1],.l [1,1,1,0,1,0,0,1,1,0,0,1,1,1,1,0,0],.b 16,.b 13,.c [1,1,1,0,1,0,0,1,1,1],.l [1,1,1,0,1,0,0],.b 12,.c [1,1,1,1]],⟨[],⟨[],[]⟩⟩,fun p=>some (.inl ())⟩,⟨[.c [1,1,1,0,1,0,0,1,1,0,0,1,1,1,1,0,0,1,1,0,0,1,1,1,1,0,0],.c [1,1,1,0,1,0,0,1,1,0,0,1,1,1,1,0,0,1,1,0,0,1,1,1,1,0,1],.b 17,.c [1,1,1,0,1,0,0,1,1,0,0,1,1,1,1,0,0,1,1,1],.l [1,1,1,0,1,0,0,1,1,0,0,1,1,1,1,0,0],.b 16,.b 13,.c [1,1,1,0,1,0,0,1,1,1],.l [1,1,1,0,1,0,0],.b 12,.c [1,1,1,1]],⟨[],⟨[],[]⟩⟩,fun p=>some (.inr (.inl ()))⟩,⟨[.c [1,1,1,0,1,0,0,1,1,1],.l [1,1,1,0,1,0,0],.b 12,.c [1,1,1,1]],⟨[310],⟨[.i .i64],[]⟩⟩,fun p=>some (.inr (.inr p.1.1))⟩] (fun _=>[]) (fun k e=>match e with | .inl x=>k (.inl ((),())) | .inr (.inl x)=>k (.inr (.inl ((),()))) | .inr (.inr x)=>k (.inr (.inr (.inl ((x,()),()))))) N (fun m p=>by kernel_rfl) (hg:=(by rintro _ _ (_ | _ | _)<;>rfl))
abbrev Q8:List PI:=[.c [1,1,1,0,1,0,0,0],.c [1,1,1,0,1,0,0,1],.l [1,1,1,0,1,0,0],.b 12,.c [1,1,1,1]]
abbrev Q7:Sta:=⟨[310],⟨[.i .i64],[]⟩⟩
abbrev A7o(rec:Int→Option ((Unit)⊕((Unit)⊕(Unit)))):Leaf ((Unit)⊕((Unit)⊕(Unit))):=⟨Q8,Q7,fun p=>rec p.1.1⟩
abbrev Om:Leaf ((Unit)⊕((Unit)⊕(Unit))):=⟨[.c [1,1,1,0,1,0,0,1,1,0,0,1,1,1,1,0,0,1,1,0,0,1,0,1,0,0],.c [1,1,1,0,1,0,0,1,1,0,0,1,1,1,1,0,0,1,1,0,0,1,0,1,0,1],.c [1,1,1,0,1,0,0,1,1,0,0,1,1,1,1,0,0,1,1,0,0,1,1],.b 17,.c [1,1,1,0,1,0,0,1,1,0,0,1,1,1,1,0,0,1,1,1],.l [1,1,1,0,1,0,0,1,1,0,0,1,1,1,1,0,0],.b 16,.b 13,.c [1,1,1,0,1,0,0,1,1,1],.l [1,1,1,0,1,0,0],.b 12,.c [1,1,1,1]],⟨[],⟨[],[]⟩⟩,fun p=>some (.inl ())⟩
abbrev Py:Leaf ((Unit)⊕((Unit)⊕(Unit))):=⟨[.c [1,1,1,0,1,0,0,1,1,0,0,1,1,1,1,0,0,1,1,0,0,1,1,1,1,0,0],.c [1,1,1,0,1,0,0,1,1,0,0,1,1,1,1,0,0,1,1,0,0,1,1,1,1,0,1],.b 17,.c [1,1,1,0,1,0,0,1,1,0,0,1,1,1,1,0,0,1,1,1],.l [1,1,1,0,1,0,0,1,1,0,0,1,1,1,1,0,0],.b 16,.b 13,.c [1,1,1,0,1,0,0,1,1,1],.l [1,1,1,0,1,0,0],.b 12,.c [1,1,1,1]],⟨[],⟨[],[]⟩⟩,fun p=>some (.inr (.inl ()))⟩
abbrev Oo:Leaf ((Unit)⊕((Unit)⊕(Unit))):=⟨[.c [1,1,1,1,0],.c [1,1,1,1,1]],⟨[],⟨[],[]⟩⟩,fun p=>some (.inr (.inr ()))⟩
noncomputable def A6b(N:Nat)(rec:Int→Option ((Unit)⊕((Unit)⊕(Unit)))){top:Bool}:JnQ (Z:=(Unit)⊕((Unit)⊕(Unit))) Ce top none [A7o rec,Om,Py,Oo]:=mkJ (Bm N) [B4 N,Bg N,Bq N,By N,Cc N,Er N,Hi N,Kr N] [] ⟨[.c [1,1,1,0,1,0,0,1,1,0,0,1,1,1,0],.c [1,1,1,0,1,0,0,1,1,0,0,1,1,1,1],.b 13,.c [1,1,1,0,1,0,0,1,1,1],.l [1,1,1,0,1,0,0],.b 12,.c [1,1,1,1]],⟨[23,24,25,26,310],⟨[.i .i64,.own 0 0,.own 1 0,.own 2 0,.i .i64],[.segs [.sl (.sl (.int .i64)),.sl (.int .i64),.i .i64],.segs [.sl (.sl (.int .i64)),.sl (.int .i64),.i .i64],.segs [.sl (.sl (.int .i64)),.sl (.int .i64),.i .i64]]⟩⟩,fun p=>A0w N rec p.1.1 p.1.2.2.2.2.1 p.2.1.1 p.2.1.2.1 p.2.1.2.2.1 p.2.2.1.1 p.2.2.1.2.1 p.2.2.1.2.2.1 p.2.2.2.1.1 p.2.2.2.1.2.1 p.2.2.2.1.2.2.1⟩ (fun p=>by kernel_rfl)
noncomputable def A67(N:Nat){top:Bool}:LpQ Ce top:=mkL (Z:=(Unit)⊕((Unit)⊕(Unit))) (Bm N) [B4 N,Bg N,Bq N,By N,Cc N,Er N,Hi N,Kr N] Q8 Q7 (fun m p=>Ly N m p.1.1) [Om,Py,Oo] (fun m=>[A6b N (Ly N m)]) (fun k e=>match e with | .inl x=>k (.inl ((),())) | .inr (.inl x)=>k (.inr (.inl ((),()))) | .inr (.inr x)=>k (.inr (.inr (.inl ((),()))))) N (fun m p=>by kernel_rfl) (hg:=(by rintro _ _ (_ | _ | _)<;>rfl))
noncomputable def Ah0(N:Nat):Spec:=mkS 3 ⟨[],[]⟩ A8u (fun p=>Ww N) (fun k r=>k ((r,()),()))
theorem A4y(N:Nat):A2 Tryz.prog (Ah0 N):=mkF (R:=Bool) (m0:=0) (Bm N) [B4 N,Bg N,Bq N,By N,Cc N,Er N,Hi N,Kr N,A67 N] (fun r=>some r.1.1) [] Tryz.func3 (fun p=>by kernel_rfl) (by kernel_rfl) (fun _=>by kernel_rfl)

end Go.Proofs.YtfcnhnbnjdccfaaGreat

namespace Go.Proofs.YtfcnhnbnjdccfaaGreat
set_option linter.all false
open Go
theorem A9b:Ww 1100=some true:=by kernel_rfl
end Go.Proofs.YtfcnhnbnjdccfaaGreat

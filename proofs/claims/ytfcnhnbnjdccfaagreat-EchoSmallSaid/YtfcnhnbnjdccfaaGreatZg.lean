/-
  Parts of a proof, put together: Pl19, Pl20, Pl21, Pl22, Pl23, Pl30, Pl31, Pl32, Pl33, Pl34.
  Conditions: none.
-/
import Derived.Test.YtfcnhnbnjdccfaaGreatZe
import Derived.Test.YtfcnhnbnjdccfaaGreatZf
namespace Go.Proofs.YtfcnhnbnjdccfaaGreat
set_option linter.all false
open Go

section
variable {N:Nat} {T:List (List Int)} {H A B:List Int} {f:Int}
abbrev keyT:Ty:=.pair (.int .i64) (.pair (.int .i64) (.int .i64))
abbrev keyA(x:At3):Int×Int×Int:=(((x.1:Nat):Int),((x.2.1:Nat):Int),((x.2.2:Nat):Int))
def hasK(m:Memo)(x:At3):Bool:=(m.find? fun y=>Ty.beq keyT y.1 (keyA x)).isSome
theorem Ic{m:Memo}{x z:At3}{v:Int×Int}:hasK ((keyA x,v)::m) z=true↔z=x∨hasK m z=true:=by
 unfold hasK
 rw[List.find?_cons]
 by_cases e:Ty.beq keyT (keyA x) (keyA z)=true
 ·rw[e]
  have:=(Cn (y:=keyT) rfl).1 e
  simp only[keyA,Prod.mk.injEq]at this
  have:z=x:=by
   obtain⟨a,b,c⟩:=x
   obtain⟨a',b',c'⟩:=z
   dsimp only at this
   simp only[Prod.mk.injEq];omega
  simp[this]
 ·have e':Ty.beq keyT (keyA x) (keyA z)=false:=by simpa using e
  rw[e']
  constructor
  ·exact fun h=>.inr h
  ·rintro (rfl | h)
   ·exact absurd ((Cn (y:=keyT) rfl).2 rfl) e
   ·exact h
def Grow(m m':Memo):Prop:=∀z,hasK m z=true→hasK m' z=true
def MOK(H A B:List Int)(m:Memo):Prop:=Cd mayA H A B m∧∀x:At3,hasK m x=true→x.1<H.length→∀mv∈Ac A B (H.getD x.1 0) x,mv.2.1<H.length→hasK m mv.2=true
theorem MOK.cons{m:Memo}(h:MOK H A B m){x:At3}(hk:∀mv∈Ac A B (H.getD x.1 0) x,mv.2.1<H.length→hasK m mv.2=true):MOK H A B ((keyA x,tv mayA H A B x)::m):=by
 refine⟨h.1.cons x,fun z hz hlt mv hmv hl=>Ic.2 (.inr ?_)⟩
 rcases Ic.1 hz with rfl | hz
 ·exact hk mv hmv hl
 ·exact h.2 z hz hlt mv hmv hl
theorem MOK.nil:MOK H A B []:=⟨Cd.nil _ _ _ _,fun x h=>by cases h⟩
theorem Xr{self:Int→Int→Int→Desk→Desk→Memo→Option (Int×Int×Desk×Memo)}{h n:Nat}(hH:n≤9)(hA:A.length≤6)(hB:B.length≤6){u:Int×Int×Int}{u2:Desk}{x x2 x3 g3 g4:Int}
  (hself:∀(y:At3) (m:Memo),y.1=h+1→y.2.1≤A.length→y.2.2≤B.length→MOK H A B m→∃m',self y.1 y.2.1 y.2.2 (T,H,f,A,B) (T,H,f,A,B) m=some ((tvx mayA H A B n y).1,(tvx mayA H A B n y).2,(T,H,f,A,B),m')∧MOK H A B m'∧Grow m m'∧(y.1<H.length→hasK m' y=true)) :
  ∀(ms:List Mv) (m:Memo) (c:Nat) (best:Int×Int),(∀mv∈ms,mv.2.1=h+1∧mv.2.2.1≤A.length∧mv.2.2.2≤B.length)→MOK H A B m→Bst n c best→c+ms.length≤13 →
   ∃m',resta_l1 N self (ms.map movP) u u2 (T,H,f,A,B) m x x2 x3 g3 g4 best.1 best.2=some ((T,H,f,A,B),m',x,x2,x3,g3,g4,(ms.foldl (stepT mayA h (tvx mayA H A B n)) best).1,(ms.foldl (stepT mayA h (tvx mayA H A B n)) best).2)∧MOK H A B m'∧Grow m m'∧∀mv∈ms,mv.2.1<H.length→hasK m' mv.2=true
 | [],m,c,best,_,hm,_,_=>⟨m,rfl,hm,fun _ h=>h,fun _ h=>(by cases h)⟩
 | mv::ms,m,c,best,hv,hm,hb,hc=>by
  obtain⟨hv1,hv2,hv3⟩:=hv mv (by simp)
  obtain⟨m1,he,hm1,hg1,hk1⟩:=hself mv.2 m hv1 hv2 hv3 hm
  have ht:=Jv mayA (H:=H) hA hB n mv.2
  have hb':=Ih (may:=mayA) (h:=h) (t:=tvx mayA H A B n) (m:=mv) ht hb
  obtain⟨m2,h2,hm2,hg2,hk2⟩:=Xr (u:=u) (u2:=u2) (x:=x) (x2:=x2) (x3:=x3) (g3:=g3) (g4:=g4) hH hA hB hself ms m1 (c+1) _ (fun v hv'=>hv v (by simp[hv'])) hm1 hb' (by simp only[List.length_cons]at hc;omega)
  refine⟨m2,?_,hm2,fun z hz=>hg2 z (hg1 z hz),fun v hv' hlt=>?_⟩
  rotate_left
  ·rcases List.mem_cons.1 hv' with rfl | hv'
   ·exact hg2 _ (hk1 hlt)
   ·exact hk2 v hv' hlt
  rw[List.map_cons,List.foldl_cons,←h2]
  have hp:=Akq (n:=n) (by omega)
  have hbb:(((c+1)*13 ^ n:Nat):Int)≤13*137858491849:=by
   have:(c+1)*13 ^ n≤13*137858491849:=Nat.mul_le_mul (by simp only[List.length_cons]at hc;omega) hp
   omega
  have hb2:best.2+(tvx mayA H A B n mv.2).2≤13*137858491849:=by
   have e:(((c+1)*13 ^ n:Nat):Int)=((c*13 ^ n:Nat):Int)+((13 ^ n:Nat):Int):=by rw[Nat.succ_mul];simp
   have:=hb.2.2.2
   have:=ht.2.2.2
   omega
  have h0:=hb.2.2.1
  have h1:=ht.2.2.1
  have hn1:=ht.1
  have hn2:=ht.2.1
  simp only[resta_l1,E0,movP,A3w,Option.bind_some,Bool.not_true,A6]
  rw[he]
  have hst:stepT mayA h (tvx mayA H A B n) best mv=(if best.1<wT mv.1.1 (tvx mayA H A B n mv.2).1 then(wT mv.1.1 (tvx mayA H A B n mv.2).1,(tvx mayA H A B n mv.2).2)else if wT mv.1.1 (tvx mayA H A B n mv.2).1=best.1 then(best.1,best.2+(tvx mayA H A B n mv.2).2)else best):=by
   unfold stepT;exact if_pos rfl
  rw[hst]
  simp only[Option.bind_some,wT]
  clear hst h2 he hb' hself
  generalize tvx mayA H A B n mv.2=t at *
  obtain⟨tw,ty⟩:=t
  obtain⟨bw,by_⟩:=best
  simp only at *
  by_cases c1:0≤tw
  ·rw[A4 c1]
   by_cases c2:mv.1.1=3
   ·refine(Bk c2).trans ?_
    have c2':¬(0≤tw∧mv.1.1≠3):=fun h=>h.2 c2
    rw[if_neg c2']
    by_cases c3:bw<tw
    ·rw[A4 c3,if_pos c3]
    ·rw[A3 c3,if_neg c3]
     by_cases c4:tw=bw
     ·rw[A4 c4,if_pos c4,A5 (by omega)]
     ·rw[A3 c4,if_neg c4]
   ·refine(Al c2).trans ?_
    have c2':0≤tw∧mv.1.1≠3:=⟨c1,c2⟩
    rw[A5 (by omega),if_pos c2']
    by_cases c3:bw<tw+1
    ·rw[A4 c3,if_pos c3]
    ·rw[A3 c3,if_neg c3]
     by_cases c4:tw+1=bw
     ·rw[A4 c4,if_pos c4,A5 (by omega)]
     ·rw[A3 c4,if_neg c4]
  ·have c2':¬(0≤tw∧mv.1.1≠3):=fun h=>c1 h.1
   rw[A3 c1,if_neg c2']
   by_cases c3:bw<tw
   ·rw[A4 c3,if_pos c3]
   ·rw[A3 c3,if_neg c3]
    by_cases c4:tw=bw
    ·rw[A4 c4,if_pos c4,A5 (by omega)]
    ·rw[A3 c4,if_neg c4]
theorem A20(hH:H.length≤10)(hA:A.length≤6)(hB:B.length≤6):∀(fu:Nat) (x:At3) (m:Memo),H.length<fu+x.1→x.1≤H.length→x.2.1≤A.length→x.2.2≤B.length→MOK H A B m →
  ∃m',Dc N fu x.1 x.2.1 x.2.2 (T,H,f,A,B) (T,H,f,A,B) m=some ((tv mayA H A B x).1,(tv mayA H A B x).2,(T,H,f,A,B),m')∧MOK H A B m'∧Grow m m'∧(x.1<H.length→hasK m' x=true)
 | 0,x,m,h,h1,_,_,_=>by omega
 | fu+1,x,m,h,hx,ha,hb,hm=>by
  show ∃m',resta_S N (Dc N fu) x.1 x.2.1 x.2.2 (T,H,f,A,B) (T,H,f,A,B) m=_∧_
  unfold resta_S
  by_cases c1:x.1=H.length
  ·rw[A4 (by dsimp only;omega)]
   refine⟨m,?_,hm,fun _ h=>h,fun h=>by omega⟩
   simp[tv,tvx,c1]
  ·rw[A3 (by dsimp only;omega)]
   cases hf:m.find? (fun y=>Ty.beq (.pair (.int .i64) (.pair (.int .i64) (.int .i64))) y.1 (((x.1:Nat):Int),((x.2.1:Nat):Int),((x.2.2:Nat):Int)))with
   | some e=>
    have:=hm.1.find x hf
    refine⟨m,?_,hm,fun _ h=>h,fun _=>by unfold hasK;rw[hf];rfl⟩
    simp[br,this]
   | none=>
    simp only[Option.isSome_none,A6,Gk,Option.bind_some]
    have hnx:D3 (((x.1:Nat):Int),((x.2.1:Nat):Int),((x.2.2:Nat):Int)) (T,H,f,A,B)=some ((Ac A B (H.getD x.1 0) x).map movP):=by
     unfold D3
     rw[if_pos (by dsimp only;omega)]
     simp only[Int.toNat_natCast]
    rw[hnx]
    simp only[Option.bind_some]
    obtain⟨n,hn⟩:∃n,H.length-x.1=n+1:=⟨H.length-x.1-1,by omega⟩
    obtain⟨m1,h2,hm1,hg1,hk1⟩:=Xr (N:=N) (T:=T) (f:=f) (self:=Dc N fu) (h:=x.1) (n:=n) (u:=(((x.1:Nat):Int),((x.2.1:Nat):Int),((x.2.2:Nat):Int))) (u2:=(T,H,f,A,B)) (x:=x.1) (x2:=x.2.1) (x3:=x.2.2) (g3:=0) (g4:=0) (by omega) hA hB (fun y m' hy hya hyb hm'=>by
     have:=A20 hH hA hB fu y m' (by omega) (by omega) hya hyb hm'
     rw[show tv mayA H A B y=tvx mayA H A B n y by unfold tv;rw[show H.length-y.1=n by omega]]at this
     exact this) (Ac A B (H.getD x.1 0) x) m 0 (-1,0) (fun mv hv=>Dv ha hb hv) hm (by refine⟨?_,?_,?_,?_⟩<;>simp;omega) (by have:=Gt A B (H.getD x.1 0) x;omega)
    have e:(Ac A B (H.getD x.1 0) x).foldl (stepT mayA x.1 (tvx mayA H A B n)) (-1,0)=tv mayA H A B x:=by
     unfold tv;rw[hn,tvx]
    rw[e]at h2
    rw[h2]
    exact⟨_,rfl,hm1.cons hk1,fun z hz=>Ic.2 (.inr (hg1 z hz)),fun _=>Ic.2 (.inl rfl)⟩
theorem Ajm(hN:12≤N)(hH:H.length≤10)(hA:A.length≤6)(hB:B.length≤6):∃m,Gm N (T,H,f,A,B)=some m∧MOK H A B m∧(0<H.length→hasK m (0,0,0)=true):=by
 unfold Gm M4
 obtain⟨m,h,hm,_,hk⟩:=A20 (N:=N) (T:=T) (f:=f) hH hA hB N (0,0,0) [] (by dsimp only;omega) (by dsimp only;omega) (by dsimp only;omega) (by dsimp only;omega) MOK.nil
 simp only[Int.natCast_zero]at h
 rw[h]
 refine⟨_,rfl,?_,fun _=>Ic (x:=(0,0,0)).2 (.inl rfl)⟩
 by_cases c:0<H.length
 ·exact hm.cons (fun mv hmv hl=>hm.2 _ (hk c) c mv hmv hl)
 ·refine⟨hm.1.cons (0,0,0),fun z hz hlt=>by omega⟩
def look(m:Memo)(x:At3):Int:=(((m.find? fun y=>Ty.beq keyT y.1 (keyA x)).map (·.2)).getD (Ty.dflt (.pair (.int .i64) (.int .i64)))).1
theorem Ak7{m:Memo}(h:MOK H A B m){x:At3}(hx:hasK m x=true∨x.1=H.length):look m x=(tv mayA H A B x).1:=by
 unfold look
 cases hf:m.find? fun y=>Ty.beq keyT y.1 (keyA x)with
 | some e=>
  have:=h.1.find x hf
  simp[this]
 | none=>
  rcases hx with hx | hx
  ·unfold hasK at hx;rw[hf]at hx;cases hx
  ·simp[tv,tvx,hx,Ty.dflt]
def wTn(m:Memo)(mv:Mv):Int:=if mv.1.1=3 then look m mv.2 else look m mv.2+1
theorem Pl{m:Memo}{u:Int}{d u3:Desk}{u2:Int×Int×Int}{x:At3}{out:List (Int×Int)}(ho:out.length≤1000):∀ms:List Mv,(∀mv∈ms,-1≤look m mv.2∧look m mv.2≤100)→(∃mv∈ms,wTn m mv=look m x) →
  ∃mv∈ms,wTn m mv=look m x∧reading_l2 N (ms.map movP) u d u2 u3 x.1 x.2.1 x.2.2 m out=some (u,d,((mv.2.1:Nat):Int),((mv.2.2.1:Nat):Int),((mv.2.2.2:Nat):Int),m,out++[mv.1])
 | [],_,h=>by obtain⟨_,h,_⟩:=h;cases h
 | mv::ms,hb,he=>by
  have hb0:=hb mv (by simp)
  have el:(((m.find? fun y=>Ty.beq keyT y.1 (((mv.2.1:Nat):Int),((mv.2.2.1:Nat):Int),((mv.2.2.2:Nat):Int))).map (·.2)).getD (Ty.dflt (.pair (.int .i64) (.int .i64)))).1=look m mv.2:=rfl
  have ex:(((m.find? fun y=>Ty.beq keyT y.1 (((x.1:Nat):Int),((x.2.1:Nat):Int),((x.2.2:Nat):Int))).map (·.2)).getD (Ty.dflt (.pair (.int .i64) (.int .i64)))).1=look m x:=rfl
  have st:reading_l2 N ((mv::ms).map movP) u d u2 u3 x.1 x.2.1 x.2.2 m out=if wTn m mv=look m x then some (u,d,((mv.2.1:Nat):Int),((mv.2.2.1:Nat):Int),((mv.2.2.2:Nat):Int),m,out++[mv.1])else reading_l2 N (ms.map movP) u d u2 u3 x.1 x.2.1 x.2.2 m out:=by
   rw[List.map_cons,reading_l2,Db]
   dsimp only[movP]
   by_cases c:mv.1.1=3
   ·have hw:wTn m mv=look m mv.2:=if_pos c
    refine(Bk c).trans ?_
    rw[hw]
    by_cases c2:look m mv.2=look m x
    ·rw[if_pos c2]
     refine(A4 c2).trans ?_
     rw[Bd (by simp;omega)]
    ·rw[if_neg c2]
     exact A3 c2
   ·have hw:wTn m mv=look m mv.2+1:=if_neg c
    refine(Al c).trans ?_
    refine(A5 (by rw[el];omega)).trans ?_
    rw[hw]
    by_cases c2:look m mv.2+1=look m x
    ·rw[if_pos c2]
     refine(A4 c2).trans ?_
     rw[Bd (by simp;omega)]
    ·rw[if_neg c2]
     exact A3 c2
  rw[st]
  by_cases c:wTn m mv=look m x
  ·rw[if_pos c]
   exact⟨mv,by simp,c,rfl⟩
  ·rw[if_neg c]
   obtain⟨v,hv,h1,h2⟩:=Pl (u:=u) (d:=d) (u3:=u3) (u2:=u2) (x:=x) ho ms (fun v hv=>hb v (by simp[hv])) (by
    obtain⟨v,hv,e⟩:=he
    rcases List.mem_cons.1 hv with rfl | hv
    ·exact absurd e c
    ·exact⟨v,hv,e⟩)
   exact⟨v,by simp[hv],h1,h2⟩
end
end Go.Proofs.YtfcnhnbnjdccfaaGreat

namespace Go.Proofs.YtfcnhnbnjdccfaaGreat
set_option linter.all false
open Go

section
variable {N:Nat} {T:List (List Int)} {H A B:List Int} {f a b:Int}
theorem Oa(hH:H.length≤10)(hA:A.length≤6)(hB:B.length≤6){u:Int}{m:Memo}(hm:MOK H A B m):∀(k n:Nat) (x:At3) (out:List (Int×Int)),H.length=x.1+k→k<n→x.2.1≤A.length→x.2.2≤B.length→(x.1<H.length→hasK m x=true)→out.length+k≤100 →
  ∃r∈rdx H A B k x,toldN r=(tvx mayA H A B k x).1∧reading_l1 N n u (T,H,f,A,B) x.1 x.2.1 x.2.2 m out=some (out++r)
 | k,0,x,out,_,h,_,_,_,_=>by omega
 | 0,n+1,x,out,hk,_,_,_,_,_=>by
  refine⟨[],by simp[rdx],by simp[toldN,tvx],?_⟩
  unfold reading_l1
  rw[A3 (by dsimp only;omega),List.append_nil]
 | k+1,n+1,x,out,hk,hn,ha,hb,hx,ho=>by
  have hxl:x.1<H.length:=by omega
  have tve:∀(j:Nat) (y:At3),H.length=y.1+j→tv mayA H A B y=tvx mayA H A B j y:=fun j y hy=>by unfold tv;rw[show H.length-y.1=j by omega]
  have hmv:∀mv∈Ac A B (H.getD x.1 0) x,look m mv.2=(tvx mayA H A B k mv.2).1:=fun mv hmv=>by
   obtain⟨h1,_,_⟩:=Dv ha hb hmv
   rw[Ak7 hm,tve k _ (by omega)]
   rcases Nat.lt_or_ge mv.2.1 H.length with c | c
   ·exact .inl (hm.2 x (hx hxl) hxl mv hmv c)
   ·exact .inr (by omega)
  have hlx:look m x=(tvx mayA H A B (k+1) x).1:=by
   rw[Ak7 hm (.inl (hx hxl)),tve (k+1) _ hk]
  have hex:∃mv∈Ac A B (H.getD x.1 0) x,wTn m mv=look m x:=by
   have nn:=C6 H A B (h:=x.1) (i:=x.2.1) (k:=x.2.2) hk
   rw[show((x.1,x.2.1,x.2.2):At3)=x from rfl]at nn
   rw[hlx,tvx]
   rw[tvx]at nn
   rcases Pq (h:=x.1) (t:=tvx mayA H A B k) (Ac A B (H.getD x.1 0) x) (-1,0)with h1 | ⟨mv,hmm,h1⟩
   ·rw[h1]at nn;exact absurd nn (by decide)
   ·obtain⟨hy,_,_⟩:=Dv ha hb hmm
    have h0:=C6 H A B (h:=mv.2.1) (i:=mv.2.2.1) (k:=mv.2.2.2) (n:=k) (by omega)
    rw[show((mv.2.1,mv.2.2.1,mv.2.2.2):At3)=mv.2 from rfl]at h0
    refine⟨mv,hmm,?_⟩
    rw[h1]
    unfold wTn wT
    rw[hmv mv hmm]
    by_cases c:mv.1.1=3
    ·rw[if_pos c,if_neg (fun h=>h.2 c)]
    ·rw[if_neg c,if_pos ⟨h0,c⟩]
  obtain⟨mv,hmm,hw,e⟩:=Pl (N:=N) (u:=u) (d:=(T,H,f,A,B)) (u3:=(T,H,f,A,B)) (u2:=(((x.1:Nat):Int),((x.2.1:Nat):Int),((x.2.2:Nat):Int))) (x:=x) (out:=out) (by omega) (Ac A B (H.getD x.1 0) x) (fun mv hmm=>by
   have:=Jv mayA (H:=H) hA hB k mv.2
   rw[hmv mv hmm]
   have h1:=this.1;have h2:=this.2.1
   omega) hex
  obtain⟨hy,hya,hyb⟩:=Dv ha hb hmm
  obtain⟨r,hr,er,e2⟩:=Oa hH hA hB hm k n mv.2 (out++[mv.1]) (by omega) (by omega) hya hyb (fun hl=>hm.2 x (hx hxl) hxl mv hmm hl) (by rw[List.length_append,List.length_singleton];omega)
  refine⟨mv.1::r,List.mem_flatMap.2 ⟨mv,hmm,List.mem_map.2 ⟨r,hr,rfl⟩⟩,?_,?_⟩
  ·rw[←hlx,←hw]
   unfold toldN wTn
   rw[hmv mv hmm,er]
   split<;>omega
  ·unfold reading_l1
   rw[A4 (by dsimp only;omega)]
   simp only[Gk,Option.bind_some]
   have nx:=Aeb (T:=T) (f:=f) hxl hH hA hB ha hb
   rw[show((x.1,x.2.1,x.2.2):At3)=x from rfl]at nx
   rw[nx]
   simp only[Option.bind_some]
   rw[e]
   simp only[Option.bind_some]
   rw[e2,List.append_assoc];rfl
theorem Agp(hN:20≤N)(h:Ao T H f a b=0):∃r∈Dp H (T.getD a.toNat []) (T.getD b.toNat []),toldN r=(tv mayA H (T.getD a.toNat []) (T.getD b.toNat []) (0,0,0)).1∧reading_S N T H f a b=some (r,0):=by
 obtain⟨hF,ha,hb,e⟩:=Ap hN h
 have hH:=hF.h
 have lA:=hF.l (T.getD a.toNat []) (Aa (by omega))
 have lB:=hF.l (T.getD b.toNat []) (Aa (by omega))
 obtain⟨m,em,hm,hk⟩:=Ajm (N:=N) (T:=T) (f:=f) (by omega) hH lA.2 lB.2
 obtain⟨r,hr,er,e2⟩:=Oa (N:=N) (T:=T) (f:=f) (u:=0) hH lA.2 lB.2 hm H.length N (0,0,0) [] (by simp) (by omega) (Nat.zero_le _) (Nat.zero_le _) hk (by simp;omega)
 refine⟨r,hr,er,?_⟩
 unfold reading_S
 rw[e]
 simp only[Option.bind_some,decide_true,Bool.not_true,A6,Eu]
 rw[em]
 simp only[Option.bind_some]
 dsimp only at e2
 rw[show((0:Nat):Int)=0 from rfl]at e2
 rw[e2];rfl
theorem A79(hN:20≤N)(h:Ao T H f a b≠0):reading_S N T H f a b=some ([],Ao T H f a b):=by
 unfold reading_S
 rw[Bu hN h]
 simp only[Option.bind_some]
 rw[Al h]
end
end Go.Proofs.YtfcnhnbnjdccfaaGreat

namespace Go.Proofs.YtfcnhnbnjdccfaaGreat
set_option linter.all false
open Go
def mayS(i:Nat)(s:Int):Nat→Int×Int→Bool:=fun h q=>decide (h≠i) || decide (q.1=s)
section
variable {N:Nat} {T:List (List Int)} {H A B:List Int} {f:Int}
theorem Yj{h i:Nat}{s p p2:Int}:Vx N h p p2 i s=some (mayS i s h (p,p2)):=by
 unfold Vx mayS
 by_cases c:h=i
 ·rw[Bk (by omega)];simp[c]
 ·rw[Al (by omega)];simp[c]
theorem Ng{self:Int→Int→Int→Desk→Int→Int→Desk→Int→Int→Memo→Option (Int×Int×Desk×Int×Int×Memo)}{h n i:Nat}{s:Int}(hH:n≤9)(hA:A.length≤6)(hB:B.length≤6){u:Int×Int×Int}{u2:Desk}{x2 x3 g3 g4:Int}
  (hself:∀(y:At3) (m:Memo),y.1=h+1→y.2.1≤A.length→y.2.2≤B.length→Cd (mayS i s) H A B m→∃m',self y.1 y.2.1 y.2.2 (T,H,f,A,B) i s (T,H,f,A,B) i s m=some ((tvx (mayS i s) H A B n y).1,(tvx (mayS i s) H A B n y).2,(T,H,f,A,B),(i:Int),s,m')∧Cd (mayS i s) H A B m') :
  ∀(ms:List Mv) (m:Memo) (c:Nat) (best:Int×Int),(∀mv∈ms,mv.2.1=h+1∧mv.2.2.1≤A.length∧mv.2.2.2≤B.length)→Cd (mayS i s) H A B m→Bst n c best→c+ms.length≤13 →
   ∃m',rests_l1 N self (ms.map movP) i s u u2 (T,H,f,A,B) i s m h x2 x3 g3 g4 best.1 best.2=some ((T,H,f,A,B),(i:Int),s,m',(h:Int),x2,x3,g3,g4,(ms.foldl (stepT (mayS i s) h (tvx (mayS i s) H A B n)) best).1,(ms.foldl (stepT (mayS i s) h (tvx (mayS i s) H A B n)) best).2)∧Cd (mayS i s) H A B m'
 | [],m,c,best,_,hm,_,_=>⟨m,rfl,hm⟩
 | mv::ms,m,c,best,hv,hm,hb,hc=>by
  obtain⟨hv1,hv2,hv3⟩:=hv mv (by simp)
  by_cases cm:mayS i s h mv.1=true
  rotate_left
  ·have hst:stepT (mayS i s) h (tvx (mayS i s) H A B n) best mv=best:=by
    unfold stepT;exact if_neg cm
   have hb':=Ih (may:=mayS i s) (h:=h) (t:=tvx (mayS i s) H A B n) (m:=mv) (Jv (mayS i s) (H:=H) hA hB n mv.2) hb
   rw[hst]at hb'
   obtain⟨m2,h2,hm2⟩:=Ng (u:=u) (u2:=u2) (x2:=x2) (x3:=x3) (g3:=g3) (g4:=g4) hH hA hB hself ms m (c+1) _ (fun v hv'=>hv v (by simp[hv'])) hm hb' (by simp only[List.length_cons]at hc;omega)
   refine⟨m2,?_,hm2⟩
   rw[List.map_cons,List.foldl_cons,hst,←h2]
   rw[Bool.not_eq_true]at cm
   simp only[rests_l1,Ea,movP,Yj,Option.bind_some]
   rw[cm];rfl
  obtain⟨m1,he,hm1⟩:=hself mv.2 m hv1 hv2 hv3 hm
  have ht:=Jv (mayS i s) (H:=H) hA hB n mv.2
  have hb':=Ih (may:=(mayS i s)) (h:=h) (t:=tvx (mayS i s) H A B n) (m:=mv) ht hb
  obtain⟨m2,h2,hm2⟩:=Ng (u:=u) (u2:=u2) (x2:=x2) (x3:=x3) (g3:=g3) (g4:=g4) hH hA hB hself ms m1 (c+1) _ (fun v hv'=>hv v (by simp[hv'])) hm1 hb' (by simp only[List.length_cons]at hc;omega)
  refine⟨m2,?_,hm2⟩
  rw[List.map_cons,List.foldl_cons,←h2]
  have hp:=Akq (n:=n) (by omega)
  have hbb:(((c+1)*13 ^ n:Nat):Int)≤13*137858491849:=by
   have:(c+1)*13 ^ n≤13*137858491849:=Nat.mul_le_mul (by simp only[List.length_cons]at hc;omega) hp
   omega
  have hb2:best.2+(tvx (mayS i s) H A B n mv.2).2≤13*137858491849:=by
   have e:(((c+1)*13 ^ n:Nat):Int)=((c*13 ^ n:Nat):Int)+((13 ^ n:Nat):Int):=by rw[Nat.succ_mul];simp
   have:=hb.2.2.2
   have:=ht.2.2.2
   omega
  have h0:=hb.2.2.1
  have h1:=ht.2.2.1
  have hn1:=ht.1
  have hn2:=ht.2.1
  simp only[rests_l1,Ea,movP,Yj,Option.bind_some]
  rw[cm]
  simp only[Bool.not_true,A6]
  rw[he]
  have hst:stepT (mayS i s) h (tvx (mayS i s) H A B n) best mv=(if best.1<wT mv.1.1 (tvx (mayS i s) H A B n mv.2).1 then(wT mv.1.1 (tvx (mayS i s) H A B n mv.2).1,(tvx (mayS i s) H A B n mv.2).2)else if wT mv.1.1 (tvx (mayS i s) H A B n mv.2).1=best.1 then(best.1,best.2+(tvx (mayS i s) H A B n mv.2).2)else best):=by
   unfold stepT;exact if_pos cm
  rw[hst]
  simp only[Option.bind_some,wT]
  clear hst h2 he hb' hself
  generalize tvx (mayS i s) H A B n mv.2=t at *
  obtain⟨tw,ty⟩:=t
  obtain⟨bw,by_⟩:=best
  simp only at *
  by_cases c1:0≤tw
  ·rw[A4 c1]
   by_cases c2:mv.1.1=3
   ·refine(Bk c2).trans ?_
    have c2':¬(0≤tw∧mv.1.1≠3):=fun h=>h.2 c2
    rw[if_neg c2']
    by_cases c3:bw<tw
    ·rw[A4 c3,if_pos c3]
    ·rw[A3 c3,if_neg c3]
     by_cases c4:tw=bw
     ·rw[A4 c4,if_pos c4,A5 (by omega)]
     ·rw[A3 c4,if_neg c4]
   ·refine(Al c2).trans ?_
    have c2':0≤tw∧mv.1.1≠3:=⟨c1,c2⟩
    rw[A5 (by omega),if_pos c2']
    by_cases c3:bw<tw+1
    ·rw[A4 c3,if_pos c3]
    ·rw[A3 c3,if_neg c3]
     by_cases c4:tw+1=bw
     ·rw[A4 c4,if_pos c4,A5 (by omega)]
     ·rw[A3 c4,if_neg c4]
  ·have c2':¬(0≤tw∧mv.1.1≠3):=fun h=>c1 h.1
   rw[A3 c1,if_neg c2']
   by_cases c3:bw<tw
   ·rw[A4 c3,if_pos c3]
   ·rw[A3 c3,if_neg c3]
    by_cases c4:tw=bw
    ·rw[A4 c4,if_pos c4,A5 (by omega)]
    ·rw[A3 c4,if_neg c4]
theorem A29{i:Nat}{s:Int}(hH:H.length≤10)(hA:A.length≤6)(hB:B.length≤6):∀(fu:Nat) (x:At3) (m:Memo),H.length<fu+x.1→x.1≤H.length→x.2.1≤A.length→x.2.2≤B.length→Cd (mayS i s) H A B m →
  ∃m',He N fu x.1 x.2.1 x.2.2 (T,H,f,A,B) i s (T,H,f,A,B) i s m=some ((tv (mayS i s) H A B x).1,(tv (mayS i s) H A B x).2,(T,H,f,A,B),(i:Int),s,m')∧Cd (mayS i s) H A B m'
 | 0,x,m,h,h1,_,_,_=>by omega
 | fu+1,x,m,h,hx,ha,hb,hm=>by
  show ∃m',Vz N (He N fu) x.1 x.2.1 x.2.2 (T,H,f,A,B) i s (T,H,f,A,B) i s m=_∧_
  unfold Vz
  by_cases c1:x.1=H.length
  ·rw[A4 (by dsimp only;omega)]
   refine⟨m,?_,hm⟩
   simp[tv,tvx,c1]
  ·rw[A3 (by dsimp only;omega)]
   cases hf:m.find? (fun y=>Ty.beq (.pair (.int .i64) (.pair (.int .i64) (.int .i64))) y.1 (((x.1:Nat):Int),((x.2.1:Nat):Int),((x.2.2:Nat):Int)))with
   | some e=>
    have:=hm.find x hf
    refine⟨m,?_,hm⟩
    simp[br,this]
   | none=>
    simp only[Option.isSome_none,A6,Gk,Option.bind_some]
    have hnx:D3 (((x.1:Nat):Int),((x.2.1:Nat):Int),((x.2.2:Nat):Int)) (T,H,f,A,B)=some ((Ac A B (H.getD x.1 0) x).map movP):=by
     unfold D3
     rw[if_pos (by dsimp only;omega)]
     simp only[Int.toNat_natCast]
    rw[hnx]
    simp only[Option.bind_some]
    obtain⟨n,hn⟩:∃n,H.length-x.1=n+1:=⟨H.length-x.1-1,by omega⟩
    obtain⟨m1,h2,hm1⟩:=Ng (N:=N) (T:=T) (f:=f) (self:=He N fu) (h:=x.1) (n:=n) (i:=i) (s:=s) (u:=(((x.1:Nat):Int),((x.2.1:Nat):Int),((x.2.2:Nat):Int))) (u2:=(T,H,f,A,B)) (x2:=x.2.1) (x3:=x.2.2) (g3:=0) (g4:=0) (by omega) hA hB (fun y m' hy hya hyb hm'=>by
     have:=A29 hH hA hB fu y m' (by omega) (by omega) hya hyb hm'
     rw[show tv (mayS i s) H A B y=tvx (mayS i s) H A B n y by unfold tv;rw[show H.length-y.1=n by omega]]at this
     exact this) (Ac A B (H.getD x.1 0) x) m 0 (-1,0) (fun mv hv=>Dv ha hb hv) hm (by refine⟨?_,?_,?_,?_⟩<;>simp;omega) (by have:=Gt A B (H.getD x.1 0) x;omega)
    have e:(Ac A B (H.getD x.1 0) x).foldl (stepT (mayS i s) x.1 (tvx (mayS i s) H A B n)) (-1,0)=tv (mayS i s) H A B x:=by
     unfold tv;rw[hn,tvx]
    rw[e]at h2
    rw[h2]
    exact⟨_,rfl,hm1.cons x⟩
theorem Ajj{i:Nat}{s:Int}(hN:12≤N)(hH:H.length≤10)(hA:A.length≤6)(hB:B.length≤6):R9 N (T,H,f,A,B) i s=some (tv (mayS i s) H A B (0,0,0)):=by
 unfold R9 Yg Rk
 obtain⟨m,h,hm⟩:=A29 (N:=N) (T:=T) (f:=f) (i:=i) (s:=s) hH hA hB N (0,0,0) [] (by dsimp only;omega) (by dsimp only;omega) (by dsimp only;omega) (by dsimp only;omega) (Cd.nil _ _ _ _)
 simp only[Int.natCast_zero]at h
 rw[h]
 simp[Ty.beq]
end
end Go.Proofs.YtfcnhnbnjdccfaaGreat

namespace Go.Proofs.YtfcnhnbnjdccfaaGreat
set_option linter.all false
open Go

section
variable {N:Nat} {T:List (List Int)} {H A B:List Int} {f a b:Int}
def mayR(may:Nat→Int×Int→Bool):Nat→List (Int×Int)→Bool
 | _,[]=>true
 | h,q::r=>may h q&&mayR may (h+1) r
def Gd(C:List (List (Int×Int)))(v:Int×Int):Prop:=D9 C v∧(C=[]∧v.1=-1∨∃r∈C,toldN r=v.1)
theorem Gd.ge{C:List (List (Int×Int))}{v:Int×Int}(h:Gd C v):-1≤v.1:=by
 rcases h.2 with⟨_,h⟩ | ⟨r,_,h⟩
 ·omega
 ·have:=Fx r;omega
theorem Gd.add{may:Nat→Int×Int→Bool}{h:Nat}{t:At3→Int×Int}{m:Mv}{C D:List (List (Int×Int))}{best:Int×Int}(hb:Gd C best)(hd:Gd D (t m.2)):Gd (C++if may h m.1=true then D.map fun r=>m.1::r else []) (stepT may h t best m):=by
 by_cases c:may h m.1=true
 ·rw[if_pos c]
  have st:stepT may h t best m=stepT mayA h t best m:=by
   unfold stepT;rw[if_pos c];exact(if_pos rfl).symm
  rw[st]
  have st2:stepT mayA h t best m=(if best.1<wT m.1.1 (t m.2).1 then(wT m.1.1 (t m.2).1,(t m.2).2)else if wT m.1.1 (t m.2).1=best.1 then(best.1,best.2+(t m.2).2)else best):=by
   unfold stepT;exact if_pos rfl
  have hge:=hb.ge
  rcases hd.2 with⟨rfl,hv⟩ | ⟨r,hr,hv⟩
  ·have h2:=hd.1.2
   rw[List.countP_nil]at h2
   have hw:wT m.1.1 (t m.2).1=-1:=by
    unfold wT;rw[hv];exact if_neg (fun h=>absurd h.1 (by decide))
   rw[st2,hw,List.map_nil,List.append_nil,if_neg (by omega)]
   by_cases k:-1=best.1
   ·rw[if_pos k,h2]
    rw[show((best.1,best.2+((0:Nat):Int)):Int×Int)=best by simp]
    exact hb
   ·rw[if_neg k];exact hb
  ·have t0:=Fx r
   have h0:0≤(t m.2).1:=by omega
   refine⟨D9.add (n:=0) hb.1 hd.1 h0,.inr ?_⟩
   have hw:toldN (m.1::r)=wT m.1.1 (t m.2).1:=by
    unfold wT toldN
    by_cases c:m.1.1=3
    ·rw[if_pos c,if_neg (fun h=>h.2 c)];omega
    ·rw[if_neg c,if_pos ⟨h0,c⟩];omega
   rw[st2]
   by_cases k1:best.1<wT m.1.1 (t m.2).1
   ·rw[if_pos k1]
    exact⟨m.1::r,List.mem_append.2 (.inr (List.mem_map.2 ⟨r,hr,rfl⟩)),hw⟩
   ·rw[if_neg k1]
    have t1:=Fx (m.1::r)
    rcases hb.2 with⟨_,e⟩ | ⟨r',hr',e⟩
    ·omega
    ·refine⟨r',List.mem_append.2 (.inl hr'),?_⟩
     split<;>exact e
 ·have st:stepT may h t best m=best:=by
   unfold stepT;rw[if_neg c]
  rw[if_neg c,st,List.append_nil]
  exact hb
theorem Gd.fold{may:Nat→Int×Int→Bool}{h n:Nat}{t:At3→Int×Int}(hd:∀y,y.1=h+1→Gd ((rdx H A B n y).filter (mayR may (h+1))) (t y)):∀(ms:List Mv) (C:List (List (Int×Int))) (best:Int×Int),(∀m∈ms,m.2.1=h+1)→Gd C best→Gd (C++(ms.flatMap fun m=>(rdx H A B n m.2).map fun r=>m.1::r).filter (mayR may h)) (ms.foldl (stepT may h t) best)
 | [],C,best,_,hb=>by simpa using hb
 | m::ms,C,best,hm,hb=>by
  rw[List.flatMap_cons,List.filter_append,←List.append_assoc,List.foldl_cons]
  have e:((rdx H A B n m.2).map fun r=>m.1::r).filter (mayR may h)=if may h m.1=true then((rdx H A B n m.2).filter (mayR may (h+1))).map fun r=>m.1::r else []:=by
   rw[List.filter_map]
   by_cases c:may h m.1=true
   ·rw[if_pos c]
    congr 1
    apply List.filter_congr
    intro r _
    simp[mayR,c]
   ·rw[if_neg c]
    rw[Bool.not_eq_true]at c
    rw[List.map_eq_nil_iff,List.filter_eq_nil_iff]
    intro r _
    simp[mayR,c]
  rw[e]
  exact Gd.fold hd ms _ _ (fun m' h'=>hm m' (by simp[h'])) (Gd.add hb (hd m.2 (hm m (by simp))))
theorem A6m{w:Int}{x:At3}{m:Mv}(h:m∈Ac A B w x):m.2.1=x.1+1:=by
 simp only[Ac,List.mem_cons,List.mem_append,List.mem_map]at h
 rcases h with rfl | ⟨j,_,rfl⟩ | ⟨j,_,rfl⟩<;>rfl
theorem Aim(may:Nat→Int×Int→Bool):∀(n:Nat) (x:At3),H.length=x.1+n→Gd ((rdx H A B n x).filter (mayR may x.1)) (tvx may H A B n x)
 | 0,x,_=>by
  have e:(rdx H A B 0 x).filter (mayR may x.1)=[[]]:=rfl
  rw[e]
  exact⟨⟨fun r hr=>by simp at hr;subst hr;simp[tvx,toldN],by simp[tvx,toldN]⟩,.inr ⟨[],by simp,by simp[toldN,tvx]⟩⟩
 | n+1,x,hx=>by
  have:=Gd.fold (H:=H) (A:=A) (B:=B) (may:=may) (h:=x.1) (n:=n) (t:=tvx may H A B n) (fun y hy=>by have:=Aim may n y (by omega);rw[hy]at this;exact this) (Ac A B (H.getD x.1 0) x) [] (-1,0) (fun m hm=>A6m hm) ⟨⟨(fun r hr=>by cases hr),rfl⟩,.inl ⟨rfl,rfl⟩⟩
  exact this
theorem A1c{i:Nat}{s:Int}:∀(r:List (Int×Int)) (h:Nat),mayR (mayS i s) h r=(decide (i<h∨h+r.length≤i) || decide ((r.getD (i-h) (0,0)).1=s))
 | [],h=>by
  have:i<h∨h+([]:List (Int×Int)).length≤i:=by simp;omega
  rw[decide_eq_true this];rfl
 | q::r,h=>by
  rw[mayR,A1c r (h+1)]
  unfold mayS
  rw[List.length_cons]
  by_cases c:h=i
  ·subst c
   rw[decide_eq_true (show h<h+1∨h+1+r.length≤h by omega),decide_eq_false (show ¬(h<h∨h+(r.length+1)≤h)by omega)]
   simp
  ·rw[decide_eq_true (show h≠i from c)]
   by_cases c2:i<h
   ·rw[decide_eq_true (show i<h+1∨h+1+r.length≤i by omega),decide_eq_true (show i<h∨h+(r.length+1)≤i by omega)]
    rfl
   ·rw[show i-h=(i-(h+1))+1 by omega,List.getD_cons_succ]
    rw[show decide (i<h+1∨h+1+r.length≤i)=decide (i<h∨h+(r.length+1)≤i)by apply decide_eq_decide.2;omega]
    rfl
theorem Z9{α:Type}{p q:α→Bool}:∀ {l:List α},l.countP (fun x=>p x&&q x)=l.countP p→∀x∈l,p x=true→q x=true
 | [],_,x,hx,_=>by cases hx
 | y::l,h,x,hx,hp=>by
  rw[List.countP_cons,List.countP_cons]at h
  have le:l.countP (fun x=>p x&&q x)≤l.countP p:=List.countP_mono_left (fun x _ hx=>by simp only[Bool.and_eq_true]at hx;exact hx.1)
  have h1:l.countP (fun x=>p x&&q x)=l.countP p:=by
   cases hpy:p y<;>cases hqy:q y<;>simp[hpy,hqy]at h<;>omega
  rcases List.mem_cons.1 hx with rfl | hx
  ·cases hq:q x with
   | true=>rfl
   | false=>rw[hp,hq]at h;simp at h;omega
  ·exact Z9 h1 x hx hp
def Jz(H A B:List Int):List (List (Int×Int)):=(Dp H A B).filter fun r=>decide (toldN r=(tv mayA H A B (0,0,0)).1)
theorem A8i:∃r,r∈Jz H A B:=by
 obtain⟨r,hr,e⟩:=Ro (H:=H) (A:=A) (B:=B)
 exact⟨r,List.mem_filter.2 ⟨hr,by simpa using e⟩⟩
theorem A2i{r:List (Int×Int)}(h:r∈Jz H A B):r.length=H.length:=Gp H.length (0,0,0) r (List.mem_filter.1 h).1
def allS(H A B:List Int)(i:Nat)(s:Int):Bool:=(Jz H A B).all fun r=>decide ((r.getD i (0,0)).1=s)
theorem A1k{i:Nat}{s:Int}(hi:i<H.length):tv (mayS i s) H A B (0,0,0)=tv mayA H A B (0,0,0)↔allS H A B i s=true:=by
 have gd:Gd ((Dp H A B).filter (mayR (mayS i s) 0)) (tv (mayS i s) H A B (0,0,0)):=Aim (H:=H) (A:=A) (B:=B) (mayS i s) H.length (0,0,0) (by simp)
 have sid:∀r∈Dp H A B,mayR (mayS i s) 0 r=decide ((r.getD i (0,0)).1=s):=fun r hr=>by
  have hl:r.length=H.length:=Gp H.length (0,0,0) r hr
  rw[A1c,decide_eq_false (by omega)];simp
 have cnt:=Tt (H:=H) (A:=A) (B:=B)
 have le:=A5y (H:=H) (A:=A) (B:=B)
 obtain⟨r0,hr0,e0⟩:=Ro (H:=H) (A:=A) (B:=B)
 generalize tv (mayS i s) H A B (0,0,0)=W at gd ⊢
 unfold allS Jz
 generalize tv mayA H A B (0,0,0)=V at cnt le e0 ⊢
 have cp:((Dp H A B).filter (mayR (mayS i s) 0)).countP (fun r=>decide (toldN r=V.1))=(Dp H A B).countP fun r=>decide (toldN r=V.1)&&mayR (mayS i s) 0 r:=by
  rw[List.countP_filter]
 rw[List.all_eq_true]
 constructor
 ·rintro rfl r hr
  obtain⟨h1,h2⟩:=List.mem_filter.1 hr
  have:=gd.1.2
  rw[cp,cnt]at this
  rw[←sid r h1]
  exact Z9 (Int.ofNat.inj this).symm r h1 h2
 ·intro h
  have hs:∀r∈Dp H A B,toldN r=V.1→mayR (mayS i s) 0 r=true:=fun r hr e=>by
   rw[sid r hr]
   exact h r (List.mem_filter.2 ⟨hr,by simpa using e⟩)
  have m0:r0∈(Dp H A B).filter (mayR (mayS i s) 0):=List.mem_filter.2 ⟨hr0,hs r0 hr0 e0⟩
  have l1:=gd.1.1 r0 m0
  have e1:W.1=V.1:=by
   rcases gd.2 with⟨e,_⟩ | ⟨r,hr,e⟩
   ·rw[e]at m0;cases m0
   ·have:=le r (List.mem_filter.1 hr).1
    omega
  have e2:=gd.1.2
  rw[e1,cp]at e2
  have e3:((Dp H A B).countP fun r=>decide (toldN r=V.1)&&mayR (mayS i s) 0 r)=(Dp H A B).countP fun r=>decide (toldN r=V.1):=by
   apply List.countP_congr
   intro r hr
   simp only[Bool.and_eq_true,decide_eq_true_eq]
   exact⟨fun h=>h.1,fun e=>⟨e,hs r hr e⟩⟩
  rw[e3,←cnt]at e2
  exact Prod.ext e1 e2
def Hj(H A B:List Int)(i:Nat):Int:=if allS H A B i 1=true then 1 else if allS H A B i 2=true then 2 else if allS H A B i 3=true then 3 else 0
theorem Zc{i:Nat}{s t:Int}(h1:allS H A B i s=true)(h2:allS H A B i t=true):s=t:=by
 obtain⟨r,hr⟩:=A8i (H:=H) (A:=A) (B:=B)
 have a:=List.all_eq_true.1 h1 r hr
 have b:=List.all_eq_true.1 h2 r hr
 simp only[decide_eq_true_eq]at a b
 omega
theorem Afc(hN:20≤N)(hH:H.length≤10)(hA:A.length≤6)(hB:B.length≤6){i:Nat}(hi:i<H.length){u:Int}{out:List Int}(ho:out.length=H.length)(h0:out.getD i 0=0) :
  sure_l2 N N (T,H,f,A,B) u i [1,2,3] 0 (tv mayA H A B (0,0,0)).1 (tv mayA H A B (0,0,0)).2 out i=some ((T,H,f,A,B),u,(i:Int),(tv mayA H A B (0,0,0)).1,(tv mayA H A B (0,0,0)).2,out.set i (Hj H A B i)):=by
 have step:∀(n:Nat) (k s:Int) (o:List Int),0≤k→k<3→[(1:Int),2,3][k.toNat]?=some s→o.length=H.length→sure_l2 N (n+1) (T,H,f,A,B) u i [1,2,3] k (tv mayA H A B (0,0,0)).1 (tv mayA H A B (0,0,0)).2 o i=sure_l2 N n (T,H,f,A,B) u i [1,2,3] (k+1) (tv mayA H A B (0,0,0)).1 (tv mayA H A B (0,0,0)).2 (if allS H A B i s=true then o.set i s else o) i:=by
  intro n k s o k0 k3 hk hol
  rw[sure_l2,A4 k3,idx_eq k0 hk,Ajj (by omega) hH hA hB]
  simp only[Option.bind_some]
  by_cases c:allS H A B i s=true
  ·rw[if_pos c,(A1k hi).2 c]
   simp only[decide_true,Bool.and_self,B1]
   rw[Au (by omega),get_eq (a:=o.getD i 0) (by have:i<o.length:=(by omega);simp[List.getD,this])]
   unfold Q2
   rw[A5 (by omega),Int.toNat_natCast]
  ·have hne:¬tv (mayS i s) H A B (0,0,0)=tv mayA H A B (0,0,0):=fun h=>c ((A1k hi).1 h)
   have:(decide ((tv (mayS i s) H A B (0,0,0)).1=(tv mayA H A B (0,0,0)).1)&&decide ((tv (mayS i s) H A B (0,0,0)).2=(tv mayA H A B (0,0,0)).2))=false:=by
    rw[Bool.eq_false_iff]
    intro h
    simp only[Bool.and_eq_true,decide_eq_true_eq]at h
    exact hne (Prod.ext h.1 h.2)
   rw[if_neg c,this,A6]
   unfold Q2
   rw[A5 (by omega)]
 obtain⟨n,hn⟩:∃n,N=n+1+1+1+1:=⟨N-4,by omega⟩
 have last:∀o,sure_l2 N (n+1) (T,H,f,A,B) u i [1,2,3] 3 (tv mayA H A B (0,0,0)).1 (tv mayA H A B (0,0,0)).2 o i=some ((T,H,f,A,B),u,(i:Int),(tv mayA H A B (0,0,0)).1,(tv mayA H A B (0,0,0)).2,o):=fun o=>by
  rw[sure_l2,A3 (by decide)]
 have e0:sure_l2 N N (T,H,f,A,B) u i [1,2,3] 0 (tv mayA H A B (0,0,0)).1 (tv mayA H A B (0,0,0)).2 out i=sure_l2 N (n+1+1+1+1) (T,H,f,A,B) u i [1,2,3] 0 (tv mayA H A B (0,0,0)).1 (tv mayA H A B (0,0,0)).2 out i:=by
  rw[←hn]
 rw[e0,step _ 0 1 out (by decide) (by decide) rfl ho,show(0:Int)+1=1 from rfl]
 rw[step _ 1 2 _ (by decide) (by decide) rfl (by split<;>simp[ho]),show(1:Int)+1=2 from rfl]
 rw[step _ 2 3 _ (by decide) (by decide) rfl (by split<;>split<;>simp[ho]),show(2:Int)+1=3 from rfl,last]
 congr 1
 simp only[Prod.mk.injEq,true_and]
 unfold Hj
 by_cases c1:allS H A B i 1=true
 ·have c2:¬allS H A B i 2=true:=fun h=>absurd (Zc c1 h) (by decide)
  have c3:¬allS H A B i 3=true:=fun h=>absurd (Zc c1 h) (by decide)
  rw[if_neg c3,if_neg c2,if_pos c1,if_pos c1]
 ·by_cases c2:allS H A B i 2=true
  ·have c3:¬allS H A B i 3=true:=fun h=>absurd (Zc c2 h) (by decide)
   rw[if_neg c3,if_pos c2,if_neg c1,if_neg c1,if_pos c2]
  ·by_cases c3:allS H A B i 3=true
   ·rw[if_pos c3,if_neg c2,if_neg c1,if_neg c1,if_neg c2,if_pos c3]
   ·rw[if_neg c3,if_neg c2,if_neg c1,if_neg c1,if_neg c2,if_neg c3]
    have hl:i<out.length:=by omega
    apply List.ext_getElem
    ·simp
    ·intro j h1 h2
     rw[List.getElem_set]
     split
     ·next h=>subst h;rw[←h0];simp[List.getD,hl]
     ·rfl
def I4(H A B:List Int)(k:Nat):List Int:=(List.range k).map (Hj H A B)++List.replicate (H.length-k) 0
theorem Aa9{k:Nat}(h:k≤H.length):(I4 H A B k).length=H.length:=by
 unfold I4
 simp;omega
theorem Acd{k:Nat}(h:k<H.length):(I4 H A B k).set k (Hj H A B k)=I4 H A B (k+1)∧(I4 H A B k).getD k 0=0:=by
 unfold I4
 obtain⟨m,hm⟩:∃m,H.length-k=m+1:=⟨H.length-k-1,by omega⟩
 rw[hm,show H.length-(k+1)=m by omega,List.range_succ,List.map_append,List.append_assoc,List.replicate_succ]
 constructor
 ·rw[List.set_append_right _ _ (by simp)]
  simp
 ·simp[List.getD,List.getElem?_append_right]
theorem A0s(hN:20≤N)(hH:H.length≤10)(hA:A.length≤6)(hB:B.length≤6):∀(n k:Nat),H.length<n+k→k≤H.length →
  sure_l1 N n (T,H,f,A,B) (H.length:Int) k (tv mayA H A B (0,0,0)).1 (tv mayA H A B (0,0,0)).2 (I4 H A B k)=some ((List.range H.length).map (Hj H A B))
 | 0,k,h,_=>by omega
 | n+1,k,h,hk=>by
  unfold sure_l1
  by_cases c:k<H.length
  ·have⟨e1,e2⟩:=Acd (A:=A) (B:=B) c
   rw[A4 (by omega),Afc hN hH hA hB c (Aa9 hk) e2]
   simp only[Option.bind_some]
   rw[A5 (by omega),e1]
   have:=A0s hN hH hA hB n (k+1) (by omega) (by omega)
   rw[show((k+1:Nat):Int)=(k:Int)+1 by omega]at this
   exact this
  ·have e:k=H.length:=by omega
   rw[A3 (by omega),e]
   unfold I4
   simp
theorem Apf(hN:20≤N)(h:Ao T H f a b=0):Nu N T H f a b=some ((List.range H.length).map (Hj H (T.getD a.toNat []) (T.getD b.toNat [])),0):=by
 obtain⟨hF,ha,hb,e⟩:=Ap hN h
 have hH:=hF.h
 have lA:=hF.l (T.getD a.toNat []) (Aa (by omega))
 have lB:=hF.l (T.getD b.toNat []) (Aa (by omega))
 unfold Nu
 rw[e]
 simp only[Option.bind_some,decide_true,Bool.not_true,A6,Eu]
 rw[P0 (by omega) hH lA.2 lB.2]
 simp only[Option.bind_some]
 rw[I0 (Jr.2 (by omega))]
 have e2:=A0s (N:=N) (T:=T) (f:=f) hN hH lA.2 lB.2 N 0 (by omega) (by omega)
 rw[show I4 H (T.getD a.toNat []) (T.getD b.toNat []) 0=List.replicate H.length 0 by unfold I4;simp]at e2
 rw[show((List.replicate (H.length:Int).toNat (0:Int)).length:Int)=H.length by simp,show List.replicate (H.length:Int).toNat (0:Int)=List.replicate H.length 0 by simp]
 rw[show((0:Nat):Int)=0 from rfl]at e2
 rw[e2];rfl
theorem Ahz(hN:20≤N)(h:Ao T H f a b≠0):Nu N T H f a b=some ([],Ao T H f a b):=by
 unfold Nu
 rw[Bu hN h]
 simp only[Option.bind_some]
 rw[Al h]
end
end Go.Proofs.YtfcnhnbnjdccfaaGreat

namespace Go.Proofs.YtfcnhnbnjdccfaaGreat
set_option linter.all false
open Go

section
variable {N:Nat} {T:List (List Int)} {H A B:List Int} {f a b:Int}
theorem A92:∀(n:Nat) (x:At3),∀r∈rdx H A B n x,∀q∈r,q.1=1∨q.1=2∨q.1=3
 | 0,x,r,hr,q,hq=>by simp[rdx]at hr;subst hr;cases hq
 | n+1,x,r,hr,q,hq=>by
  obtain⟨m,hm,h⟩:=List.mem_flatMap.1 hr
  obtain⟨r',hr',rfl⟩:=List.mem_map.1 h
  rcases List.mem_cons.1 hq with rfl | hq
  ·simp only[Ac,List.mem_cons,List.mem_append,List.mem_map]at hm
   rcases hm with rfl | ⟨j,_,rfl⟩ | ⟨j,_,rfl⟩<;>simp
  ·exact A92 n m.2 r' hr' q hq
theorem Aeo:∀(n:Nat) (x:At3),∀r∈rdx H A B n x,fitL H A B r x=true
 | 0,x,r,hr=>by simp[rdx]at hr;subst hr;rfl
 | n+1,x,r,hr=>by
  obtain⟨m,hm,h⟩:=List.mem_flatMap.1 hr
  obtain⟨r',hr',rfl⟩:=List.mem_map.1 h
  unfold fitL
  rw[Dw.1 hm]
  exact Aeo n m.2 r' hr'
theorem X4{L:List (List (Int×Int))}{i:Nat}{out:List Int}(hL:L.length≤1000000)(hl:∀r∈L,r.length=H.length)(hi:i<H.length):∀(n k:Nat) (s:Int),L.length<n+k→k≤L.length →
  rsure_l2 N n L i s k T H f out=some (L,(i:Int),(if((L.drop k).all fun r=>decide ((r.getD i (0,0)).1=s))=true then s else 0),T,H,f,out)
 | 0,k,s,h,_=>by omega
 | n+1,k,s,h,hk=>by
  rw[rsure_l2]
  by_cases c:k<L.length
  ·have hd:L.drop k=L.getD k []::L.drop (k+1):=by
    rw[List.drop_eq_getElem_cons c];simp[List.getD,c]
   have hk':L[((k:Nat):Int).toNat]?=some (L.getD k []):=by simp[List.getD,c]
   have hl':=hl (L.getD k []) (Aa c)
   generalize L.getD k []=r at *
   rw[A4 (by omega),idx_eq (by omega) hk',Ab (0,0) (by omega) (by omega),Int.toNat_natCast,hd,List.all_cons]
   have next:=fun s=>X4 (out:=out) hL hl hi n (k+1) s (by omega) (by omega)
   rw[show((k+1:Nat):Int)=(k:Int)+1 by omega]at next
   by_cases d:(r.getD i (0,0)).1=s
   ·rw[Bk d]
    unfold K1
    rw[A5 (by omega),next,decide_eq_true d,Bool.true_and]
   ·rw[Al d]
    unfold K1
    rw[A5 (by omega),next,decide_eq_false d,Bool.false_and]
    simp
  ·rw[A3 (by omega),List.drop_of_length_le (by omega)];simp
theorem Af1{i:Nat}(hi:i<H.length){r0:List (Int×Int)}(h0:r0∈Jz H A B):(if((Jz H A B).all fun r=>decide ((r.getD i (0,0)).1=(r0.getD i (0,0)).1))=true then(r0.getD i (0,0)).1 else 0)=Hj H A B i:=by
 have hl:=A2i h0
 have hm:r0.getD i (0,0)∈r0:=Aa (by omega)
 have hs:=A92 (H:=H) (A:=A) (B:=B) H.length (0,0,0) r0 (List.mem_filter.1 h0).1 _ hm
 have e:((Jz H A B).all fun r=>decide ((r.getD i (0,0)).1=(r0.getD i (0,0)).1))=allS H A B i (r0.getD i (0,0)).1:=rfl
 have one:∀s,allS H A B i s=true→s=(r0.getD i (0,0)).1:=fun s h=>by
  have:=List.all_eq_true.1 h r0 h0
  simp only[decide_eq_true_eq]at this
  omega
 rw[e]
 generalize (r0.getD i (0,0)).1=s0 at *
 unfold Hj
 by_cases c1:allS H A B i 1=true
 ·have:=one 1 c1
  subst this
  rw[if_pos c1,if_pos c1]
 ·rw[if_neg c1]
  by_cases c2:allS H A B i 2=true
  ·have:=one 2 c2
   subst this
   rw[if_pos c2,if_pos c2]
  ·rw[if_neg c2]
   by_cases c3:allS H A B i 3=true
   ·have:=one 3 c3
    subst this
    rw[if_pos c3]
   ·rw[if_neg c3]
    rcases hs with rfl | rfl | rfl
    ·rw[if_neg c1]
    ·rw[if_neg c2]
    ·rw[if_neg c3]
theorem Wv{L:List (List (Int×Int))}(hL:L=Jz H A B)(hn:L.length≤1000000)(hN:L.length<N)(hH:H.length≤10):∀(n k:Nat),H.length<n+k→k≤H.length →
  rsure_l1 N n L k T H f ((List.range k).map (Hj H A B))=some ((List.range H.length).map (Hj H A B))
 | 0,k,h,_=>by omega
 | n+1,k,h,hk=>by
  rw[rsure_l1]
  by_cases c:k<H.length
  ·obtain⟨r0,hr0⟩:=A8i (H:=H) (A:=A) (B:=B)
   rw[←hL]at hr0
   have hp:=List.length_pos_of_mem hr0
   have h0:L.getD 0 []∈L:=Aa hp
   have hl':∀r∈L,r.length=H.length:=fun r hr=>A2i (by rw[hL]at hr;exact hr)
   have hl0:=hl' _ h0
   rw[A4 (by omega),Ab [] (by omega) (by omega),show(0:Int).toNat=0 from rfl,Ab (0,0) (by omega) (by omega),Int.toNat_natCast]
   have e:=X4 (N:=N) (T:=T) (f:=f) (L:=L) (i:=k) (out:=(List.range k).map (Hj H A B)) hn hl' c N 0 ((L.getD 0 []).getD k (0,0)).1 (by omega) (by omega)
   rw[List.drop_zero,show((0:Nat):Int)=0 from rfl]at e
   rw[e]
   simp only[Option.bind_some]
   have e2:(if(L.all fun r=>decide ((r.getD k (0,0)).1=((L.getD 0 []).getD k (0,0)).1))=true then((L.getD 0 []).getD k (0,0)).1 else 0)=Hj H A B k:=by
    rw[hL];rw[hL]at h0
    exact Af1 c h0
   rw[e2,Bd (by simp;omega),A5 (by omega)]
   have:=Wv hL hn hN hH n (k+1) (by omega) (by omega)
   rw[List.range_succ,List.map_append,show((k+1:Nat):Int)=(k:Int)+1 by omega]at this
   exact this
  ·have e:k=H.length:=by omega
   rw[A3 (by omega),e]
theorem Anl{L:List (List (Int×Int))}(hL:L=Jz H A B)(hn:L.length≤1000000)(hN:L.length<N)(hN2:20≤N)(hH:H.length≤10):Vh N T H f L=some ((List.range H.length).map (Hj H A B)):=by
 unfold Vh
 have:=Wv (N:=N) (T:=T) (f:=f) hL hn hN hH N 0 (by omega) (by omega)
 rw[List.range_zero,List.map_nil,show((0:Nat):Int)=0 from rfl]at this
 rw[this];rfl
theorem V7{W:List Int}{l:List (Int×Int)}{least p p2 f2 f3:Int}{T2 T3:List (List Int)}{H2 H3:List Int}(hW:W.length≤1000):∀(n k:Nat),W.length<n+k→k≤W.length →
  ereads_l1 N n l W least W (W.length:Int) k T H f p p2 T2 H2 f2 T3 H3 f3=some (.inr (l,least,T,H,f,p,p2,T2,H2,f2,T3,H3,f3))
 | 0,k,h,_=>by omega
 | n+1,k,h,hk=>by
  rw[ereads_l1]
  by_cases c:k<W.length
  ·rw[A4 (by omega),Ab 0 (by omega) (by omega),Ab 0 (by omega) (by omega),Bk (by first | trivial | rfl),A5 (by omega)]
   have:=V7 (l:=l) (least:=least) (p:=p) (p2:=p2) (f2:=f2) (f3:=f3) (T2:=T2) (T3:=T3) (H2:=H2) (H3:=H3) hW n (k+1) (by omega) (by omega)
   rw[show((k+1:Nat):Int)=(k:Int)+1 by omega]at this
   exact this
  ·rw[A3 (by omega)]
theorem Aj3(hN:20≤N)(h:Ao T H f a b=0):Jl N T H f a b=some (((Jz H (T.getD a.toNat []) (T.getD b.toNat [])).length:Int),0):=by
 unfold Jl
 obtain⟨hF,ha,hb,e⟩:=Ap hN h
 have hH:=hF.h
 have lA:=hF.l (T.getD a.toNat []) (Aa (by omega))
 have lB:=hF.l (T.getD b.toNat []) (Aa (by omega))
 rw[e]
 simp only[Option.bind_some,decide_true,Bool.not_true,A6,Eu]
 rw[P0 (by omega) hH lA.2 lB.2]
 simp only[Option.bind_some]
 rw[Tt,List.countP_eq_length_filter]
 rfl
theorem Ags(hN:20≤N)(h:Ao T H f a b≠0):Jl N T H f a b=some (0,Ao T H f a b):=by
 unfold Jl
 rw[Bu hN h]
 simp only[Option.bind_some]
 rw[Al h]
theorem X6(hN:20≤N)(h:Ao T H f a b≠0):least_S N T H f a b=some (0,Ao T H f a b):=by
 unfold least_S
 rw[Bu hN h]
 simp only[Option.bind_some]
 rw[Al h]
theorem Hh:B0 60000=some true:=by kernel_rfl
theorem A82{p p2:Int}(h0:(Ty.pair (.sl (.sl (.int .i64))) (.pair (.sl (.int .i64)) (.int .i64))).inB (T,H,f))(h1:(Ty.pair (.int .i64) (.int .i64)).inB (p,p2)):ereads_S 60000 T H f p p2=some true:=by
 unfold ereads_S
 rcases Q3 (N:=60000) (by omega) T H f with e | ⟨e,hm⟩
 ·rw[e];simp only[Option.bind_some,B1,Hh]
 ·rw[e]
  simp only[Option.bind_some,A6]
  have hmn:=hm.n
  rcases Al9 (N:=60000) (T:=T) (H:=H) (f:=f) (heard:=5) (words:=4) hm.n (by omega)with e | ⟨e,w1,w2⟩
  ·rw[e];simp only[Option.bind_some,B1,Hh]
  ·rw[e]
   simp only[Option.bind_some,A6]
   rw[F8 (by omega) hm]
   simp only[Option.bind_some]
   rw[C8 (by omega),Ev (by omega) hm]
   simp only[Option.bind_some,decide_true,Bool.not_true,A6]
   by_cases c:Ao T H f p p2=0
   ·obtain⟨hF,ha,hb,_⟩:=Ap (N:=60000) (by omega) c
    have hH:=hF.h
    have hs:Slim T H 9 60000:=by
     have hl:H.length≤5:=by omega
     have hp:9 ^ H.length≤9 ^ 5:=Nat.pow_le_pow_right (by decide) hl
     refine⟨fun x hx y hy=>?_,by omega,by omega⟩
     have a1:=w2 x hx;have a2:=hF.l x hx
     have b1:=w2 y hy;have b2:=hF.l y hy
     omega
    obtain⟨r,hr,er,e1⟩:=Agp (N:=60000) (by omega) c
    have hrl:r.length=H.length:=Gp H.length (0,0,0) r hr
    have rl:=Vi (H:=H) (A:=T.getD p.toNat []) (B:=T.getD p2.toNat []) (M:=9) (hs.w _ (Aa (by omega)) _ (Aa (by omega))) H.length (0,0,0)
    have bl:(Jz H (T.getD p.toNat []) (T.getD p2.toNat [])).length≤9 ^ H.length:=Nat.le_trans (List.length_filter_le _ _) rl
    have hp1:=hs.p
    have hp2:=hs.n
    rw[Adv (by omega) hF ha hb,e1,Aj3 (by omega) c,Apf (by omega) c,Jg (by omega) hm]
    simp only[Option.bind_some]
    rw[Bk c,W2 (by omega) hF hs ha hb]
    simp only[Option.bind_some,decide_true,Bool.not_true,A6,List.length_map,List.length_range]
    have eb:((Dp H (T.getD p.toNat []) (T.getD p2.toNat [])).filter fun r=>decide (toldN r=(tv mayA H (T.getD p.toNat []) (T.getD p2.toNat []) (0,0,0)).1))=Jz H (T.getD p.toNat []) (T.getD p2.toNat []):=rfl
    rw[eb,Bk (by first | trivial | rfl),Anl rfl (by omega) (by omega) (by omega) hH]
    simp only[Option.bind_some]
    have e2:=V7 (N:=60000) (T:=T) (H:=H) (f:=f) (W:=(List.range H.length).map (Hj H (T.getD p.toNat []) (T.getD p2.toNat []))) (l:=r) (least:=B8 H (T.getD p.toNat []) (T.getD p2.toNat [])) (p:=p) (p2:=p2) (f2:=f) (f3:=f) (T2:=T) (T3:=T) (H2:=H) (H3:=H) (by simp;omega) 60000 0 (by simp;omega) (by omega)
    rw[show((0:Nat):Int)=0 from rfl]at e2
    rw[e2]
    simp only[Option.bind_some]
    rw[A7x (by omega) (by omega)]
    simp only[Option.bind_some]
    have hfit:fitL H (T.getD p.toNat []) (T.getD p2.toNat []) r (0,0,0)=true:=Aeo H.length (0,0,0) r hr
    rw[A0r (by omega) hm p p2 r (by omega),if_neg (by simpa using c),if_neg (by simpa using hrl),if_pos hfit]
    simp only[Option.bind_some,decide_true,B1]
    rw[A4 (by rw[er];rfl),Ky (by omega) hm,Hh]
    rfl
   ·rw[X6 (by omega) c,A79 (by omega) c,Ags (by omega) c,Ahz (by omega) c,Jg (by omega) hm]
    simp only[Option.bind_some]
    rw[Al c]
    simp only[decide_true,B1,List.length_nil]
    rw[A5 (by omega),A5 (by omega),A5 (by omega),A4 (by rfl),Ky (by omega) hm,Hh]
    rfl
end
end Go.Proofs.YtfcnhnbnjdccfaaGreat

namespace Go.Proofs.YtfcnhnbnjdccfaaGreat
set_option linter.all false
open Go
def bndF(H A B:List Int)(v:Nat→Nat→Nat→Int)(i a b:Nat):Int:=
 if i+a+b=0 then 0 else
  min (min (min (min (min 99 (if 0<i then v (i-1) a b+1 else 99)) (if 0<a then v i (a-1) b+1 else 99)) (if 0<b then v i a (b-1)+1 else 99))
   (if 0<i∧0<a∧H.getD (i-1) 0=A.getD (a-1) 0 then v (i-1) (a-1) b else 99)) (if 0<i∧0<b∧H.getD (i-1) 0=B.getD (b-1) 0 then v (i-1) a (b-1)else 99)
structure Stp3 (H A B:List Int) (v:Nat→Nat→Nat→Int) (i a b:Nat) (n:Int):Prop where
 sz:i+a+b=0→n≤0
 sh:0<i→n≤v (i-1) a b+1
 sa:0<a→n≤v i (a-1) b+1
 sb:0<b→n≤v i a (b-1)+1
 sha:0<i→0<a→H.getD (i-1) 0=A.getD (a-1) 0→n≤v (i-1) (a-1) b
 shb:0<i→0<b→H.getD (i-1) 0=B.getD (b-1) 0→n≤v (i-1) a (b-1)
theorem Vw{H A B:List Int}{v:Nat→Nat→Nat→Int}{i a b:Nat}{n:Int}(hn:n≤99):n≤bndF H A B v i a b↔Stp3 H A B v i a b n:=by
 unfold bndF
 by_cases z:i+a+b=0
 ·rw[if_pos z]
  exact⟨fun h=>⟨fun _=>h,fun h'=>by omega,fun h'=>by omega,fun h'=>by omega,fun h'=>by omega,fun h'=>by omega⟩,fun h=>h.sz z⟩
 ·rw[if_neg z]
  constructor
  ·intro h
   refine⟨fun h'=>absurd h' z,fun h1=>?_,fun h1=>?_,fun h1=>?_,fun h1 h2 h3=>?_,fun h1 h2 h3=>?_⟩
   ·rw[if_pos h1]at h;omega
   ·rw[if_pos h1]at h;omega
   ·rw[if_pos h1]at h;omega
   ·rw[if_pos (show 0<i∧0<a∧H.getD (i-1) 0=A.getD (a-1) 0 from⟨h1,h2,h3⟩)]at h;omega
   ·rw[if_pos (show 0<i∧0<b∧H.getD (i-1) 0=B.getD (b-1) 0 from⟨h1,h2,h3⟩)]at h;omega
  ·intro h
   have e1:n≤(if 0<i then v (i-1) a b+1 else 99):=by split;exact h.sh ‹_›;exact hn
   have e2:n≤(if 0<a then v i (a-1) b+1 else 99):=by split;exact h.sa ‹_›;exact hn
   have e3:n≤(if 0<b then v i a (b-1)+1 else 99):=by split;exact h.sb ‹_›;exact hn
   have e4:n≤(if 0<i∧0<a∧H.getD (i-1) 0=A.getD (a-1) 0 then v (i-1) (a-1) b else 99):=by
    split
    ·rename_i c;exact h.sha c.1 c.2.1 c.2.2
    ·exact hn
   have e5:n≤(if 0<i∧0<b∧H.getD (i-1) 0=B.getD (b-1) 0 then v (i-1) a (b-1)else 99):=by
    split
    ·rename_i c;exact h.shb c.1 c.2.1 c.2.2
    ·exact hn
   omega
theorem Aeh{H A B:List Int}{v:Nat→Nat→Nat→Int}(i a b:Nat):bndF H A B v i a b≤99:=by
 unfold bndF
 split<;>omega
theorem A8j{H A B:List Int}{v:Nat→Nat→Nat→Int}{i a b:Nat}(h:∀i' a' b',i'≤i→a'≤a→b'≤b→i'+a'+b'<i+a+b→0≤v i' a' b'):0≤bndF H A B v i a b:=by
 rw[Vw (by decide)]
 refine⟨fun _=>Int.le_refl _,fun h1=>?_,fun h1=>?_,fun h1=>?_,fun h1 h2 _=>?_,fun h1 h2 _=>?_⟩
 ·have:=h (i-1) a b (by omega) (by omega) (by omega) (by omega);omega
 ·have:=h i (a-1) b (by omega) (by omega) (by omega) (by omega);omega
 ·have:=h i a (b-1) (by omega) (by omega) (by omega) (by omega);omega
 ·exact h (i-1) (a-1) b (by omega) (by omega) (by omega) (by omega)
 ·exact h (i-1) a (b-1) (by omega) (by omega) (by omega) (by omega)
theorem Ahk(H A B:List Int)(v:Nat→Nat→Nat→Int)(i a b:Nat):bndF H A B v i a b=99∨(i+a+b=0∧bndF H A B v i a b=0)∨(0<i∧bndF H A B v i a b=v (i-1) a b+1)∨(0<a∧bndF H A B v i a b=v i (a-1) b+1)∨(0<b∧bndF H A B v i a b=v i a (b-1)+1) ∨
  ((0<i∧0<a∧H.getD (i-1) 0=A.getD (a-1) 0)∧bndF H A B v i a b=v (i-1) (a-1) b)∨((0<i∧0<b∧H.getD (i-1) 0=B.getD (b-1) 0)∧bndF H A B v i a b=v (i-1) a (b-1)):=by
 unfold bndF
 by_cases z:i+a+b=0
 ·rw[if_pos z];exact .inr (.inl ⟨z,rfl⟩)
 ·rw[if_neg z]
  have c4:=Decidable.em (0<i∧0<a∧H.getD (i-1) 0=A.getD (a-1) 0)
  have c5:=Decidable.em (0<i∧0<b∧H.getD (i-1) 0=B.getD (b-1) 0)
  generalize hx1:(if 0<i then v (i-1) a b+1 else 99)=x1
  generalize hx2:(if 0<a then v i (a-1) b+1 else 99)=x2
  generalize hx3:(if 0<b then v i a (b-1)+1 else 99)=x3
  generalize hx4:(if 0<i∧0<a∧H.getD (i-1) 0=A.getD (a-1) 0 then v (i-1) (a-1) b else 99)=x4
  generalize hx5:(if 0<i∧0<b∧H.getD (i-1) 0=B.getD (b-1) 0 then v (i-1) a (b-1)else 99)=x5
  have m:min (min (min (min (min 99 x1) x2) x3) x4) x5=99∨min (min (min (min (min 99 x1) x2) x3) x4) x5=x1∨min (min (min (min (min 99 x1) x2) x3) x4) x5=x2∨min (min (min (min (min 99 x1) x2) x3) x4) x5=x3∨min (min (min (min (min 99 x1) x2) x3) x4) x5=x4∨min (min (min (min (min 99 x1) x2) x3) x4) x5=x5:=by omega
  rcases m with m | m | m | m | m | m
  ·exact .inl m
  ·by_cases c:0<i
   ·rw[if_pos c]at hx1;exact .inr (.inr (.inl ⟨c,by omega⟩))
   ·rw[if_neg c]at hx1;exact .inl (by omega)
  ·by_cases c:0<a
   ·rw[if_pos c]at hx2;exact .inr (.inr (.inr (.inl ⟨c,by omega⟩)))
   ·rw[if_neg c]at hx2;exact .inl (by omega)
  ·by_cases c:0<b
   ·rw[if_pos c]at hx3;exact .inr (.inr (.inr (.inr (.inl ⟨c,by omega⟩))))
   ·rw[if_neg c]at hx3;exact .inl (by omega)
  ·rcases c4 with c | c
   ·rw[if_pos c]at hx4;exact .inr (.inr (.inr (.inr (.inr (.inl ⟨c,by omega⟩)))))
   ·rw[if_neg c]at hx4;exact .inl (by omega)
  ·rcases c5 with c | c
   ·rw[if_pos c]at hx5;exact .inr (.inr (.inr (.inr (.inr (.inr ⟨c,by omega⟩)))))
   ·rw[if_neg c]at hx5;exact .inl (by omega)
def Nt(H A B:List Int)(v:Nat→Nat→Nat→Int):Prop:=∀i a b,i≤H.length→a≤A.length→b≤B.length→Stp3 H A B v i a b (v i a b)
theorem Jk{l:List Int}{j:Nat}{w:Int}{r:List Int}(e:l.drop j=w::r):j<l.length∧l.getD j 0=w∧l.drop (j+1)=r:=by
 have h:j<l.length:=by
  rcases Nat.lt_or_ge j l.length with h | h
  ·exact h
  ·rw[List.drop_of_length_le h]at e;cases e
 rw[List.drop_eq_getElem_cons h]at e
 simp only[List.cons.injEq]at e
 exact⟨h,by simp[List.getD,h,e.1],e.2⟩
theorem Du{H A B:List Int}{v:Nat→Nat→Nat→Int}(hv:Nt H A B v):∀(n i j k:Nat) (R x y:List Int),n=(H.length-i)+(A.length-j)+(B.length-k)→i≤H.length→j≤A.length→k≤B.length→H.drop i=R→Rd R x y→x.Sublist (A.drop j)→y.Sublist (B.drop k) →
  v H.length A.length B.length≤v i j k+((H.length:Int)-i+(A.length-j)+(B.length-k))-2*(x.length+y.length)
 | 0,i,j,k,R,x,y,hn,hi,hj,hk,hR,hr,hx,hy=>by
  obtain rfl:i=H.length:=by omega
  obtain rfl:j=A.length:=by omega
  obtain rfl:k=B.length:=by omega
  rw[List.drop_length]at hx hy
  rw[List.sublist_nil.1 hx,List.sublist_nil.1 hy]
  simp
 | n+1,i,j,k,R,x,y,hn,hi,hj,hk,hR,hr,hx,hy=>by
  -- a word of the first text that is skipped
  have skA:∀z r,A.drop j=z::r→x.Sublist r→v H.length A.length B.length≤v i j k+((H.length:Int)-i+(A.length-j)+(B.length-k))-2*(x.length+y.length):=fun z r e hs=>by
   obtain⟨h1,h2,h3⟩:=Jk e
   have ih:=Du hv n i (j+1) k R x y (by omega) hi (by omega) hk hR hr (by rw[h3];exact hs) hy
   have st:=(hv i (j+1) k hi (by omega) hk).sa (by omega)
   rw[Nat.add_sub_cancel]at st
   omega
  have skB:∀z r,B.drop k=z::r→y.Sublist r→v H.length A.length B.length≤v i j k+((H.length:Int)-i+(A.length-j)+(B.length-k))-2*(x.length+y.length):=fun z r e hs=>by
   obtain⟨h1,h2,h3⟩:=Jk e
   have ih:=Du hv n i j (k+1) R x y (by omega) hi hj (by omega) hR hr hx (by rw[h3];exact hs)
   have st:=(hv i j (k+1) hi hj (by omega)).sb (by omega)
   rw[Nat.add_sub_cancel]at st
   omega
  cases hr with
  | nil=>
   -- nothing is heard any more
   cases eA:A.drop j with
   | cons z r=>exact skA z r eA (List.nil_sublist _)
   | nil=>
    cases eB:B.drop k with
    | cons z r=>exact skB z r eB (List.nil_sublist _)
    | nil=>
     have h1:=List.drop_eq_nil_iff.1 eA
     have h2:=List.drop_eq_nil_iff.1 eB
     have h3:=List.drop_eq_nil_iff.1 hR
     omega
  | @noise w H' _ _ s=>
   obtain⟨h1,h2,h3⟩:=Jk hR
   have ih:=Du hv n (i+1) j k H' x y (by omega) (by omega) hj hk h3 s hx hy
   have st:=(hv (i+1) j k (by omega) hj hk).sh (by omega)
   rw[Nat.add_sub_cancel]at st
   omega
  | @ta w H' x' _ s=>
   cases eA:A.drop j with
   | nil=>rw[eA]at hx;cases hx
   | cons z r=>
    rw[eA]at hx
    cases hx with
    | cons _ hs=>exact skA z r eA hs
    | cons_cons _ hs=>
     obtain⟨h1,h2,h3⟩:=Jk hR
     obtain⟨g1,g2,g3⟩:=Jk eA
     have ih:=Du hv (n-1) (i+1) (j+1) k H' x' y (by omega) (by omega) (by omega) hk h3 s (by rw[g3];exact hs) hy
     have st:=(hv (i+1) (j+1) k (by omega) (by omega) hk).sha (by omega) (by omega) (by rw[Nat.add_sub_cancel,Nat.add_sub_cancel,h2,g2])
     rw[Nat.add_sub_cancel,Nat.add_sub_cancel]at st
     rw[List.length_cons]
     omega
  | @tb w H' _ y' s=>
   cases eB:B.drop k with
   | nil=>rw[eB]at hy;cases hy
   | cons z r=>
    rw[eB]at hy
    cases hy with
    | cons _ hs=>exact skB z r eB hs
    | cons_cons _ hs=>
     obtain⟨h1,h2,h3⟩:=Jk hR
     obtain⟨g1,g2,g3⟩:=Jk eB
     have ih:=Du hv (n-1) (i+1) j (k+1) H' x y' (by omega) (by omega) hj (by omega) h3 s hx (by rw[g3];exact hs)
     have st:=(hv (i+1) j (k+1) (by omega) hj (by omega)).shb (by omega) (by omega) (by rw[Nat.add_sub_cancel,Nat.add_sub_cancel,h2,g2])
     rw[Nat.add_sub_cancel,Nat.add_sub_cancel]at st
     rw[List.length_cons]
     omega
theorem Ahu{H A B:List Int}{v:Nat→Nat→Nat→Int}(hv:Nt H A B v):v H.length A.length B.length≤B8 H A B:=by
 obtain⟨a,b,h1,h2,h3,h4⟩:=Ad5 H A B
 have:=Du hv _ 0 0 0 H a b rfl (by omega) (by omega) (by omega) rfl h1 h2 h3
 have h0:=(hv 0 0 0 (by omega) (by omega) (by omega)).sz rfl
 omega
theorem Rd.snoc(w:Int){H a b:List Int}(s:Rd H a b):Rd (H++[w]) a b∧Rd (H++[w]) (a++[w]) b∧Rd (H++[w]) a (b++[w]):=by
 induction s with
 | nil=>exact⟨.noise w .nil,.ta w .nil,.tb w .nil⟩
 | noise z _ ih=>exact⟨.noise z ih.1,.noise z ih.2.1,.noise z ih.2.2⟩
 | ta z _ ih=>exact⟨.ta z ih.1,.ta z ih.2.1,.ta z ih.2.2⟩
 | tb z _ ih=>exact⟨.tb z ih.1,.tb z ih.2.1,.tb z ih.2.2⟩
theorem Ie{l:List Int}{i:Nat}(h:i<l.length):l.take (i+1)=l.take i++[l.getD i 0]:=by
 rw[List.take_add_one];simp[List.getD,h]
theorem Api{H A B:List Int}{v:Nat→Nat→Nat→Int}(hb:H.length+A.length+B.length≤99)(hv:∀i a b,i≤H.length→a≤A.length→b≤B.length→v i a b=bndF H A B v i a b):∀(n i j k:Nat),n=i+j+k→i≤H.length→j≤A.length→k≤B.length →
  ∃x y,Rd (H.take i) x y∧x.Sublist (A.take j)∧y.Sublist (B.take k)∧((i:Int)+j+k)-2*(x.length+y.length)≤v i j k:=by
 intro n
 induction n using Nat.strongRecOn with
 | ind n ih=>?_
 intro i j k hn hi hj hk
 have e:=hv i j k hi hj hk
 have sA:∀ {x:List Int} {j:Nat},0<j→x.Sublist (A.take (j-1))→x.Sublist (A.take j):=fun hj h=>h.trans (List.take_sublist_take_left (by omega))
 have sB:∀ {x:List Int} {j:Nat},0<j→x.Sublist (B.take (j-1))→x.Sublist (B.take j):=fun hj h=>h.trans (List.take_sublist_take_left (by omega))
 rcases Ahk H A B v i j k with m | ⟨z,m⟩ | ⟨c,m⟩ | ⟨c,m⟩ | ⟨c,m⟩ | ⟨⟨c1,c2,c3⟩,m⟩ | ⟨⟨c1,c2,c3⟩,m⟩
 ·exact⟨[],[],Rd.none _,List.nil_sublist _,List.nil_sublist _,by simp only[List.length_nil];omega⟩
 ·exact⟨[],[],Rd.none _,List.nil_sublist _,List.nil_sublist _,by simp only[List.length_nil];omega⟩
 ·obtain⟨x,y,h1,h2,h3,h4⟩:=ih (n-1) (by omega) (i-1) j k (by omega) (by omega) hj hk
  obtain⟨i',rfl⟩:∃i',i=i'+1:=⟨i-1,by omega⟩
  rw[Nat.add_sub_cancel]at h1 h4 m
  exact⟨x,y,by rw[Ie (by omega)];exact(h1.snoc _).1,h2,h3,by omega⟩
 ·obtain⟨x,y,h1,h2,h3,h4⟩:=ih (n-1) (by omega) i (j-1) k (by omega) hi (by omega) hk
  exact⟨x,y,h1,sA c h2,h3,by omega⟩
 ·obtain⟨x,y,h1,h2,h3,h4⟩:=ih (n-1) (by omega) i j (k-1) (by omega) hi hj (by omega)
  exact⟨x,y,h1,h2,sB c h3,by omega⟩
 ·obtain⟨x,y,h1,h2,h3,h4⟩:=ih (n-2) (by omega) (i-1) (j-1) k (by omega) (by omega) (by omega) hk
  obtain⟨i',rfl⟩:∃i',i=i'+1:=⟨i-1,by omega⟩
  obtain⟨j',rfl⟩:∃j',j=j'+1:=⟨j-1,by omega⟩
  simp only[Nat.add_sub_cancel]at h1 h2 h4 m c3
  refine⟨x++[H.getD i' 0],y,by rw[Ie (by omega)];exact(h1.snoc _).2.1,?_,h3,by rw[List.length_append,List.length_singleton];omega⟩
  rw[Ie (by omega),c3]
  exact h2.append (List.Sublist.refl _)
 ·obtain⟨x,y,h1,h2,h3,h4⟩:=ih (n-2) (by omega) (i-1) j (k-1) (by omega) (by omega) hj (by omega)
  obtain⟨i',rfl⟩:∃i',i=i'+1:=⟨i-1,by omega⟩
  obtain⟨k',rfl⟩:∃k',k=k'+1:=⟨k-1,by omega⟩
  simp only[Nat.add_sub_cancel]at h1 h3 h4 m c3
  refine⟨x,y++[H.getD i' 0],by rw[Ie (by omega)];exact(h1.snoc _).2.2,h2,?_,by rw[List.length_append,List.length_singleton];omega⟩
  rw[Ie (by omega),c3]
  exact h3.append (List.Sublist.refl _)
theorem Agk{H A B:List Int}{v:Nat→Nat→Nat→Int}(hb:H.length+A.length+B.length≤99)(hv:∀i a b,i≤H.length→a≤A.length→b≤B.length→v i a b=bndF H A B v i a b):v H.length A.length B.length=B8 H A B:=by
 obtain⟨x,y,h1,h2,h3,h4⟩:=Api hb hv _ H.length A.length B.length rfl (by omega) (by omega) (by omega)
 rw[List.take_length]at h1 h2 h3
 have g1:=Afb h1 h2 h3
 have g2:=Ahu (v:=v) (fun i a b hi ha hb'=>(Vw (by rw[hv i a b hi ha hb'];exact Aeh i a b)).1 (by rw[←hv i a b hi ha hb'];exact Int.le_refl _))
 omega
end Go.Proofs.YtfcnhnbnjdccfaaGreat

namespace Go.Proofs.YtfcnhnbnjdccfaaGreat
set_option linter.all false
open Go

section
variable {N:Nat} {T:List (List Int)} {H A B:List Int} {f:Int}
def gv(G:List Int)(i a b:Nat):Int:=G.getD (i*49+a*7+b) 0
def val3(X:List (List (List Int)))(i a b:Nat):Int:=((X.getD i []).getD a []).getD b 0
theorem Ns{Z:Type}{G:List Int}{k i a b:Nat}{g:Int→Option Z}(hG:G.length=539)(hk:k=i*49+a*7+b)(h:i≤10∧a≤6∧b≤6):get G k g=g (gv G i a b):=by
 subst hk
 exact Ady 0 (by omega)
theorem A6y{G:List Int}(hG:G.length=539)(hin:∀x∈G,0≤x∧x≤99){i a b:Nat}(h:i≤10∧a≤6∧b≤6):0≤gv G i a b∧gv G i a b≤99:=hin _ (Aa (by omega))
theorem A9w{G:List Int}{i a b:Nat}{n:Int}(hG:G.length=539)(hH:H.length≤10)(hB:B.length≤6)(hi:i≤H.length)(ha:a≤6)(hb:b≤B.length)(hn:n≤99) :
  H8 N (T,H,f,A,B) i a b n G=some (min n (if 0<i∧0<b∧H.getD (i-1) 0=B.getD (b-1) 0 then gv G (i-1) a (b-1)else 99),G):=by
 unfold H8
 have out:¬(0<i∧0<b∧H.getD (i-1) 0=B.getD (b-1) 0)→some (n,G)=some (min n (if 0<i∧0<b∧H.getD (i-1) 0=B.getD (b-1) 0 then gv G (i-1) a (b-1)else 99),G):=fun h=>by
  rw[if_neg h,Int.min_eq_left hn]
 by_cases c1:0<i
 ·rw[A4 (by omega)]
  by_cases c2:0<b
  ·have e1:((i:Int)-1).toNat=i-1:=by omega
   have e2:((b:Int)-1).toNat=b-1:=by omega
   rw[A4 (by omega),A5 (by omega),Ab 0 (by omega) (by dsimp only;omega),A5 (by omega),Ab 0 (by omega) (by dsimp only;omega),e1,e2]
   dsimp only
   by_cases c3:H.getD (i-1) 0=B.getD (b-1) 0
   ·rw[A4 c3,A5 (by omega),A5 (by omega),Au (by omega),Au (by omega),Au (by omega),Ns (i:=i-1) (a:=a) (b:=b-1) hG (by simp) (by omega),if_pos ⟨c1,c2,c3⟩]
   ·rw[A3 c3];exact out (fun h=>c3 h.2.2)
  ·rw[A3 (by omega)];exact out (fun h=>c2 h.2.1)
 ·rw[A3 (by omega)];exact out (fun h=>c1 h.1)
theorem Acy{G:List Int}{i a b:Nat}{n:Int}(hG:G.length=539)(hH:H.length≤10)(hA:A.length≤6)(hB:B.length≤6)(hi:i≤H.length)(ha:a≤A.length)(hb:b≤B.length)(hn:n≤99) :
  Lj N (T,H,f,A,B) i a b n G=some (min (min n (if 0<i∧0<a∧H.getD (i-1) 0=A.getD (a-1) 0 then gv G (i-1) (a-1) b else 99)) (if 0<i∧0<b∧H.getD (i-1) 0=B.getD (b-1) 0 then gv G (i-1) a (b-1)else 99),G):=by
 unfold Lj
 have j4:=fun(n:Int) (hn:n≤99)=>A9w (N:=N) (T:=T) (A:=A) (f:=f) (a:=a) (n:=n) hG hH hB hi (by omega) hb hn
 have out:¬(0<i∧0<a∧H.getD (i-1) 0=A.getD (a-1) 0)→min n (if 0<i∧0<a∧H.getD (i-1) 0=A.getD (a-1) 0 then gv G (i-1) (a-1) b else 99)=n:=fun h=>by
  rw[if_neg h,Int.min_eq_left hn]
 by_cases c1:0<i
 ·rw[A4 (by omega)]
  by_cases c2:0<a
  ·have e1:((i:Int)-1).toNat=i-1:=by omega
   have e2:((a:Int)-1).toNat=a-1:=by omega
   rw[A4 (by omega),A5 (by omega),Ab 0 (by omega) (by dsimp only;omega),A5 (by omega),Ab 0 (by omega) (by dsimp only;omega),e1,e2]
   dsimp only
   by_cases c3:H.getD (i-1) 0=A.getD (a-1) 0
   ·rw[A4 c3,A5 (by omega),A5 (by omega),Au (by omega),Au (by omega),Au (by omega),Ns (i:=i-1) (a:=a-1) (b:=b) hG (by simp) (by omega),j4 _ (by omega),if_pos (show 0<i∧0<a∧H.getD (i-1) 0=A.getD (a-1) 0 from⟨c1,c2,c3⟩)]
   ·rw[A3 c3,j4 _ hn,out (fun h=>c3 h.2.2)]
  ·rw[A3 (by omega),j4 _ hn,out (fun h=>c2 h.2.1)]
 ·rw[A3 (by omega),j4 _ hn,out (fun h=>c1 h.1)]
theorem Adc{G:List Int}{i a b:Nat}(hG:G.length=539)(hin:∀x∈G,0≤x∧x≤99)(hH:H.length≤10)(hA:A.length≤6)(hB:B.length≤6)(hi:i≤H.length)(ha:a≤A.length)(hb:b≤B.length) :
  Jo N (T,H,f,A,B) i a b G=some (bndF H A B (gv G) i a b,G):=by
 unfold Jo bndF
 have j3:=fun(n:Int) (hn:n≤99)=>Acy (N:=N) (T:=T) (f:=f) (n:=n) hG hH hA hB hi ha hb hn
 rw[A5 (by omega),A5 (by omega)]
 by_cases z:i+a+b=0
 ·rw[A4 (by omega),if_pos z]
 ·rw[A3 (by omega),if_neg z]
  have j2:∀n:Int,n≤99→Ke N (T,H,f,A,B) i a b n G=some (min (min (min n (if 0<b then gv G i a (b-1)+1 else 99)) (if 0<i∧0<a∧H.getD (i-1) 0=A.getD (a-1) 0 then gv G (i-1) (a-1) b else 99)) (if 0<i∧0<b∧H.getD (i-1) 0=B.getD (b-1) 0 then gv G (i-1) a (b-1)else 99),G):=fun n hn=>by
   unfold Ke
   by_cases c:0<b
   ·have g:=A6y hG hin (i:=i) (a:=a) (b:=b-1) (by omega)
    rw[A4 (by omega),A5 (by omega),Au (by omega),Au (by omega),Au (by omega),Ns (i:=i) (a:=a) (b:=b-1) hG (by simp) (by omega),A5 (by omega),j3 _ (by omega),if_pos c]
   ·rw[A3 (by omega),j3 _ hn,if_neg c,Int.min_eq_left hn]
  have j1:∀n:Int,n≤99→Ks N (T,H,f,A,B) i a b n G=some (min (min (min (min n (if 0<a then gv G i (a-1) b+1 else 99)) (if 0<b then gv G i a (b-1)+1 else 99)) (if 0<i∧0<a∧H.getD (i-1) 0=A.getD (a-1) 0 then gv G (i-1) (a-1) b else 99)) (if 0<i∧0<b∧H.getD (i-1) 0=B.getD (b-1) 0 then gv G (i-1) a (b-1)else 99),G):=fun n hn=>by
   unfold Ks
   by_cases c:0<a
   ·have g:=A6y hG hin (i:=i) (a:=a-1) (b:=b) (by omega)
    have e2:((a:Int)-1).toNat=a-1:=by omega
    rw[A4 (by omega),A5 (by omega),Au (by omega),Au (by omega),Au (by omega),Ns (i:=i) (a:=a-1) (b:=b) hG (by rw[e2];simp) (by omega),A5 (by omega),j2 _ (by omega),if_pos c]
   ·rw[A3 (by omega),j2 _ hn,if_neg c,Int.min_eq_left hn]
  by_cases c:0<i
  ·have g:=A6y hG hin (i:=i-1) (a:=a) (b:=b) (by omega)
   have e1:((i:Int)-1).toNat=i-1:=by omega
   rw[A4 (by omega),A5 (by omega),Au (by omega),Au (by omega),Au (by omega),Ns (i:=i-1) (a:=a) (b:=b) hG (by rw[e1];simp) (by omega),A5 (by omega),j1 _ (by omega),if_pos c]
  ·rw[A3 (by omega),j1 _ (by omega),if_neg c]
   simp
theorem Ni{v v':Nat→Nat→Nat→Int}{i a b:Nat}(h:∀i' a' b',i'≤i→a'≤a→b'≤b→i'+a'+b'<i+a+b→v i' a' b'=v' i' a' b'):bndF H A B v i a b=bndF H A B v' i a b:=by
 unfold bndF
 by_cases z:i+a+b=0
 ·rw[if_pos z,if_pos z]
 ·rw[if_neg z,if_neg z]
  have e1:(if 0<i then v (i-1) a b+1 else 99)=if 0<i then v' (i-1) a b+1 else 99:=by split;rw[h _ _ _ (by omega) (by omega) (by omega) (by omega)];rfl
  have e2:(if 0<a then v i (a-1) b+1 else 99)=if 0<a then v' i (a-1) b+1 else 99:=by split;rw[h _ _ _ (by omega) (by omega) (by omega) (by omega)];rfl
  have e3:(if 0<b then v i a (b-1)+1 else 99)=if 0<b then v' i a (b-1)+1 else 99:=by split;rw[h _ _ _ (by omega) (by omega) (by omega) (by omega)];rfl
  have e4:(if 0<i∧0<a∧H.getD (i-1) 0=A.getD (a-1) 0 then v (i-1) (a-1) b else 99)=if 0<i∧0<a∧H.getD (i-1) 0=A.getD (a-1) 0 then v' (i-1) (a-1) b else 99:=by
   split
   ·rename_i c;rw[h _ _ _ (by omega) (by omega) (by omega) (by omega)]
   ·rfl
  have e5:(if 0<i∧0<b∧H.getD (i-1) 0=B.getD (b-1) 0 then v (i-1) a (b-1)else 99)=if 0<i∧0<b∧H.getD (i-1) 0=B.getD (b-1) 0 then v' (i-1) a (b-1)else 99:=by
   split
   ·rename_i c;rw[h _ _ _ (by omega) (by omega) (by omega) (by omega)]
   ·rfl
  rw[e1,e2,e3,e4,e5]
theorem Abl{G:List Int}{i a b i' a' b':Nat}{v:Int}(hG:G.length=539)(h:i≤10∧a≤6∧b≤6)(h':a'≤6∧b'≤6):gv (G.set (i*49+a*7+b) v) i' a' b'=if i'=i∧a'=a∧b'=b then v else gv G i' a' b':=by
 unfold gv
 rw[Fz _ _ _ _ _ (by omega)]
 by_cases c:i'=i∧a'=a∧b'=b
 ·rw[if_pos c,if_pos (by obtain⟨rfl,rfl,rfl⟩:=c;rfl)]
 ·rw[if_neg c,if_neg (fun h2=>c (by omega))]
theorem Aiy{X:List (List (List Int))}{I A' B' i a b i' a' b':Nat}{v:Int}(hX:Shp X I A' B')(hi:i<I)(ha:a<A')(hb:b<B'):val3 (upd3 X i a b v) i' a' b'=if i'=i∧a'=a∧b'=b then v else val3 X i' a' b':=by
 obtain⟨h1,h2⟩:=hX
 obtain⟨h3,h4⟩:=h2 i hi
 unfold val3 upd3
 rw[Fz _ _ _ _ _ (by omega)]
 by_cases c1:i'=i
 ·subst c1
  rw[if_pos rfl,Fz _ _ _ _ _ (by omega)]
  by_cases c2:a'=a
  ·subst c2
   rw[if_pos rfl,Fz _ _ _ _ _ (by rw[h4 a' ha];exact hb)]
   by_cases c3:b'=b
   ·rw[if_pos c3,if_pos ⟨rfl,rfl,c3⟩]
   ·rw[if_neg c3,if_neg (fun h=>c3 h.2.2)]
  ·rw[if_neg c2,if_neg (fun h=>c2 h.2.1)]
 ·rw[if_neg c1,if_neg (fun h=>c1 h.1)]
structure MI (H A B G:List Int) (X:List (List (List Int))) (o:Nat):Prop where
 glen:G.length=539
 gin:∀x∈G,0≤x∧x≤99
 shp:Shp X (H.length+1) (A.length+1) (B.length+1)
 fix:∀i a b,i≤H.length→a≤A.length→b≤B.length→i*49+a*7+b<o→gv G i a b=bndF H A B (gv G) i a b∧val3 X i a b=gv G i a b
theorem MI.step{G:List Int}{X:List (List (List Int))}{i a b:Nat}(h:MI H A B G X (i*49+a*7+b))(hH:H.length≤10)(hA:A.length≤6)(hB:B.length≤6)(hi:i≤H.length)(ha:a≤A.length)(hb:b≤B.length) :
  MI H A B (G.set (i*49+a*7+b) (bndF H A B (gv G) i a b)) (upd3 X i a b (bndF H A B (gv G) i a b)) (i*49+a*7+(b+1)):=by
 have hle:=Aeh (H:=H) (A:=A) (B:=B) (v:=gv G) i a b
 have hnn:0≤bndF H A B (gv G) i a b:=A8j (fun i' a' b' h1 h2 h3 _=>(A6y h.glen h.gin (by omega)).1)
 refine⟨by rw[List.length_set];exact h.glen,fun x hx=>?_,h.shp.upd3 (by omega) (by omega),fun i' a' b' h1 h2 h3 h4=>?_⟩
 ·rcases List.mem_or_eq_of_mem_set hx with hx | rfl
  ·exact h.gin x hx
  ·exact⟨hnn,hle⟩
 ·have hcg:bndF H A B (gv (G.set (i*49+a*7+b) (bndF H A B (gv G) i a b))) i' a' b'=bndF H A B (gv G) i' a' b':=Ni (fun i2 a2 b2 g1 g2 g3 g4=>by
   rw[Abl h.glen (by omega) (by omega),if_neg (by omega)])
  rw[hcg,Abl h.glen (by omega) (by omega),Aiy h.shp (by omega) (by omega) (by omega)]
  by_cases c:i'=i∧a'=a∧b'=b
  ·rw[if_pos c,if_pos c]
   obtain⟨rfl,rfl,rfl⟩:=c
   exact⟨rfl,rfl⟩
  ·rw[if_neg c,if_neg c]
   exact h.fix i' a' b' h1 h2 h3 (by omega)
theorem MI.mono{G:List Int}{X:List (List (List Int))}{o o':Nat}(h:MI H A B G X o)(hA:A.length≤6)(hB:B.length≤6)(ho:∀i a b,i≤H.length→a≤A.length→b≤B.length→i*49+a*7+b<o'→i*49+a*7+b<o):MI H A B G X o':=
 ⟨h.glen,h.gin,h.shp,fun i a b h1 h2 h3 h4=>h.fix i a b h1 h2 h3 (ho i a b h1 h2 h3 h4)⟩
theorem Ant(hH:H.length≤10)(hA:A.length≤6)(hB:B.length≤6){i a:Nat}(hi:i≤H.length)(ha:a≤A.length):∀(k b:Nat) (G:List Int) (X:List (List (List Int))),k+b=B.length+1→MI H A B G X (i*49+a*7+b)→∃G2 X2,mkBm N (T,H,f,A,B) i a k b G X=some (G2,X2)∧MI H A B G2 X2 (i*49+a*7+(B.length+1))
 | 0,b,G,X,hk,h=>⟨G,X,rfl,by rw[show B.length+1=b by omega];exact h⟩
 | k+1,b,G,X,hk,h=>by
  unfold mkBm
  rw[Adc h.glen h.gin hH hA hB hi ha (by omega)]
  simp only[Option.bind_some]
  exact Ant hH hA hB hi ha k (b+1) _ _ (by omega) (h.step hH hA hB hi ha (by omega))
theorem Anv(hH:H.length≤10)(hA:A.length≤6)(hB:B.length≤6){i:Nat}(hi:i≤H.length):∀(k a:Nat) (G:List Int) (X:List (List (List Int))),k+a=A.length+1→MI H A B G X (i*49+a*7)→∃G2 X2,mkA N (T,H,f,A,B) (B.length+1) i k a G X=some (G2,X2)∧MI H A B G2 X2 (i*49+(A.length+1)*7)
 | 0,a,G,X,hk,h=>⟨G,X,rfl,by rw[show A.length+1=a by omega];exact h⟩
 | k+1,a,G,X,hk,h=>by
  unfold mkA
  obtain⟨G1,X1,e,h1⟩:=Ant (N:=N) (T:=T) (f:=f) hH hA hB hi (by omega:a≤A.length) (B.length+1) 0 G X (by omega) h
  rw[e]
  simp only[Option.bind_some]
  exact Anv hH hA hB hi k (a+1) G1 X1 (by omega) (h1.mono hA hB (fun i' a' b' _ _ _ _=>by omega))
theorem Anz(hH:H.length≤10)(hA:A.length≤6)(hB:B.length≤6):∀(k i:Nat) (G:List Int) (X:List (List (List Int))),k+i=H.length+1→MI H A B G X (i*49)→∃G2 X2,mkI N (T,H,f,A,B) (A.length+1) (B.length+1) k i G X=some (G2,X2)∧MI H A B G2 X2 ((H.length+1)*49)
 | 0,i,G,X,hk,h=>⟨G,X,rfl,by rw[show H.length+1=i by omega];exact h⟩
 | k+1,i,G,X,hk,h=>by
  unfold mkI
  obtain⟨G1,X1,e,h1⟩:=Anv (N:=N) (T:=T) (f:=f) hH hA hB (by omega:i≤H.length) (A.length+1) 0 G X (by omega) h
  rw[e]
  simp only[Option.bind_some]
  exact Anz hH hA hB k (i+1) G1 X1 (by omega) (h1.mono hA hB (fun i' a' b' _ _ _ _=>by omega))
structure Mks (H A B:List Int) (X:List (List (List Int))):Prop where
 shp:Shp X (H.length+1) (A.length+1) (B.length+1)
 fix:∀i a b,i≤H.length→a≤A.length→b≤B.length→val3 X i a b=bndF H A B (val3 X) i a b
 rng:∀i a b,i≤H.length→a≤A.length→b≤B.length→0≤val3 X i a b∧val3 X i a b≤99
theorem Amj(hN:20≤N){p p2:Int}(h:Ao T H f p p2=0):∃X,marks_S N T H f p p2=some (X,0)∧Mks H (T.getD p.toNat []) (T.getD p2.toNat []) X:=by
 obtain⟨hF,ha,hb,e⟩:=Ap hN h
 have hH:=hF.h
 have lA:=(hF.l (T.getD p.toNat []) (Aa (by omega))).2
 have lB:=(hF.l (T.getD p2.toNat []) (Aa (by omega))).2
 unfold marks_S
 rw[e]
 simp only[Option.bind_some,decide_true,Bool.not_true,A6]
 unfold L6
 dsimp only
 generalize T.getD p.toNat []=A at *
 generalize T.getD p2.toNat []=B at *
 rw[if_pos ⟨hH,lA,lB⟩]
 obtain⟨G2,X2,e2,h2⟩:=Anz (N:=N) (T:=T) (f:=f) hH lA lB (H.length+1) 0 (List.replicate 539 0) (Ck (H.length+1) (A.length+1) (B.length+1)) (by omega) ⟨List.length_replicate,fun x hx=>by rw[(List.mem_replicate.1 hx).2];decide,Shp.zeros _ _ _,fun i a b _ _ _ h=>by omega⟩
 rw[e2]
 refine⟨X2,rfl,h2.shp,fun i a b h1 h3 h4=>?_,fun i a b h1 h3 h4=>?_⟩
 ·obtain⟨g1,g2⟩:=h2.fix i a b h1 h3 h4 (by omega)
  rw[g2,g1]
  exact Ni (fun i' a' b' k1 k2 k3 _=>((h2.fix i' a' b' (by omega) (by omega) (by omega) (by omega)).2).symm)
 ·obtain⟨g1,g2⟩:=h2.fix i a b h1 h3 h4 (by omega)
  rw[g2]
  exact A6y h2.glen h2.gin (by omega)
theorem Aey(hN:20≤N){p p2:Int}(h:Ao T H f p p2≠0):marks_S N T H f p p2=some ([],Ao T H f p p2):=by
 unfold marks_S
 rw[Bu hN h]
 simp only[Option.bind_some]
 rw[Al h]
end
end Go.Proofs.YtfcnhnbnjdccfaaGreat

namespace Go.Proofs.YtfcnhnbnjdccfaaGreat
set_option linter.all false
open Go

section
variable {N:Nat} {T:List (List Int)} {H A B:List Int} {f:Int} {m:List (List (List Int))}
theorem Lb{Z:Type}{I A' B':Nat}(hS:Shp m I A' B'){i k n:Int}{g:Int→Option Z}(h1:0≤i∧i<I)(h2:0≤k∧k<A')(h3:0≤n∧n<B'):(idx m i fun x=>idx x k fun y=>idx y n fun z=>g z)=g (val3 m i.toNat k.toNat n.toNat):=by
 obtain⟨g1,g2⟩:=hS
 obtain⟨g3,g4⟩:=g2 i.toNat (by omega)
 have g5:=g4 k.toNat (by omega)
 rw[Ab [] h1.1 (by omega),Ab [] h2.1 (by omega),Ab 0 h3.1 (by omega)]
 rfl
abbrev RecT:=List (List (List Int))→List Int→List Int→Bool→Bool→Int→Int→Int→List (List Int)→List Int→Int→Option (List (List (List Int))×List Int×List Int×Bool×Bool×Int×Int×List (List Int)×List Int×Int)
section
variable {rec:RecT} {al ho:Bool} {i k n:Nat} {now:Int} (hS:Shp m (H.length+1) (A.length+1) (B.length+1)) (hH:H.length≤1000) (hA:A.length≤1000) (hB:B.length≤1000) (hi:i≤H.length) (hk:k≤A.length) (hn:n≤B.length)
include hS hH hA hB hi hk hn
theorem A9q:Ch N rec m A B al ho i k n now T H f=D5 N rec m A B al (ho&&!(decide (0<i∧0<n∧H.getD (i-1) 0=B.getD (n-1) 0∧val3 m (i-1) k (n-1)<now))) i k n T H f:=by
 unfold Ch
 by_cases c1:0<i
 ·rw[A4 (by omega)]
  by_cases c2:0<n
  ·have e1:(IntKind.i64.wrap ((i:Int)-1))=(i:Int)-1:=wrap64 (by omega)
   have e2:(IntKind.i64.wrap ((n:Int)-1))=(n:Int)-1:=wrap64 (by omega)
   have e3:((i:Int)-1).toNat=i-1:=by omega
   have e4:((n:Int)-1).toNat=n-1:=by omega
   rw[A4 (by omega),e1,e2,Ab 0 (by omega) (by omega),Ab 0 (by omega) (by omega),e3,e4]
   by_cases c3:H.getD (i-1) 0=B.getD (n-1) 0
   ·rw[A4 c3,Lb hS (by omega) (by omega) (by omega),e3,e4,Int.toNat_natCast]
    by_cases c4:val3 m (i-1) k (n-1)<now
    ·rw[A4 c4,decide_eq_true (show 0<i∧0<n∧H.getD (i-1) 0=B.getD (n-1) 0∧val3 m (i-1) k (n-1)<now from⟨c1,c2,c3,c4⟩)];simp
    ·rw[A3 c4,decide_eq_false (fun h=>c4 h.2.2.2)];simp
   ·rw[A3 c3,decide_eq_false (fun h=>c3 h.2.2.1)];simp
  ·rw[A3 (by omega),decide_eq_false (fun h=>c2 h.2.1)];simp
 ·rw[A3 (by omega),decide_eq_false (fun h=>c1 h.1)];simp
theorem A80:Ae N rec m A B al ho i k n now T H f=Ch N rec m A B al (ho&&!(decide (0<i∧0<k∧H.getD (i-1) 0=A.getD (k-1) 0∧val3 m (i-1) (k-1) n<now))) i k n now T H f:=by
 unfold Ae
 by_cases c1:0<i
 ·rw[A4 (by omega)]
  by_cases c2:0<k
  ·have e1:(IntKind.i64.wrap ((i:Int)-1))=(i:Int)-1:=wrap64 (by omega)
   have e2:(IntKind.i64.wrap ((k:Int)-1))=(k:Int)-1:=wrap64 (by omega)
   have e3:((i:Int)-1).toNat=i-1:=by omega
   have e4:((k:Int)-1).toNat=k-1:=by omega
   rw[A4 (by omega),e1,e2,Ab 0 (by omega) (by omega),Ab 0 (by omega) (by omega),e3,e4]
   by_cases c3:H.getD (i-1) 0=A.getD (k-1) 0
   ·rw[A4 c3,Lb hS (by omega) (by omega) (by omega),e3,e4,Int.toNat_natCast]
    by_cases c4:val3 m (i-1) (k-1) n<now
    ·rw[A4 c4,decide_eq_true (show 0<i∧0<k∧H.getD (i-1) 0=A.getD (k-1) 0∧val3 m (i-1) (k-1) n<now from⟨c1,c2,c3,c4⟩)];simp
    ·rw[A3 c4,decide_eq_false (fun h=>c4 h.2.2.2)];simp
   ·rw[A3 c3,decide_eq_false (fun h=>c3 h.2.2.1)];simp
  ·rw[A3 (by omega),decide_eq_false (fun h=>c2 h.2.1)];simp
 ·rw[A3 (by omega),decide_eq_false (fun h=>c1 h.1)];simp
theorem A9i:G6 N rec m A B al ho i k n now T H f=Ae N rec m A B al (ho&&!((decide (0<i)&&decide (val3 m (i-1) k n<IntKind.i64.wrap (now-1))) || ((decide (0<k)&&decide (val3 m i (k-1) n<IntKind.i64.wrap (now-1))) || (decide (0<n)&&decide (val3 m i k (n-1)<IntKind.i64.wrap (now-1)))))) i k n now T H f:=by
 unfold G6
 generalize IntKind.i64.wrap (now-1)=W
 have t1:((i:Int)-1).toNat=i-1:=by omega
 have t2:((k:Int)-1).toNat=k-1:=by omega
 have t3:((n:Int)-1).toNat=n-1:=by omega
 have third:br (decide (0<(n:Int))) (idx m i fun x=>idx x k fun y=>idx y (IntKind.i64.wrap ((n:Int)-1)) fun z=>br (decide (z<W)) (Ae N rec m A B al false i k n now T H f) (Ae N rec m A B al ho i k n now T H f)) (Ae N rec m A B al ho i k n now T H f)
   = Ae N rec m A B al (ho&&!(decide (0<n)&&decide (val3 m i k (n-1)<W))) i k n now T H f:=by
  by_cases c:0<n
  ·have e:(IntKind.i64.wrap ((n:Int)-1))=(n:Int)-1:=wrap64 (by omega)
   rw[A4 (by omega),e,Lb hS (by omega) (by omega) (by omega),t3,Int.toNat_natCast,Int.toNat_natCast]
   by_cases d:val3 m i k (n-1)<W
   ·rw[A4 d];simp[c,d]
   ·rw[A3 d];simp[d]
  ·rw[A3 (by omega)];simp[c]
 have second:br (decide (0<(k:Int))) (idx m i fun x=>idx x (IntKind.i64.wrap ((k:Int)-1)) fun y=>idx y n fun z=>br (decide (z<W)) (Ae N rec m A B al false i k n now T H f) (Ae N rec m A B al (ho&&!(decide (0<n)&&decide (val3 m i k (n-1)<W))) i k n now T H f)) (Ae N rec m A B al (ho&&!(decide (0<n)&&decide (val3 m i k (n-1)<W))) i k n now T H f)
   = Ae N rec m A B al (ho&&!((decide (0<k)&&decide (val3 m i (k-1) n<W)) || (decide (0<n)&&decide (val3 m i k (n-1)<W)))) i k n now T H f:=by
  by_cases c:0<k
  ·have e:(IntKind.i64.wrap ((k:Int)-1))=(k:Int)-1:=wrap64 (by omega)
   rw[A4 (by omega),e,Lb hS (by omega) (by omega) (by omega),t2,Int.toNat_natCast,Int.toNat_natCast]
   by_cases d:val3 m i (k-1) n<W
   ·rw[A4 d];simp[c,d]
   ·rw[A3 d];simp[d]
  ·rw[A3 (by omega)];simp[c]
 rw[third,second]
 by_cases c:0<i
 ·have e:(IntKind.i64.wrap ((i:Int)-1))=(i:Int)-1:=wrap64 (by omega)
  rw[A4 (by omega),e,Lb hS (by omega) (by omega) (by omega),t1,Int.toNat_natCast,Int.toNat_natCast]
  by_cases d:val3 m (i-1) k n<W
  ·rw[A4 d];simp[c,d]
  ·rw[A3 d];simp[d]
 ·rw[A3 (by omega)];simp[c]
end
def C3(H A B:List Int)(v:Nat→Nat→Nat→Int)(i a b:Nat):Prop:=
 (0<i→v i a b≤v (i-1) a b+1)∧(0<a→v i a b≤v i (a-1) b+1)∧(0<b→v i a b≤v i a (b-1)+1)∧(0<i→0<a→H.getD (i-1) 0=A.getD (a-1) 0→v i a b≤v (i-1) (a-1) b)∧(0<i→0<b→H.getD (i-1) 0=B.getD (b-1) 0→v i a b≤v (i-1) a (b-1))
theorem C3.stp{v:Nat→Nat→Nat→Int}{i a b:Nat}:Stp3 H A B v i a b (v i a b)↔(i+a+b=0→v i a b≤0)∧C3 H A B v i a b:=
 ⟨fun h=>⟨h.sz,h.sh,h.sa,h.sb,h.sha,h.shb⟩,fun h=>⟨h.1,h.2.1,h.2.2.1,h.2.2.2.1,h.2.2.2.2.1,h.2.2.2.2.2⟩⟩
def Rng3(H A B:List Int)(m:List (List (List Int))):Prop:=∀i a b,i≤H.length→a≤A.length→b≤B.length→0≤val3 m i a b∧val3 m i a b≤99
section
variable (hS:Shp m (H.length+1) (A.length+1) (B.length+1)) (hH:H.length≤1000) (hA:A.length≤1000) (hB:B.length≤1000)
include hS hH hA hB
theorem Aaj{rec:RecT}{al ho:Bool}{i k n:Nat}(hi:i≤H.length)(hk:k≤A.length)(hn:n≤B.length):∃ho',G6 N rec m A B al ho i k n (val3 m i k n) T H f=rec m A B al ho' i k ((n:Int)+1) T H f∧(Rng3 H A B m→(ho'=true↔ho=true∧C3 H A B (val3 m) i k n)):=by
 rw[A9i hS hH hA hB hi hk hn,A80 hS hH hA hB hi hk hn,A9q hS hH hA hB hi hk hn]
 unfold D5
 rw[A5 (by omega)]
 refine⟨_,rfl,fun hR=>?_⟩
 have h0:=hR i k n hi hk hn
 rw[wrap64 (by omega)]
 unfold C3
 simp only[Bool.and_eq_true,Bool.not_eq_true',Bool.or_eq_false_iff,Bool.and_eq_false_iff,decide_eq_false_iff_not]
 constructor
 ·rintro ⟨⟨⟨h1,h2,h3,h4⟩,h5⟩,h6⟩
  refine⟨h1,fun g=>?_,fun g=>?_,fun g=>?_,fun g1 g2 g3=>?_,fun g1 g2 g3=>?_⟩
  ·rcases h2 with h | h
   ·exact absurd g h
   ·omega
  ·rcases h3 with h | h
   ·exact absurd g h
   ·omega
  ·rcases h4 with h | h
   ·exact absurd g h
   ·omega
  ·have:¬val3 m (i-1) (k-1) n<val3 m i k n:=fun h=>h5 ⟨g1,g2,g3,h⟩
   omega
  ·have:¬val3 m (i-1) k (n-1)<val3 m i k n:=fun h=>h6 ⟨g1,g2,g3,h⟩
   omega
 ·rintro ⟨h1,h2,h3,h4,h5,h6⟩
  refine⟨⟨⟨h1,?_,?_,?_⟩,fun g=>?_⟩,fun g=>?_⟩
  ·by_cases g:0<i
   ·have:=h2 g;exact .inr (by omega)
   ·exact .inl g
  ·by_cases g:0<k
   ·have:=h3 g;exact .inr (by omega)
   ·exact .inl g
  ·by_cases g:0<n
   ·have:=h4 g;exact .inr (by omega)
   ·exact .inl g
  ·have:=h5 g.1 g.2.1 g.2.2.1;omega
  ·have:=h6 g.1 g.2.1 g.2.2.1;omega
theorem K3{i k:Nat}(hi:i≤H.length)(hk:k≤A.length):∀(fu n:Nat) (al ho:Bool),B.length+1<fu+n→n≤B.length+1→∃al' ho',rshows_l5 N fu m A B al ho i k n T H f=some (m,A,B,al',ho',(i:Int),(k:Int),T,H,f)∧(al'=true↔al=true∧∀b,n≤b→b≤B.length→0≤val3 m i k b∧val3 m i k b≤99)∧(Rng3 H A B m→(ho'=true↔ho=true∧∀b,n≤b→b≤B.length→C3 H A B (val3 m) i k b))
 | 0,n,al,ho,h,hn=>by omega
 | fu+1,n,al,ho,h,hn=>by
  rw[rshows_l5]
  by_cases c:n≤B.length
  ·rw[A4 (by omega),Lb hS (by omega) (by omega) (by omega)]
   simp only[Int.toNat_natCast]
   rw[Tc]
   simp only[Option.bind_some]
   have one:=fun(al2:Bool)=>Aaj (N:=N) (T:=T) (f:=f) hS hH hA hB (rec:=rshows_l5 N fu) (al:=al2) (ho:=ho) hi hk c
   by_cases d:0≤val3 m i k n∧val3 m i k n≤99
   ·rw[decide_eq_true d,Bool.not_true,A6]
    obtain⟨h1,e1,g1⟩:=one al
    rw[e1]
    obtain⟨al',ho',e2,q1,q2⟩:=K3 hi hk fu (n+1) al h1 (by omega) (by omega)
    rw[show((n+1:Nat):Int)=(n:Int)+1 by omega]at e2
    refine⟨al',ho',e2,?_,fun hR=>?_⟩
    ·rw[q1]
     exact⟨fun h=>⟨h.1,fun b h1 h2=>by rcases Nat.lt_or_ge n b with h3 | h3;exact h.2 b h3 h2;obtain rfl:b=n:=(by omega);exact d⟩,fun h=>⟨h.1,fun b h1 h2=>h.2 b (by omega) h2⟩⟩
    ·rw[q2 hR,g1 hR]
     exact⟨fun h=>⟨h.1.1,fun b h1 h2=>by rcases Nat.lt_or_ge n b with h3 | h3;exact h.2 b h3 h2;obtain rfl:b=n:=(by omega);exact h.1.2⟩,fun h=>⟨⟨h.1,h.2 n (Nat.le_refl _) c⟩,fun b h1 h2=>h.2 b (by omega) h2⟩⟩
   ·rw[decide_eq_false d,Bool.not_false,B1]
    obtain⟨h1,e1,g1⟩:=one false
    rw[e1]
    obtain⟨al',ho',e2,q1,q2⟩:=K3 hi hk fu (n+1) false h1 (by omega) (by omega)
    rw[show((n+1:Nat):Int)=(n:Int)+1 by omega]at e2
    refine⟨al',ho',e2,?_,fun hR=>?_⟩
    ·rw[q1]
     exact⟨fun h=>absurd h.1 (by decide),fun h=>absurd (h.2 n (Nat.le_refl _) c) d⟩
    ·exact absurd (hR i k n hi hk c) d
  ·rw[A3 (by omega)]
   exact⟨al,ho,rfl,⟨fun h=>⟨h,fun b h1 h2=>by omega⟩,fun h=>h.1⟩,fun _=>⟨fun h=>⟨h,fun b h1 h2=>by omega⟩,fun h=>h.1⟩⟩
theorem Ue(hBN:B.length+1<N){i:Nat}(hi:i≤H.length):∀(fu k:Nat) (al ho:Bool),A.length+1<fu+k→k≤A.length+1→∃al' ho',rshows_l4 N fu m A B al ho i k T H f=some (m,A,B,al',ho',(i:Int),T,H,f)∧(al'=true↔al=true∧∀a b,k≤a→a≤A.length→b≤B.length→0≤val3 m i a b∧val3 m i a b≤99)∧(Rng3 H A B m→(ho'=true↔ho=true∧∀a b,k≤a→a≤A.length→b≤B.length→C3 H A B (val3 m) i a b))
 | 0,k,al,ho,h,hn=>by omega
 | fu+1,k,al,ho,h,hn=>by
  rw[rshows_l4]
  by_cases c:k≤A.length
  ·obtain⟨al1,ho1,e1,p1,p2⟩:=K3 (N:=N) (T:=T) (f:=f) hS hH hA hB hi c N 0 al ho (by omega) (by omega)
   rw[show((0:Nat):Int)=0 from rfl]at e1
   rw[A4 (by omega),e1]
   simp only[Option.bind_some]
   rw[A5 (by omega)]
   obtain⟨al',ho',e2,q1,q2⟩:=Ue hBN hi fu (k+1) al1 ho1 (by omega) (by omega)
   rw[show((k+1:Nat):Int)=(k:Int)+1 by omega]at e2
   refine⟨al',ho',e2,?_,fun hR=>?_⟩
   ·rw[q1,p1]
    exact⟨fun h=>⟨h.1.1,fun a b h1 h2 h3=>by rcases Nat.lt_or_ge k a with h4 | h4;exact h.2 a b h4 h2 h3;obtain rfl:a=k:=(by omega);exact h.1.2 b (Nat.zero_le _) h3⟩,fun h=>⟨⟨h.1,fun b _ h2=>h.2 k b (Nat.le_refl _) c h2⟩,fun a b h1 h2 h3=>h.2 a b (by omega) h2 h3⟩⟩
   ·rw[q2 hR,p2 hR]
    exact⟨fun h=>⟨h.1.1,fun a b h1 h2 h3=>by rcases Nat.lt_or_ge k a with h4 | h4;exact h.2 a b h4 h2 h3;obtain rfl:a=k:=(by omega);exact h.1.2 b (Nat.zero_le _) h3⟩,fun h=>⟨⟨h.1,fun b _ h2=>h.2 k b (Nat.le_refl _) c h2⟩,fun a b h1 h2 h3=>h.2 a b (by omega) h2 h3⟩⟩
  ·rw[A3 (by omega)]
   exact⟨al,ho,rfl,⟨fun h=>⟨h,fun a b h1 h2=>by omega⟩,fun h=>h.1⟩,fun _=>⟨fun h=>⟨h,fun a b h1 h2=>by omega⟩,fun h=>h.1⟩⟩
theorem Tn(hAN:A.length+1<N)(hBN:B.length+1<N):∀(fu i:Nat) (al ho:Bool),H.length+1<fu+i→i≤H.length+1→∃al' ho',rshows_l3 N fu m A B al ho i T H f=some (m,A,B,al',ho',T,H,f)∧(al'=true↔al=true∧∀j a b,i≤j→j≤H.length→a≤A.length→b≤B.length→0≤val3 m j a b∧val3 m j a b≤99)∧(Rng3 H A B m→(ho'=true↔ho=true∧∀j a b,i≤j→j≤H.length→a≤A.length→b≤B.length→C3 H A B (val3 m) j a b))
 | 0,k,al,ho,h,hn=>by omega
 | fu+1,i,al,ho,h,hn=>by
  rw[rshows_l3]
  by_cases c:i≤H.length
  ·obtain⟨al1,ho1,e1,p1,p2⟩:=Ue (N:=N) (T:=T) (f:=f) hS hH hA hB hBN c N 0 al ho (by omega) (by omega)
   rw[show((0:Nat):Int)=0 from rfl]at e1
   rw[A4 (by omega),e1]
   simp only[Option.bind_some]
   rw[A5 (by omega)]
   obtain⟨al',ho',e2,q1,q2⟩:=Tn hAN hBN fu (i+1) al1 ho1 (by omega) (by omega)
   rw[show((i+1:Nat):Int)=(i:Int)+1 by omega]at e2
   refine⟨al',ho',e2,?_,fun hR=>?_⟩
   ·rw[q1,p1]
    exact⟨fun h=>⟨h.1.1,fun j a b h1 h2 h3 h5=>by rcases Nat.lt_or_ge i j with h4 | h4;exact h.2 j a b h4 h2 h3 h5;obtain rfl:j=i:=(by omega);exact h.1.2 a b (Nat.zero_le _) h3 h5⟩,fun h=>⟨⟨h.1,fun a b _ h2 h3=>h.2 i a b (Nat.le_refl _) c h2 h3⟩,fun j a b h1 h2 h3 h5=>h.2 j a b (by omega) h2 h3 h5⟩⟩
   ·rw[q2 hR,p2 hR]
    exact⟨fun h=>⟨h.1.1,fun j a b h1 h2 h3 h5=>by rcases Nat.lt_or_ge i j with h4 | h4;exact h.2 j a b h4 h2 h3 h5;obtain rfl:j=i:=(by omega);exact h.1.2 a b (Nat.zero_le _) h3 h5⟩,fun h=>⟨⟨h.1,fun a b _ h2 h3=>h.2 i a b (Nat.le_refl _) c h2 h3⟩,fun j a b h1 h2 h3 h5=>h.2 j a b (by omega) h2 h3 h5⟩⟩
  ·rw[A3 (by omega)]
   exact⟨al,ho,rfl,⟨fun h=>⟨h,fun j a b h1 h2=>by omega⟩,fun h=>h.1⟩,fun _=>⟨fun h=>⟨h,fun j a b h1 h2=>by omega⟩,fun h=>h.1⟩⟩
end
def rowK(B:List Int)(k:List Int):Bool:=decide ((k.length:Int)=(B.length:Int)+1)
def rowL(A B:List Int)(l:List (List Int)):Bool:=decide ((l.length:Int)=(A.length:Int)+1)&&l.all (rowK B)
theorem Uk{i:Nat}{l:List (List Int)}(hl:m[i]?=some l)(hll:l.length≤1000)(hB:B.length≤1000):∀(fu k:Nat),l.length<fu+k→k≤l.length→rshows_l2 N fu m A B i k T H f=some (if(l.drop k).all (rowK B)=true then .inr (m,A,B,(i:Int),T,H,f)else .inl ())
 | 0,k,h,_=>by omega
 | fu+1,k,h,hk=>by
  rw[rshows_l2,idx_eq (by omega) (by rw[Int.toNat_natCast];exact hl)]
  by_cases c:k<l.length
  ·have hk':l[((k:Nat):Int).toNat]?=some (l.getD k []):=by simp[List.getD,c]
   have hd:l.drop k=l.getD k []::l.drop (k+1):=by
    rw[List.drop_eq_getElem_cons c];simp[List.getD,c]
   rw[A4 (by omega),idx_eq (by omega) (by rw[Int.toNat_natCast];exact hl),idx_eq (by omega) hk',A5 (by omega),hd,List.all_cons]
   generalize l.getD k []=r
   have next:=Uk hl hll hB fu (k+1) (by omega) (by omega)
   rw[show((k+1:Nat):Int)=(k:Int)+1 by omega]at next
   unfold rowK at next ⊢
   by_cases d:(r.length:Int)=(B.length:Int)+1
   ·rw[Bk d,A5 (by omega),next,decide_eq_true d,Bool.true_and]
   ·rw[Al d,decide_eq_false d,Bool.false_and];rfl
  ·rw[A3 (by omega),List.drop_of_length_le (by omega)];rfl
theorem V0(hm:m.length≤1000)(hml:∀l∈m,l.length≤1000∧l.length<N)(hA:A.length≤1000)(hB:B.length≤1000):∀(fu i:Nat),m.length<fu+i→i≤m.length→∃r,rshows_l1 N fu m A B i T H f=some r∧((m.drop i).all (rowL A B)=true∧r=.inr (.inr (m,A,B,T,H,f))∨(m.drop i).all (rowL A B)=false∧(r=.inl ()∨r=.inr (.inl ())))
 | 0,i,h,_=>by omega
 | fu+1,i,h,hi=>by
  rw[rshows_l1]
  by_cases c:i<m.length
  ·have hk':m[i]?=some (m.getD i []):=by simp[List.getD,c]
   have hd:m.drop i=m.getD i []::m.drop (i+1):=by
    rw[List.drop_eq_getElem_cons c];simp[List.getD,c]
   obtain⟨l1,l2⟩:=hml (m.getD i []) (Aa c)
   rw[A4 (by omega),idx_eq (by omega) (by rw[Int.toNat_natCast];exact hk'),A5 (by omega),hd,List.all_cons]
   have e2:=Uk (N:=N) (A:=A) (B:=B) (T:=T) (H:=H) (f:=f) hk' l1 hB N 0 (by omega) (by omega)
   generalize m.getD i []=l at *
   rw[show((0:Nat):Int)=0 from rfl,List.drop_zero]at e2
   obtain⟨r,e3,hr⟩:=V0 hm hml hA hB fu (i+1) (by omega) (by omega)
   rw[show((i+1:Nat):Int)=(i:Int)+1 by omega]at e3
   have hrow:rowL A B l=(decide ((l.length:Int)=(A.length:Int)+1)&&l.all (rowK B)):=rfl
   rw[hrow]
   by_cases d:(l.length:Int)=(A.length:Int)+1
   ·rw[Bk d,e2,decide_eq_true d,Bool.true_and]
    simp only[Option.bind_some]
    cases g:l.all (rowK B)with
    | true=>
     simp only[if_true]
     rw[A5 (by omega),Bool.true_and]
     exact⟨r,e3,hr⟩
    | false=>exact⟨_,rfl,.inr ⟨rfl,.inr rfl⟩⟩
   ·rw[Al d,decide_eq_false d,Bool.false_and]
    exact⟨_,rfl,.inr ⟨rfl,.inl rfl⟩⟩
  ·rw[A3 (by omega),List.drop_of_length_le (by omega)]
   exact⟨_,rfl,.inl ⟨rfl,rfl⟩⟩
theorem Ak2(h1:(m.length:Int)=(H.length:Int)+1)(h2:m.all (rowL A B)=true):Shp m (H.length+1) (A.length+1) (B.length+1):=by
 refine⟨by omega,fun i hi=>?_⟩
 have g:=List.all_eq_true.1 h2 (m.getD i []) (Aa (by omega))
 unfold rowL at g
 simp only[Bool.and_eq_true,decide_eq_true_eq]at g
 refine⟨by omega,fun a ha=>?_⟩
 have g2:=List.all_eq_true.1 g.2 ((m.getD i []).getD a []) (Aa (by omega))
 unfold rowK at g2
 simp only[decide_eq_true_eq]at g2
 omega
def Ak9(H A B:List Int)(m:List (List (List Int)))(r:Int×Int):Prop:=
 (¬((m.length:Int)=(H.length:Int)+1∧m.all (rowL A B)=true)∧r=(0,2)) ∨
  (((m.length:Int)=(H.length:Int)+1∧m.all (rowL A B)=true) ∧
   ((¬Rng3 H A B m∧r=(0,3))∨(Rng3 H A B m ∧
    ((¬Nt H A B (val3 m)∧r=(0,8))∨(Nt H A B (val3 m)∧r=(val3 m H.length A.length B.length,0))))))
def Dt(T:List (List Int))(H:List Int)(f p p2:Int)(m:List (List (List Int)))(r:Int×Int):Prop:=
 if Ao T H f p p2≠0 then r=(0,Ao T H f p p2)else Ak9 H (T.getD p.toNat []) (T.getD p2.toNat []) m r
theorem Dt.good{p p2:Int}{o:Option (Int×Int)}(c:Ao T H f p p2=0)(h:∃r,o=some r∧Ak9 H (T.getD p.toNat []) (T.getD p2.toNat []) m r):∃r,o=some r∧Dt T H f p p2 m r:=by
 obtain⟨r,e,h⟩:=h
 refine⟨r,e,?_⟩
 unfold Dt
 rw[if_neg (by simpa using c)]
 exact h
theorem Dt.bad{p p2:Int}(c:Ao T H f p p2≠0):Dt T H f p p2 m (0,Ao T H f p p2):=by
 unfold Dt
 rw[if_pos c]
theorem Dt.uniq{p p2:Int}{r r':Int×Int}(h:Dt T H f p p2 m r)(h':Dt T H f p p2 m r'):r=r':=by
 unfold Dt at h h'
 split at h
 ·rename_i c
  rw[if_pos c]at h'
  rw[h,h']
 ·rename_i c
  rw[if_neg c]at h'
  unfold Ak9 at h h'
  rcases h with⟨a1,e⟩ | ⟨a1,h⟩
  ·rcases h' with⟨_,e'⟩ | ⟨b1,_⟩
   ·rw[e,e']
   ·exact absurd b1 a1
  ·rcases h' with⟨b1,_⟩ | ⟨_,h'⟩
   ·exact absurd a1 b1
   ·rcases h with⟨a2,e⟩ | ⟨a2,h⟩
    ·rcases h' with⟨_,e'⟩ | ⟨b2,_⟩
     ·rw[e,e']
     ·exact absurd b2 a2
    ·rcases h' with⟨b2,_⟩ | ⟨_,h'⟩
     ·exact absurd a2 b2
     ·rcases h with⟨a3,e⟩ | ⟨a3,e⟩
      ·rcases h' with⟨_,e'⟩ | ⟨b3,_⟩
       ·rw[e,e']
       ·exact absurd b3 a3
      ·rcases h' with⟨b3,_⟩ | ⟨_,e'⟩
       ·exact absurd a3 b3
       ·rw[e,e']
theorem Agf{v:Nat→Nat→Nat→Int}:Nt H A B v↔v 0 0 0≤0∧∀i a b,i≤H.length→a≤A.length→b≤B.length→C3 H A B v i a b:=by
 constructor
 ·intro h
  exact⟨(h 0 0 0 (by omega) (by omega) (by omega)).sz rfl,fun i a b h1 h2 h3=>(C3.stp.1 (h i a b h1 h2 h3)).2⟩
 ·intro h i a b h1 h2 h3
  refine C3.stp.2 ⟨fun z=>?_,h.2 i a b h1 h2 h3⟩
  obtain rfl:i=0:=by omega
  obtain rfl:a=0:=by omega
  obtain rfl:b=0:=by omega
  exact h.1
theorem A6w(hN:1010≤N)(hs:Small T H){p p2:Int}(hm:m.length≤14)(hml:∀l∈m,l.length≤14):∃r,rshows_S N T H f p p2 m=some r∧Dt T H f p p2 m r:=by
 unfold rshows_S
 rw[Jg (by omega) hs]
 simp only[Option.bind_some]
 by_cases c:Ao T H f p p2=0
 ·refine Dt.good c ?_
  rw[Bk c]
  obtain⟨hF,ha,hb,_⟩:=Ap (N:=N) (by omega) c
  have hH:=hF.h
  have lA:=(hF.l (T.getD p.toNat []) (Aa (by omega))).2
  have lB:=(hF.l (T.getD p2.toNat []) (Aa (by omega))).2
  rw[Ab [] ha.1 (by omega),Ab [] hb.1 (by omega),A5 (by omega)]
  generalize T.getD p.toNat []=A at *
  generalize T.getD p2.toNat []=B at *
  by_cases c1:(m.length:Int)=(H.length:Int)+1
  ·rw[Bk c1]
   obtain⟨r1,e1,h1⟩:=V0 (N:=N) (T:=T) (H:=H) (f:=f) (A:=A) (B:=B) (m:=m) (by omega) (fun l hl=>by have:=hml l hl;omega) (by omega) (by omega) N 0 (by omega) (by omega)
   rw[show((0:Nat):Int)=0 from rfl]at e1
   rw[List.drop_zero]at h1
   rw[e1]
   simp only[Option.bind_some]
   rcases h1 with⟨h1,rfl⟩ | ⟨h1,rfl | rfl⟩
   ·have hS:=Ak2 c1 h1
    dsimp only
    rw[Lb hS (i:=0) (k:=0) (n:=0) (by omega) (by omega) (by omega)]
    obtain⟨al,ho,e2,g1,g2⟩:=Tn (N:=N) (T:=T) (f:=f) hS (by omega) (by omega) (by omega) (by omega) (by omega) N 0 true (decide (val3 m (0:Int).toNat (0:Int).toNat (0:Int).toNat=0)) (by omega) (by omega)
    rw[show((0:Nat):Int)=0 from rfl]at e2
    rw[e2]
    simp only[Option.bind_some]
    have hal:al=true↔Rng3 H A B m:=by
     rw[g1]
     exact⟨fun h i a b h1 h2 h3=>h.2 i a b (Nat.zero_le _) h1 h2 h3,fun h=>⟨rfl,fun j a b _ h1 h2 h3=>h j a b h1 h2 h3⟩⟩
    cases al with
    | false=>exact⟨_,rfl,.inr ⟨⟨c1,h1⟩,.inl ⟨fun h=>absurd (hal.2 h) (by decide),rfl⟩⟩⟩
    | true=>
     have hR:=hal.1 rfl
     rw[Bool.not_true,A6]
     have hho:ho=true↔Nt H A B (val3 m):=by
      rw[g2 hR,Agf,decide_eq_true_eq]
      have r0:=hR 0 0 0 (by omega) (by omega) (by omega)
      have e0:val3 m (0:Int).toNat (0:Int).toNat (0:Int).toNat=val3 m 0 0 0:=rfl
      rw[e0]
      exact⟨fun h=>⟨by omega,fun i a b h1 h2 h3=>h.2 i a b (Nat.zero_le _) h1 h2 h3⟩,fun h=>⟨by omega,fun j a b _ h1 h2 h3=>h.2 j a b h1 h2 h3⟩⟩
     cases ho with
     | false=>exact⟨_,rfl,.inr ⟨⟨c1,h1⟩,.inr ⟨hR,.inl ⟨fun h=>absurd (hho.2 h) (by decide),rfl⟩⟩⟩⟩
     | true=>
      rw[Bool.not_true,A6,Lb hS (by omega) (by omega) (by omega)]
      exact⟨_,rfl,.inr ⟨⟨c1,h1⟩,.inr ⟨hR,.inr ⟨hho.1 rfl,by simp⟩⟩⟩⟩
   ·exact⟨_,rfl,.inl ⟨fun h=>absurd h.2 (by rw[h1];decide),rfl⟩⟩
   ·exact⟨_,rfl,.inl ⟨fun h=>absurd h.2 (by rw[h1];decide),rfl⟩⟩
  ·rw[Al c1]
   exact⟨_,rfl,.inl ⟨fun h=>c1 h.1,rfl⟩⟩
 ·rw[Al c]
  exact⟨_,rfl,Dt.bad c⟩
end
end Go.Proofs.YtfcnhnbnjdccfaaGreat

namespace Go.Proofs.YtfcnhnbnjdccfaaGreat
set_option linter.all false
open Go

section
variable {N:Nat} {T:List (List Int)} {H A B:List Int} {f:Int} {m:List (List (List Int))}
theorem ixfg_gen(d:List (List Int)×List Int×Int×List Int×List Int):∀(n:Nat) (s:List (List Int)) (u u2:Int),ixfg_l1 N n s u u2 d=(ixL (fun x=>(D1 N x d).bind fun c=>some (!c)) n s u u2).bind fun e=>match e with | .inl i=>some (.inl (i,d)) | .inr _=>some (.inr d)
 | 0,_,_,_=>rfl
 | n+1,s,u,u2=>by
  unfold ixfg_l1 ixL
  by_cases c:u2<u
  ·rw[A4 c,A4 c]
   unfold idx
   by_cases c0:0≤u2
   ·rw[if_pos c0,if_pos c0]
    cases hx:s[u2.toNat]? with
    | none=>rfl
    | some p=>
     dsimp only
     unfold Ru
     cases hy:D1 N p d with
     | none=>rfl
     | some b=>
      simp only[Option.bind_some]
      cases b with
      | false=>rfl
      | true=>
       simp only[Bool.not_true,A6]
       unfold chk
       cases okI (u2+1)with
       | false=>rfl
       | true=>exact ixfg_gen d n s u (u2+1)
   ·rw[if_neg c0,if_neg c0];rfl
  ·rw[A3 c,A3 c];rfl
theorem Aia{s:List (List Int)}{d:List (List Int)×List Int×Int×List Int×List Int}{p:List Int→Bool}(hp:∀x∈s,D1 N x d=some (p x))(hs:s.length≤1000)(hN:s.length<N):R0 N s d=some (s.all p):=by
 obtain⟨r,h1,h2⟩:=Xy (f:=fun x=>(D1 N x d).bind fun c=>some (!c)) (p:=fun x=>!(p x)) (s:=s) (fun x hx=>by rw[hp x hx];rfl) (by omega) N 0 (by omega) (by omega)
 unfold R0 Aap ixfg_S
 rw[ixfg_gen]
 rw[show((0:Nat):Int)=0 from rfl]at h1
 rw[h1,←Ft]
 cases r with
 | inl i=>simp only[List.drop_zero]at h2;simp[h2.1.1,h2.2]
 | inr u=>simp only[List.drop_zero]at h2;simp[h2]
theorem A7d(d:List (List Int)×List Int×Int×List Int×List Int):∀(n:Nat) (s:List (List (List Int))) (u u2:Int),ixfh_l1 N n s u u2 d=(ixL (fun x=>(Fa N x d).bind fun c=>some (!c)) n s u u2).bind fun e=>match e with | .inl i=>some (.inl (i,d)) | .inr _=>some (.inr d)
 | 0,_,_,_=>rfl
 | n+1,s,u,u2=>by
  unfold ixfh_l1 ixL
  by_cases c:u2<u
  ·rw[A4 c,A4 c]
   unfold idx
   by_cases c0:0≤u2
   ·rw[if_pos c0,if_pos c0]
    cases hx:s[u2.toNat]? with
    | none=>rfl
    | some p=>
     dsimp only
     unfold Sv
     cases hy:Fa N p d with
     | none=>rfl
     | some b=>
      simp only[Option.bind_some]
      cases b with
      | false=>rfl
      | true=>
       simp only[Bool.not_true,A6]
       unfold chk
       cases okI (u2+1)with
       | false=>rfl
       | true=>exact A7d d n s u (u2+1)
   ·rw[if_neg c0,if_neg c0];rfl
  ·rw[A3 c,A3 c];rfl
theorem Alh{s:List (List (List Int))}{d:List (List Int)×List Int×Int×List Int×List Int}{p:List (List Int)→Bool}(hp:∀x∈s,Fa N x d=some (p x))(hs:s.length≤1000)(hN:s.length<N):Re N s d=some (s.all p):=by
 obtain⟨r,h1,h2⟩:=Xy (f:=fun x=>(Fa N x d).bind fun c=>some (!c)) (p:=fun x=>!(p x)) (s:=s) (fun x hx=>by rw[hp x hx];rfl) (by omega) N 0 (by omega) (by omega)
 unfold Re Aa7 Acf
 rw[A7d]
 rw[show((0:Nat):Int)=0 from rfl]at h1
 rw[h1,←Ft]
 cases r with
 | inl i=>simp only[List.drop_zero]at h2;simp[h2.1.1,h2.2]
 | inr u=>simp only[List.drop_zero]at h2;simp[h2]
theorem A87:∀(n:Nat) (s:List (Int)) (u u2:Int),ixfj_l1 N n s u u2=ixL (Ec N) n s u u2
 | 0,_,_,_=>rfl
 | n+1,s,u,u2=>by simp only[ixfj_l1,ixL,A87 n]
theorem Aja{s:List (Int)}{p:Int→Bool}(hp:∀x∈s,Ec N x=some (!p x))(hs:s.length≤1000000)(hN:s.length<N):O6 N s=some (s.all p):=by
 have:=M6 (f:=Ec N) (p:=fun x=>!p x) (s:=s) (N:=N) hp hs hN
 unfold O6 Ac8
 have e:A40 N s=ixS (Ec N) N s:=by
  unfold A40 ixS
  rw[A87]<;>rfl
 rw[e,this]
 simp[Ft]
theorem A64:∀(n:Nat) (s:List (List Int)) (u u2:Int),ixfk_l1 N n s u u2=ixL (Ee N) n s u u2
 | 0,_,_,_=>rfl
 | n+1,s,u,u2=>by simp only[ixfk_l1,ixL,A64 n]
theorem Ak6{s:List (List Int)}{p:List Int→Bool}(hp:∀x∈s,Ee N x=some (!p x))(hs:s.length≤1000000)(hN:s.length<N):Pj N s=some (s.all p):=by
 have:=M6 (f:=Ee N) (p:=fun x=>!p x) (s:=s) (N:=N) hp hs hN
 unfold Pj Acx
 have e:A4e N s=ixS (Ee N) N s:=by
  unfold A4e ixS
  rw[A64]<;>rfl
 rw[e,this]
 simp[Ft]
theorem A6q:∀(n:Nat) (s:List (List (List Int))) (u u2:Int),ixfl_l1 N n s u u2=ixL (Dz N) n s u u2
 | 0,_,_,_=>rfl
 | n+1,s,u,u2=>by simp only[ixfl_l1,ixL,A6q n]
theorem Ajv{s:List (List (List Int))}{p:List (List Int)→Bool}(hp:∀x∈s,Dz N x=some (!p x))(hs:s.length≤1000000)(hN:s.length<N):Ra N s=some (s.all p):=by
 have:=M6 (f:=Dz N) (p:=fun x=>!p x) (s:=s) (N:=N) hp hs hN
 unfold Ra Aai
 have e:A38 N s=ixS (Dz N) N s:=by
  unfold A38 ixS
  rw[A6q]<;>rfl
 rw[e,this]
 simp[Ft]

theorem Afh{k:List Int}(hB:B.length≤1000):D1 N k (T,H,f,A,B)=some (rowK B k):=by
 unfold D1 rowK
 rw[A5 (by dsimp only;omega)]
theorem Ajg{l:List (List Int)}(hA:A.length≤1000)(hB:B.length≤1000)(hl:l.length≤1000)(hN:l.length<N):Fa N l (T,H,f,A,B)=some (rowL A B l):=by
 unfold Fa rowL
 rw[A5 (by dsimp only;omega)]
 dsimp only
 by_cases c:(l.length:Int)=(A.length:Int)+1
 ·rw[A4 c,Aia (p:=rowK B) (fun x _=>Afh hB) hl hN,decide_eq_true c];rfl
 ·rw[A3 c,decide_eq_false c];rfl
def okM(n:Int):Bool:=decide (0≤n∧n≤99)
theorem Ajr{l:List (List Int)}(hl:l.length≤1000∧l.length<N)(hk:∀k∈l,k.length≤1000∧k.length<N):Oe N l=some (l.all fun k=>k.all okM):=by
 unfold Oe
 rw[Ak6 (p:=fun k=>k.all okM) (fun k hk'=>by
  unfold Ee Sy
  rw[Aja (p:=okM) (fun x _=>by unfold Ec No;rw[in_v];rfl) (by have:=(hk k hk').1;omega) (hk k hk').2]
  rfl) (by omega) hl.2]
 rfl
theorem Als(hS:Shp m (H.length+1) (A.length+1) (B.length+1)):(m.all fun l=>l.all fun k=>k.all okM)=true↔Rng3 H A B m:=by
 obtain⟨g1,g2⟩:=hS
 constructor
 ·intro h i a b h1 h2 h3
  obtain⟨g3,g4⟩:=g2 i (by omega)
  have g5:=g4 a (by omega)
  have k1:=List.all_eq_true.1 h (m.getD i []) (Aa (by omega))
  have k2:=List.all_eq_true.1 k1 ((m.getD i []).getD a []) (Aa (by omega))
  have k3:=List.all_eq_true.1 k2 (((m.getD i []).getD a []).getD b 0) (Aa (by omega))
  unfold okM at k3
  exact of_decide_eq_true k3
 ·intro h
  refine List.all_eq_true.2 fun l hl=>List.all_eq_true.2 fun k hk=>List.all_eq_true.2 fun x hx=>?_
  obtain⟨i,hi,rfl⟩:=List.getElem_of_mem hl
  obtain⟨a,ha,rfl⟩:=List.getElem_of_mem hk
  obtain⟨b,hb,rfl⟩:=List.getElem_of_mem hx
  have e1:m.getD i []=m[i]:=by simp[List.getD,hi]
  obtain⟨g3,g4⟩:=g2 i (by omega)
  rw[e1]at g3 g4
  have e2:m[i].getD a []=m[i][a]:=by simp[List.getD,ha]
  have g5:=g4 a (by omega)
  rw[e2]at g5
  have:=h i a b (by omega) (by omega) (by omega)
  unfold val3 at this
  rw[e1,e2,show m[i][a].getD b 0=m[i][a][b]by simp[List.getD,hb]]at this
  exact decide_eq_true this
structure SI (H A B:List Int) (m:List (List (List Int))) (G:List Int) (o:Nat):Prop where
 glen:G.length=539
 gin:∀x∈G,0≤x∧x≤99
 agr:∀i a b,i≤H.length→a≤A.length→b≤B.length→i*49+a*7+b<o→gv G i a b=val3 m i a b
theorem SI.mono{G:List Int}{o o':Nat}(h:SI H A B m G o)(ho:∀i a b,i≤H.length→a≤A.length→b≤B.length→i*49+a*7+b<o'→i*49+a*7+b<o):SI H A B m G o':=
 ⟨h.glen,h.gin,fun i a b h1 h2 h3 h4=>h.agr i a b h1 h2 h3 (ho i a b h1 h2 h3 h4)⟩
section
variable (hS:Shp m (H.length+1) (A.length+1) (B.length+1)) (hR:Rng3 H A B m) (hH:H.length≤10) (hA:A.length≤6) (hB:B.length≤6)
include hS hR hH hA hB
theorem X7{i a:Nat}{u:List (List (List Int))}{u2 u3 u5 u6:Int}{u4:List (List Int)}(hi:i≤H.length)(ha:a≤A.length):∀(n b:Nat) (G:List Int),B.length+1<n+b→b≤B.length+1→SI H A B m G (i*49+a*7+b) →
  (∃G',shows_l3 N n i a u u2 u3 u4 u5 u6 ((m.getD i []).getD a []) (((m.getD i []).getD a []).length:Int) b (T,H,f,A,B) G=some (.inr ((i:Int),u,u2,u3,u4,u5,u6,(T,H,f,A,B),G'))∧SI H A B m G' (i*49+a*7+(B.length+1))∧∀c,b≤c→c≤B.length→val3 m i a c≤bndF H A B (val3 m) i a c) ∨
  (shows_l3 N n i a u u2 u3 u4 u5 u6 ((m.getD i []).getD a []) (((m.getD i []).getD a []).length:Int) b (T,H,f,A,B) G=some (.inl ())∧∃c,c≤B.length∧¬val3 m i a c≤bndF H A B (val3 m) i a c)
 | 0,b,G,h,_,_=>by omega
 | n+1,b,G,h,hb,hG=>by
  rw[shows_l3]
  have hl:((m.getD i []).getD a []).length=B.length+1:=(hS.2 i (by omega)).2 a (by omega)
  by_cases c:b≤B.length
  ·have hx0:((m.getD i []).getD a [])[((b:Nat):Int).toNat]?=some (val3 m i a b):=by
    have:b<((m.getD i []).getD a []).length:=by omega
    have h2:∀l:List Int,b<l.length→l[b]?=some (l.getD b 0):=fun l h=>by simp[List.getD,h]
    rw[Int.toNat_natCast]
    exact h2 _ this
   have r0:=hR i a b hi ha c
   have ge:=hG.glen
   have hG2:SI H A B m (G.set (i*49+a*7+b) (val3 m i a b)) (i*49+a*7+(b+1)):=by
    refine⟨by rw[List.length_set];exact ge,fun x hx=>?_,fun i' a' b' h1 h2 h3 h4=>?_⟩
    ·rcases List.mem_or_eq_of_mem_set hx with hx | rfl
     ·exact hG.gin x hx
     ·exact r0
    ·rw[Abl ge (by omega) (by omega)]
     by_cases d:i'=i∧a'=a∧b'=b
     ·rw[if_pos d];obtain⟨rfl,rfl,rfl⟩:=d;rfl
     ·rw[if_neg d];exact hG.agr i' a' b' h1 h2 h3 (by omega)
   have ebn:bndF H A B (gv (G.set (i*49+a*7+b) (val3 m i a b))) i a b=bndF H A B (val3 m) i a b:=Ni (fun i' a' b' h1 h2 h3 h4=>hG2.agr i' a' b' (by omega) (by omega) (by omega) (by omega))
   rw[A4 (by omega),idx_eq (by omega) hx0,Au (by omega),Au (by omega),Au (by omega)]
   simp only[Int.toNat_natCast]
   rw[Ns (i:=i) (a:=a) (b:=b) ge rfl (by omega),Adc hG2.glen hG2.gin hH hA hB hi ha c,ebn]
   simp only[Option.bind_some]
   by_cases d:bndF H A B (val3 m) i a b<val3 m i a b
   ·rw[A4 d]
    exact .inr ⟨rfl,b,c,by omega⟩
   ·rw[A3 d,A5 (by omega)]
    have next:=X7 (u:=u) (u2:=u2) (u3:=u3) (u4:=u4) (u5:=u5) (u6:=u6) hi ha n (b+1) _ (by omega) (by omega) hG2
    rw[show((b+1:Nat):Int)=(b:Int)+1 by omega]at next
    rcases next with⟨G',e,g1,g2⟩ | ⟨e,g⟩
    ·exact .inl ⟨G',e,g1,fun x h1 h2=>by
      rcases Nat.lt_or_ge b x with h3 | h3
      ·exact g2 x h3 h2
      ·obtain rfl:x=b:=by omega
       omega⟩
    ·exact .inr ⟨e,g⟩
  ·rw[A3 (by omega)]
   exact .inl ⟨G,rfl,by rw[show B.length+1=b by omega];exact hG,fun x h1 h2=>by omega⟩
theorem Z8(hN:20≤N){i:Nat}{u:List (List (List Int))}{u2 u3:Int}(hi:i≤H.length):∀(n a:Nat) (G:List Int),A.length+1<n+a→a≤A.length+1→SI H A B m G (i*49+a*7) →
  (∃G',shows_l2 N n i u u2 u3 (m.getD i []) ((m.getD i []).length:Int) a (T,H,f,A,B) G=some (.inr (u,u2,u3,(T,H,f,A,B),G'))∧SI H A B m G' (i*49+(A.length+1)*7)∧∀x c,a≤x→x≤A.length→c≤B.length→val3 m i x c≤bndF H A B (val3 m) i x c) ∨
  (shows_l2 N n i u u2 u3 (m.getD i []) ((m.getD i []).length:Int) a (T,H,f,A,B) G=some (.inl ())∧∃x c,x≤A.length∧c≤B.length∧¬val3 m i x c≤bndF H A B (val3 m) i x c)
 | 0,a,G,h,_,_=>by omega
 | n+1,a,G,h,hb,hG=>by
  rw[shows_l2]
  have hl:(m.getD i []).length=A.length+1:=(hS.2 i (by omega)).1
  by_cases c:a≤A.length
  ·rw[A4 (by omega),Ab [] (by omega) (by omega),Int.toNat_natCast]
   rcases X7 (N:=N) (T:=T) (f:=f) hS hR hH hA hB (u:=u) (u2:=u2) (u3:=u3) (u4:=m.getD i []) (u5:=((m.getD i []).length:Int)) (u6:=(a:Int)) hi c N 0 G (by omega) (by omega) hG with⟨G',e,g1,g2⟩ | ⟨e,x,g1,g2⟩
   ·rw[show((0:Nat):Int)=0 from rfl]at e
    rw[e]
    simp only[Option.bind_some]
    rw[A5 (by omega)]
    have next:=Z8 hN (u:=u) (u2:=u2) (u3:=u3) hi n (a+1) G' (by omega) (by omega) (g1.mono (fun i' a' b' _ _ _ _=>by omega))
    rw[show((a+1:Nat):Int)=(a:Int)+1 by omega]at next
    rcases next with⟨G2,e2,k1,k2⟩ | ⟨e2,k⟩
    ·exact .inl ⟨G2,e2,k1,fun x y h1 h2 h3=>by
      rcases Nat.lt_or_ge a x with h4 | h4
      ·exact k2 x y h4 h2 h3
      ·obtain rfl:x=a:=by omega
       exact g2 y (Nat.zero_le _) h3⟩
    ·exact .inr ⟨e2,k⟩
   ·rw[show((0:Nat):Int)=0 from rfl]at e
    rw[e]
    exact .inr ⟨rfl,a,x,c,g1,g2⟩
  ·rw[A3 (by omega)]
   exact .inl ⟨G,rfl,by rw[show A.length+1=a by omega];exact hG,fun x y h1 h2=>by omega⟩
theorem Wm(hN:20≤N):∀(n i:Nat) (G:List Int),H.length+1<n+i→i≤H.length+1→SI H A B m G (i*49) →
  (∃G',shows_l1 N n m (m.length:Int) i (T,H,f,A,B) G=some (.inr ((T,H,f,A,B),G'))∧SI H A B m G' ((H.length+1)*49)∧∀z x c,i≤z→z≤H.length→x≤A.length→c≤B.length→val3 m z x c≤bndF H A B (val3 m) z x c) ∨
  (shows_l1 N n m (m.length:Int) i (T,H,f,A,B) G=some (.inl ())∧∃z x c,z≤H.length∧x≤A.length∧c≤B.length∧¬val3 m z x c≤bndF H A B (val3 m) z x c)
 | 0,i,G,h,_,_=>by omega
 | n+1,i,G,h,hb,hG=>by
  rw[shows_l1]
  have hl:m.length=H.length+1:=hS.1
  by_cases c:i≤H.length
  ·rw[A4 (by omega),Ab [] (by omega) (by omega),Int.toNat_natCast]
   rcases Z8 (N:=N) (T:=T) (f:=f) hS hR hH hA hB hN (u:=m) (u2:=(m.length:Int)) (u3:=(i:Int)) c N 0 G (by omega) (by omega) hG with⟨G',e,g1,g2⟩ | ⟨e,x,y,g1,g2,g3⟩
   ·rw[show((0:Nat):Int)=0 from rfl]at e
    rw[e]
    simp only[Option.bind_some]
    rw[A5 (by omega)]
    have next:=Wm hN n (i+1) G' (by omega) (by omega) (g1.mono (fun i' a' b' _ _ _ _=>by omega))
    rw[show((i+1:Nat):Int)=(i:Int)+1 by omega]at next
    rcases next with⟨G2,e2,k1,k2⟩ | ⟨e2,k⟩
    ·exact .inl ⟨G2,e2,k1,fun z x y h1 h2 h3 h5=>by
      rcases Nat.lt_or_ge i z with h4 | h4
      ·exact k2 z x y h4 h2 h3 h5
      ·obtain rfl:z=i:=by omega
       exact g2 x y (Nat.zero_le _) h3 h5⟩
    ·exact .inr ⟨e2,k⟩
   ·rw[show((0:Nat):Int)=0 from rfl]at e
    rw[e]
    exact .inr ⟨rfl,i,x,y,c,g1,g2,g3⟩
  ·rw[A3 (by omega)]
   exact .inl ⟨G,rfl,by rw[show H.length+1=i by omega];exact hG,fun z x y h1 h2=>by omega⟩
end
theorem Am3(hN:1010≤N){p p2:Int}(hm:m.length≤14)(hml:∀l∈m,l.length≤14∧∀k∈l,k.length≤14):∃r,shows_S N T H f p p2 m=some r∧Dt T H f p p2 m r:=by
 unfold shows_S
 by_cases c:Ao T H f p p2=0
 ·refine Dt.good c ?_
  obtain⟨hF,ha,hb,e⟩:=Ap (N:=N) (by omega) c
  have hH:=hF.h
  have lA:=(hF.l (T.getD p.toNat []) (Aa (by omega))).2
  have lB:=(hF.l (T.getD p2.toNat []) (Aa (by omega))).2
  rw[e]
  simp only[Option.bind_some,decide_true,Bool.not_true,A6]
  generalize T.getD p.toNat []=A at *
  generalize T.getD p2.toNat []=B at *
  rw[A5 (by omega)]
  by_cases c1:(m.length:Int)=(H.length:Int)+1
  ·rw[Bk c1,Alh (p:=rowL A B) (fun l hl=>Ajg (by omega) (by omega) (by have:=(hml l hl).1;omega) (by have:=(hml l hl).1;omega)) (by omega) (by omega)]
   simp only[Option.bind_some]
   cases c2:m.all (rowL A B)with
   | false=>exact⟨_,rfl,.inl ⟨fun h=>absurd h.2 (by rw[c2];decide),rfl⟩⟩
   | true=>
    have hS:=Ak2 c1 c2
    rw[Bool.not_true,A6,Ajv (p:=fun l=>l.all fun k=>k.all okM) (fun l hl=>by
     unfold Dz
     rw[Ajr (by have:=(hml l hl).1;omega) (fun k hk=>by have:=(hml l hl).2 k hk;omega)];rfl) (by omega) (by omega)]
    simp only[Option.bind_some]
    have hra:=Als (H:=H) (A:=A) (B:=B) hS
    cases c3:(m.all fun l=>l.all fun k=>k.all okM)with
    | false=>
     rw[c3]at hra
     exact⟨_,rfl,.inr ⟨⟨c1,c2⟩,.inl ⟨fun h=>absurd (hra.2 h) (by decide),rfl⟩⟩⟩
    | true=>
     rw[c3]at hra
     have hR:=hra.1 rfl
     have hle:∀z x y,z≤H.length→x≤A.length→y≤B.length→(val3 m z x y≤bndF H A B (val3 m) z x y↔Stp3 H A B (val3 m) z x y (val3 m z x y)):=fun z x y h1 h2 h3=>Vw (hR z x y h1 h2 h3).2
     rw[Bool.not_true,A6]
     rcases Wm (N:=N) (T:=T) (f:=f) hS hR hH lA lB (by omega) N 0 (List.replicate 539 0) (by omega) (by omega) ⟨List.length_replicate,fun x hx=>by rw[(List.mem_replicate.1 hx).2];decide,fun i a b _ _ _ h=>by omega⟩with⟨G',e1,g1,g2⟩ | ⟨e1,z,x,y,h1,h2,h3,h4⟩
     ·rw[show((0:Nat):Int)=0 from rfl]at e1
      rw[e1]
      simp only[Option.bind_some,Int.toNat_natCast]
      rw[Au (by omega),Au (by omega),Au (by omega),Ns (i:=H.length) (a:=A.length) (b:=B.length) g1.glen rfl (by omega),g1.agr _ _ _ (by omega) (by omega) (by omega) (by omega)]
      exact⟨_,rfl,.inr ⟨⟨c1,c2⟩,.inr ⟨hR,.inr ⟨fun i a b h1 h2 h3=>(hle i a b h1 h2 h3).1 (g2 i a b (Nat.zero_le _) h1 h2 h3),rfl⟩⟩⟩⟩
     ·rw[show((0:Nat):Int)=0 from rfl]at e1
      rw[e1]
      exact⟨_,rfl,.inr ⟨⟨c1,c2⟩,.inr ⟨hR,.inl ⟨fun h=>h4 ((hle z x y h1 h2 h3).2 (h z x y h1 h2 h3)),rfl⟩⟩⟩⟩
  ·rw[Al c1]
   exact⟨_,rfl,.inl ⟨fun h=>c1 h.1,rfl⟩⟩
 ·rw[Bu (by omega) c]
  simp only[Option.bind_some]
  rw[Al c]
  exact⟨_,rfl,Dt.bad c⟩
end
end Go.Proofs.YtfcnhnbnjdccfaaGreat

namespace Go.Proofs.YtfcnhnbnjdccfaaGreat
set_option linter.all false
open Go

section
variable {N:Nat} {T:List (List Int)} {H A B:List Int} {f:Int}
theorem Ann{l:List (List Int)}(hl:l.length≤1000)(hx:∀x∈l,x.length≤1000)(hN:1010≤N):Mh N l=some l:=by
 unfold Mh
 rw[I0 (Jr.2 (by omega))]
 have:=Nv (N:=N) (u:=l) (by omega) (fun x h=>by have:=hx x h;omega) N 0 (List.replicate (l.length:Int).toNat []) (by omega) (by omega) (by simp) (by simp)
 rw[show((0:Nat):Int)=0 from rfl]at this
 rw[this];rfl
theorem Amg{l:List (List Int)}(hl:l.length≤1000)(hx:∀x∈l,x.length≤1000∧x.length<N)(hN:l.length<N):Mm N l l=some true:=by
 unfold Mm Q0
 have:=Lu (N:=N) (T:=l) hl hx N 0 (by omega) (by omega)
 rw[show((0:Nat):Int)=0 from rfl]at this
 rw[Bk (by first | trivial | rfl),this];rfl
theorem T6{m u given:List (List (List Int))}{l r:List (List Int)}{u2 u3 p p2:Int}(hr:r.length≤1000):∀(n k:Nat),r.length<n+k→k≤r.length→emarks_l2 N n m l u u2 u3 r (r.length:Int) k T H f p p2 given=some (.inl ())∨emarks_l2 N n m l u u2 u3 r (r.length:Int) k T H f p p2 given=some (.inr (m,l,u,u2,u3,T,H,f,p,p2,given))∧∀x∈r.drop k,x.length≤10
 | 0,k,h,_=>by omega
 | n+1,k,h,hk=>by
  rw[emarks_l2]
  by_cases c:k<r.length
  ·have hk':r[((k:Nat):Int).toNat]?=some (r.getD k []):=by simp[List.getD,c]
   have hd:r.drop k=r.getD k []::r.drop (k+1):=by
    rw[List.drop_eq_getElem_cons c];simp[List.getD,c]
   rw[A4 (by omega),idx_eq (by omega) hk',hd]
   generalize r.getD k []=y
   by_cases d:10<(y.length:Int)
   ·rw[A4 d];exact .inl rfl
   ·rw[A3 d,A5 (by omega)]
    have:=T6 (m:=m) (u:=u) (given:=given) (l:=l) (u2:=u2) (u3:=u3) (p:=p) (p2:=p2) hr n (k+1) (by omega) (by omega)
    rw[show((k+1:Nat):Int)=(k:Int)+1 by omega]at this
    rcases this with h1 | ⟨h1,h2⟩
    ·exact .inl h1
    ·refine .inr ⟨h1,fun x hx=>?_⟩
     rcases List.mem_cons.1 hx with rfl | hx
     ·omega
     ·exact h2 x hx
  ·rw[A3 (by omega),List.drop_of_length_le (by omega)]
   exact .inr ⟨rfl,fun x hx=>by cases hx⟩
theorem Tv(hN:1010≤N){m:List (List (List Int))}{p p2:Int}(hm:m.length≤14):∀(n k:Nat) (G:List (List (List Int))),m.length<n+k→k≤m.length→G.length≤100+k→(∃r,emarks_l1 N n m m (m.length:Int) k T H f p p2 G=some r∧(r=.inl ()∨r=.inr (.inl ())))∨emarks_l1 N n m m (m.length:Int) k T H f p p2 G=some (.inr (.inr (m,T,H,f,p,p2,G++m.drop k)))∧∀l∈m.drop k,l.length≤10∧∀x∈l,x.length≤10
 | 0,k,G,h,_,_=>by omega
 | n+1,k,G,h,hk,hG=>by
  rw[emarks_l1]
  by_cases c:k<m.length
  ·have hk':m[((k:Nat):Int).toNat]?=some (m.getD k []):=by simp[List.getD,c]
   have hd:m.drop k=m.getD k []::m.drop (k+1):=by
    rw[List.drop_eq_getElem_cons c];simp[List.getD,c]
   rw[A4 (by omega),idx_eq (by omega) hk',hd]
   generalize m.getD k []=y
   by_cases d:10<(y.length:Int)
   ·rw[A4 d];exact .inl ⟨_,rfl,.inl rfl⟩
   ·rw[A3 d]
    rcases T6 (N:=N) (T:=T) (H:=H) (f:=f) (m:=m) (u:=m) (given:=G) (l:=y) (r:=y) (u2:=(m.length:Int)) (u3:=(k:Int)) (p:=p) (p2:=p2) (by omega) N 0 (by omega) (by omega)with e | ⟨e,h2⟩
    ·rw[show((0:Nat):Int)=0 from rfl]at e
     rw[e];exact .inl ⟨_,rfl,.inr rfl⟩
    ·rw[show((0:Nat):Int)=0 from rfl]at e
     rw[List.drop_zero]at h2
     rw[e]
     simp only[Option.bind_some]
     rw[Ann (by omega) (fun x hx=>by have:=h2 x hx;omega) hN]
     simp only[Option.bind_some]
     rw[Bd (by simp;omega),A5 (by omega)]
     have:=Tv hN (p:=p) (p2:=p2) hm n (k+1) (G++[y]) (by omega) (by omega) (by simp;omega)
     rw[show((k+1:Nat):Int)=(k:Int)+1 by omega,List.append_assoc]at this
     rcases this with h1 | ⟨h1,h3⟩
     ·exact .inl h1
     ·refine .inr ⟨h1,fun l hl=>?_⟩
      rcases List.mem_cons.1 hl with rfl | hl
      ·exact⟨by omega,h2⟩
      ·exact h3 l hl
  ·rw[A3 (by omega),List.drop_of_length_le (by omega),List.append_nil]
   exact .inr ⟨rfl,fun x hx=>by cases hx⟩
theorem U7(hN:1010≤N){m:List (List (List Int))}{T2:List (List Int)}{H2:List Int}{f2:Int}(hm:m.length≤14)(hml:∀l∈m,l.length≤10∧∀x∈l,x.length≤10):∀(n k:Nat),m.length<n+k→k≤m.length→emarks_l3 N n m (m.length:Int) k T H f m T2 H2 f2=some (.inr (T,H,f,T2,H2,f2))
 | 0,k,h,_=>by omega
 | n+1,k,h,hk=>by
  rw[emarks_l3]
  by_cases c:k<m.length
  ·have hk':m[((k:Nat):Int).toNat]?=some (m.getD k []):=by simp[List.getD,c]
   obtain⟨h1,h2⟩:=hml (m.getD k []) (Aa c)
   rw[A4 (by omega),idx_eq (by omega) hk',Au (by omega),get_eq hk',Amg (by omega) (fun x hx=>by have:=h2 x hx;omega) (by omega)]
   simp only[Option.bind_some,Bool.not_true,A6]
   rw[A5 (by omega)]
   have:=U7 hN (T2:=T2) (H2:=H2) (f2:=f2) hm hml n (k+1) (by omega) (by omega)
   rw[show((k+1:Nat):Int)=(k:Int)+1 by omega]at this
   exact this
  ·rw[A3 (by omega)]
theorem Mks.small{X:List (List (List Int))}(h:Mks H A B X)(hH:H.length≤10)(hA:A.length≤6)(hB:B.length≤6):X.length≤14∧∀l∈X,l.length≤14∧∀k∈l,k.length≤14:=by
 obtain⟨g1,g2⟩:=h.shp
 refine⟨by omega,fun l hl=>?_⟩
 obtain⟨i,hi,rfl⟩:=List.getElem_of_mem hl
 have e1:X.getD i []=X[i]:=by simp[List.getD,hi]
 obtain⟨g3,g4⟩:=g2 i (by omega)
 rw[e1]at g3 g4
 refine⟨by omega,fun k hk=>?_⟩
 obtain⟨a,ha,rfl⟩:=List.getElem_of_mem hk
 have e2:X[i].getD a []=X[i][a]:=by simp[List.getD,ha]
 have g5:=g4 a (by omega)
 rw[e2]at g5
 omega
theorem Mks.rows{X:List (List (List Int))}(h:Mks H A B X):(X.length:Int)=(H.length:Int)+1∧X.all (rowL A B)=true:=by
 obtain⟨g1,g2⟩:=h.shp
 refine⟨by omega,List.all_eq_true.2 fun l hl=>?_⟩
 obtain⟨i,hi,rfl⟩:=List.getElem_of_mem hl
 have e1:X.getD i []=X[i]:=by simp[List.getD,hi]
 obtain⟨g3,g4⟩:=g2 i (by omega)
 rw[e1]at g3 g4
 unfold rowL
 simp only[Bool.and_eq_true,decide_eq_true_eq]
 refine⟨by omega,List.all_eq_true.2 fun k hk=>?_⟩
 obtain⟨a,ha,rfl⟩:=List.getElem_of_mem hk
 have e2:X[i].getD a []=X[i][a]:=by simp[List.getD,ha]
 have g5:=g4 a (by omega)
 rw[e2]at g5
 unfold rowK
 simp only[decide_eq_true_eq]
 omega
theorem Mks.show{X:List (List (List Int))}{p p2:Int}{r:Int×Int}(c:Ao T H f p p2=0)(h:Mks H (T.getD p.toNat []) (T.getD p2.toNat []) X)(hr:Dt T H f p p2 X r)(hl:H.length+(T.getD p.toNat []).length+(T.getD p2.toNat []).length≤99):r=(B8 H (T.getD p.toNat []) (T.getD p2.toNat []),0):=by
 unfold Dt at hr
 rw[if_neg (by simpa using c)]at hr
 have hH:Nt H (T.getD p.toNat []) (T.getD p2.toNat []) (val3 X):=fun i a b h1 h2 h3=>(Vw (h.rng i a b h1 h2 h3).2).1 (by rw[←h.fix i a b h1 h2 h3];exact Int.le_refl _)
 rcases hr with⟨g,_⟩ | ⟨_,⟨g,_⟩ | ⟨_,⟨g,_⟩ | ⟨_,g⟩⟩⟩
 ·exact absurd h.rows g
 ·exact absurd h.rng g
 ·exact absurd hH g
 ·rw[g,Agk hl h.fix]
theorem A5j{m:List (List (List Int))}{p p2:Int}(h0:(Ty.pair (.sl (.sl (.int .i64))) (.pair (.sl (.int .i64)) (.int .i64))).inB (T,H,f))(h1:(Ty.pair (.int .i64) (.int .i64)).inB (p,p2))(h2:(Ty.sl (.sl (.sl (.int .i64)))).inB m):emarks_S 1100 T H f p p2 m=some true:=by
 unfold emarks_S
 rcases Q3 (N:=1100) (by omega) T H f with e | ⟨e,hm⟩
 ·rw[e];simp only[Option.bind_some,B1,Dh]
 ·rw[e]
  simp only[Option.bind_some,A6]
  by_cases c0:14<(m.length:Int)
  ·rw[A4 c0];simp only[Dh,Option.bind_some]
  ·rw[A3 c0]
   rcases Tv (N:=1100) (T:=T) (H:=H) (f:=f) (m:=m) (p:=p) (p2:=p2) (by omega) (by omega) 1100 0 [] (by omega) (by omega) (by simp)with⟨r,e1,rfl | rfl⟩ | ⟨e1,hml⟩
   ·rw[show((0:Nat):Int)=0 from rfl]at e1
    rw[e1];simp only[Option.bind_some,Dh]
   ·rw[show((0:Nat):Int)=0 from rfl]at e1
    rw[e1];simp only[Option.bind_some,Dh]
   ·rw[show((0:Nat):Int)=0 from rfl,List.nil_append,List.drop_zero]at e1
    rw[List.drop_zero]at hml
    rw[e1]
    simp only[Option.bind_some]
    rw[F8 (by omega) hm]
    simp only[Option.bind_some]
    obtain⟨r1,e2,g2⟩:=Am3 (N:=1100) (T:=T) (H:=H) (f:=f) (m:=m) (p:=p) (p2:=p2) (by omega) (by omega) (fun l hl=>⟨by have:=(hml l hl).1;omega,fun k hk=>by have:=(hml l hl).2 k hk;omega⟩)
    obtain⟨r2,e3,g3⟩:=A6w (N:=1100) (T:=T) (H:=H) (f:=f) (m:=m) (p:=p) (p2:=p2) (by omega) hm (by omega) (fun l hl=>by have:=(hml l hl).1;omega)
    have er:=g2.uniq g3
    subst er
    rw[e2,e3]
    simp only[Option.bind_some,decide_true,Bool.not_true,A6]
    have e4:=U7 (N:=1100) (T:=T) (H:=H) (f:=f) (T2:=T) (H2:=H) (f2:=f) (by omega) (by omega:m.length≤14) hml 1100 0 (by omega) (by omega)
    rw[show((0:Nat):Int)=0 from rfl]at e4
    have fin:emarks_j1 1100 m T H f m T H f=some true:=by
     unfold emarks_j1
     rw[e4]
     simp only[Option.bind_some]
     rw[Ky (by omega) hm,Dh];rfl
    by_cases c:Ao T H f p p2=0
    ·obtain⟨hF,ha,hb,_⟩:=Ap (N:=1100) (by omega) c
     have hH:=hF.h
     have lA:=(hF.l (T.getD p.toNat []) (Aa (by omega))).2
     have lB:=(hF.l (T.getD p2.toNat []) (Aa (by omega))).2
     obtain⟨X,e5,hX⟩:=Amj (N:=1100) (T:=T) (H:=H) (f:=f) (by omega) c
     obtain⟨x1,x2⟩:=hX.small hH lA lB
     obtain⟨r3,e6,g6⟩:=A6w (N:=1100) (T:=T) (H:=H) (f:=f) (m:=X) (p:=p) (p2:=p2) (by omega) hm x1 (fun l hl=>(x2 l hl).1)
     have er3:=hX.show c g6 (by omega)
     subst er3
     rw[e5,Adv (by omega) hF ha hb,Jg (by omega) hm]
     simp only[Option.bind_some]
     rw[c]
     simp only[decide_true,Bool.not_true,A6,B1]
     rw[e6]
     simp only[Option.bind_some,decide_true,Bool.not_true,A6]
     exact fin
    ·rw[Aey (by omega) c,X6 (by omega) c,Jg (by omega) hm]
     simp only[Option.bind_some,decide_true,Bool.not_true,A6,List.length_nil]
     rw[Al c,A3 (by omega),A3 c]
     exact fin
end
end Go.Proofs.YtfcnhnbnjdccfaaGreat

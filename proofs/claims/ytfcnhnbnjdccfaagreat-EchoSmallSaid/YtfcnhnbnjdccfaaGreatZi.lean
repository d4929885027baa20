/-
  Parts of a proof, put together: Brg, Brg2.
  Conditions: none.
-/
import Derived.Below
import Derived.ChangeOld
import Derived.OpenShut
import Derived.ProofKit
import Derived.ShutString
import Derived.WalkKit
import Derived.Test.YtfcnhnbnjdccfaaGreatZd
namespace Go.Proofs.YtfcnhnbnjdccfaaGreat
open Go Go.RowKit
def gAll(w:World):Gh:=⟨fun _=>none,fun b=>w.heap[b]?⟩
theorem A2.toLaw{P:Program}{s:Spec}(hok:A2 P s){p:s.ins.den}{r:altD s.outs}(hr:s.run p some=some r)(hb:s.ins.blks=[]){w:World}{vs:List Value}(hv:RepVs (gAll w) (encs id s.ins.avs p.1) vs)
  (ho:resVal (encs id (altOf s.outs r).1.avs (altOf s.outs r).2.1)=.b true):Calls P s.f vs.toArray w fun e w'=>e=.returned (.bool true)∧Below w.heap.size w w':=by
 have hh:∀i,hOf p.2 i=Option.none:=fun i=>by
  unfold hOf
  rw[List.getElem?_eq_none]
  rw[Af,hb];exact Nat.zero_le _
 have hs:Sim (gAll w) (hOf p.2) w:=⟨fun b o h=>h,fun i k hk=>(by rw[hh i]at hk;cases hk),fun i j ki kj b ci ni cj nj h1=>(by rw[hh i]at h1;cases h1)⟩
 refine(hok.fn p r hr (gAll w) w vs hv hs (fun _ _=>rfl)).calls.mono fun e w' ⟨v,he,g',st,_,hv'⟩=>?_
 rw[ho]at hv'
 simp only[RepV]at hv'
 subst hv'
 refine⟨he,st.os,st.tape,st.output,st.size,fun k hk=>st.same k hk ?_⟩
 rintro ⟨i,hi,_⟩
 rw[hb]at hi
 simp at hi
def Aq4(k:IntKind)(w:World)(a:Option Addr)(len cap:Nat)(zs:List Int):Prop:=
 (a=none∧len=0∧cap=0∧zs=[]) ∨
 ∃x,a=some x∧len≤cap∧cap≤maxLen∧zs.length=cap∧(∀i,i<zs.length→w.cell? (x.add i)=some (.int k (zs.getD i 0)))∧∀n∈zs,(Lit.int k n).wf=true
theorem G7{w:World}{b o:Nat}{sp:Option Nat}{v:Value}(h:w.cell? ⟨b,o,sp⟩=some v):sp=none∧∃cs ty z,w.heap[b]?=some (.cells cs ty z)∧cs[o]?=some v:=by
 unfold World.cell? at h
 dsimp only at h
 split at h
 ·rename_i c ty z hb
  split at h
  ·cases h
  ·rename_i hn
   exact⟨by cases sp<;>simp_all,c,ty,z,hb,h⟩
 ·cases h
theorem Ahq{k:IntKind}{n:Int}(h:(Lit.int k n).wf=true):inR k n:=by
 simpa [Lit.wf,inR]using h
theorem Apv{k:IntKind}{w:World}{a:Option Addr}{len cap:Nat}{zs:List Int}(h:Aq4 k w a len cap zs):(zs.take len).length=len∧len≤9223372036854775807∧RepV (gAll w) (.sl (.int k) (zs.take len)) (.slice a len cap):=by
 rcases h with⟨rfl,rfl,rfl,rfl⟩ | ⟨x,rfl,hl,hm,hz,hc,hw⟩
 ·exact⟨rfl,by decide,by simp,none,0,rfl,Nat.le_refl _,.inl rfl⟩
 ·have hlen:(zs.take len).length=len:=by simp;omega
  have hm':len≤9223372036854775807:=by have:maxLen≤9223372036854775807:=by decide
                                       omega
  refine⟨hlen,hm',by rw[hlen];exact hm',some x,cap,by rw[hlen],by rw[hlen];exact hl,?_⟩
  by_cases h0:len=0
  ·subst h0;exact .inl (by simp)
  ·obtain⟨b,o,sp⟩:=x
   have h1:=hc 0 (by omega)
   have hsp:sp=none:=by
    have:(⟨b,o,sp⟩:Addr).add 0=⟨b,o,sp⟩:=by unfold Addr.add;split<;>simp_all
    rw[this]at h1
    exact(G7 h1).1
   subst hsp
   rw[Aw]at h1
   obtain⟨_,cs,ty,z,hb,_⟩:=G7 h1
   refine .inr ⟨b,o,cs.toList,(ty,z),rfl,by show w.heap[b]?=_;rw[hb],fun i y hy=>⟨[.int k y],?_,rfl,?_⟩⟩
   ·have hi:i<len:=by have:=(List.getElem?_eq_some_iff.1 hy).1;rw[hlen]at this;exact this
    have h2:=hc i (by omega)
    rw[Aw]at h2
    obtain⟨_,cs',ty',z',hb',hv⟩:=G7 h2
    rw[hb]at hb'
    simp only[Option.some.injEq,Obj.cells.injEq]at hb'
    obtain⟨rfl,_⟩:=hb'
    rw[List.getElem?_take,if_pos hi]at hy
    have e:zs.getD i 0=y:=by simp[List.getD,hy]
    rw[e]at hv
    intro j u hj
    cases j with
    | zero=>simp at hj;subst hj;simpa [Ty.cells]using hv
    | succ j=>simp at hj
   ·exact Ahq (hw y (List.mem_of_mem_take (List.mem_of_getElem? hy)))
end Go.Proofs.YtfcnhnbnjdccfaaGreat

namespace Go.Proofs.YtfcnhnbnjdccfaaGreat
open Go Go.RowKit

def tyFs(P:Program)(rec:TypeId→Ty→Bool):List Field→Ty→Nat→Bool
 | [],_,_=>false
 | [f],y,o=>decide (f.offset=o)&&decide (P.cellsOf f.type=y.cells)&&rec f.type y
 | f::fs,.pair a b,o=>decide (f.offset=o)&&decide (P.cellsOf f.type=a.cells)&&rec f.type a&&tyFs P rec fs b (o+a.cells)
 | _,_,_=>false
def tyAs(P:Program):Nat→TypeId→Ty→Bool
 | 0,_,_=>false
 | n+1,t,y=>match P.underlying t with
  | some (.int k)=>match y with | .int k'=>decide (k=k') | _=>false
  | some .bool=>match y with | .bool=>true | _=>false
  | some (.slice e)=>match y with | .sl a=>tyAs P n e a&&decide (P.cellsOf e=a.cells) | _=>false
  | some (.struct fs)=>tyFs P (tyAs P n) fs.toList y 0&&decide (P.cellsOf t=y.cells)
  | _=>false
theorem Ak8{P:Program}{w:World}{rec:TypeId→Ty→Bool}{R:TypeId→List Value→Prop}(hr:∀t cs y,R t cs→rec t y=true→∃x:y.den,RepC (gAll w).M y x cs)(cs:List Value) :
  ∀(fs:List Field) (y:Ty) (o:Nat),tyFs P rec fs y o=true→(∀f∈fs,R f.type ((cs.drop f.offset).take (P.cellsOf f.type)))→cs.length=o+y.cells→∃x:y.den,RepC (gAll w).M y x (cs.drop o)
 | [],y,o,h,_,_=>by simp[tyFs]at h
 | [f],y,o,h,hR,hl=>by
  simp only[tyFs,Bool.and_eq_true,decide_eq_true_eq]at h
  obtain⟨⟨h1,h2⟩,h3⟩:=h
  obtain⟨x,hx⟩:=hr _ _ _ (hR f (by simp)) h3
  rw[h1,h2,List.take_of_length_le (by simp;omega)]at hx
  exact⟨x,hx⟩
 | f::g::fs,.pair a b,o,h,hR,hl=>by
  simp only[tyFs,Bool.and_eq_true,decide_eq_true_eq]at h
  obtain⟨⟨⟨h1,h2⟩,h3⟩,h4⟩:=h
  obtain⟨x,hx⟩:=hr _ _ _ (hR f (by simp)) h3
  rw[h1,h2]at hx
  obtain⟨z,hz⟩:=Ak8 hr cs (g::fs) b (o+a.cells) h4 (fun f' hf=>hR f' (by simp[hf])) (by simp only[Ty.cells]at hl;omega)
  refine⟨(x,z),_,_,?_,hx,hz⟩
  rw[←List.drop_drop,List.take_append_drop]
 | f::g::fs,.int _,o,h,_,_=>by simp[tyFs]at h
 | f::g::fs,.bool,o,h,_,_=>by simp[tyFs]at h
 | f::g::fs,.sl _,o,h,_,_=>by simp[tyFs]at h
 | f::g::fs,.ptr _,o,h,_,_=>by simp[tyFs]at h
theorem Al2{w:World}{a:Addr}{v:Value}(h:w.cell? a=some v):a=⟨a.block,a.off,none⟩:=by
 obtain⟨b,o,sp⟩:=a
 rw[(G7 h).1]
theorem Aeg{α:Type}{Q:Nat→α→Prop}:∀(n:Nat),(∀i,i<n→∃x,Q i x)→∃l:List α,l.length=n∧∀i x,l[i]?=some x→Q i x
 | 0,_=>⟨[],rfl,fun i x h=>by simp at h⟩
 | n+1,h=>by
  obtain⟨l,hl,hq⟩:=Aeg n (fun i hi=>h i (by omega))
  obtain⟨x,hx⟩:=h n (by omega)
  refine⟨l++[x],by simp[hl],fun i y hy=>?_⟩
  by_cases c:i<l.length
  ·rw[List.getElem?_append_left c]at hy;exact hq i y hy
  ·rw[List.getElem?_append_right (by omega)]at hy
   have:i-l.length=0:=by
    have:=(List.getElem?_eq_some_iff.1 hy).1
    simp at this;omega
   rw[this]at hy
   simp at hy
   subst hy
   have:i=n:=by omega
   subst this;exact hx
theorem Zf{H:Type}{enc:TypeId×Value→H}{P:Program}{w:World}{base:Nat}{spare:Nat→Bool}{held:Bool}:∀(n m:Nat) (t:TypeId) (cs:List Value) (x:DataW H×List MemPlace) (y:Ty),
  DataW.trod enc P w base spare held m t cs=some x→tyAs P n t y=true→∃z:y.den,RepC (gAll w).M y z cs
 | 0,_,_,_,_,_,_,h=>by simp[tyAs]at h
 | n+1,m,t,cs,x,y,ht,h=>by
  unfold tyAs at h
  split at h
  ·rename_i k hu
   split at h
   ·rename_i k'
    rw[decide_eq_true_eq]at h
    subst h
    obtain⟨z,rfl,_,hw⟩:=DataW.trod_int hu ht
    exact⟨z,rfl,Ahq hw⟩
   ·cases h
  ·rename_i hu
   split at h
   ·obtain⟨z,rfl,_⟩:=DataW.trod_bool hu ht
    exact⟨z,rfl⟩
   ·cases h
  ·rename_i e hu
   split at h
   ·rename_i a
    simp only[Bool.and_eq_true,decide_eq_true_eq]at h
    obtain⟨h1,h2⟩:=h
    rcases DataW.trod_slice hu ht with⟨rfl,_⟩ | ⟨ad,len,cap,elems,rest,m',_,rfl,_,_,hl,hm,hlen,hel,_,_⟩
    ·exact⟨[],_,rfl,by simp,none,0,rfl,Nat.le_refl _,.inl rfl⟩
    ·have hm':len≤9223372036854775807:=by have:maxLen≤9223372036854775807:=by decide
                                          omega
     have each:∀i,i<len→∃z:a.den,∃us,w.cells? base (ad.add (i*a.cells)) a.cells=some us∧RepC (gAll w).M a z us:=by
      intro i hi
      have h3:=hel i hi
      rw[List.getElem?_eq_getElem (by omega),Option.bind_eq_some_iff]at h3
      obtain⟨us,hus,hz⟩:=h3
      obtain⟨z,hz⟩:=Zf n m' e us _ a hz h1
      rw[h2]at hus
      exact⟨z,us,hus,hz⟩
     obtain⟨l,hll,hlq⟩:=Aeg len each
     refine⟨l,_,rfl,by omega,some ad,cap,by rw[hll],by omega,?_⟩
     by_cases h0:l=[]
     ·exact .inl h0
     ·have hpos:0<len:=by
       rcases Nat.eq_zero_or_pos len with h | h
       ·exact absurd (List.eq_nil_of_length_eq_zero (by omega)) h0
       ·exact h
      have cp:=a.cells_pos
      have cell:∀i us,w.cells? base (ad.add (i*a.cells)) a.cells=some us→∀j u,us[j]?=some u→w.cell? ((ad.add (i*a.cells)).add j)=some u:=by
       intro i us hus j u hj
       obtain⟨_,hl',hc⟩:=World.cells?_some hus
       have:=(List.getElem?_eq_some_iff.1 hj).1
       rw[hc j (by omega),hj]
      obtain⟨z0,us0,hus0,_⟩:=each 0 hpos
      have c0:∃u,us0[0]?=some u:=⟨us0[0]'(by have:=(World.cells?_some hus0).2.1;omega),List.getElem?_eq_getElem _⟩
      obtain⟨u0,hu0⟩:=c0
      have hc0:=cell 0 us0 hus0 0 u0 hu0
      have e0:(ad.add (0*a.cells)).add 0=ad:=by rw[Nat.zero_mul];simp[Addr.add]
      rw[e0]at hc0
      have had:=Al2 hc0
      generalize ad.block=b at had
      generalize ad.off=o at had
      subst had
      obtain⟨_,cs,ty,z,hb,_⟩:=G7 hc0
      refine .inr ⟨b,o,cs.toList,(ty,z),rfl,by show w.heap[b]?=_;rw[hb],fun i y hy=>?_⟩
      obtain⟨us,hus,hR⟩:=hlq i y hy
      refine⟨us,fun j u hj=>?_,hR⟩
      have h5:=cell i us hus j u hj
      rw[Aw,Aw]at h5
      obtain⟨_,cs',ty',z',hb',hv⟩:=G7 h5
      rw[hb]at hb'
      simp only[Option.some.injEq,Obj.cells.injEq]at hb'
      obtain⟨rfl,_⟩:=hb'
      simpa using hv
   ·cases h
  ·rename_i fs hu
   simp only[Bool.and_eq_true,decide_eq_true_eq]at h
   obtain⟨xs,m',_,_,hl,hxl,hf⟩:=DataW.trod_struct hu ht
   have:=Ak8 (P:=P) (w:=w) (rec:=tyAs P n) (R:=fun t cs=>∃x,DataW.trod enc P w base spare held m' t cs=some x) (fun t cs y ⟨x,hx⟩ hy=>Zf n m' t cs x y hx hy) cs fs.toList y 0 h.1 (fun f hf'=>by
    obtain⟨i,hi⟩:=List.getElem?_of_mem hf'
    have h6:=hf i f (by simpa using hi)
    have hlt:i<xs.length:=by
     have:=(List.getElem?_eq_some_iff.1 hi).1
     simp at this;omega
    exact⟨xs[i],by rw[h6,List.getElem?_eq_getElem hlt]⟩) (by omega)
   rw[List.drop_zero]at this
   exact this
  ·cases h
def Anr(P:Program)(n:Nat)(t:TypeId)(y:Ty):Bool:=tyAs P n t y&&(match P.underlying t,y with
 | some (.struct _),.pair _ _=>true
 | some (.struct _),_=>false
 | _,_=>true)
theorem Aq5{H:Type}{enc:TypeId×Value→H}{P:Program}{w:World}{r:_root_.Go.Reach}{base base':Nat}{spare:Nat→Bool}{held:Bool}{t:TypeId}{v:Value}{d:DataW H}{p:List MemPlace}(n:Nat){y:Ty}
  (hv:Value.okWide P w r base' t v) (ht:DataW.Trod enc P w base spare held t v d p) (h:Anr P n t y=true):∃x:y.den,RepV (gAll w) (y.av x) v∧y.inB x:=by
 obtain⟨m,hm⟩:=ht
 unfold Anr at h
 rw[Bool.and_eq_true]at h
 obtain⟨h1,h2⟩:=h
 obtain⟨z,hz⟩:=Zf n m t _ _ y hm h1
 have hB:=Ty.inB_of y z _ hz
 refine⟨z,?_,hB⟩
 clear hB
 cases n with
 | zero=>simp[tyAs]at h1
 | succ n=>
  unfold tyAs at h1
  split at h1
  ·rename_i k hu
   cases y<;>simp at h1
   subst h1
   simp only[Value.okWide,hu,Cell.okWide]at hv
   obtain⟨h3,h4⟩:=hz
   cases v<;>simp_all [Cell.ok,Value.cells,RepV,Ty.av]
  ·rename_i hu
   cases y<;>simp at h1
   simp only[Value.okWide,hu,Cell.okWide]at hv
   cases v<;>simp_all [Cell.ok,Value.cells,RepV,Ty.av,RepC]
  ·rename_i e hu
   cases y<;>simp at h1
   obtain⟨a,l,c,rfl⟩:=WideShapes.okWide_slice hu hv
   obtain⟨v',h3,h4⟩:=hz
   simp[Value.cells]at h3
   subst h3
   exact h4
  ·rename_i fs hu
   rw[hu]at h2
   obtain⟨cs,rfl,_⟩:=WideShapes.okWide_struct hu hv
   cases y<;>simp at h2
   exact⟨cs.toList,by simp,A7.avs _ z cs.toList hz⟩
  ·cases h1
end Go.Proofs.YtfcnhnbnjdccfaaGreat

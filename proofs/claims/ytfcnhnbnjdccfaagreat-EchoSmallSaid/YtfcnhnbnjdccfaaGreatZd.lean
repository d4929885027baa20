/-
  Parts of a proof, put together: SvP, InB, It1, It2, It3, SvQ, E1, E2, E3.
  Conditions: none.
-/
import Derived.Test.YtfcnhnbnjdccfaaGreatChecked
import Derived.Test.YtfcnhnbnjdccfaaGreatZa
import Derived.Test.YtfcnhnbnjdccfaaGreatZc
namespace Go.Proofs.YtfcnhnbnjdccfaaGreat
set_option linter.all false
open Go
theorem mixed:Tryz.prog.follows .mixedOrders=true:=by kernel_rfl
theorem Uv{α Y:Type}(o:Option α)(f g:α→Option Y)(h:∀e,f e=g e):o.bind f=o.bind g:=by rw[funext h]
theorem A2.none{P:Program}{s:Spec}(h:∀(Z:Type) (p:s.ins.den) (κ:altD s.outs→Option Z),s.run p κ=Option.none)(hc:∀args w,(callFunc s.f args).run P w=.ok (.enter s.f args) w):A2 P s:=
 ⟨fun Z p κ=>by rw[h,h];rfl,hc,fun p r hr=>by rw[h]at hr;cases hr⟩
end Go.Proofs.YtfcnhnbnjdccfaaGreat

namespace Go.Proofs.YtfcnhnbnjdccfaaGreat
set_option linter.all false
open Go
def Ty.inB:(t:Ty)→t.den→Prop
 | .int k,n=>inR k n
 | .bool,_=>True
 | .pair a b,x=>a.inB x.1∧b.inB x.2
 | .sl a,l=>l.length≤9223372036854775807∧∀x∈(l:List a.den),a.inB x
 | .ptr a,x=>a.inB x
theorem Ty.inB_of{M:Nat→Option Obj}:∀(t:Ty) (x:t.den) (vs:List Value),RepC M t x vs→t.inB x
 | .int k,n,vs,h=>h.2
 | .bool,_,_,_=>trivial
 | .pair a b,x,vs,h=>by
  obtain⟨v1,v2,_,h1,h2⟩:=h
  exact⟨Ty.inB_of a _ _ h1,Ty.inB_of b _ _ h2⟩
 | .sl a,l,vs,h=>by
  obtain⟨v,_,h1,ad,cap,_,_,h2⟩:=h
  refine⟨h1,fun x hx=>?_⟩
  rcases h2 with rfl | ⟨b,o,us,ty,_,_,h3⟩
  ·cases hx
  ·obtain⟨i,hi⟩:=List.getElem?_of_mem hx
   obtain⟨us,_,h4⟩:=h3 i x hi
   exact Ty.inB_of a _ _ h4
 | .ptr a,x,vs,h=>by
  obtain⟨b,o,ws,ty,us,_,_,_,h4⟩:=h
  exact Ty.inB_of a _ _ h4
theorem Ty.inB_i64{n:Int}(h:(Ty.int .i64).inB n):-9223372036854775808≤n∧n≤9223372036854775807:=by
 have h1:IntKind.i64.min=-9223372036854775808:=by decide
 have h2:IntKind.i64.max=9223372036854775807:=by decide
 unfold Ty.inB inR at h
 rw[h1,h2]at h
 exact h
end Go.Proofs.YtfcnhnbnjdccfaaGreat

namespace Go.Proofs.YtfcnhnbnjdccfaaGreat
set_option linter.all false
open Go
def Cl(w:World)(b o:Nat)(vs:List Value):Prop:=∀(i:Nat) (v:Value),vs[i]?=some v→w.cell? ⟨b,o+i,none⟩=some v
theorem Cl.cell{w:World}{b o i:Nat}{vs:List Value}{v:Value}(h:Cl w b o vs)(hi:vs[i]?=some v):w.cell? ⟨b,o+i,none⟩=some v:=h i v hi
theorem Cl.blk{w:World}{b:Nat}{vs:List Value}{ty:TypeId}(h:Blk w b vs ty):Cl w b 0 vs:=fun i v hi=>by rw[Nat.zero_add];exact Blk.cell h hi
def Ak(text:List Int)(word:Int)(k:Nat):List Nat:=(List.range' k (text.length-k)).filter fun j=>text.getD j 0==word
theorem A9p{text:List Int}{word:Int}{k:Nat}(h:k<text.length)(e:text.getD k 0=word):Ak text word k=k::Ak text word (k+1):=by
 unfold Ak
 rw[show text.length-k=(text.length-(k+1))+1 by omega,List.range'_succ,List.filter_cons,if_pos (by simpa using e)]
theorem Aao{text:List Int}{word:Int}{k:Nat}(h:k<text.length)(e:¬text.getD k 0=word):Ak text word k=Ak text word (k+1):=by
 unfold Ak
 rw[show text.length-k=(text.length-(k+1))+1 by omega,List.range'_succ,List.filter_cons,if_neg (by simpa using e)]
theorem A96{text:List Int}{word:Int}{k:Nat}(h:text.length≤k):Ak text word k=[]:=by
 unfold Ak
 rw[show text.length-k=0 by omega];rfl
theorem Am{text:List Int}{word:Int}{k j:Nat}:j∈Ak text word k↔k≤j∧j<text.length∧text.getD j 0=word:=by
 unfold Ak
 rw[List.mem_filter,List.mem_range'_1]
 simp only[beq_iff_eq]
 constructor
 ·rintro ⟨⟨h1,h2⟩,h3⟩;exact⟨h1,by omega,h3⟩
 ·rintro ⟨h1,h2,h3⟩;exact⟨⟨h1,by omega⟩,h3⟩

noncomputable def c133:Code:=(Tryz.f98.body).getD .skip
noncomputable def Ape:List Item:=[.code (sub c133 [0]),.code (sub c133 [1])]
noncomputable def A4z:List Item:=[.code (sub c133 [1,0,0,0,0]),.code (sub c133 [1,0,0,0,1]),.code (sub c133 [1,0,0,1]),.inLoop (sub c133 [1,0,0]),.inBlock 0]
noncomputable def Aoo:List Item:=[.code (sub c133 [1,0,0,0,1]),.code (sub c133 [1,0,0,1]),.inLoop (sub c133 [1,0,0]),.inBlock 0]
noncomputable def Apd:List Item:=[.code (sub c133 [1,0,0,1,0,0,0]),.code (sub c133 [1,0,0,1,0,0,1]),.inBlock 1,.code (sub c133 [1,0,0,1,1]),.inLoop (sub c133 [1,0,0]),.inBlock 0]
noncomputable def Ap3:List Item:=[]
noncomputable def Aov:List Item:=[.code (sub c133 [1,0,0,1,0,0,1]),.inBlock 1,.code (sub c133 [1,0,0,1,1]),.inLoop (sub c133 [1,0,0]),.inBlock 0]
noncomputable def Abt:List Item:=[.code (sub c133 [1,0,0,1,0,0,1,0]),.inBlock 1,.code (sub c133 [1,0,0,1,1]),.inLoop (sub c133 [1,0,0]),.inBlock 0]
noncomputable def Ab6:List Item:=[.code (sub c133 [1,0,0,1,1]),.inLoop (sub c133 [1,0,0]),.inBlock 0]
set_option maxHeartbeats 400000 in
theorem Abh(l bf bt bw of_ ot ow c:Nat)(a:Option Addr)(text:List Int)(fr:Nat)(word:Int)(S:List Nat)(J:List Nat→World→Prop)(Q:World→Prop)(w:World)(hbf:∀w',Upd (l::S) w w'→Cl w' bf of_ [.int .i64 ↑fr])(hbt:∀w',Upd (l::S) w w'→Cl w' bt ot [.slice a text.length c])(hbw:∀w',Upd (l::S) w w'→Cl w' bw ow [.int .i64 word])(hT:∀w',Upd (l::S) w w'→Ints .i64 0 w' (.slice a text.length c) text)(hfr:fr≤text.length∧text.length≤1000000)(hJ:J (Ak text word fr) w)(hx:∀r w1 w2,J r w1→Ext w1 w2→J r w2)(hy:∀k r w1,k∈Ak text word fr→J (k::r) w1→Upd (l::S) w w1→Dj Tryz.prog l #[.int .i64 ↑k] w1 (fun v w2=>Upd (l::S) w1 w2∧((v=.bool true∧J r w2)∨(v=.bool false∧Q w2)))):Fn Tryz.prog 98 #[(.func (.yield l) #[] #[]),(.pointer (some ⟨bf,of_,none⟩)),(.pointer (some ⟨bt,ot,none⟩)),(.pointer (some ⟨bw,ow,none⟩))] w (fun _ w'=>Upd (l::S) w w'∧(J [] w'∨Q w')):=by
 refine Fn.ofSt (c:=c133) 25 Ape [(0,(.func (.yield l) #[] #[])),(1,(.pointer (some ⟨bf,of_,none⟩))),(2,(.pointer (some ⟨bt,ot,none⟩))),(3,(.pointer (some ⟨bw,ow,none⟩)))] Tryz.func98 (by kernel_rfl) ⟨⟨rfl,by kernel_rfl⟩,by kernel_rfl⟩ (by kernel_rfl) ?_
 intro cs
 refine St.reg A4z [(0,true),(1,true)] (by kernel_rfl) (by kernel_rfl) ?_
 refine RX.q 2 [(0,true,(.int .i64 (↑fr:Int)))] [(0,(.func (.yield l) #[] #[])),(2,(.pointer (some ⟨bt,ot,none⟩))),(3,(.pointer (some ⟨bw,ow,none⟩))),(5,(.int .i64 (↑fr:Int)))] [.cell ⟨bf,of_+0,none⟩ (.int .i64 (↑fr:Int))] (by kernel_rfl) (Cl.cell (hbf w (Upd.refl _ w)) rfl) ?_
 refine RX.done [(0,(.func (.yield l) #[] #[])),(2,(.pointer (some ⟨bt,ot,none⟩))),(3,(.pointer (some ⟨bw,ow,none⟩))),(5,(.int .i64 (↑fr:Int)))] (by kernel_rfl) (by kernel_rfl) ?_
 have loop1:∀(N:Nat) (k:Nat) (w2:World),(fr≤k∧k≤text.length)→(J (Ak text word k) w2)→(Upd (l::S) w w2)→N=text.length-k→St Tryz.prog (fctx Tryz.prog 98 (fun _ w'=>Upd (l::S) w w'∧(J [] w'∨Q w')) cs) 25 A4z [(5,(.int .i64 (↑k:Int))),(0,(.func (.yield l) #[] #[])),(2,(.pointer (some ⟨bt,ot,none⟩))),(3,(.pointer (some ⟨bw,ow,none⟩)))] [] w2:=by
  intro N3
  induction N3 using Nat.strongRecOn with
  | ind N3 ih4=>?_
  intro k w2 hk hJk hE hN5
  refine St.reg Aoo [(0,true),(1,true),(2,true),(3,true)] (by kernel_rfl) (by kernel_rfl) ?_
  have hb6:Cl w2 bt ot [(.slice a text.length c)]:=hbt w2 hE
  refine RX.q 4 [(1,true,(.slice a text.length c))] [(0,(.func (.yield l) #[] #[])),(2,(.pointer (some ⟨bt,ot,none⟩))),(3,(.pointer (some ⟨bw,ow,none⟩))),(5,(.int .i64 (↑k:Int))),(10,(.bool (decide ((↑k:Int)<(↑text.length:Int)))))] [.cell ⟨bt,ot+0,none⟩ (.slice a text.length c)] (by kernel_rfl) (Cl.cell hb6 rfl) ?_
  refine RX.done [(0,(.func (.yield l) #[] #[])),(2,(.pointer (some ⟨bt,ot,none⟩))),(3,(.pointer (some ⟨bw,ow,none⟩))),(5,(.int .i64 (↑k:Int))),(10,(.bool (decide ((↑k:Int)<(↑text.length:Int)))))] (by kernel_rfl) (by kernel_rfl) ?_
  refine St.cond (k1:=Apd) (k2:=Ap3) (decide ((↑k:Int)<(↑text.length:Int))) (by kernel_rfl) (fun hc7=>?_) (fun hc7=>?_)
  ·have hh8:(↑k:Int)<(↑text.length:Int):=by simpa using hc7
   clear hc7
   refine St.weak (L':=[(0,(.func (.yield l) #[] #[])),(2,(.pointer (some ⟨bt,ot,none⟩))),(3,(.pointer (some ⟨bw,ow,none⟩))),(5,(.int .i64 (↑k:Int)))]) (by kernel_rfl) ?_
   refine St.drw Aov [] [(0,true),(1,true),(2,true),(3,true),(4,true),(5,true),(6,true),(7,true),(8,true),(9,false),(10,true),(11,true)] mixed (by kernel_rfl) (by kernel_rfl) ?_
   intro w9 hd10 hds11
   by_cases hg22:(text.getD k 0)=word
   ·have hE23:Upd (l::S) w w9:=(Upd.ext hE hd10)
    have hb24:Cl w9 bt ot [(.slice a text.length c)]:=hbt w9 hE23
    have hD25:Ints .i64 0 w9 (.slice a text.length c) text:=hT w9 hE23
    obtain⟨b26,o27,hl28,hl29,hi30,hc31⟩:=Ints.at (P:=Tryz.prog) (t:=22) (e:=3) hD25 (by kernel_rfl) (by kernel_rfl) k (by omega)
    have hb32:Cl w9 bw ow [(.int .i64 word)]:=hbw w9 hE23
    refine RX.qd 9 [(0,true,(.slice a text.length c)),(2,true,(.pointer (some ⟨b26,o27,none⟩))),(3,true,(.int .i64 (text.getD k 0))),(4,true,(.int .i64 word)),(5,false,(.bool true))] [(0,(.func (.yield l) #[] #[])),(2,(.pointer (some ⟨bt,ot,none⟩))),(3,(.pointer (some ⟨bw,ow,none⟩))),(5,(.int .i64 (↑k:Int))),(19,(.bool true)),(20,(.func (.yield l) #[] #[])),(21,(.int .i64 (↑k:Int)))] [.cell ⟨bt,ot+0,none⟩ (.slice a text.length c),.raw (Instr.indexAt 22 (.slice a text.length c) (.int .i64 (↑k:Int))) (.pointer (some ⟨b26,o27,none⟩)),.cell ⟨b26,o27,none⟩ (.int .i64 (text.getD k 0)),.cell ⟨bw,ow+0,none⟩ (.int .i64 word),.eq (.bool ((text.getD k 0)==word)) (.bool true)] (by kernel_rfl) ⟨Cl.cell hb24 rfl,hi30 _,hc31,Cl.cell hb32 rfl,bT (by simpa using hg22)⟩ ⟨List.not_mem_nil,fun w' _=>hi30 w',List.not_mem_nil,List.not_mem_nil,trivial⟩ ?_
    have hD33:J (Ak text word k) w9:=(hx _ _ _ hJk hd10)
    have hJ37:=hD33;rw[A9p (by omega) hg22]at hJ37
    refine RX.yieldL 22 l #[(.int .i64 (↑k:Int))] [(0,(.func (.yield l) #[] #[])),(2,(.pointer (some ⟨bt,ot,none⟩))),(3,(.pointer (some ⟨bw,ow,none⟩))),(5,(.int .i64 (↑k:Int))),(19,(.bool true)),(20,(.func (.yield l) #[] #[])),(21,(.int .i64 (↑k:Int)))] (by kernel_rfl) (by kernel_rfl) ?_
    refine Dj.mono (hy k _ w9 (Am.2 ⟨by omega,by omega,hg22⟩) hJ37 hE23) ?_
    rintro _ w34 ⟨hu35,⟨rfl,hv36⟩ | ⟨rfl,hv36⟩⟩
    ·refine RX.qd 2 [] [(0,(.func (.yield l) #[] #[])),(2,(.pointer (some ⟨bt,ot,none⟩))),(3,(.pointer (some ⟨bw,ow,none⟩))),(5,(.int .i64 (↑k:Int))),(24,(.bool false))] [] (by kernel_rfl) trivial trivial ?_
     refine RX.done [(0,(.func (.yield l) #[] #[])),(2,(.pointer (some ⟨bt,ot,none⟩))),(3,(.pointer (some ⟨bw,ow,none⟩))),(5,(.int .i64 (↑k:Int))),(24,(.bool false))] (by kernel_rfl) (by kernel_rfl) ?_
     refine St.cond (k1:=Abt) (k2:=Ab6) false (by kernel_rfl) (fun hc=>?_) (fun hc=>?_)
     ·cases hc
     ·clear hc
      refine St.weak (L':=[(0,(.func (.yield l) #[] #[])),(2,(.pointer (some ⟨bt,ot,none⟩))),(3,(.pointer (some ⟨bw,ow,none⟩))),(5,(.int .i64 (↑k:Int)))]) (by kernel_rfl) ?_
      refine St.reg A4z [(0,true),(1,true),(2,true)] (by kernel_rfl) (by kernel_rfl) ?_
      refine RX.q 3 [(1,false,(.int .i64 ((↑k:Int)+1)))] [(0,(.func (.yield l) #[] #[])),(2,(.pointer (some ⟨bt,ot,none⟩))),(3,(.pointer (some ⟨bw,ow,none⟩))),(5,(.int .i64 ((↑k:Int)+1)))] [.eq (.int .i64 (IntKind.i64.wrap ((↑k:Int)+1))) (.int .i64 ((↑k:Int)+1))] (by kernel_rfl) (int64 (by omega)) ?_
      refine RX.done [(0,(.func (.yield l) #[] #[])),(2,(.pointer (some ⟨bt,ot,none⟩))),(3,(.pointer (some ⟨bw,ow,none⟩))),(5,(.int .i64 ((↑k:Int)+1)))] (by kernel_rfl) (by kernel_rfl) ?_
      have hE38:Upd (l::S) w w34:=(Upd.trans hE23 hu35)
      refine St.weak (by kernel_rfl) (ih4 _ ?_ (k+1) w34 (by omega) hv36 hE38 rfl)
      omega
    ·refine RX.qd 2 [] [(0,(.func (.yield l) #[] #[])),(2,(.pointer (some ⟨bt,ot,none⟩))),(3,(.pointer (some ⟨bw,ow,none⟩))),(5,(.int .i64 (↑k:Int))),(24,(.bool true))] [] (by kernel_rfl) trivial trivial ?_
     refine RX.done [(0,(.func (.yield l) #[] #[])),(2,(.pointer (some ⟨bt,ot,none⟩))),(3,(.pointer (some ⟨bw,ow,none⟩))),(5,(.int .i64 (↑k:Int))),(24,(.bool true))] (by kernel_rfl) (by kernel_rfl) ?_
     refine St.cond (k1:=Abt) (k2:=Ab6) true (by kernel_rfl) (fun hc=>?_) (fun hc=>?_)
     ·clear hc
      refine St.weak (L':=[]) (by kernel_rfl) ?_
      refine St.ret [] [] (by kernel_rfl) Tryz.func98 (by kernel_rfl) .nil ?_
      have hE39:Upd (l::S) w w34:=(Upd.trans hE23 hu35)
      exact⟨hE39,.inr hv36⟩
     ·cases hc
   ·have hg40:¬(text.getD k 0)=word:=by simpa using hg22
    have hE41:Upd (l::S) w w9:=(Upd.ext hE hd10)
    have hb42:Cl w9 bt ot [(.slice a text.length c)]:=hbt w9 hE41
    have hD43:Ints .i64 0 w9 (.slice a text.length c) text:=hT w9 hE41
    obtain⟨b44,o45,hl46,hl47,hi48,hc49⟩:=Ints.at (P:=Tryz.prog) (t:=22) (e:=3) hD43 (by kernel_rfl) (by kernel_rfl) k (by omega)
    have hb50:Cl w9 bw ow [(.int .i64 word)]:=hbw w9 hE41
    refine RX.qd 9 [(0,true,(.slice a text.length c)),(2,true,(.pointer (some ⟨b44,o45,none⟩))),(3,true,(.int .i64 (text.getD k 0))),(4,true,(.int .i64 word)),(5,false,(.bool false))] [(0,(.func (.yield l) #[] #[])),(2,(.pointer (some ⟨bt,ot,none⟩))),(3,(.pointer (some ⟨bw,ow,none⟩))),(5,(.int .i64 (↑k:Int))),(19,(.bool false)),(20,undef),(21,undef)] [.cell ⟨bt,ot+0,none⟩ (.slice a text.length c),.raw (Instr.indexAt 22 (.slice a text.length c) (.int .i64 (↑k:Int))) (.pointer (some ⟨b44,o45,none⟩)),.cell ⟨b44,o45,none⟩ (.int .i64 (text.getD k 0)),.cell ⟨bw,ow+0,none⟩ (.int .i64 word),.eq (.bool ((text.getD k 0)==word)) (.bool false)] (by kernel_rfl) ⟨Cl.cell hb42 rfl,hi48 _,hc49,Cl.cell hb50 rfl,bF (by simpa using hg40)⟩ ⟨List.not_mem_nil,fun w' _=>hi48 w',List.not_mem_nil,List.not_mem_nil,trivial⟩ ?_
    refine RX.skip [(0,(.func (.yield l) #[] #[])),(2,(.pointer (some ⟨bt,ot,none⟩))),(3,(.pointer (some ⟨bw,ow,none⟩))),(5,(.int .i64 (↑k:Int))),(19,(.bool false)),(20,undef),(21,undef),(22,undef)] (by kernel_rfl) ?_
    refine RX.qd 2 [] [(0,(.func (.yield l) #[] #[])),(2,(.pointer (some ⟨bt,ot,none⟩))),(3,(.pointer (some ⟨bw,ow,none⟩))),(5,(.int .i64 (↑k:Int))),(24,(.bool false))] [] (by kernel_rfl) trivial trivial ?_
    refine RX.done [(0,(.func (.yield l) #[] #[])),(2,(.pointer (some ⟨bt,ot,none⟩))),(3,(.pointer (some ⟨bw,ow,none⟩))),(5,(.int .i64 (↑k:Int))),(24,(.bool false))] (by kernel_rfl) (by kernel_rfl) ?_
    refine St.cond (k1:=Abt) (k2:=Ab6) false (by kernel_rfl) (fun hc=>?_) (fun hc=>?_)
    ·cases hc
    ·clear hc
     refine St.weak (L':=[(0,(.func (.yield l) #[] #[])),(2,(.pointer (some ⟨bt,ot,none⟩))),(3,(.pointer (some ⟨bw,ow,none⟩))),(5,(.int .i64 (↑k:Int)))]) (by kernel_rfl) ?_
     refine St.reg A4z [(0,true),(1,true),(2,true)] (by kernel_rfl) (by kernel_rfl) ?_
     refine RX.q 3 [(1,false,(.int .i64 ((↑k:Int)+1)))] [(0,(.func (.yield l) #[] #[])),(2,(.pointer (some ⟨bt,ot,none⟩))),(3,(.pointer (some ⟨bw,ow,none⟩))),(5,(.int .i64 ((↑k:Int)+1)))] [.eq (.int .i64 (IntKind.i64.wrap ((↑k:Int)+1))) (.int .i64 ((↑k:Int)+1))] (by kernel_rfl) (int64 (by omega)) ?_
     refine RX.done [(0,(.func (.yield l) #[] #[])),(2,(.pointer (some ⟨bt,ot,none⟩))),(3,(.pointer (some ⟨bw,ow,none⟩))),(5,(.int .i64 ((↑k:Int)+1)))] (by kernel_rfl) (by kernel_rfl) ?_
     have hD51:J (Ak text word k) w9:=(hx _ _ _ hJk hd10)
     refine St.weak (by kernel_rfl) (ih4 _ ?_ (k+1) w9 (by omega) (by rw[←Aao (by omega) hg40];exact hD51) hE41 rfl)
     omega
  ·have hh52:(↑text.length:Int)≤(↑k:Int):=by simpa using hc7
   clear hc7
   refine St.weak (L':=[]) (by kernel_rfl) ?_
   refine St.ret [] [] (by kernel_rfl) Tryz.func98 (by kernel_rfl) .nil ?_
   refine⟨hE,.inl ?_⟩
   rw[←A96 (text:=text) (word:=word) (k:=k) (by omega)];exact hJk
 exact St.weak (by kernel_rfl) (loop1 _ fr w (by omega) hJ (Upd.refl (l::S) w) rfl)

theorem T5(l bf bt bw c:Nat)(a:Option Addr)(text:List Int)(fr:Nat)(word:Int)(S:List Nat)(J:List Nat→World→Prop)(Q:World→Prop)(w:World)(hbf:Blk w bf [.int .i64 ↑fr] 3)(hbt:Blk w bt [.slice a text.length c] 22)(hbw:Blk w bw [.int .i64 word] 3)(hn:(bf≠l∧bt≠l∧bw≠l)∧bf∉S∧bt∉S∧bw∉S)(hT:∀w',Upd (l::S) w w'→Ints .i64 0 w' (.slice a text.length c) text)(hfr:fr≤text.length∧text.length≤1000000)(hJ:J (Ak text word fr) w)(hx:∀r w1 w2,J r w1→Ext w1 w2→J r w2)(hy:∀k r w1,k∈Ak text word fr→J (k::r) w1→Upd (l::S) w w1→Dj Tryz.prog l #[.int .i64 ↑k] w1 (fun v w2=>Upd (l::S) w1 w2∧((v=.bool true∧J r w2)∨(v=.bool false∧Q w2)))):Fn Tryz.prog 98 #[(.func (.yield l) #[] #[]),(.pointer (some ⟨bf,0,none⟩)),(.pointer (some ⟨bt,0,none⟩)),(.pointer (some ⟨bw,0,none⟩))] w (fun _ w'=>Upd (l::S) w w'∧(J [] w'∨Q w')):=by
 refine Abh l bf bt bw 0 0 0 c a text fr word S J Q w (fun w' hu=>Cl.blk (hu.blk hbf (by simp[hn]))) (fun w' hu=>Cl.blk (hu.blk hbt (by simp[hn]))) (fun w' hu=>Cl.blk (hu.blk hbw (by simp[hn]))) hT hfr hJ hx hy

noncomputable def c123:Code:=(Tryz.f66.body).getD .skip
noncomputable def Ap7:List Item:=[.code (sub c123 [0]),.code (sub c123 [1])]
noncomputable def Aou:List Item:=[.code (sub c123 [1,0]),.code (sub c123 [1,1])]
noncomputable def Aog:List Item:=[.code (sub c123 [1,1])]
set_option maxHeartbeats 400000 in
theorem A13(a:Option Addr)(n c:Nat)(fr word:Int)(w:World):Fn Tryz.prog 66 #[(.slice a n c),(.int .i64 fr),(.int .i64 word)] w (fun v w'=>∃b1 b2 b3,v=.func (.func 98) #[] #[.pointer (some ⟨b1,0,none⟩),.pointer (some ⟨b2,0,none⟩),.pointer (some ⟨b3,0,none⟩)]∧Blk w' b1 [.int .i64 fr] 3∧Blk w' b2 [.slice a n c] 22∧Blk w' b3 [.int .i64 word] 3∧(w.heap.size≤b1∧w.heap.size≤b2∧w.heap.size≤b3)∧Ext w w'):=by
 refine Fn.ofSt (c:=c123) 8 Ap7 [(0,(.slice a n c)),(1,(.int .i64 fr)),(2,(.int .i64 word))] Tryz.func66 (by kernel_rfl) ⟨⟨rfl,by kernel_rfl⟩,by kernel_rfl⟩ (by kernel_rfl) ?_
 intro cs
 refine St.reg Aou [(0,false),(1,false),(2,false),(3,true)] (by kernel_rfl) (by kernel_rfl) ?_
 refine RX.new 3 (.cells #[(.slice a n c)] 22) (.ptr) [(0,(.slice a n c)),(1,(.int .i64 fr)),(2,(.int .i64 word))] (by kernel_rfl) ?_
 intro b1 w2 hn3
 have:=hn3.size;have:=hn3.at_
 have hb4:Blk w2 b1 [(.slice a n c)] 22:=hn3.blk
 refine RX.new 4 (.cells #[(.int .i64 fr)] 3) (.ptr) [(3,(.pointer (some ⟨b1,0,none⟩))),(0,(.slice a n c)),(1,(.int .i64 fr)),(2,(.int .i64 word))] (by kernel_rfl) ?_
 intro b5 w6 hn7
 have:=hn7.size;have:=hn7.at_
 have hb8:Blk w6 b5 [(.int .i64 fr)] 3:=hn7.blk
 refine RX.new 5 (.cells #[(.int .i64 word)] 3) (.ptr) [(4,(.pointer (some ⟨b5,0,none⟩))),(3,(.pointer (some ⟨b1,0,none⟩))),(0,(.slice a n c)),(1,(.int .i64 fr)),(2,(.int .i64 word))] (by kernel_rfl) ?_
 intro b9 w10 hn11
 have:=hn11.size;have:=hn11.at_
 have hb12:Blk w10 b9 [(.int .i64 word)] 3:=hn11.blk
 refine RX.q 1 [] [(3,(.pointer (some ⟨b1,0,none⟩))),(4,(.pointer (some ⟨b5,0,none⟩))),(5,(.pointer (some ⟨b9,0,none⟩)))] [] (by kernel_rfl) trivial ?_
 refine RX.done [(3,(.pointer (some ⟨b1,0,none⟩))),(4,(.pointer (some ⟨b5,0,none⟩))),(5,(.pointer (some ⟨b9,0,none⟩)))] (by kernel_rfl) (by kernel_rfl) ?_
 refine St.reg Aog [(0,true),(1,true)] (by kernel_rfl) (by kernel_rfl) ?_
 refine RX.q 2 [] [(6,(.func (.func 98) #[] #[(.pointer (some ⟨b5,0,none⟩)),(.pointer (some ⟨b1,0,none⟩)),(.pointer (some ⟨b9,0,none⟩))]))] [] (by kernel_rfl) trivial ?_
 refine RX.done [(6,(.func (.func 98) #[] #[(.pointer (some ⟨b5,0,none⟩)),(.pointer (some ⟨b1,0,none⟩)),(.pointer (some ⟨b9,0,none⟩))]))] (by kernel_rfl) (by kernel_rfl) ?_
 refine St.ret [.tmp 6] [(.func (.func 98) #[] #[(.pointer (some ⟨b5,0,none⟩)),(.pointer (some ⟨b1,0,none⟩)),(.pointer (some ⟨b9,0,none⟩))])] (by kernel_rfl) Tryz.func66 (by kernel_rfl) (.cons (.tmp rfl) .nil) ?_
 have hb13:Blk w10 b5 [(.int .i64 fr)] 3:=(Ext.blk hn11.ext hb8)
 have hb14:Blk w10 b1 [(.slice a n c)] 22:=(Ext.blk hn11.ext (Ext.blk hn7.ext hb4))
 have hE15:Upd [] w w10:=(Upd.ext (Upd.ext (Upd.ext (Upd.refl [] w) hn3.ext) hn7.ext) hn11.ext)
 exact⟨_,_,_,rfl,hb13,hb14,hb12,⟨by omega,by omega,by omega⟩,hE15⟩

end Go.Proofs.YtfcnhnbnjdccfaaGreat

namespace Go.Proofs.YtfcnhnbnjdccfaaGreat
set_option linter.all false
open Go

abbrev At3:=Nat×Nat×Nat
def key3(x:At3):Value:=.agg #[.int .i64 x.1,.int .i64 x.2.1,.int .i64 x.2.2]
abbrev Mv:=(Int×Int)×At3
def mvP(m:Mv):Value:=.agg #[.int .i64 m.1.1,.int .i64 m.1.2]
def Ac(A B:List Int)(wd:Int)(x:At3):List Mv:=
 ((3,0),(x.1+1,x.2.1,x.2.2))::((Ak A wd x.2.1).map (fun(j:Nat)=>(((1:Int),(j:Int)),((x.1+1,j+1,x.2.2):At3)))++(Ak B wd x.2.2).map (fun(j:Nat)=>(((2:Int),(j:Int)),((x.1+1,x.2.1,j+1):At3))))
noncomputable def c122:Code:=(Tryz.f65.body).getD .skip
noncomputable def Ao8:List Item:=[.code (sub c122 [0]),.code (sub c122 [1])]
noncomputable def Apa:List Item:=[.code (sub c122 [1,0,0]),.code (sub c122 [1,0,1]),.code (sub c122 [1,1])]
noncomputable def Apq:List Item:=[.code (sub c122 [1,0,1]),.code (sub c122 [1,1])]
noncomputable def Ai3:List Item:=[.code (sub c122 [1,0,1,0]),.code (sub c122 [1,1])]
noncomputable def Ait:List Item:=[.code (sub c122 [1,1,0,0]),.code (sub c122 [1,1,0,1]),.code (sub c122 [1,1,1])]
noncomputable def Aak:List Item:=[.code (sub c122 [1,1,0,1,0]),.inBlock 0,.code (sub c122 [1,1,1])]
noncomputable def Aom:List Item:=[.code (sub c122 [1,1,1,0]),.code (sub c122 [1,1,1,1])]
noncomputable def Aoa:List Item:=[.code (sub c122 [1,1,0,1,0,0]),.beginRound,.code (sub c122 [1,1,0,1,0,1])]
noncomputable def Aob:List Item:=[.beginRound,.code (sub c122 [1,1,0,1,0,1])]
noncomputable def Aor:List Item:=[.code (sub c122 [1,1,0,1,0,1,0,0]),.code (sub c122 [1,1,0,1,0,1,0,1]),.inBlock 1]
noncomputable def Amy:List Item:=[.code (sub c122 [1,1,0,1,0,1,0,1]),.inBlock 1]
noncomputable def Adi:List Item:=[.code (sub c122 [1,1,0,1,0,1,0,1,0]),.inBlock 1]
noncomputable def Pk:List Item:=[]
noncomputable def A57:List Item:=[.code (sub c122 [1,1,1,1,0]),.inBlock 2]
noncomputable def An2:List Item:=[.code (sub c122 [1,1,1,1,0,0]),.beginRound,.code (sub c122 [1,1,1,1,0,1])]
noncomputable def Alk:List Item:=[.beginRound,.code (sub c122 [1,1,1,1,0,1])]
noncomputable def Ams:List Item:=[.code (sub c122 [1,1,1,1,0,1,0,0]),.code (sub c122 [1,1,1,1,0,1,0,1]),.inBlock 3]
noncomputable def Aml:List Item:=[.code (sub c122 [1,1,1,1,0,1,0,1]),.inBlock 3]
noncomputable def Ado:List Item:=[.code (sub c122 [1,1,1,1,0,1,0,1,0]),.inBlock 3]
set_option maxHeartbeats 1000000 in
theorem Aje(l bx bd d ox od oo:Nat)(xh xi xk:Nat)(aH aA aB:Option Addr)(cH cA cB:Nat)(vt:Value)(f:Int)(H A B:List Int)(S:List Nat)(J:List Mv→World→Prop)(Q:World→Prop)(w:World)(hbx:∀w',Upd (l::S) w w'→Cl w' bx ox [.int .i64 ↑xh,.int .i64 ↑xi,.int .i64 ↑xk])(hbd:∀w',Upd (l::S) w w'→Cl w' bd od [.pointer (some ⟨d,oo,none⟩)])(hd:∀w',Upd (l::S) w w'→Cl w' d oo [vt,.slice aH H.length cH,.int .i64 f,.slice aA A.length cA,.slice aB B.length cB])(hS:∀k∈l::S,k<w.heap.size)(hCH:∀w',Upd (l::S) w w'→Ints .i64 0 w' (.slice aH H.length cH) H)(hCA:∀w',Upd (l::S) w w'→Ints .i64 0 w' (.slice aA A.length cA) A)(hCB:∀w',Upd (l::S) w w'→Ints .i64 0 w' (.slice aB B.length cB) B)(hlt:(xh<H.length∧xi≤A.length∧xk≤B.length)∧H.length≤1000∧A.length≤1000∧B.length≤1000)(hJ:J (Ac A B (H.getD xh 0) (xh,xi,xk)) w)(hxJ:∀r,Bo w.heap.size (J r))(hxQ:Bo w.heap.size Q)(hy:∀m r w1,m∈Ac A B (H.getD xh 0) (xh,xi,xk)→J (m::r) w1→Upd (l::S) w w1→Dj Tryz.prog l #[mvP m,key3 m.2] w1 (fun v w2=>Upd (l::S) w1 w2∧((v=.bool true∧J r w2)∨(v=.bool false∧Q w2)))):Fn Tryz.prog 65 #[(.func (.yield l) #[] #[]),(.pointer (some ⟨bx,ox,none⟩)),(.pointer (some ⟨bd,od,none⟩))] w (fun _ w'=>Upd (l::S) w w'∧(J [] w'∨Q w')):=by
 refine Fn.ofSt (c:=c122) 78 Ao8 [(0,(.func (.yield l) #[] #[])),(1,(.pointer (some ⟨bx,ox,none⟩))),(2,(.pointer (some ⟨bd,od,none⟩)))] Tryz.func65 (by kernel_rfl) ⟨⟨rfl,by kernel_rfl⟩,by kernel_rfl⟩ (by kernel_rfl) ?_
 intro cs
 have hl0:=hS l (by simp)
 refine St.reg Apa [(0,false)] (by kernel_rfl) (by kernel_rfl) ?_
 refine RX.new 3 (.cells #[(.func (.yield l) #[] #[])] 126) (.ptr) [(0,(.func (.yield l) #[] #[])),(1,(.pointer (some ⟨bx,ox,none⟩))),(2,(.pointer (some ⟨bd,od,none⟩)))] (by kernel_rfl) ?_
 intro b1 w2 hn3
 have:=hn3.size;have:=hn3.at_
 have hb4:Blk w2 b1 [(.func (.yield l) #[] #[])] 126:=hn3.blk
 refine RX.done [(3,(.pointer (some ⟨b1,0,none⟩))),(1,(.pointer (some ⟨bx,ox,none⟩))),(2,(.pointer (some ⟨bd,od,none⟩)))] (by kernel_rfl) (by kernel_rfl) ?_
 refine St.reg Apq [(0,true),(1,true),(2,true),(3,true),(4,true),(5,true),(6,true),(7,true),(8,true),(9,true),(10,false),(11,true)] (by kernel_rfl) (by kernel_rfl) ?_
 have hE5:Upd (l::S) w w2:=(Upd.ext (Upd.refl (l::S) w) hn3.ext)
 have hb6:Cl w2 bx ox [(.int .i64 (↑xh:Int)),(.int .i64 (↑xi:Int)),(.int .i64 (↑xk:Int))]:=hbx w2 hE5
 refine RX.q 10 [(0,true,(.func (.yield l) #[] #[])),(3,true,(.int .i64 (↑xh:Int))),(4,false,(.int .i64 ((↑xh:Int)+1))),(6,true,(.int .i64 (↑xi:Int))),(8,true,(.int .i64 (↑xk:Int)))] [(1,(.pointer (some ⟨bx,ox,none⟩))),(2,(.pointer (some ⟨bd,od,none⟩))),(3,(.pointer (some ⟨b1,0,none⟩))),(6,(.func (.yield l) #[] #[])),(7,(.agg #[(.int .i64 3),(.int .i64 0)])),(15,(.agg #[(.int .i64 ((↑xh:Int)+1)),(.int .i64 (↑xi:Int)),(.int .i64 (↑xk:Int))]))] [.cell ⟨b1,0,none⟩ (.func (.yield l) #[] #[]),.cell ⟨bx,ox+0,none⟩ (.int .i64 (↑xh:Int)),.eq (.int .i64 (IntKind.i64.wrap ((↑xh:Int)+1))) (.int .i64 ((↑xh:Int)+1)),.cell ⟨bx,ox+1,none⟩ (.int .i64 (↑xi:Int)),.cell ⟨bx,ox+2,none⟩ (.int .i64 (↑xk:Int))] (by kernel_rfl) ⟨Blk.cell hb4 rfl,Cl.cell hb6 rfl,int64 (by omega),Cl.cell hb6 rfl,Cl.cell hb6 rfl⟩ ?_
 have hD7:J (Ac A B (H.getD xh 0) (xh,xi,xk)) w2:=(Bo.ext (hxJ _) hJ hn3.ext)
 refine RX.yield 16 l #[mvP ((3,0),(xh+1,xi,xk)),key3 (((3,0),(xh+1,xi,xk))).2] [(1,(.pointer (some ⟨bx,ox,none⟩))),(2,(.pointer (some ⟨bd,od,none⟩))),(3,(.pointer (some ⟨b1,0,none⟩))),(6,(.func (.yield l) #[] #[])),(7,(.agg #[(.int .i64 3),(.int .i64 0)])),(15,(.agg #[(.int .i64 ((↑xh:Int)+1)),(.int .i64 (↑xi:Int)),(.int .i64 (↑xk:Int))]))] (by kernel_rfl) ?_
 refine Dj.mono (hy ((3,0),(xh+1,xi,xk)) ((Ak A (H.getD xh 0) xi).map (fun(j:Nat)=>(((1:Int),(j:Int)),((xh+1,j+1,xk):At3)))++(Ak B (H.getD xh 0) xk).map (fun(j:Nat)=>(((2:Int),(j:Int)),((xh+1,xi,j+1):At3)))) w2 (List.mem_cons_self ..) hD7 hE5) ?_
 rintro _ w8 ⟨hu9,⟨rfl,hv10⟩ | ⟨rfl,hv10⟩⟩
 have:=hu9.size
 ·refine RX.q 1 [] [(1,(.pointer (some ⟨bx,ox,none⟩))),(2,(.pointer (some ⟨bd,od,none⟩))),(3,(.pointer (some ⟨b1,0,none⟩))),(17,(.bool false))] [] (by kernel_rfl) trivial ?_
  refine RX.done [(1,(.pointer (some ⟨bx,ox,none⟩))),(2,(.pointer (some ⟨bd,od,none⟩))),(3,(.pointer (some ⟨b1,0,none⟩))),(17,(.bool false))] (by kernel_rfl) (by kernel_rfl) ?_
  refine St.cond (k1:=Ai3) (k2:=Ait) false (by kernel_rfl) (fun hc=>?_) (fun hc=>?_)
  ·cases hc
  ·clear hc
   refine St.weak (L':=[(1,(.pointer (some ⟨bx,ox,none⟩))),(2,(.pointer (some ⟨bd,od,none⟩))),(3,(.pointer (some ⟨b1,0,none⟩)))]) (by kernel_rfl) ?_
   refine St.drw Aak [] [(0,true),(1,true),(2,true),(3,true),(4,true),(5,true),(6,true),(7,true),(8,true),(9,true),(10,true),(11,true),(12,true),(13,true),(14,true),(15,false)] mixed (by kernel_rfl) (by kernel_rfl) ?_
   intro w11 hd12 hds13
   have hE14:Upd (l::S) w w11:=(Upd.ext (Upd.trans hE5 hu9) hd12)
   have hb15:Cl w11 bd od [(.pointer (some ⟨d,oo,none⟩))]:=hbd w11 hE14
   have hb16:Cl w11 d oo [vt,(.slice aH H.length cH),(.int .i64 f),(.slice aA A.length cA),(.slice aB B.length cB)]:=hd w11 hE14
   have hb17:Cl w11 bx ox [(.int .i64 (↑xh:Int)),(.int .i64 (↑xi:Int)),(.int .i64 (↑xk:Int))]:=hbx w11 hE14
   have hD18:Ints .i64 0 w11 (.slice aH H.length cH) H:=hCH w11 hE14
   obtain⟨b19,o20,hl21,hl22,hi23,hc24⟩:=Ints.at (P:=Tryz.prog) (t:=22) (e:=3) hD18 (by kernel_rfl) (by kernel_rfl) xh (by omega)
   refine RX.qd 15 [(0,true,(.pointer (some ⟨d,oo,none⟩))),(3,true,(.slice aA A.length cA)),(5,true,(.int .i64 (↑xi:Int))),(6,true,(.pointer (some ⟨d,oo,none⟩))),(10,true,(.slice aH H.length cH)),(12,true,(.int .i64 (↑xh:Int))),(13,true,(.pointer (some ⟨b19,o20,none⟩))),(14,true,(.int .i64 (H.getD xh 0)))] [(1,(.pointer (some ⟨bx,ox,none⟩))),(2,(.pointer (some ⟨bd,od,none⟩))),(3,(.pointer (some ⟨b1,0,none⟩))),(21,(.slice aA A.length cA)),(23,(.int .i64 (↑xi:Int))),(32,(.int .i64 (H.getD xh 0)))] [.cell ⟨bd,od+0,none⟩ (.pointer (some ⟨d,oo,none⟩)),.cell ⟨d,oo+3,none⟩ (.slice aA A.length cA),.cell ⟨bx,ox+1,none⟩ (.int .i64 (↑xi:Int)),.cell ⟨bd,od+0,none⟩ (.pointer (some ⟨d,oo,none⟩)),.cell ⟨d,oo+1,none⟩ (.slice aH H.length cH),.cell ⟨bx,ox+0,none⟩ (.int .i64 (↑xh:Int)),.raw (Instr.indexAt 22 (.slice aH H.length cH) (.int .i64 (↑xh:Int))) (.pointer (some ⟨b19,o20,none⟩)),.cell ⟨b19,o20,none⟩ (.int .i64 (H.getD xh 0))] (by kernel_rfl) ⟨Cl.cell hb15 rfl,Cl.cell hb16 rfl,Cl.cell hb17 rfl,Cl.cell hb15 rfl,Cl.cell hb16 rfl,Cl.cell hb17 rfl,hi23 _,hc24⟩ ⟨List.not_mem_nil,List.not_mem_nil,List.not_mem_nil,List.not_mem_nil,List.not_mem_nil,List.not_mem_nil,fun w' _=>hi23 w',List.not_mem_nil⟩ ?_
   refine RX.callD 33 66 #[(.slice aA A.length cA),(.int .i64 (↑xi:Int)),(.int .i64 (H.getD xh 0))] [(1,(.pointer (some ⟨bx,ox,none⟩))),(2,(.pointer (some ⟨bd,od,none⟩))),(3,(.pointer (some ⟨b1,0,none⟩))),(21,(.slice aA A.length cA)),(23,(.int .i64 (↑xi:Int))),(32,(.int .i64 (H.getD xh 0)))] (fun _=>by kernel_rfl) (by kernel_rfl) ?_
   refine Fn.mono (A13 aA A.length cA (↑xi:Int) (H.getD xh 0) w11) ?_
   rintro _ w25 ⟨b27,b28,b29,rfl,hb30,hb31,hb32,hz33,hx26⟩
   refine⟨hx26.up,?_⟩
   have:=hx26.size
   have:=A8 hb30;have:=A8 hb31;have:=A8 hb32
   refine RX.done [(33,(.func (.func 98) #[] #[(.pointer (some ⟨b27,0,none⟩)),(.pointer (some ⟨b28,0,none⟩)),(.pointer (some ⟨b29,0,none⟩))])),(1,(.pointer (some ⟨bx,ox,none⟩))),(2,(.pointer (some ⟨bd,od,none⟩))),(3,(.pointer (some ⟨b1,0,none⟩)))] (by kernel_rfl) (by kernel_rfl) ?_
   refine St.rangeFunc (g:=.tmp 33) (ps:=#[34]) (assign:=(sub c122 [1,1,0,1,0,0])) (body:=(sub c122 [1,1,0,1,0,1])) (k:=Aak.tail) 98 #[] #[(.pointer (some ⟨b27,0,none⟩)),(.pointer (some ⟨b28,0,none⟩)),(.pointer (some ⟨b29,0,none⟩))] rfl (by kernel_rfl) (by kernel_rfl) (fun _=>by kernel_rfl) ?_
   intro tm34 w35 htm36 hx37 hsz38 hD39 hL40
   obtain⟨D41,hDe42⟩:∃D,D=w25.heap.size:=⟨_,rfl⟩
   rw[←hDe42]at hsz38 hD39 hL40 ⊢
   have hl43:w35.heap[D41+1]?=some (.loop (lrec 65 tm34 #[34] (sub c122 [1,1,0,1,0,0]) (sub c122 [1,1,0,1,0,1]) D41 .ready none)):=hL40
   clear hL40
   have:=hx37.size
   have hD44:J ((Ak A (H.getD xh 0) xi).map (fun(j:Nat)=>(((1:Int),(j:Int)),((xh+1,j+1,xk):At3)))++(Ak B (H.getD xh 0) xk).map (fun(j:Nat)=>(((2:Int),(j:Int)),((xh+1,xi,j+1):At3)))) w35:=(Bo.ext (hxJ _) (Bo.ext (hxJ _) (Bo.ext (hxJ _) hv10 hd12) hx26) hx37)
   have hb45:Blk w35 b1 [(.func (.yield l) #[] #[])] 126:=(Ext.blk hx37 (Ext.blk hx26 (Ext.blk hd12 (Upd.blk hu9 hb4 (fun hk=>by have:=hS _ hk;omega)))))
   have hE46:Upd (l::S) w w35:=(Upd.ext (Upd.ext hE14 hx26) hx37)
   have hb47:Blk w35 b27 [(.int .i64 (↑xi:Int))] 3:=(Ext.blk hx37 hb30)
   have hb48:Blk w35 b28 [(.slice aA A.length cA)] 22:=(Ext.blk hx37 hb31)
   have hb49:Blk w35 b29 [(.int .i64 (H.getD xh 0))] 3:=(Ext.blk hx37 hb32)
   refine Fn.mono (T5 (D41+1) b27 b28 b29 cA aA A xi (H.getD xh 0) (l::S) (fun r wv=>wv.heap[D41+1]?=some (.loop (lrec 65 tm34 #[34] (sub c122 [1,1,0,1,0,0]) (sub c122 [1,1,0,1,0,1]) D41 .ready none))∧J (r.map (fun(j:Nat)=>(((1:Int),(j:Int)),((xh+1,j+1,xk):At3)))++(Ak B (H.getD xh 0) xk).map (fun(j:Nat)=>(((2:Int),(j:Int)),((xh+1,xi,j+1):At3)))) wv) (fun wv=>wv.heap[D41+1]?=some (.loop (lrec 65 tm34 #[34] (sub c122 [1,1,0,1,0,0]) (sub c122 [1,1,0,1,0,1]) D41 .done (some .ret)))∧Q wv) w35 hb47 hb48 hb49 (by refine⟨by omega,?_⟩;refine⟨fun hk=>?_,fun hk=>?_,fun hk=>?_⟩<;>(have:=hS _ hk;omega)) (fun w' hu=>hCA w' (Upd.upd hE46 hu (by intro k hk;rcases List.mem_cons.1 hk with rfl | hk;exact .inl (by omega);exact .inr hk))) (by omega) ⟨hl43,hD44⟩ ?_ ?_) ?_
   ·intro r wa wb hj he
    exact⟨he.blk hj.1,Bo.ext (hxJ _) hj.2 he⟩
   ·rintro k50 r51 wa52 hk53 ⟨hl54,hj55⟩ hU56
    have hE57:Upd (l::S) w wa52:=Upd.upd hE46 hU56 (by intro k hk;rcases List.mem_cons.1 hk with rfl | hk;exact .inl (by omega);first | exact .inr hk | (simp only[List.mem_cons,List.not_mem_nil,or_false]at hk ⊢;omega))
    have:=hU56.size
    refine Dj.one Aoa [(34,(.int .i64 (↑k50:Int))),(33,(.func (.func 98) #[] #[(.pointer (some ⟨b27,0,none⟩)),(.pointer (some ⟨b28,0,none⟩)),(.pointer (some ⟨b29,0,none⟩))])),(1,(.pointer (some ⟨bx,ox,none⟩))),(2,(.pointer (some ⟨bd,od,none⟩))),(3,(.pointer (some ⟨b1,0,none⟩)))] hl54 htm36 (by kernel_rfl) (by kernel_rfl) (fun c cs=>?_)
    have hb58:Blk wa52 b1 [(.func (.yield l) #[] #[])] 126:=hU56.blk hb45 (fun hk=>by rcases List.mem_cons.1 hk with hk | hk;omega;have:=hS _ hk;omega)
    have hkk:=Am.1 hk53
    refine St.weak (L':=[(34,(.int .i64 (↑k50:Int))),(1,(.pointer (some ⟨bx,ox,none⟩))),(3,(.pointer (some ⟨b1,0,none⟩)))]) (by kernel_rfl) ?_
    refine St.reg Aob [(0,true)] (by kernel_rfl) (by kernel_rfl) ?_
    refine RX.q 1 [] [(1,(.pointer (some ⟨bx,ox,none⟩))),(3,(.pointer (some ⟨b1,0,none⟩))),(4,(.int .i64 (↑k50:Int)))] [] (by kernel_rfl) trivial ?_
    refine RX.done [(1,(.pointer (some ⟨bx,ox,none⟩))),(3,(.pointer (some ⟨b1,0,none⟩))),(4,(.int .i64 (↑k50:Int)))] (by kernel_rfl) (by kernel_rfl) ?_
    refine St.beginRound (k':=Aor) hl54 rfl (by kernel_rfl) ?_
    intro w59 hp60
    have hl61:w59.heap[D41+1]?=some (.loop (lrec 65 tm34 #[34] (sub c122 [1,1,0,1,0,0]) (sub c122 [1,1,0,1,0,1]) D41 .busy none)):=hp60.blk
    have:=hp60.size
    have hJ62:=Bo.put (hxJ _) hj55 hp60 (by omega) hl54
    refine St.reg Amy [(0,true),(1,true),(2,true),(3,true),(4,true),(5,true),(6,true),(7,true),(8,true),(9,true),(10,true),(11,false),(12,true)] (by kernel_rfl) (by kernel_rfl) ?_
    have hb63:Blk w59 b1 [(.func (.yield l) #[] #[])] 126:=(Upd.blk hp60.upd hb58 (by simp<;>omega))
    have hE64:Upd (l::S) w w59:=(Upd.upd hE57 hp60.upd (by intro k hk;simp at hk;first | (left;omega) | (right;simp<;>omega)))
    have hb65:Cl w59 bx ox [(.int .i64 (↑xh:Int)),(.int .i64 (↑xi:Int)),(.int .i64 (↑xk:Int))]:=hbx w59 hE64
    refine RX.q 11 [(0,true,(.func (.yield l) #[] #[])),(4,true,(.int .i64 (↑xh:Int))),(5,false,(.int .i64 ((↑xh:Int)+1))),(7,false,(.int .i64 ((↑k50:Int)+1))),(9,true,(.int .i64 (↑xk:Int)))] [(35,(.func (.yield l) #[] #[])),(37,(.agg #[(.int .i64 1),(.int .i64 (↑k50:Int))])),(45,(.agg #[(.int .i64 ((↑xh:Int)+1)),(.int .i64 ((↑k50:Int)+1)),(.int .i64 (↑xk:Int))]))] [.cell ⟨b1,0,none⟩ (.func (.yield l) #[] #[]),.cell ⟨bx,ox+0,none⟩ (.int .i64 (↑xh:Int)),.eq (.int .i64 (IntKind.i64.wrap ((↑xh:Int)+1))) (.int .i64 ((↑xh:Int)+1)),.eq (.int .i64 (IntKind.i64.wrap ((↑k50:Int)+1))) (.int .i64 ((↑k50:Int)+1)),.cell ⟨bx,ox+2,none⟩ (.int .i64 (↑xk:Int))] (by kernel_rfl) ⟨Blk.cell hb63 rfl,Cl.cell hb65 rfl,int64 (by omega),int64 (by omega),Cl.cell hb65 rfl⟩ ?_
    refine RX.yield 46 l #[mvP ((fun(j:Nat)=>(((1:Int),(j:Int)),((xh+1,j+1,xk):At3))) k50),key3 ((fun(j:Nat)=>(((1:Int),(j:Int)),((xh+1,j+1,xk):At3))) k50).2] [(35,(.func (.yield l) #[] #[])),(37,(.agg #[(.int .i64 1),(.int .i64 (↑k50:Int))])),(45,(.agg #[(.int .i64 ((↑xh:Int)+1)),(.int .i64 ((↑k50:Int)+1)),(.int .i64 (↑xk:Int))]))] (by kernel_rfl) ?_
    refine Dj.mono (hy ((fun(j:Nat)=>(((1:Int),(j:Int)),((xh+1,j+1,xk):At3))) k50) (r51.map (fun(j:Nat)=>(((1:Int),(j:Int)),((xh+1,j+1,xk):At3)))++(Ak B (H.getD xh 0) xk).map (fun(j:Nat)=>(((2:Int),(j:Int)),((xh+1,xi,j+1):At3)))) w59 (List.mem_cons_of_mem _ (List.mem_append_left _ (List.mem_map_of_mem hk53))) hJ62 hE64) ?_
    rintro _ w66 ⟨hu67,⟨rfl,hv68⟩ | ⟨rfl,hv68⟩⟩
    have:=hu67.size
    ·refine RX.q 1 [] [(47,(.bool false))] [] (by kernel_rfl) trivial ?_
     refine RX.done [(47,(.bool false))] (by kernel_rfl) (by kernel_rfl) ?_
     refine St.cond (k1:=Adi) (k2:=Pk) false (by kernel_rfl) (fun hc=>?_) (fun hc=>?_)
     ·cases hc
     ·clear hc
      refine St.weak (L':=[]) (by kernel_rfl) ?_
      have hb69:w66.heap[D41+1]?=some (.loop (lrec 65 tm34 #[34] (sub c122 [1,1,0,1,0,0]) (sub c122 [1,1,0,1,0,1]) D41 .busy none)):=(Upd.blk hu67 hl61 (fun hk=>by have:=hS _ hk;omega))
      refine St.roundEnd hb69 ?_
      intro w70 hp71
      have:=hp71.size
      exact⟨(Upd.upd (Upd.upd (Upd.upd (Upd.refl ((D41+1)::(l::S)) wa52) hp60.upd (by intro k hk;simp at hk;first | (left;omega) | (right;simp<;>omega))) hu67 (by intro k hk;right;simp at hk ⊢;first | exact .inr hk | (rcases hk with hk | hk<;>simp[hk]))) hp71.upd (by intro k hk;simp at hk;first | (left;omega) | (right;simp<;>omega))),.inl ⟨rfl,hp71.blk,(Bo.put (hxJ _) hv68 hp71 (by omega) hb69)⟩⟩
    ·refine RX.q 1 [] [(47,(.bool true))] [] (by kernel_rfl) trivial ?_
     refine RX.done [(47,(.bool true))] (by kernel_rfl) (by kernel_rfl) ?_
     refine St.cond (k1:=Adi) (k2:=Pk) true (by kernel_rfl) (fun hc=>?_) (fun hc=>?_)
     ·clear hc
      refine St.weak (L':=[]) (by kernel_rfl) ?_
      have hb72:w66.heap[D41+1]?=some (.loop (lrec 65 tm34 #[34] (sub c122 [1,1,0,1,0,0]) (sub c122 [1,1,0,1,0,1]) D41 .busy none)):=(Upd.blk hu67 hl61 (fun hk=>by have:=hS _ hk;omega))
      refine St.roundRet hb72 ?_
      intro w73 hp74
      have:=hp74.size
      exact⟨(Upd.upd (Upd.upd (Upd.upd (Upd.refl ((D41+1)::(l::S)) wa52) hp60.upd (by intro k hk;simp at hk;first | (left;omega) | (right;simp<;>omega))) hu67 (by intro k hk;right;simp at hk ⊢;first | exact .inr hk | (rcases hk with hk | hk<;>simp[hk]))) hp74.upd (by intro k hk;simp at hk;first | (left;omega) | (right;simp<;>omega))),.inr ⟨rfl,hp74.blk,(Bo.put hxQ hv68 hp74 (by omega) hb72)⟩⟩
     ·cases hc
   ·rintro _ w75 ⟨hU76,⟨hl77,hJ78⟩ | ⟨hl79,hQ80⟩⟩
    ·refine⟨_,hl77,by simp[lrec],fun w81 hp82=>?_⟩
     have:=hU76.size;have:=hp82.size
     have hE83:Upd (l::S) w w81:=Upd.upd (Upd.upd hE46 hU76 (by intro k hk;rcases List.mem_cons.1 hk with rfl | hk;exact .inl (by omega);first | exact .inr hk | (simp only[List.mem_cons,List.not_mem_nil,or_false]at hk ⊢;omega))) hp82.upd (by intro k hk;simp at hk;left;omega)
     have hD84:w81.heap[D41]?=some (.deferred (some [])):=hp82.upd.blk (hU76.blk hD39 (fun hk=>by rcases List.mem_cons.1 hk with hk | hk;omega;have:=hS _ hk;omega)) (by simp)
     have hJ85:J ([].map (fun(j:Nat)=>(((1:Int),(j:Int)),((xh+1,j+1,xk):At3)))++(Ak B (H.getD xh 0) xk).map (fun(j:Nat)=>(((2:Int),(j:Int)),((xh+1,xi,j+1):At3)))) w81:=Bo.put (hxJ _) hJ78 hp82 (by omega) hl77
     have hb86:Blk w81 b1 [(.func (.yield l) #[] #[])] 126:=hp82.upd.blk (hU76.blk hb45 (fun hk=>by rcases List.mem_cons.1 hk with hk | hk;omega;have:=hS _ hk;omega)) (by simp;omega)
     refine At.norm 99 (k':=Aom) (by kernel_rfl) ?_
     refine St.toAt (n:=78) (L:=[(33,(.func (.func 98) #[] #[(.pointer (some ⟨b27,0,none⟩)),(.pointer (some ⟨b28,0,none⟩)),(.pointer (some ⟨b29,0,none⟩))])),(1,(.pointer (some ⟨bx,ox,none⟩))),(2,(.pointer (some ⟨bd,od,none⟩))),(3,(.pointer (some ⟨b1,0,none⟩)))]) ?_ htm36
     refine St.weak (L':=[(1,(.pointer (some ⟨bx,ox,none⟩))),(2,(.pointer (some ⟨bd,od,none⟩))),(3,(.pointer (some ⟨b1,0,none⟩)))]) (by kernel_rfl) ?_
     refine St.drw A57 [] [(0,true),(1,true),(2,true),(3,true),(4,true),(5,true),(6,true),(7,true),(8,true),(9,true),(10,true),(11,true),(12,true),(13,true),(14,true),(15,false)] mixed (by kernel_rfl) (by kernel_rfl) ?_
     intro w87 hd88 hds89
     have hE90:Upd (l::S) w w87:=(Upd.ext hE83 hd88)
     have hb91:Cl w87 bd od [(.pointer (some ⟨d,oo,none⟩))]:=hbd w87 hE90
     have hb92:Cl w87 d oo [vt,(.slice aH H.length cH),(.int .i64 f),(.slice aA A.length cA),(.slice aB B.length cB)]:=hd w87 hE90
     have hb93:Cl w87 bx ox [(.int .i64 (↑xh:Int)),(.int .i64 (↑xi:Int)),(.int .i64 (↑xk:Int))]:=hbx w87 hE90
     have hD94:Ints .i64 0 w87 (.slice aH H.length cH) H:=hCH w87 hE90
     obtain⟨b95,o96,hl97,hl98,hi99,hc100⟩:=Ints.at (P:=Tryz.prog) (t:=22) (e:=3) hD94 (by kernel_rfl) (by kernel_rfl) xh (by omega)
     refine RX.qd 15 [(0,true,(.pointer (some ⟨d,oo,none⟩))),(3,true,(.slice aB B.length cB)),(5,true,(.int .i64 (↑xk:Int))),(6,true,(.pointer (some ⟨d,oo,none⟩))),(10,true,(.slice aH H.length cH)),(12,true,(.int .i64 (↑xh:Int))),(13,true,(.pointer (some ⟨b95,o96,none⟩))),(14,true,(.int .i64 (H.getD xh 0)))] [(1,(.pointer (some ⟨bx,ox,none⟩))),(3,(.pointer (some ⟨b1,0,none⟩))),(51,(.slice aB B.length cB)),(53,(.int .i64 (↑xk:Int))),(62,(.int .i64 (H.getD xh 0)))] [.cell ⟨bd,od+0,none⟩ (.pointer (some ⟨d,oo,none⟩)),.cell ⟨d,oo+4,none⟩ (.slice aB B.length cB),.cell ⟨bx,ox+2,none⟩ (.int .i64 (↑xk:Int)),.cell ⟨bd,od+0,none⟩ (.pointer (some ⟨d,oo,none⟩)),.cell ⟨d,oo+1,none⟩ (.slice aH H.length cH),.cell ⟨bx,ox+0,none⟩ (.int .i64 (↑xh:Int)),.raw (Instr.indexAt 22 (.slice aH H.length cH) (.int .i64 (↑xh:Int))) (.pointer (some ⟨b95,o96,none⟩)),.cell ⟨b95,o96,none⟩ (.int .i64 (H.getD xh 0))] (by kernel_rfl) ⟨Cl.cell hb91 rfl,Cl.cell hb92 rfl,Cl.cell hb93 rfl,Cl.cell hb91 rfl,Cl.cell hb92 rfl,Cl.cell hb93 rfl,hi99 _,hc100⟩ ⟨List.not_mem_nil,List.not_mem_nil,List.not_mem_nil,List.not_mem_nil,List.not_mem_nil,List.not_mem_nil,fun w' _=>hi99 w',List.not_mem_nil⟩ ?_
     refine RX.callD 63 66 #[(.slice aB B.length cB),(.int .i64 (↑xk:Int)),(.int .i64 (H.getD xh 0))] [(1,(.pointer (some ⟨bx,ox,none⟩))),(3,(.pointer (some ⟨b1,0,none⟩))),(51,(.slice aB B.length cB)),(53,(.int .i64 (↑xk:Int))),(62,(.int .i64 (H.getD xh 0)))] (fun _=>by kernel_rfl) (by kernel_rfl) ?_
     refine Fn.mono (A13 aB B.length cB (↑xk:Int) (H.getD xh 0) w87) ?_
     rintro _ w101 ⟨b103,b104,b105,rfl,hb106,hb107,hb108,hz109,hx102⟩
     refine⟨hx102.up,?_⟩
     have:=hx102.size
     have:=A8 hb106;have:=A8 hb107;have:=A8 hb108
     refine RX.done [(63,(.func (.func 98) #[] #[(.pointer (some ⟨b103,0,none⟩)),(.pointer (some ⟨b104,0,none⟩)),(.pointer (some ⟨b105,0,none⟩))])),(1,(.pointer (some ⟨bx,ox,none⟩))),(3,(.pointer (some ⟨b1,0,none⟩)))] (by kernel_rfl) (by kernel_rfl) ?_
     refine St.rangeFunc (g:=.tmp 63) (ps:=#[64]) (assign:=(sub c122 [1,1,1,1,0,0])) (body:=(sub c122 [1,1,1,1,0,1])) (k:=A57.tail) 98 #[] #[(.pointer (some ⟨b103,0,none⟩)),(.pointer (some ⟨b104,0,none⟩)),(.pointer (some ⟨b105,0,none⟩))] rfl (by kernel_rfl) (by kernel_rfl) (fun _=>by kernel_rfl) ?_
     intro tm110 w111 htm112 hx113 hsz114 hD115 hL116
     obtain⟨D117,hDe118⟩:∃D,D=w101.heap.size:=⟨_,rfl⟩
     rw[←hDe118]at hsz114 hD115 hL116 ⊢
     have hl119:w111.heap[D117+1]?=some (.loop (lrec 65 tm110 #[64] (sub c122 [1,1,1,1,0,0]) (sub c122 [1,1,1,1,0,1]) D117 .ready none)):=hL116
     clear hL116
     have:=hx113.size
     have hD120:J ((Ak B (H.getD xh 0) xk).map (fun(j:Nat)=>(((2:Int),(j:Int)),((xh+1,xi,j+1):At3)))) w111:=(Bo.ext (hxJ _) (Bo.ext (hxJ _) (Bo.ext (hxJ _) hJ85 hd88) hx102) hx113)
     have hb121:Blk w111 b1 [(.func (.yield l) #[] #[])] 126:=(Ext.blk hx113 (Ext.blk hx102 (Ext.blk hd88 hb86)))
     have hb122:w111.heap[D41]?=some (.deferred (some [])):=(Ext.blk hx113 (Ext.blk hx102 (Ext.blk hd88 hD84)))
     have hE123:Upd (l::S) w w111:=(Upd.ext (Upd.ext hE90 hx102) hx113)
     have hb124:Blk w111 b103 [(.int .i64 (↑xk:Int))] 3:=(Ext.blk hx113 hb106)
     have hb125:Blk w111 b104 [(.slice aB B.length cB)] 22:=(Ext.blk hx113 hb107)
     have hb126:Blk w111 b105 [(.int .i64 (H.getD xh 0))] 3:=(Ext.blk hx113 hb108)
     refine Fn.mono (T5 (D117+1) b103 b104 b105 cB aB B xk (H.getD xh 0) (l::S) (fun r wv=>wv.heap[D117+1]?=some (.loop (lrec 65 tm110 #[64] (sub c122 [1,1,1,1,0,0]) (sub c122 [1,1,1,1,0,1]) D117 .ready none))∧J (r.map (fun(j:Nat)=>(((2:Int),(j:Int)),((xh+1,xi,j+1):At3)))) wv) (fun wv=>wv.heap[D117+1]?=some (.loop (lrec 65 tm110 #[64] (sub c122 [1,1,1,1,0,0]) (sub c122 [1,1,1,1,0,1]) D117 .done (some .ret)))∧Q wv) w111 hb124 hb125 hb126 (by refine⟨by omega,?_⟩;refine⟨fun hk=>?_,fun hk=>?_,fun hk=>?_⟩<;>(have:=hS _ hk;omega)) (fun w' hu=>hCB w' (Upd.upd hE123 hu (by intro k hk;rcases List.mem_cons.1 hk with rfl | hk;exact .inl (by omega);exact .inr hk))) (by omega) ⟨hl119,hD120⟩ ?_ ?_) ?_
     ·intro r wa wb hj he
      exact⟨he.blk hj.1,Bo.ext (hxJ _) hj.2 he⟩
     ·rintro k127 r128 wa129 hk130 ⟨hl131,hj132⟩ hU133
      have hE134:Upd (l::S) w wa129:=Upd.upd hE123 hU133 (by intro k hk;rcases List.mem_cons.1 hk with rfl | hk;exact .inl (by omega);first | exact .inr hk | (simp only[List.mem_cons,List.not_mem_nil,or_false]at hk ⊢;omega))
      have:=hU133.size
      refine Dj.one An2 [(64,(.int .i64 (↑k127:Int))),(63,(.func (.func 98) #[] #[(.pointer (some ⟨b103,0,none⟩)),(.pointer (some ⟨b104,0,none⟩)),(.pointer (some ⟨b105,0,none⟩))])),(1,(.pointer (some ⟨bx,ox,none⟩))),(3,(.pointer (some ⟨b1,0,none⟩)))] hl131 htm112 (by kernel_rfl) (by kernel_rfl) (fun c cs=>?_)
      have hb135:Blk wa129 b1 [(.func (.yield l) #[] #[])] 126:=hU133.blk hb121 (fun hk=>by rcases List.mem_cons.1 hk with hk | hk;omega;have:=hS _ hk;omega)
      have hb136:wa129.heap[D41]?=some (.deferred (some [])):=hU133.blk hb122 (fun hk=>by rcases List.mem_cons.1 hk with hk | hk;omega;have:=hS _ hk;omega)
      have hkk:=Am.1 hk130
      refine St.weak (L':=[(64,(.int .i64 (↑k127:Int))),(1,(.pointer (some ⟨bx,ox,none⟩))),(3,(.pointer (some ⟨b1,0,none⟩)))]) (by kernel_rfl) ?_
      refine St.reg Alk [(0,true)] (by kernel_rfl) (by kernel_rfl) ?_
      refine RX.q 1 [] [(1,(.pointer (some ⟨bx,ox,none⟩))),(3,(.pointer (some ⟨b1,0,none⟩))),(5,(.int .i64 (↑k127:Int)))] [] (by kernel_rfl) trivial ?_
      refine RX.done [(1,(.pointer (some ⟨bx,ox,none⟩))),(3,(.pointer (some ⟨b1,0,none⟩))),(5,(.int .i64 (↑k127:Int)))] (by kernel_rfl) (by kernel_rfl) ?_
      refine St.beginRound (k':=Ams) hl131 rfl (by kernel_rfl) ?_
      intro w137 hp138
      have hl139:w137.heap[D117+1]?=some (.loop (lrec 65 tm110 #[64] (sub c122 [1,1,1,1,0,0]) (sub c122 [1,1,1,1,0,1]) D117 .busy none)):=hp138.blk
      have:=hp138.size
      have hJ140:=Bo.put (hxJ _) hj132 hp138 (by omega) hl131
      refine St.reg Aml [(0,true),(1,true),(2,true),(3,true),(4,true),(5,true),(6,true),(7,true),(8,true),(9,true),(10,true),(11,false),(12,true)] (by kernel_rfl) (by kernel_rfl) ?_
      have hb141:Blk w137 b1 [(.func (.yield l) #[] #[])] 126:=(Upd.blk hp138.upd hb135 (by simp<;>omega))
      have hE142:Upd (l::S) w w137:=(Upd.upd hE134 hp138.upd (by intro k hk;simp at hk;first | (left;omega) | (right;simp<;>omega)))
      have hb143:Cl w137 bx ox [(.int .i64 (↑xh:Int)),(.int .i64 (↑xi:Int)),(.int .i64 (↑xk:Int))]:=hbx w137 hE142
      refine RX.q 11 [(0,true,(.func (.yield l) #[] #[])),(4,true,(.int .i64 (↑xh:Int))),(5,false,(.int .i64 ((↑xh:Int)+1))),(7,true,(.int .i64 (↑xi:Int))),(9,false,(.int .i64 ((↑k127:Int)+1)))] [(65,(.func (.yield l) #[] #[])),(67,(.agg #[(.int .i64 2),(.int .i64 (↑k127:Int))])),(75,(.agg #[(.int .i64 ((↑xh:Int)+1)),(.int .i64 (↑xi:Int)),(.int .i64 ((↑k127:Int)+1))]))] [.cell ⟨b1,0,none⟩ (.func (.yield l) #[] #[]),.cell ⟨bx,ox+0,none⟩ (.int .i64 (↑xh:Int)),.eq (.int .i64 (IntKind.i64.wrap ((↑xh:Int)+1))) (.int .i64 ((↑xh:Int)+1)),.cell ⟨bx,ox+1,none⟩ (.int .i64 (↑xi:Int)),.eq (.int .i64 (IntKind.i64.wrap ((↑k127:Int)+1))) (.int .i64 ((↑k127:Int)+1))] (by kernel_rfl) ⟨Blk.cell hb141 rfl,Cl.cell hb143 rfl,int64 (by omega),Cl.cell hb143 rfl,int64 (by omega)⟩ ?_
      refine RX.yield 76 l #[mvP ((fun(j:Nat)=>(((2:Int),(j:Int)),((xh+1,xi,j+1):At3))) k127),key3 ((fun(j:Nat)=>(((2:Int),(j:Int)),((xh+1,xi,j+1):At3))) k127).2] [(65,(.func (.yield l) #[] #[])),(67,(.agg #[(.int .i64 2),(.int .i64 (↑k127:Int))])),(75,(.agg #[(.int .i64 ((↑xh:Int)+1)),(.int .i64 (↑xi:Int)),(.int .i64 ((↑k127:Int)+1))]))] (by kernel_rfl) ?_
      refine Dj.mono (hy ((fun(j:Nat)=>(((2:Int),(j:Int)),((xh+1,xi,j+1):At3))) k127) (r128.map (fun(j:Nat)=>(((2:Int),(j:Int)),((xh+1,xi,j+1):At3)))) w137 (List.mem_cons_of_mem _ (List.mem_append_right _ (List.mem_map_of_mem hk130))) hJ140 hE142) ?_
      rintro _ w144 ⟨hu145,⟨rfl,hv146⟩ | ⟨rfl,hv146⟩⟩
      have:=hu145.size
      ·refine RX.q 1 [] [(77,(.bool false))] [] (by kernel_rfl) trivial ?_
       refine RX.done [(77,(.bool false))] (by kernel_rfl) (by kernel_rfl) ?_
       refine St.cond (k1:=Ado) (k2:=Pk) false (by kernel_rfl) (fun hc=>?_) (fun hc=>?_)
       ·cases hc
       ·clear hc
        refine St.weak (L':=[]) (by kernel_rfl) ?_
        have hb147:w144.heap[D117+1]?=some (.loop (lrec 65 tm110 #[64] (sub c122 [1,1,1,1,0,0]) (sub c122 [1,1,1,1,0,1]) D117 .busy none)):=(Upd.blk hu145 hl139 (fun hk=>by have:=hS _ hk;omega))
        refine St.roundEnd hb147 ?_
        intro w148 hp149
        have:=hp149.size
        exact⟨(Upd.upd (Upd.upd (Upd.upd (Upd.refl ((D117+1)::(l::S)) wa129) hp138.upd (by intro k hk;simp at hk;first | (left;omega) | (right;simp<;>omega))) hu145 (by intro k hk;right;simp at hk ⊢;first | exact .inr hk | (rcases hk with hk | hk<;>simp[hk]))) hp149.upd (by intro k hk;simp at hk;first | (left;omega) | (right;simp<;>omega))),.inl ⟨rfl,hp149.blk,(Bo.put (hxJ _) hv146 hp149 (by omega) hb147)⟩⟩
      ·refine RX.q 1 [] [(77,(.bool true))] [] (by kernel_rfl) trivial ?_
       refine RX.done [(77,(.bool true))] (by kernel_rfl) (by kernel_rfl) ?_
       refine St.cond (k1:=Ado) (k2:=Pk) true (by kernel_rfl) (fun hc=>?_) (fun hc=>?_)
       ·clear hc
        refine St.weak (L':=[]) (by kernel_rfl) ?_
        have hb150:w144.heap[D117+1]?=some (.loop (lrec 65 tm110 #[64] (sub c122 [1,1,1,1,0,0]) (sub c122 [1,1,1,1,0,1]) D117 .busy none)):=(Upd.blk hu145 hl139 (fun hk=>by have:=hS _ hk;omega))
        refine St.roundRet hb150 ?_
        intro w151 hp152
        have:=hp152.size
        exact⟨(Upd.upd (Upd.upd (Upd.upd (Upd.refl ((D117+1)::(l::S)) wa129) hp138.upd (by intro k hk;simp at hk;first | (left;omega) | (right;simp<;>omega))) hu145 (by intro k hk;right;simp at hk ⊢;first | exact .inr hk | (rcases hk with hk | hk<;>simp[hk]))) hp152.upd (by intro k hk;simp at hk;first | (left;omega) | (right;simp<;>omega))),.inr ⟨rfl,hp152.blk,(Bo.put hxQ hv146 hp152 (by omega) hb150)⟩⟩
       ·cases hc
     ·rintro _ w153 ⟨hU154,⟨hl155,hJ156⟩ | ⟨hl157,hQ158⟩⟩
      ·refine⟨_,hl155,by simp[lrec],fun w159 hp160=>?_⟩
       have:=hU154.size;have:=hp160.size
       have hE161:Upd (l::S) w w159:=Upd.upd (Upd.upd hE123 hU154 (by intro k hk;rcases List.mem_cons.1 hk with rfl | hk;exact .inl (by omega);first | exact .inr hk | (simp only[List.mem_cons,List.not_mem_nil,or_false]at hk ⊢;omega))) hp160.upd (by intro k hk;simp at hk;left;omega)
       have hD162:w159.heap[D117]?=some (.deferred (some [])):=hp160.upd.blk (hU154.blk hD115 (fun hk=>by rcases List.mem_cons.1 hk with hk | hk;omega;have:=hS _ hk;omega)) (by simp)
       have hJ163:J ([].map (fun(j:Nat)=>(((2:Int),(j:Int)),((xh+1,xi,j+1):At3)))) w159:=Bo.put (hxJ _) hJ156 hp160 (by omega) hl155
       have hb164:Blk w159 b1 [(.func (.yield l) #[] #[])] 126:=hp160.upd.blk (hU154.blk hb121 (fun hk=>by rcases List.mem_cons.1 hk with hk | hk;omega;have:=hS _ hk;omega)) (by simp;omega)
       have hb165:w159.heap[D41]?=some (.deferred (some [])):=hp160.upd.blk (hU154.blk hb122 (fun hk=>by rcases List.mem_cons.1 hk with hk | hk;omega;have:=hS _ hk;omega)) (by simp;omega)
       refine At.norm 99 (k':=Pk) (by kernel_rfl) ?_
       refine St.toAt (n:=78) (L:=[(63,(.func (.func 98) #[] #[(.pointer (some ⟨b103,0,none⟩)),(.pointer (some ⟨b104,0,none⟩)),(.pointer (some ⟨b105,0,none⟩))])),(1,(.pointer (some ⟨bx,ox,none⟩))),(3,(.pointer (some ⟨b1,0,none⟩)))]) ?_ htm112
       refine St.weak (L':=[]) (by kernel_rfl) ?_
       refine St.retMarks [D117,D41] [] [] (by kernel_rfl) Tryz.func65 (by kernel_rfl) (by simp<;>omega) (by simp[hD162,hb165]) ?_
       intro w166 hu167 hs168
       refine⟨.nil,?_⟩
       exact⟨Upd.upd hE161 hu167 (by intro k hk;simp at hk;left;omega),.inl (hxJ _ _ _ _ hJ163 hu167 (Cj.cons (Cj.cons (Cj.nil _ _) (by omega) (fun _ _ _ e=>by rw[hb165]at e;cases e)) (by omega) (fun _ _ _ e=>by rw[hD162]at e;cases e)))⟩
      ·refine⟨_,hl157,by simp[lrec],fun w169 hp170=>?_⟩
       have:=hU154.size;have:=hp170.size
       have hE171:Upd (l::S) w w169:=Upd.upd (Upd.upd hE123 hU154 (by intro k hk;rcases List.mem_cons.1 hk with rfl | hk;exact .inl (by omega);first | exact .inr hk | (simp only[List.mem_cons,List.not_mem_nil,or_false]at hk ⊢;omega))) hp170.upd (by intro k hk;simp at hk;left;omega)
       have hD172:w169.heap[D117]?=some (.deferred (some [])):=hp170.upd.blk (hU154.blk hD115 (fun hk=>by rcases List.mem_cons.1 hk with hk | hk;omega;have:=hS _ hk;omega)) (by simp)
       have hJ173:Q w169:=Bo.put hxQ hQ158 hp170 (by omega) hl157
       have hb174:Blk w169 b1 [(.func (.yield l) #[] #[])] 126:=hp170.upd.blk (hU154.blk hb121 (fun hk=>by rcases List.mem_cons.1 hk with hk | hk;omega;have:=hS _ hk;omega)) (by simp;omega)
       have hb175:w169.heap[D41]?=some (.deferred (some [])):=hp170.upd.blk (hU154.blk hb122 (fun hk=>by rcases List.mem_cons.1 hk with hk | hk;omega;have:=hS _ hk;omega)) (by simp;omega)
       refine St.toAt (k:=.code .ret::A57.tail) (n:=78) (L:=[(63,(.func (.func 98) #[] #[(.pointer (some ⟨b103,0,none⟩)),(.pointer (some ⟨b104,0,none⟩)),(.pointer (some ⟨b105,0,none⟩))])),(1,(.pointer (some ⟨bx,ox,none⟩))),(3,(.pointer (some ⟨b1,0,none⟩)))]) ?_ htm112
       refine St.retMarks [D117,D41] [] [] (by kernel_rfl) Tryz.func65 (by kernel_rfl) (by simp<;>omega) (by simp[hD172,hb175]) ?_
       intro w176 hu177 hs178
       refine⟨.nil,?_⟩
       exact⟨Upd.upd hE171 hu177 (by intro k hk;simp at hk;left;omega),.inr (hxQ _ _ _ hJ173 hu177 (Cj.cons (Cj.cons (Cj.nil _ _) (by omega) (fun _ _ _ e=>by rw[hb175]at e;cases e)) (by omega) (fun _ _ _ e=>by rw[hD172]at e;cases e)))⟩
    ·refine⟨_,hl79,by simp[lrec],fun w179 hp180=>?_⟩
     have:=hU76.size;have:=hp180.size
     have hE181:Upd (l::S) w w179:=Upd.upd (Upd.upd hE46 hU76 (by intro k hk;rcases List.mem_cons.1 hk with rfl | hk;exact .inl (by omega);first | exact .inr hk | (simp only[List.mem_cons,List.not_mem_nil,or_false]at hk ⊢;omega))) hp180.upd (by intro k hk;simp at hk;left;omega)
     have hD182:w179.heap[D41]?=some (.deferred (some [])):=hp180.upd.blk (hU76.blk hD39 (fun hk=>by rcases List.mem_cons.1 hk with hk | hk;omega;have:=hS _ hk;omega)) (by simp)
     have hJ183:Q w179:=Bo.put hxQ hQ80 hp180 (by omega) hl79
     have hb184:Blk w179 b1 [(.func (.yield l) #[] #[])] 126:=hp180.upd.blk (hU76.blk hb45 (fun hk=>by rcases List.mem_cons.1 hk with hk | hk;omega;have:=hS _ hk;omega)) (by simp;omega)
     refine St.toAt (k:=.code .ret::Aak.tail) (n:=78) (L:=[(33,(.func (.func 98) #[] #[(.pointer (some ⟨b27,0,none⟩)),(.pointer (some ⟨b28,0,none⟩)),(.pointer (some ⟨b29,0,none⟩))])),(1,(.pointer (some ⟨bx,ox,none⟩))),(2,(.pointer (some ⟨bd,od,none⟩))),(3,(.pointer (some ⟨b1,0,none⟩)))]) ?_ htm36
     refine St.retMarks [D41] [] [] (by kernel_rfl) Tryz.func65 (by kernel_rfl) (by simp<;>omega) (by simp[hD182]) ?_
     intro w185 hu186 hs187
     refine⟨.nil,?_⟩
     exact⟨Upd.upd hE181 hu186 (by intro k hk;simp at hk;left;omega),.inr (hxQ _ _ _ hJ183 hu186 (Cj.cons (Cj.nil _ _) (by omega) (fun _ _ _ e=>by rw[hD182]at e;cases e)))⟩
 ·refine RX.q 1 [] [(1,(.pointer (some ⟨bx,ox,none⟩))),(2,(.pointer (some ⟨bd,od,none⟩))),(3,(.pointer (some ⟨b1,0,none⟩))),(17,(.bool true))] [] (by kernel_rfl) trivial ?_
  refine RX.done [(1,(.pointer (some ⟨bx,ox,none⟩))),(2,(.pointer (some ⟨bd,od,none⟩))),(3,(.pointer (some ⟨b1,0,none⟩))),(17,(.bool true))] (by kernel_rfl) (by kernel_rfl) ?_
  refine St.cond (k1:=Ai3) (k2:=Ait) true (by kernel_rfl) (fun hc=>?_) (fun hc=>?_)
  ·clear hc
   refine St.weak (L':=[]) (by kernel_rfl) ?_
   refine St.ret [] [] (by kernel_rfl) Tryz.func65 (by kernel_rfl) .nil ?_
   have hE188:Upd (l::S) w w8:=(Upd.trans hE5 hu9)
   exact⟨hE188,.inr hv10⟩
  ·cases hc

end Go.Proofs.YtfcnhnbnjdccfaaGreat

namespace Go.Proofs.YtfcnhnbnjdccfaaGreat
set_option linter.all false
open Go

theorem Cl.of_seg{w:World}{b o:Nat}{ws us:List Value}{ty:TypeId}{z:Nat×Nat}(hb:w.heap[b]?=some (.cells ws.toArray ty z))(h:Seg ws o us):Cl w b o us:=fun i v hi=>by
 have:=Seg.row hb h i v hi
 rwa [Aw]at this
theorem A34{M:Nat→Option Obj}{l:List Int}{v:Value}{w:World}(h:RepS M 1 (RepC M (.int .i64)) l v)(hM:∀b o,M b=some o→w.heap[b]?=some o):Ints .i64 0 w v l:=by
 obtain⟨hl,a,cap,rfl,hc,h⟩:=h
 refine⟨a,cap,rfl,hc,by simp,?_⟩
 rcases h with rfl | ⟨b,o,vs,ty,rfl,hm,hx⟩
 ·exact .inl rfl
 ·have hb:=hM _ _ hm
  refine .inr ⟨b,o,rfl,Nat.zero_le _,A8 hb,fun i x hi=>?_⟩
  rw[List.getElem?_map]at hi
  obtain⟨y,hy,rfl⟩:=Option.map_eq_some_iff.1 hi
  obtain⟨us,hs,rfl,_⟩:=hx i y hy
  rw[Nat.mul_one]at hs
  have:=Cl.of_seg hb hs 0 (.int .i64 y) rfl
  rw[Aw]
  simpa using this
abbrev AtT:Ty:=.pair (.int .i64) (.pair (.int .i64) (.int .i64))
abbrev Mq:Ty:=.pair (.sl (.sl (.int .i64))) (.pair (.sl (.int .i64)) (.pair (.int .i64) (.pair (.sl (.int .i64)) (.sl (.int .i64)))))
abbrev Move:=(Int×Int×Unit)×(Int×Int×Int×Unit)×Unit
def movP(m:Mv):Move:=((m.1.1,m.1.2,()),((m.2.1:Int),(m.2.2.1:Int),(m.2.2.2:Int),()),())
def D3(x:Int×Int×Int)(d:List (List Int)×List Int×Int×List Int×List Int):Option (List Move):=
 if(0≤x.1∧x.1<d.2.1.length)∧(0≤x.2.1∧x.2.1≤d.2.2.2.1.length)∧(0≤x.2.2∧x.2.2≤d.2.2.2.2.length)∧d.2.1.length≤1000∧d.2.2.2.1.length≤1000∧d.2.2.2.2.length≤1000 then
  some ((Ac d.2.2.2.1 d.2.2.2.2 (d.2.1.getD x.1.toNat 0) (x.1.toNat,x.2.1.toNat,x.2.2.toNat)).map movP)else none
abbrev Dq:Ahn:={ f:=65,cap:=[.fe AtT,.fe (.ptr Mq)],elem:=[.agg [.i .i64,.i .i64],.agg [.i .i64,.i .i64,.i .i64]],run:=fun p=>D3 p.1 p.2.1 }
theorem I6{n:Int}(h:-1000000≤n∧n≤1000000):inR .i64 n:=Ep.2 (by omega)
theorem H7:Ad7 Tryz.prog Dq:=by
 refine⟨by rfl,fun _=>by kernel_rfl,fun p es hes g vs hvs l S J Q w hM hS hJ hxJ hxQ hy=>?_⟩
 obtain⟨x,d,u⟩:=p
 simp only[D3]at hes
 split at hes
 rotate_left
 ·cases hes
 rename_i hc
 simp only[Option.some.injEq]at hes
 subst hes
 obtain⟨⟨hh0,hh1⟩,⟨ha0,ha1⟩,⟨hb0,hb1⟩,hH,hA,hB⟩:=hc
 obtain⟨h,a,b⟩:=x
 obtain⟨T,H,f,A,B⟩:=d
 dsimp only at *
 obtain⟨xh,rfl⟩:∃n:Nat,h=n:=⟨h.toNat,(Int.toNat_of_nonneg hh0).symm⟩
 obtain⟨xi,rfl⟩:∃n:Nat,a=n:=⟨a.toNat,(Int.toNat_of_nonneg ha0).symm⟩
 obtain⟨xk,rfl⟩:∃n:Nat,b=n:=⟨b.toNat,(Int.toNat_of_nonneg hb0).symm⟩
 simp only[Int.toNat_natCast]at hJ ⊢
 simp only[encs,enc,RepVs,RepV]at hvs
 obtain⟨v1,r1,rfl,⟨bx,ox,wx,tx,ux,rfl,hbx,hsx,hcx⟩,v2,r2,rfl,⟨bd,od,wd,td,ud,rfl,hbd,hsd,hcd⟩,rfl⟩:=hvs
 obtain⟨u1,u2,rfl,⟨rfl,_⟩,u3,u4,rfl,⟨rfl,_⟩,⟨rfl,_⟩⟩:=hcx
 obtain⟨bo,oo,wo,to,uo,rfl,hbo,hso,hco⟩:=hcd
 obtain⟨t1,t2,rfl,⟨vt,rfl,hT⟩,t3,t4,rfl,⟨vH,rfl,hrH⟩,t5,t6,rfl,⟨rfl,_⟩,t7,t8,rfl,⟨vA,rfl,hrA⟩,⟨vB,rfl,hrB⟩⟩:=hco
 obtain⟨_,aH,cH,rfl,_⟩:=id hrH
 obtain⟨_,aA,cA,rfl,_⟩:=id hrA
 obtain⟨_,aB,cB,rfl,_⟩:=id hrB
 have hmem:∀w',Upd (l::S) w w'→∀b o,g.M b=some o→w'.heap[b]?=some o:=fun w' hu b o hb=>hu.blk (hM b o hb).2 (hM b o hb).1
 have hfn:=Aje l bx bd bo ox od oo xh xi xk aH aA aB cH cA cB vt f H A B S (fun r=>J (r.map movP)) Q w (fun w' hu=>Cl.of_seg (hmem w' hu _ _ hbx) hsx) (fun w' hu=>Cl.of_seg (hmem w' hu _ _ hbd) hsd) (fun w' hu=>Cl.of_seg (hmem w' hu _ _ hbo) hso) hS
  (fun w' hu=>A34 hrH (hmem w' hu)) (fun w' hu=>A34 hrA (hmem w' hu)) (fun w' hu=>A34 hrB (hmem w' hu)) (by omega) hJ (fun r=>hxJ _) hxQ (fun m r w1 hm hj hu=>hy (movP m) (r.map movP) w1 [mvP m,key3 m.2] hj hu ?_)
 ·exact hfn
 ·have hb:(m.1.1=3∨m.1.1=1∨m.1.1=2)∧(0≤m.1.2∧m.1.2≤1000)∧m.2.1≤1001∧m.2.2.1≤1001∧m.2.2.2≤1001:=by
   simp only[Ac,List.mem_cons,List.mem_append,List.mem_map]at hm
   rcases hm with rfl | ⟨j,hj',rfl⟩ | ⟨j,hj',rfl⟩
   ·refine⟨.inl rfl,?_,?_⟩<;>dsimp only<;>omega
   ·have:=Am.1 hj'
    refine⟨.inr (.inl rfl),?_,?_⟩<;>dsimp only<;>omega
   ·have:=Am.1 hj'
    refine⟨.inr (.inr rfl),?_,?_⟩<;>dsimp only<;>omega
  obtain⟨⟨s,k⟩,h',a',b'⟩:=m
  dsimp only at hb
  refine⟨_,_,rfl,⟨_,rfl,[_],[_],rfl,⟨_,rfl,rfl,I6 (by dsimp only[movP];omega)⟩,[_],[],rfl,⟨_,rfl,rfl,I6 (by dsimp only[movP];omega)⟩,rfl⟩,_,_,rfl,⟨_,rfl,[_],[_,_],rfl,⟨_,rfl,rfl,I6 (by dsimp only[movP];omega)⟩,[_],[_],rfl,⟨_,rfl,rfl,I6 (by dsimp only[movP];omega)⟩,[_],[],rfl,⟨_,rfl,rfl,I6 (by dsimp only[movP];omega)⟩,rfl⟩,rfl⟩
end Go.Proofs.YtfcnhnbnjdccfaaGreat

namespace Go.Proofs.YtfcnhnbnjdccfaaGreat
set_option linter.all false
open Go
abbrev Oks:=List { s:Spec // A2 Tryz.prog s }
abbrev LpQ(B:Body)(top:Bool):={ x:Hs // Gg Tryz.prog B.c B.n B.m0 top x }
abbrev JnQ{Z:Type}(B:Body)(top:Bool)(rt:Option (altD B.outs→Option Z))(base:List (Leaf Z)):={ l:Leaf Z // ∀z E Xc,EOK B.m0 E→CxOK top Xc→Bf Tryz.prog B E Xc z rt→AllP (Be Tryz.prog B.c B.n B.m0 E Xc z) base→Be Tryz.prog B.c B.n B.m0 E Xc z l }
theorem allP_map.{u}{α:Type u}{p:α→Prop}:∀l:List { x:α // p x },AllP p (l.map (·.1))
 | []=>trivial
 | x::l=>⟨x.2,allP_map l⟩
theorem allP_app.{u}{α:Type u}{p:α→Prop}:∀ {l m:List α},AllP p l→AllP p m→AllP p (l++m)
 | [],_,_,h=>h
 | _::_,_,h,h2=>⟨h.1,allP_app h.2 h2⟩
section
variable {Z:Type} {B:Body} {top:Bool}
theorem allJ{rt:Option (altD B.outs→Option Z)}{base:List (Leaf Z)}{z:Z}{E:EE}{Xc:Ctx}(hE:EOK B.m0 E)(hX:CxOK top Xc)(hr:Bf Tryz.prog B E Xc z rt)(hb:AllP (Be Tryz.prog B.c B.n B.m0 E Xc z) base):∀js:List (JnQ B top rt base),AllP (Be Tryz.prog B.c B.n B.m0 E Xc z) (js.map (·.1))
 | []=>trivial
 | j::js=>⟨j.2 z E Xc hE hX hr hb,allJ hE hX hr hb js⟩
def mkJ{rt:Option (altD B.outs→Option Z)}{base:List (Leaf Z)}(sp:Oks)(lps:List (LpQ B top))(js:List (JnQ B top rt base))(l:Leaf Z)
    (h:∀p,ev Tryz.prog (sp.map (·.1)) B (lps.map (·.1)) (base++js.map (·.1)) rt 400 true l.at_ (stL l.sta p) (stH l.sta p)=l.fn p):JnQ B top rt base:=
 ⟨l,fun _ _ _ hE hX hr hb=>Ny (allP_map sp) mixed (allP_map lps) hE hX (allP_app hb (allJ hE hX hr hb js)) hr h⟩
abbrev exs(ex:List (Leaf Z)):List (List PI×Sta):=ex.map fun l=>(l.at_,l.sta)
def mkL(sp:Oks)(lps:List (LpQ B top))(at_:List PI)(sta:Sta)(F:Nat→sta.sh.den→Option Z)(ex:List (Leaf Z))(js:(m:Nat)→List (JnQ B top none (⟨at_,sta,F m⟩::ex)))(g:{Y:Type}→(exD (exs ex)→Y)→Z→Y)(N:Nat)
    (hev:∀m p,ev Tryz.prog (sp.map (·.1)) B (lps.map (·.1)) ((⟨at_,sta,F m⟩::ex)++(js m).map (·.1)) none 400 true at_ (stL sta p) (stH sta p)=F (m+1) p)
    (h0:∀p,F 0 p=none:=by intro _;rfl)
    (hg:∀(Y:Type) (k:exD (exs ex)→Y) (z:Z),g k z=k (g id z):=by intro _ _ _;rfl)
    (hex:∀z,AllP (fun l:Leaf Z=>∀p,l.fn p=some z→exK (exs ex) (g id z)=(l.at_,stL l.sta p,stH l.sta p)) ex:=by
   intro _;(repeat' apply And.intro)<;>first | exact trivial | (intro p h;obtain rfl:=Option.some.inj h;rfl)):LpQ B top:=
 ⟨{ at_:=at_,sta:=sta,exits:=exs ex,run:=fun p k=>(F N p).bind (g k) },
 Aca (N:=N) F (g id) (fun Y p k=>Uv _ _ _ fun e=>hg _ k e) h0 fun m z E Xc hE hX hrec hx=>
  have hb:AllP (Be Tryz.prog B.c B.n B.m0 E Xc z) (⟨at_,sta,F m⟩::ex):=⟨hrec,by
   have h2:=hex z
   have key:∀l:List (Leaf Z),AllP (fun l:Leaf Z=>∀p,l.fn p=some z→exK (exs ex) (g id z)=(l.at_,stL l.sta p,stH l.sta p)) l→AllP (Be Tryz.prog B.c B.n B.m0 E Xc z) l:=by
    intro l
    induction l with
    | nil=>intro _;trivial
    | cons a l ih=>
     intro h
     refine⟨fun p hp=>?_,ih h.2⟩
     have e:=h.1 p hp
     intro a w hS
     have:=hx a w
     rw[e]at this
     exact this hS
   exact key _ h2⟩
  Ny (allP_map sp) mixed (allP_map lps) hE hX (allP_app hb (allJ hE hX Bf.no hb (js m))) Bf.no (hev m)⟩
end
def mkS{R:Type}(f:FuncId)(ins:StSh)(outs:List StSh)(F:ins.den→Option R)(g:{Y:Type}→(altD outs→Y)→R→Y):Spec:={ f:=f,ins:=ins,outs:=outs,run:=fun p k=>(F p).bind (g k) }
def mkB(fn:Func)(outs:List StSh)(m0:Nat):Body:={ c:=fn.body.getD .skip,n:=fn.ntmps,res:=fn.results.toList,outs:=outs,m0:=m0 }
theorem mkF{R:Type}{f:FuncId}{ins:StSh}{outs:List StSh}{F:ins.den→Option R}{g:{Y:Type}→(altD outs→Y)→R→Y}{fn:Func}{m0:Nat}(sp:Oks)(lps:List (LpQ (mkB fn outs m0) true))(rt:altD outs→Option R)(js:List (JnQ (mkB fn outs m0) true (some rt) ([]:List (Leaf R))))(hf:Tryz.prog.funcs[f]?=some fn)
  (hev:∀p,ev Tryz.prog (sp.map (·.1)) (mkB fn outs m0) (lps.map (·.1)) (js.map (·.1)) (some rt) 400 false (nrm (mkB fn outs m0).c 99 [.c []]) (stL ⟨List.range' 0 ins.avs.length,ins⟩ p) (stH ⟨List.range' 0 ins.avs.length,ins⟩ p)=F p)
  (hb:(fn.body.isSome&&decide (m0=ins.blks.length)&&ins.blks.all BSh.live)=true)
  (hc:∀args,Sem.pv Tryz.prog (callFunc f args)=some (.enter f args))
  (hg:∀(Y:Type) (k:altD outs→Y) (z:R),g k z=k (g id z):=by intro _ _ _;rfl)
  (hrt:∀r z,rt r=some z→g id z=r:=by intro r z h;cases h;rfl):A2 Tryz.prog (mkS f ins outs F g):=by
 simp only[Bool.and_eq_true,decide_eq_true_eq]at hb
 exact A8r (B:=mkB fn outs m0) F (g id) rt (fun Y p k=>Uv _ _ _ fun e=>hg _ k e) hrt hf (by obtain⟨c,e⟩:=Option.isSome_iff_exists.1 hb.1.1;rw[mkB,e];rfl) rfl (by simp[mkB]) hb.1.2 rfl rfl (fun args w=>Sem.pv_run _ _ _ (hc args) w)
  (allP_map sp) mixed (allP_map lps) (fun z E Xc hE hX hr=>allJ (base:=[]) hE hX hr trivial js) hev hb.2
end Go.Proofs.YtfcnhnbnjdccfaaGreat

namespace Go.Proofs.YtfcnhnbnjdccfaaGreat
set_option linter.all false
open Go
abbrev Qa:Type:=(List (List Int))×((List Int)×(Int×((List Int)×(List Int))))
abbrev Qb:Ty:=.pair (.sl (.sl (.int .i64))) (.pair (.sl (.int .i64)) (.pair (.int .i64) (.pair (.sl (.int .i64)) (.sl (.int .i64)))))
abbrev Qc:Ty:=.pair (.int .i64) (.int .i64)
abbrev Qd:Type:=Int×Int
abbrev Qe:Type:=List Int
abbrev Qf:Ty:=.sl (.int .i64)
abbrev Qg:Type:=List ((Int×Qd)×Qd)
abbrev Qh:Type:=List Qd
abbrev Qi:Type:=List (List Qe)×List Int×List Int×Bool×Bool×Int×Int×List Qe×List Int×Int
abbrev Qj:Type:=List Qe
abbrev Qk:Ty:=.pair (.int .i64) Qc
abbrev Ql:Type:=Int×Qd
abbrev Qm:Type:=Int×List Qe×List Int×Int×Qh
abbrev Qn:Type:=Int×Int×Qa×Int×Int×Qg
abbrev Qo:Type:=Int×Qa×Int×Int×Int×Qg×Qh
abbrev Qp:Type:=Int×Int×Int×List Qe×List Int×Int×Int×Int×Int×Int
abbrev Qq:Type:=Int×Int×Qa×Int×Qh×Int×Int×Int×Int×Int×Int×Int×Bool
abbrev Qr:Type:=Int×Int×List Qe×List Int×Int×Int×Int×Int×Int
abbrev Qs:Type:=(List Qh)×Int×Int×List Qe×List Int×Int×List Int
abbrev Qt:Type:=List Qe×Int×Int×List Qe×List Int×Int×Qh
abbrev Qu:Type:=Int×Int×Qa×Qg
abbrev Qv:Type:=Qa×Int×Int×Qg×Int×Int×Int×Int×Int×Int×Int
abbrev Qw:Ty:=.sl Qf


def Pv(N:Nat)(n lo hi:Int):Option Bool:=
 br (decide (lo≤n))
  (some (decide (n≤hi)))
  (some false)
noncomputable def Ap5(N:Nat):Spec:=mkS 57 ⟨[.i .i64,.i .i64,.i .i64],[]⟩ [⟨[.b],[]⟩] (fun p=>Pv N p.1.1 p.1.2.1 p.1.2.2.1) (fun k r=>k ((r,()),()))
theorem I7(N:Nat):A2 Tryz.prog (Ap5 N):=mkF (R:=Bool) (m0:=0) [] [] (fun r=>some r.1.1) [] Tryz.func57 (fun p=>by kernel_rfl) (by kernel_rfl) (fun _=>by kernel_rfl)

def most_l1(N:Nat):Nat→Int→Qe→Int→Int→Option Int
 | 0,_,_,_,_=>none
 | n_+1,n,u,u2,u3=>
  br (decide (u3<u2))
   (idx u u3 fun x_1=>
   chk (u3+1)<|
   most_l1 N n_ (max n x_1) u u2 (u3+1))
   (some (n))
def Ym(N:Nat)(n:Int)(l:List Int):Option Int:=
 (most_l1 N N n l (l.length:Int) 0).bind fun n_2=>
 some n_2
noncomputable def Aee(N:Nat):Oks:=[]
abbrev Alg:List StSh:=[⟨[.i .i64],[]⟩]
noncomputable abbrev Ap2:Body:=mkB Tryz.f100 Alg 0
noncomputable def Afm(N:Nat){top:Bool}:LpQ Ap2 top:=mkL (Z:=Int) (Aee N) [] [.c [1,0,1,0,0,0],.c [1,0,1,0,0,1],.l [1,0,1,0,0],.b 0,.c [1,1]] ⟨[0,7,8,9],⟨[.i .i64,.sl (.int .i64),.i .i64,.i .i64],[]⟩⟩ (fun m p=>most_l1 N m p.1.1 p.1.2.1 p.1.2.2.1 p.1.2.2.2.1) [⟨[.c [1,1,0],.c [1,1,1]],⟨[0],⟨[.i .i64],[]⟩⟩,fun p=>some (p.1.1)⟩] (fun _=>[]) (fun k e=>k (.inl ((e,()),()))) N (fun m p=>by kernel_rfl)
noncomputable def Alu(N:Nat):Spec:=mkS 100 ⟨[.i .i64,.sl (.int .i64)],[]⟩ Alg (fun p=>Ym N p.1.1 p.1.2.1) (fun k r=>k ((r,()),()))
theorem Acv(N:Nat):A2 Tryz.prog (Alu N):=mkF (R:=Int) (m0:=0) (Aee N) [Afm N] (fun r=>some r.1.1) [] Tryz.func100 (fun p=>by kernel_rfl) (by kernel_rfl) (fun _=>by kernel_rfl)

def Ix(N:Nat)(rec:Qe→Qe→Int→Int→Qe→Option (List Int×List Int×Int×List Int))(a b:List Int)(i k:Int)(g:List Int):Option (List Int×List Int×Int×List Int):=
 chk (k-1)<|
 rec a b i (k-1) g
def common_l2(N:Nat):Nat→Qe→Qe→Int→Int→Qe→Option (List Int×List Int×Int×List Int)
 | 0,_,_,_,_,_=>none
 | n_+1,a,b,i,k,g=>
  br (decide (0≤k))
   (chk (i+1)<|
   rng (i+1) 7<|
   rng k 7<|
   get g (((i+1).toNat*7)+k.toNat) fun x_1=>
   chk (k+1)<|
   rng i 7<|
   rng (k+1) 7<|
   get g ((i.toNat*7)+(k+1).toNat) fun x_2=>
   (Ym N x_1 [x_2]).bind fun x_3=>
   rng i 7<|
   rng k 7<|
   get g ((i.toNat*7)+k.toNat) fun _=>
   idx a i fun x_5=>
   idx b k fun x_6=>
   br (decide (x_5=x_6))
    (rng i 7<|
    rng k 7<|
    get (g.set ((i.toNat*7)+k.toNat) x_3) ((i.toNat*7)+k.toNat) fun x_7=>
    chk (i+1)<|
    chk (k+1)<|
    rng (i+1) 7<|
    rng (k+1) 7<|
    get (g.set ((i.toNat*7)+k.toNat) x_3) (((i+1).toNat*7)+(k+1).toNat) fun x_8=>
    chk (x_8+1)<|
    (Ym N x_7 [(x_8+1)]).bind fun x_9=>
    rng i 7<|
    rng k 7<|
    get (g.set ((i.toNat*7)+k.toNat) x_3) ((i.toNat*7)+k.toNat) fun _=>
    Ix N (common_l2 N n_) a b i k ((g.set ((i.toNat*7)+k.toNat) x_3).set ((i.toNat*7)+k.toNat) x_9))
    (Ix N (common_l2 N n_) a b i k (g.set ((i.toNat*7)+k.toNat) x_3)))
   (some ((a,b,i,g)))
def common_l1(N:Nat):Nat→Qe→Qe→Int→Qe→Option (List Int×List Int×List Int)
 | 0,_,_,_,_=>none
 | n_+1,a,b,i,g=>
  br (decide (0≤i))
   (chk ((b.length:Int)-1)<|
   (common_l2 N N a b i ((b.length:Int)-1) g).bind fun(a_11,b_12,i_13,g_14)=>
   chk (i_13-1)<|
   common_l1 N n_ a_11 b_12 (i_13-1) g_14)
   (some ((a,b,g)))
def common_l3(N:Nat):Nat→Qe→Qe→Int→Int→Qe→Qe→Option Qe
 | 0,_,_,_,_,_,_=>none
 | n_+1,a,b,i,k,g,out=>
  br (decide (i<(a.length:Int)))
   (br (decide (k<(b.length:Int)))
    (idx a i fun x_18=>
    idx b k fun x_19=>
    br (decide (x_18=x_19))
     (idx a i fun x_20=>
     lim (out.length+[x_20].length)<|
     chk (i+1)<|
     chk (k+1)<|
     common_l3 N n_ a b (i+1) (k+1) g (out++[x_20]))
     (chk (i+1)<|
     rng (i+1) 7<|
     rng k 7<|
     get g (((i+1).toNat*7)+k.toNat) fun x_21=>
     chk (k+1)<|
     rng i 7<|
     rng (k+1) 7<|
     get g ((i.toNat*7)+(k+1).toNat) fun x_22=>
     br (decide (x_22≤x_21))
      (chk (i+1)<|
      common_l3 N n_ a b (i+1) k g out)
      (chk (k+1)<|
      common_l3 N n_ a b i (k+1) g out)))
    (some (out)))
   (some (out))
def Gr(N:Nat)(a b:List Int):Option Qe:=
 chk ((a.length:Int)-1)<|
 (common_l1 N N a b ((a.length:Int)-1) (List.replicate 49 (0:Int))).bind fun(a_15,b_16,g_17)=>
 (common_l3 N N a_15 b_16 0 0 g_17 []).bind fun out_23=>
 some out_23
noncomputable def Im(N:Nat):Oks:=[⟨_,Acv N⟩]
abbrev A7h:List StSh:=[⟨[.sl (.int .i64)],[]⟩]
noncomputable abbrev Q4:Body:=mkB Tryz.f78 A7h 0
abbrev Pp:List PI:=[.c [1,1,0,1,0,0,1,0,0,1,0,0,0,0],.c [1,1,0,1,0,0,1,0,0,1,0,0,0,1],.c [1,1,0,1,0,0,1,0,0,1,0,0,1],.l [1,1,0,1,0,0,1,0,0,1,0,0],.b 2,.b 1,.c [1,1,0,1,0,0,1,1],.l [1,1,0,1,0,0],.b 0,.c [1,1,1]]
abbrev R6:Sta:=⟨[0,1,5,6,7],⟨[.sl (.int .i64),.sl (.int .i64),.own 0 0,.i .i64,.i .i64],[.segs [.arr (.int .i64) 49]]⟩⟩
abbrev A8p(rec:Qe→Qe→Int→Int→Qe→Option (List Int×List Int×Int×List Int)):Leaf (List Int×List Int×Int×List Int):=⟨Pp,R6,fun p=>rec p.1.1 p.1.2.1 p.1.2.2.2.1 p.1.2.2.2.2.1 p.2.1.1⟩
abbrev Ot:Leaf (List Int×List Int×Int×List Int):=⟨[.c [1,1,0,1,0,0,1,1],.l [1,1,0,1,0,0],.b 0,.c [1,1,1]],⟨[0,1,5,6],⟨[.sl (.int .i64),.sl (.int .i64),.own 0 0,.i .i64],[.segs [.arr (.int .i64) 49]]⟩⟩,fun p=>some ((p.1.1,p.1.2.1,p.1.2.2.2.1,p.2.1.1))⟩
noncomputable def A7m(N:Nat)(rec:Qe→Qe→Int→Int→Qe→Option (List Int×List Int×Int×List Int)){top:Bool}:JnQ (Z:=List Int×List Int×Int×List Int) Q4 top none [A8p rec,Ot]:=mkJ (Im N) [] [] ⟨[.c [1,1,0,1,0,0,1,0,0,1,0,0,1,1],.l [1,1,0,1,0,0,1,0,0,1,0,0],.b 2,.b 1,.c [1,1,0,1,0,0,1,1],.l [1,1,0,1,0,0],.b 0,.c [1,1,1]],⟨[0,1,5,6,7],⟨[.sl (.int .i64),.sl (.int .i64),.own 0 0,.i .i64,.i .i64],[.segs [.arr (.int .i64) 49]]⟩⟩,fun p=>Ix N rec p.1.1 p.1.2.1 p.1.2.2.2.1 p.1.2.2.2.2.1 p.2.1.1⟩ (fun p=>by kernel_rfl)
noncomputable def K6(N:Nat){top:Bool}:LpQ Q4 top:=mkL (Z:=List Int×List Int×Int×List Int) (Im N) [] Pp R6 (fun m p=>common_l2 N m p.1.1 p.1.2.1 p.1.2.2.2.1 p.1.2.2.2.2.1 p.2.1.1) [Ot] (fun m=>[A7m N (common_l2 N m)]) (fun k e=>k (.inl ((e.1,e.2.1,(),e.2.2.1,()),((e.2.2.2,()),())))) N (fun m p=>by kernel_rfl)
noncomputable def Tb(N:Nat){top:Bool}:LpQ Q4 top:=mkL (Z:=List Int×List Int×List Int) (Im N) [K6 N] [.c [1,1,0,1,0,0,0,0],.c [1,1,0,1,0,0,0,1],.c [1,1,0,1,0,0,1],.l [1,1,0,1,0,0],.b 0,.c [1,1,1]] ⟨[0,1,5,6],⟨[.sl (.int .i64),.sl (.int .i64),.own 0 0,.i .i64],[.segs [.arr (.int .i64) 49]]⟩⟩ (fun m p=>common_l1 N m p.1.1 p.1.2.1 p.1.2.2.2.1 p.2.1.1) [⟨[.c [1,1,1,0],.c [1,1,1,1]],⟨[0,1,5],⟨[.sl (.int .i64),.sl (.int .i64),.own 0 0],[.segs [.arr (.int .i64) 49]]⟩⟩,fun p=>some ((p.1.1,p.1.2.1,p.2.1.1))⟩] (fun _=>[]) (fun k e=>k (.inl ((e.1,e.2.1,(),()),((e.2.2,()),())))) N (fun m p=>by kernel_rfl)
noncomputable def A8l(N:Nat){top:Bool}:LpQ Q4 top:=mkL (Z:=List Int) (Im N) [K6 N,Tb N] [.c [1,1,1,1,0,1,0,0,0,0],.c [1,1,1,1,0,1,0,0,0,1],.c [1,1,1,1,0,1,0,0,1],.l [1,1,1,1,0,1,0,0],.b 4,.c [1,1,1,1,1]] ⟨[0,1,5,8,9,10],⟨[.sl (.int .i64),.sl (.int .i64),.own 0 0,.ols 1,.i .i64,.i .i64],[.segs [.arr (.int .i64) 49],.lst (.int .i64)]⟩⟩ (fun m p=>common_l3 N m p.1.1 p.1.2.1 p.1.2.2.2.2.1 p.1.2.2.2.2.2.1 p.2.1.1 p.2.2.1) [⟨[.c [1,1,1,1,1,0],.c [1,1,1,1,1,1]],⟨[8],⟨[.ols 0],[.lst (.int .i64)]⟩⟩,fun p=>some (p.2.1)⟩] (fun _=>[]) (fun k e=>k (.inl (((),()),(e,())))) N (fun m p=>by kernel_rfl)
noncomputable def Aev(N:Nat):Spec:=mkS 78 ⟨[.sl (.int .i64),.sl (.int .i64)],[]⟩ A7h (fun p=>Gr N p.1.1 p.1.2.1) (fun k r=>k ((r,()),()))
theorem Fk(N:Nat):A2 Tryz.prog (Aev N):=mkF (R:=List Int) (m0:=0) (Im N) [K6 N,Tb N,A8l N] (fun r=>some r.1.1) [] Tryz.func78 (fun p=>by kernel_rfl) (by kernel_rfl) (fun _=>by kernel_rfl)

def Sf(N:Nat)(e:List Qe)(e2:List Int)(e3 n:Int):Option Bool:=
 chk ((e.length:Int)-1)<|
 (Pv N n 0 ((e.length:Int)-1)).bind fun x_1=>
 some x_1
noncomputable def An5(N:Nat):Spec:=mkS 62 ⟨[.agg [.sl Qf,.sl (.int .i64),.i .i64],.i .i64],[]⟩ [⟨[.b],[]⟩] (fun p=>Sf N p.1.1.1 p.1.1.2.1 p.1.1.2.2.1 p.1.2.1) (fun k r=>k ((r,()),()))
theorem Xs(N:Nat):A2 Tryz.prog (An5 N):=mkF (R:=Bool) (m0:=0) [⟨_,I7 N⟩] [] (fun r=>some r.1.1) [] Tryz.func62 (fun p=>by kernel_rfl) (by kernel_rfl) (fun _=>by kernel_rfl)

def Se(N:Nat)(w:Int):Option Bool:=
 (Pv N w 0 9).bind fun x_1=>
 some x_1
noncomputable def Ab1(N:Nat):Spec:=mkS 56 ⟨[.i .i64],[]⟩ [⟨[.b],[]⟩] (fun p=>Se N p.1.1) (fun k r=>k ((r,()),()))
theorem A05(N:Nat):A2 Tryz.prog (Ab1 N):=mkF (R:=Bool) (m0:=0) [⟨_,I7 N⟩] [] (fun r=>some r.1.1) [] Tryz.func56 (fun p=>by kernel_rfl) (by kernel_rfl) (fun _=>by kernel_rfl)

def Yc(N:Nat)(l:List Int):Option Bool:=
 (Pv N (l.length:Int) 1 6).bind fun x_1=>
 some x_1
noncomputable def Agj(N:Nat):Spec:=mkS 59 ⟨[.sl (.int .i64)],[]⟩ [⟨[.b],[]⟩] (fun p=>Yc N p.1.1) (fun k r=>k ((r,()),()))
theorem A3b(N:Nat):A2 Tryz.prog (Agj N):=mkF (R:=Bool) (m0:=0) [⟨_,I7 N⟩] [] (fun r=>some r.1.1) [] Tryz.func59 (fun p=>by kernel_rfl) (by kernel_rfl) (fun _=>by kernel_rfl)

def G3(N:Nat)(x:Int):Option Bool:=
 (Se N x).bind fun x_1=>
 some (!x_1)
noncomputable def Abo(N:Nat):Spec:=mkS 93 ⟨[.i .i64,.own 0 0],[.segs [.fn 56 [] []]]⟩ [⟨[.b],[.segs [.fn 56 [] []]]⟩] (fun p=>G3 N p.1.1) (fun k r=>k ((r,()),((((),()),()),())))
theorem A0m(N:Nat):A2 Tryz.prog (Abo N):=mkF (R:=Bool) (m0:=1) [⟨_,A05 N⟩] [] (fun r=>some r.1.1) [] Tryz.func93 (fun p=>by kernel_rfl) (by kernel_rfl) (fun _=>by kernel_rfl)

def ixfi_l1(N:Nat):Nat→Qe→Int→Int→Option ((Int)⊕(Unit))
 | 0,_,_,_=>none
 | n_+1,s,u,u2=>
  br (decide (u2<u))
   (idx s u2 fun x_1=>
   (G3 N x_1).bind fun x_2=>
   br x_2
    (some (.inl u2))
    (chk (u2+1)<|
    ixfi_l1 N n_ s u (u2+1)))
   (some (.inr ()))
def A4l(N:Nat)(s:List Int):Option Int:=
 (ixfi_l1 N N s (s.length:Int) 0).bind fun e=>match e with
 | .inl i_3=>
  some i_3
 | .inr _=>
  some (-1)
noncomputable def Ae5(N:Nat):Oks:=[⟨_,A0m N⟩]
abbrev Ahv:List StSh:=[⟨[.i .i64],[.segs [.fn 56 [] []]]⟩]
noncomputable abbrev Aot:Body:=mkB Tryz.f106 Ahv 1
noncomputable def Afr(N:Nat){top:Bool}:LpQ Aot top:=mkL (Z:=(Int)⊕(Unit)) (Ae5 N) [] [.c [1,0,1,0,0,0],.c [1,0,1,0,0,1],.l [1,0,1,0,0],.b 0,.c [1,1]] ⟨[0,1,7,8],⟨[.sl (.int .i64),.fn 93 [] [.own 0 0],.i .i64,.i .i64],[.segs [.fn 56 [] []]]⟩⟩ (fun m p=>ixfi_l1 N m p.1.1 p.1.2.2.1 p.1.2.2.2.1) [⟨[.c [1,0,1,0,0,1,1,0,0,1,1,0,0],.c [1,0,1,0,0,1,1,0,0,1,1,0,1],.b 1,.c [1,0,1,0,0,1,1,1],.l [1,0,1,0,0],.b 0,.c [1,1]],⟨[5],⟨[.i .i64],[.segs [.fn 56 [] []]]⟩⟩,fun p=>some (.inl p.1.1)⟩,⟨[.c [1,1,0],.c [1,1,1]],⟨[],⟨[],[.segs [.fn 56 [] []]]⟩⟩,fun p=>some (.inr ())⟩] (fun _=>[]) (fun k e=>match e with | .inl x=>k (.inl ((x,()),((((),()),()),()))) | .inr x=>k (.inr (.inl ((),((((),()),()),()))))) N (fun m p=>by kernel_rfl) (hg:=(by rintro _ _ (_ | _)<;>rfl))
noncomputable def Alz(N:Nat):Spec:=mkS 106 ⟨[.sl (.int .i64),.fn 93 [] [.own 0 0]],[.segs [.fn 56 [] []]]⟩ Ahv (fun p=>A4l N p.1.1) (fun k r=>k ((r,()),((((),()),()),())))
theorem Abx(N:Nat):A2 Tryz.prog (Alz N):=mkF (R:=Int) (m0:=1) (Ae5 N) [Afr N] (fun r=>some r.1.1) [] Tryz.func106 (fun p=>by kernel_rfl) (by kernel_rfl) (fun _=>by kernel_rfl)

def Abi(N:Nat)(s:List Int):Option Bool:=
 (A4l N s).bind fun x_1=>
 some (decide (0≤x_1))
noncomputable def Anm(N:Nat):Spec:=mkS 92 ⟨[.sl (.int .i64),.fn 93 [] [.own 0 0]],[.segs [.fn 56 [] []]]⟩ [⟨[.b],[.segs [.fn 56 [] []]]⟩] (fun p=>Abi N p.1.1) (fun k r=>k ((r,()),((((),()),()),())))
theorem Aaq(N:Nat):A2 Tryz.prog (Anm N):=mkF (R:=Bool) (m0:=1) [⟨_,Abx N⟩] [] (fun r=>some r.1.1) [] Tryz.func92 (fun p=>by kernel_rfl) (by kernel_rfl) (fun _=>by kernel_rfl)

def Ow(N:Nat)(l:List Int):Option Bool:=
 (Abi N l).bind fun x_1=>
 some (!x_1)
noncomputable def Afo(N:Nat):Spec:=mkS 55 ⟨[.sl (.int .i64),.fn 56 [] []],[]⟩ [⟨[.b],[]⟩] (fun p=>Ow N p.1.1) (fun k r=>k ((r,()),()))
theorem A2o(N:Nat):A2 Tryz.prog (Afo N):=mkF (R:=Bool) (m0:=0) [⟨_,Aaq N⟩] [] (fun r=>some r.1.1) [] Tryz.func55 (fun p=>by kernel_rfl) (by kernel_rfl) (fun _=>by kernel_rfl)

def Iy(N:Nat)(l:List Int):Option Bool:=
 (Ow N l).bind fun x_1=>
 some x_1
noncomputable def Afe(N:Nat):Spec:=mkS 54 ⟨[.sl (.int .i64)],[]⟩ [⟨[.b],[]⟩] (fun p=>Iy N p.1.1) (fun k r=>k ((r,()),()))
theorem Pa(N:Nat):A2 Tryz.prog (Afe N):=mkF (R:=Bool) (m0:=0) [⟨_,A2o N⟩] [] (fun r=>some r.1.1) [] Tryz.func54 (fun p=>by kernel_rfl) (by kernel_rfl) (fun _=>by kernel_rfl)

def Gb(N:Nat)(x:List Int):Option Bool:=
 (Iy N x).bind fun x_1=>
 some (!x_1)
noncomputable def Ab2(N:Nat):Spec:=mkS 95 ⟨[.sl (.int .i64),.own 0 0],[.segs [.fn 54 [] []]]⟩ [⟨[.b],[.segs [.fn 54 [] []]]⟩] (fun p=>Gb N p.1.1) (fun k r=>k ((r,()),((((),()),()),())))
theorem A06(N:Nat):A2 Tryz.prog (Ab2 N):=mkF (R:=Bool) (m0:=1) [⟨_,Pa N⟩] [] (fun r=>some r.1.1) [] Tryz.func95 (fun p=>by kernel_rfl) (by kernel_rfl) (fun _=>by kernel_rfl)

def ixfa_l1(N:Nat):Nat→Qj→Int→Int→Option ((Int)⊕(Unit))
 | 0,_,_,_=>none
 | n_+1,s,u,u2=>
  br (decide (u2<u))
   (idx s u2 fun x_1=>
   (Gb N x_1).bind fun x_2=>
   br x_2
    (some (.inl u2))
    (chk (u2+1)<|
    ixfa_l1 N n_ s u (u2+1)))
   (some (.inr ()))
def A4c(N:Nat)(s:List Qe):Option Int:=
 (ixfa_l1 N N s (s.length:Int) 0).bind fun e=>match e with
 | .inl i_3=>
  some i_3
 | .inr _=>
  some (-1)
noncomputable def Ae1(N:Nat):Oks:=[⟨_,A06 N⟩]
abbrev Ai1:List StSh:=[⟨[.i .i64],[.segs [.fn 54 [] []]]⟩]
noncomputable abbrev Apb:Body:=mkB Tryz.f107 Ai1 1
noncomputable def Agq(N:Nat){top:Bool}:LpQ Apb top:=mkL (Z:=(Int)⊕(Unit)) (Ae1 N) [] [.c [1,0,1,0,0,0],.c [1,0,1,0,0,1],.l [1,0,1,0,0],.b 0,.c [1,1]] ⟨[0,1,7,8],⟨[.sl Qf,.fn 95 [] [.own 0 0],.i .i64,.i .i64],[.segs [.fn 54 [] []]]⟩⟩ (fun m p=>ixfa_l1 N m p.1.1 p.1.2.2.1 p.1.2.2.2.1) [⟨[.c [1,0,1,0,0,1,1,0,0,1,1,0,0],.c [1,0,1,0,0,1,1,0,0,1,1,0,1],.b 1,.c [1,0,1,0,0,1,1,1],.l [1,0,1,0,0],.b 0,.c [1,1]],⟨[5],⟨[.i .i64],[.segs [.fn 54 [] []]]⟩⟩,fun p=>some (.inl p.1.1)⟩,⟨[.c [1,1,0],.c [1,1,1]],⟨[],⟨[],[.segs [.fn 54 [] []]]⟩⟩,fun p=>some (.inr ())⟩] (fun _=>[]) (fun k e=>match e with | .inl x=>k (.inl ((x,()),((((),()),()),()))) | .inr x=>k (.inr (.inl ((),((((),()),()),()))))) N (fun m p=>by kernel_rfl) (hg:=(by rintro _ _ (_ | _)<;>rfl))
noncomputable def Alw(N:Nat):Spec:=mkS 107 ⟨[.sl Qf,.fn 95 [] [.own 0 0]],[.segs [.fn 54 [] []]]⟩ Ai1 (fun p=>A4c N p.1.1) (fun k r=>k ((r,()),((((),()),()),())))
theorem Aay(N:Nat):A2 Tryz.prog (Alw N):=mkF (R:=Int) (m0:=1) (Ae1 N) [Agq N] (fun r=>some r.1.1) [] Tryz.func107 (fun p=>by kernel_rfl) (by kernel_rfl) (fun _=>by kernel_rfl)

def Abp(N:Nat)(s:List Qe):Option Bool:=
 (A4c N s).bind fun x_1=>
 some (decide (0≤x_1))
noncomputable def Am2(N:Nat):Spec:=mkS 94 ⟨[.sl Qf,.fn 95 [] [.own 0 0]],[.segs [.fn 54 [] []]]⟩ [⟨[.b],[.segs [.fn 54 [] []]]⟩] (fun p=>Abp N p.1.1) (fun k r=>k ((r,()),((((),()),()),())))
theorem Ab5(N:Nat):A2 Tryz.prog (Am2 N):=mkF (R:=Bool) (m0:=1) [⟨_,Aay N⟩] [] (fun r=>some r.1.1) [] Tryz.func94 (fun p=>by kernel_rfl) (by kernel_rfl) (fun _=>by kernel_rfl)

def Oc(N:Nat)(l:List Qe):Option Bool:=
 (Abp N l).bind fun x_1=>
 some (!x_1)
noncomputable def Aeq(N:Nat):Spec:=mkS 58 ⟨[.sl Qf,.fn 54 [] []],[]⟩ [⟨[.b],[]⟩] (fun p=>Oc N p.1.1) (fun k r=>k ((r,()),()))
theorem A50(N:Nat):A2 Tryz.prog (Aeq N):=mkF (R:=Bool) (m0:=0) [⟨_,Ab5 N⟩] [] (fun r=>some r.1.1) [] Tryz.func58 (fun p=>by kernel_rfl) (by kernel_rfl) (fun _=>by kernel_rfl)

def G9(N:Nat)(x:List Int):Option Bool:=
 (Yc N x).bind fun x_1=>
 some (!x_1)
noncomputable def A9v(N:Nat):Spec:=mkS 95 ⟨[.sl (.int .i64),.own 0 0],[.segs [.fn 59 [] []]]⟩ [⟨[.b],[.segs [.fn 59 [] []]]⟩] (fun p=>G9 N p.1.1) (fun k r=>k ((r,()),((((),()),()),())))
theorem A08(N:Nat):A2 Tryz.prog (A9v N):=mkF (R:=Bool) (m0:=1) [⟨_,A3b N⟩] [] (fun r=>some r.1.1) [] Tryz.func95 (fun p=>by kernel_rfl) (by kernel_rfl) (fun _=>by kernel_rfl)

def P6(N:Nat):Nat→Qj→Int→Int→Option ((Int)⊕(Unit))
 | 0,_,_,_=>none
 | n_+1,s,u,u2=>
  br (decide (u2<u))
   (idx s u2 fun x_1=>
   (G9 N x_1).bind fun x_2=>
   br x_2
    (some (.inl u2))
    (chk (u2+1)<|
    P6 N n_ s u (u2+1)))
   (some (.inr ()))
def A55(N:Nat)(s:List Qe):Option Int:=
 (P6 N N s (s.length:Int) 0).bind fun e=>match e with
 | .inl i_3=>
  some i_3
 | .inr _=>
  some (-1)
noncomputable def Adq(N:Nat):Oks:=[⟨_,A08 N⟩]
abbrev Al6:List StSh:=[⟨[.i .i64],[.segs [.fn 59 [] []]]⟩]
noncomputable abbrev Apt:Body:=mkB Tryz.f107 Al6 1
noncomputable def Aff(N:Nat){top:Bool}:LpQ Apt top:=mkL (Z:=(Int)⊕(Unit)) (Adq N) [] [.c [1,0,1,0,0,0],.c [1,0,1,0,0,1],.l [1,0,1,0,0],.b 0,.c [1,1]] ⟨[0,1,7,8],⟨[.sl Qf,.fn 95 [] [.own 0 0],.i .i64,.i .i64],[.segs [.fn 59 [] []]]⟩⟩ (fun m p=>P6 N m p.1.1 p.1.2.2.1 p.1.2.2.2.1) [⟨[.c [1,0,1,0,0,1,1,0,0,1,1,0,0],.c [1,0,1,0,0,1,1,0,0,1,1,0,1],.b 1,.c [1,0,1,0,0,1,1,1],.l [1,0,1,0,0],.b 0,.c [1,1]],⟨[5],⟨[.i .i64],[.segs [.fn 59 [] []]]⟩⟩,fun p=>some (.inl p.1.1)⟩,⟨[.c [1,1,0],.c [1,1,1]],⟨[],⟨[],[.segs [.fn 59 [] []]]⟩⟩,fun p=>some (.inr ())⟩] (fun _=>[]) (fun k e=>match e with | .inl x=>k (.inl ((x,()),((((),()),()),()))) | .inr x=>k (.inr (.inl ((),((((),()),()),()))))) N (fun m p=>by kernel_rfl) (hg:=(by rintro _ _ (_ | _)<;>rfl))
noncomputable def Ani(N:Nat):Spec:=mkS 107 ⟨[.sl Qf,.fn 95 [] [.own 0 0]],[.segs [.fn 59 [] []]]⟩ Al6 (fun p=>A55 N p.1.1) (fun k r=>k ((r,()),((((),()),()),())))
theorem Ac1(N:Nat):A2 Tryz.prog (Ani N):=mkF (R:=Int) (m0:=1) (Adq N) [Aff N] (fun r=>some r.1.1) [] Tryz.func107 (fun p=>by kernel_rfl) (by kernel_rfl) (fun _=>by kernel_rfl)

def Aby(N:Nat)(s:List Qe):Option Bool:=
 (A55 N s).bind fun x_1=>
 some (decide (0≤x_1))
noncomputable def Amd(N:Nat):Spec:=mkS 94 ⟨[.sl Qf,.fn 95 [] [.own 0 0]],[.segs [.fn 59 [] []]]⟩ [⟨[.b],[.segs [.fn 59 [] []]]⟩] (fun p=>Aby N p.1.1) (fun k r=>k ((r,()),((((),()),()),())))
theorem Aac(N:Nat):A2 Tryz.prog (Amd N):=mkF (R:=Bool) (m0:=1) [⟨_,Ac1 N⟩] [] (fun r=>some r.1.1) [] Tryz.func94 (fun p=>by kernel_rfl) (by kernel_rfl) (fun _=>by kernel_rfl)

def O7(N:Nat)(l:List Qe):Option Bool:=
 (Aby N l).bind fun x_1=>
 some (!x_1)
noncomputable def Afd(N:Nat):Spec:=mkS 58 ⟨[.sl Qf,.fn 59 [] []],[]⟩ [⟨[.b],[]⟩] (fun p=>O7 N p.1.1) (fun k r=>k ((r,()),()))
theorem A3u(N:Nat):A2 Tryz.prog (Afd N):=mkF (R:=Bool) (m0:=0) [⟨_,Aac N⟩] [] (fun r=>some r.1.1) [] Tryz.func58 (fun p=>by kernel_rfl) (by kernel_rfl) (fun _=>by kernel_rfl)

def D7(N:Nat)(e:List Qe)(e2:List Int)(e3:Int):Option Int:=
 (Pv N (e.length:Int) 1 5).bind fun x_1=>
 br (!x_1)
  (some 2)
  (br (decide (10<(e2.length:Int)))
   (some 2)
   ((O7 N e).bind fun x_2=>
   br (!x_2)
    (some 2)
    ((Oc N e).bind fun x_3=>
    br (!x_3)
     (some 3)
     ((Iy N e2).bind fun x_4=>
     br (!x_4)
      (some 3)
      ((Pv N e3 0 8).bind fun x_5=>
      br (!x_5)
       (some 3)
       (some 0))))))
noncomputable def Akf(N:Nat):Spec:=mkS 12 ⟨[.agg [.sl Qf,.sl (.int .i64),.i .i64]],[]⟩ [⟨[.i .i64],[]⟩] (fun p=>D7 N p.1.1.1 p.1.1.2.1 p.1.1.2.2.1) (fun k r=>k ((r,()),()))
theorem C0(N:Nat):A2 Tryz.prog (Akf N):=mkF (R:=Int) (m0:=0) [⟨_,I7 N⟩,⟨_,Pa N⟩,⟨_,A50 N⟩,⟨_,A3u N⟩] [] (fun r=>some r.1.1) [] Tryz.func12 (fun p=>by kernel_rfl) (by kernel_rfl) (fun _=>by kernel_rfl)

def B5(N:Nat)(e:List Qe)(e2:List Int)(e3 p p2:Int):Option ((Qa×Int)⊕(Int)):=
 (D7 N e e2 e3).bind fun x_1=>
 br (!decide (x_1=0))
  (some (.inr x_1))
  ((Sf N e e2 e3 p).bind fun x_2=>
  br (!x_2)
   (some (.inr 1))
   ((Sf N e e2 e3 p2).bind fun x_3=>
   br (!x_3)
    (some (.inr 1))
    (idx e p fun x_4=>
    idx e p2 fun x_5=>
    some (.inl ((e,e2,e3,x_4,x_5),0)))))
noncomputable def Rw(N:Nat):Spec:=mkS 14 ⟨[.agg [.sl Qf,.sl (.int .i64),.i .i64],.agg [.i .i64,.i .i64]],[]⟩ [⟨[.fe Qb,.i .i64],[]⟩,⟨[.nilp,.i .i64],[]⟩] (fun p=>B5 N p.1.1.1 p.1.1.2.1 p.1.1.2.2.1 p.1.2.1.1 p.1.2.1.2.1) (fun k r=>match r with | .inl r=>k (.inl ((r.1,r.2,()),())) | .inr r=>k (.inr (((),r,()),())))
theorem Ax(N:Nat):A2 Tryz.prog (Rw N):=mkF (R:=(Qa×Int)⊕(Int)) (m0:=0) [⟨_,Xs N⟩,⟨_,C0 N⟩] [] (fun r=>match r with | .inl r=>some (.inl (r.1.1,r.1.2.1)) | .inr r=>some (.inr r.1.2.1)) [] Tryz.func14 (fun p=>by kernel_rfl) (by kernel_rfl) (fun _=>by kernel_rfl) (by rintro _ _ (_ | _)<;>rfl) (by rintro (_ | _) z h<;>(cases h;rfl))

def dist_S(N:Nat)(e:List Qe)(e2:List Int)(e3 a b:Int):Option Qd:=
 ((B5 N e e2 e3 a b).bind fun e=>match e with
 | .inl (x_1,y_2)=>
  (br (!decide (y_2=0))
   (some (0,y_2))
   (chk ((x_1.2.2.2.1.length:Int)+(x_1.2.2.2.2.length:Int))<|
   (Gr N x_1.2.2.2.1 x_1.2.2.2.2).bind fun x_3=>
   chk (2*(x_3.length:Int))<|
   chk (((x_1.2.2.2.1.length:Int)+(x_1.2.2.2.2.length:Int))-(2*(x_3.length:Int)))<|
   some ((((x_1.2.2.2.1.length:Int)+(x_1.2.2.2.2.length:Int))-(2*(x_3.length:Int))),0)))
 | .inr x_4=>
  (br (!decide (x_4=0))
   (some (0,x_4))
   (none)))
noncomputable def Ami(N:Nat):Spec:=mkS 36 ⟨[.agg [.sl Qf,.sl (.int .i64),.i .i64],.i .i64,.i .i64],[]⟩ [⟨[.i .i64,.i .i64],[]⟩] (fun p=>dist_S N p.1.1.1 p.1.1.2.1 p.1.1.2.2.1 p.1.2.1 p.1.2.2.1) (fun k r=>k ((r.1,r.2,()),()))
theorem Y8(N:Nat):A2 Tryz.prog (Ami N):=mkF (R:=Int×Int) (m0:=0) [⟨_,Fk N⟩,⟨_,Ax N⟩] [] (fun r=>some (r.1.1,r.1.2.1)) [] Tryz.func36 (fun p=>by kernel_rfl) (by kernel_rfl) (fun _=>by kernel_rfl)

def Dx(N:Nat)(e:List Qe)(e2:List Int)(e3 a b:Int):Option (List Int×Int):=
 ((B5 N e e2 e3 a b).bind fun e=>match e with
 | .inl (x_1,y_2)=>
  (br (!decide (y_2=0))
   (some ([],y_2))
   ((Gr N x_1.2.2.2.1 x_1.2.2.2.2).bind fun x_3=>
   some (x_3,0)))
 | .inr x_4=>
  (br (!decide (x_4=0))
   (some ([],x_4))
   (none)))
noncomputable def Ace(N:Nat):Spec:=mkS 37 ⟨[.agg [.sl Qf,.sl (.int .i64),.i .i64],.i .i64,.i .i64],[]⟩ [⟨[.sl (.int .i64),.i .i64],[]⟩] (fun p=>Dx N p.1.1.1 p.1.1.2.1 p.1.1.2.2.1 p.1.2.1 p.1.2.2.1) (fun k r=>k ((r.1,r.2,()),()))
theorem N5(N:Nat):A2 Tryz.prog (Ace N):=mkF (R:=List Int×Int) (m0:=0) [⟨_,Fk N⟩,⟨_,Ax N⟩] [] (fun r=>some (r.1.1,r.1.2.1)) [] Tryz.func37 (fun p=>by kernel_rfl) (by kernel_rfl) (fun _=>by kernel_rfl)

def Oh(N:Nat)(rec:Int→Qe→Int→Qj→Int→Int→Qj→Qe→Int→Qh→Option Qt)(a:Int)(x:List Int)(b:Int)(u:List Qe)(u2 u3:Int)(e:List Qe)(e2:List Int)(e3:Int)(out:List Qd):Option Qt:=
 chk (b+1)<|
 rec a x (b+1) u u2 u3 e e2 e3 out
def conf_l2(N:Nat):Nat→Int→Qe→Int→Qj→Int→Int→Qj→Qe→Int→Qh→Option Qt
 | 0,_,_,_,_,_,_,_,_,_,_=>none
 | n_+1,a,x,b,u,u2,u3,e,e2,e3,out=>
  br (decide (b<(e.length:Int)))
   (idx e b fun x_3=>
   chk ((x.length:Int)+(x_3.length:Int))<|
   (Gr N x x_3).bind fun x_4=>
   chk (2*(x_4.length:Int))<|
   chk (((x.length:Int)+(x_3.length:Int))-(2*(x_4.length:Int)))<|
   chk (2*e3)<|
   br (decide ((((x.length:Int)+(x_3.length:Int))-(2*(x_4.length:Int)))≤(2*e3)))
    (lim (out.length+[(a,b)].length)<|
    Oh N (conf_l2 N n_) a x b u u2 u3 e e2 e3 (out++[(a,b)]))
    (Oh N (conf_l2 N n_) a x b u u2 u3 e e2 e3 out))
   (some ((u,u2,u3,e,e2,e3,out)))
def conf_l1(N:Nat):Nat→Qj→Int→Int→Qj→Qe→Int→Qh→Option Qh
 | 0,_,_,_,_,_,_,_=>none
 | n_+1,u,u2,u3,e,e2,e3,out=>
  br (decide (u3<u2))
   (idx u u3 fun x_2=>
   chk (u3+1)<|
   (conf_l2 N N u3 x_2 (u3+1) u u2 u3 e e2 e3 out).bind fun(u_5,u2_6,u3_7,e_8,e2_9,e3_10,out_11)=>
   chk (u3_7+1)<|
   conf_l1 N n_ u_5 u2_6 (u3_7+1) e_8 e2_9 e3_10 out_11)
   (some (out))
def Nh(N:Nat)(e:List Qe)(e2:List Int)(e3:Int):Option (Qh×Int):=
 (D7 N e e2 e3).bind fun x_1=>
 br (!decide (x_1=0))
  (some ([],x_1))
  ((conf_l1 N N e (e.length:Int) 0 e e2 e3 []).bind fun out_12=>
  some (out_12,0))
noncomputable def Vq(N:Nat):Oks:=[⟨_,Fk N⟩,⟨_,C0 N⟩]
abbrev Ala:List StSh:=[⟨[.sl Qc,.i .i64],[]⟩]
noncomputable abbrev Acs:Body:=mkB Tryz.f34 Ala 0
abbrev Xv:List PI:=[.c [1,1,1,0,1,0,0,1,1,0,0,1,1,0,0,0,0],.c [1,1,1,0,1,0,0,1,1,0,0,1,1,0,0,0,1],.c [1,1,1,0,1,0,0,1,1,0,0,1,1,0,0,1],.l [1,1,1,0,1,0,0,1,1,0,0,1,1,0,0],.b 2,.b 1,.c [1,1,1,0,1,0,0,1,1,1],.l [1,1,1,0,1,0,0],.b 0,.c [1,1,1,1]]
abbrev Wf:Sta:=⟨[1,5,6,7,8,16,17,18],⟨[.own 0 0,.ols 1,.i .i64,.sl (.int .i64),.i .i64,.sl Qf,.i .i64,.i .i64],[.segs [.sl Qf,.sl (.int .i64),.i .i64],.lst Qc]⟩⟩
abbrev Ah5(rec:Int→Qe→Int→Qj→Int→Int→Qj→Qe→Int→Qh→Option Qt):Leaf Qt:=⟨Xv,Wf,fun p=>rec p.1.2.2.1 p.1.2.2.2.1 p.1.2.2.2.2.1 p.1.2.2.2.2.2.1 p.1.2.2.2.2.2.2.1 p.1.2.2.2.2.2.2.2.1 p.2.1.1 p.2.1.2.1 p.2.1.2.2.1 p.2.2.1⟩
abbrev Zm:Leaf Qt:=⟨[.c [1,1,1,0,1,0,0,1,1,1],.l [1,1,1,0,1,0,0],.b 0,.c [1,1,1,1]],⟨[1,5,16,17,18],⟨[.own 0 0,.ols 1,.sl Qf,.i .i64,.i .i64],[.segs [.sl Qf,.sl (.int .i64),.i .i64],.lst Qc]⟩⟩,fun p=>some ((p.1.2.2.1,p.1.2.2.2.1,p.1.2.2.2.2.1,p.2.1.1,p.2.1.2.1,p.2.1.2.2.1,p.2.2.1))⟩
noncomputable def Afw(N:Nat)(rec:Int→Qe→Int→Qj→Int→Int→Qj→Qe→Int→Qh→Option Qt){top:Bool}:JnQ (Z:=List Qe×Int×Int×List Qe×List Int×Int×Qh) Acs top none [Ah5 rec,Zm]:=mkJ (Vq N) [] [] ⟨[.c [1,1,1,0,1,0,0,1,1,0,0,1,1,0,0,1,1],.l [1,1,1,0,1,0,0,1,1,0,0,1,1,0,0],.b 2,.b 1,.c [1,1,1,0,1,0,0,1,1,1],.l [1,1,1,0,1,0,0],.b 0,.c [1,1,1,1]],⟨[1,5,6,7,8,16,17,18],⟨[.own 0 0,.ols 1,.i .i64,.sl (.int .i64),.i .i64,.sl Qf,.i .i64,.i .i64],[.segs [.sl Qf,.sl (.int .i64),.i .i64],.lst Qc]⟩⟩,fun p=>Oh N rec p.1.2.2.1 p.1.2.2.2.1 p.1.2.2.2.2.1 p.1.2.2.2.2.2.1 p.1.2.2.2.2.2.2.1 p.1.2.2.2.2.2.2.2.1 p.2.1.1 p.2.1.2.1 p.2.1.2.2.1 p.2.2.1⟩ (fun p=>by kernel_rfl)
noncomputable def A10(N:Nat){top:Bool}:LpQ Acs top:=mkL (Z:=List Qe×Int×Int×List Qe×List Int×Int×Qh) (Vq N) [] Xv Wf (fun m p=>conf_l2 N m p.1.2.2.1 p.1.2.2.2.1 p.1.2.2.2.2.1 p.1.2.2.2.2.2.1 p.1.2.2.2.2.2.2.1 p.1.2.2.2.2.2.2.2.1 p.2.1.1 p.2.1.2.1 p.2.1.2.2.1 p.2.2.1) [Zm] (fun m=>[Afw N (conf_l2 N m)]) (fun k e=>k (.inl (((),(),e.1,e.2.1,e.2.2.1,()),((e.2.2.2.1,e.2.2.2.2.1,e.2.2.2.2.2.1,()),e.2.2.2.2.2.2,())))) N (fun m p=>by kernel_rfl)
noncomputable def Agw(N:Nat){top:Bool}:LpQ Acs top:=mkL (Z:=Qh) (Vq N) [A10 N] [.c [1,1,1,0,1,0,0,0],.c [1,1,1,0,1,0,0,1],.l [1,1,1,0,1,0,0],.b 0,.c [1,1,1,1]] ⟨[1,5,16,17,18],⟨[.own 0 0,.ols 1,.sl Qf,.i .i64,.i .i64],[.segs [.sl Qf,.sl (.int .i64),.i .i64],.lst Qc]⟩⟩ (fun m p=>conf_l1 N m p.1.2.2.1 p.1.2.2.2.1 p.1.2.2.2.2.1 p.2.1.1 p.2.1.2.1 p.2.1.2.2.1 p.2.2.1) [⟨[.c [1,1,1,1,0],.c [1,1,1,1,1]],⟨[5],⟨[.ols 0],[.lst Qc]⟩⟩,fun p=>some (p.2.1)⟩] (fun _=>[]) (fun k e=>k (.inl (((),()),(e,())))) N (fun m p=>by kernel_rfl)
noncomputable def Am7(N:Nat):Spec:=mkS 34 ⟨[.agg [.sl Qf,.sl (.int .i64),.i .i64]],[]⟩ Ala (fun p=>Nh N p.1.1.1 p.1.1.2.1 p.1.1.2.2.1) (fun k r=>k ((r.1,r.2,()),()))
theorem Xh(N:Nat):A2 Tryz.prog (Am7 N):=mkF (R:=Qh×Int) (m0:=0) (Vq N) [A10 N,Agw N] (fun r=>some (r.1.1,r.1.2.1)) [] Tryz.func34 (fun p=>by kernel_rfl) (by kernel_rfl) (fun _=>by kernel_rfl)

end Go.Proofs.YtfcnhnbnjdccfaaGreat

namespace Go.Proofs.YtfcnhnbnjdccfaaGreat
set_option linter.all false
open Go

def Gk(N:Nat)(d:Qa)(x x2 x3:Int):Option (Ql×Qa):=
 some ((x,x2,x3),d)
noncomputable def Anf(N:Nat):Spec:=mkS 17 ⟨[.fe Qb,.agg [.i .i64,.i .i64,.i .i64]],[]⟩ [⟨[.fn 65 [] [.fe Qk,.fe (.ptr Qb)]],[]⟩] (fun p=>Gk N p.1.1 p.1.2.1.1 p.1.2.1.2.1 p.1.2.1.2.2.1) (fun k r=>k ((((),(r.1,r.2,())),()),()))
theorem H9(N:Nat):A2 Tryz.prog (Anf N):=mkF (R:=Ql×Qa) (m0:=0) [] [] (fun r=>some (r.1.1.2.1,r.1.1.2.2.1)) [] Tryz.func17 (fun p=>by kernel_rfl) (by kernel_rfl) (fun _=>by kernel_rfl)

def Fy(N:Nat)(d:Qa)(told:Int):Option Int:=
 chk ((d.2.2.2.1.length:Int)+(d.2.2.2.2.length:Int))<|
 chk (((d.2.2.2.1.length:Int)+(d.2.2.2.2.length:Int))+(d.2.1.length:Int))<|
 chk (2*told)<|
 chk ((((d.2.2.2.1.length:Int)+(d.2.2.2.2.length:Int))+(d.2.1.length:Int))-(2*told))<|
 some ((((d.2.2.2.1.length:Int)+(d.2.2.2.2.length:Int))+(d.2.1.length:Int))-(2*told))
noncomputable def Aaz(N:Nat):Spec:=mkS 72 ⟨[.fe Qb,.i .i64],[]⟩ [⟨[.i .i64],[]⟩] (fun p=>Fy N p.1.1 p.1.2.1) (fun k r=>k ((r,()),()))
theorem I1(N:Nat):A2 Tryz.prog (Aaz N):=mkF (R:=Int) (m0:=0) [] [] (fun r=>some r.1.1) [] Tryz.func72 (fun p=>by kernel_rfl) (by kernel_rfl) (fun _=>by kernel_rfl)

def A3w(N:Nat)(u u2 u3:Int):Option Bool:=
 some true
noncomputable def Anh(N:Nat):Spec:=mkS 64 ⟨[.i .i64,.agg [.i .i64,.i .i64]],[]⟩ [⟨[.b],[]⟩] (fun p=>A3w N p.1.1 p.1.2.1.1 p.1.2.1.2.1) (fun k r=>k ((r,()),()))
theorem Acz(N:Nat):A2 Tryz.prog (Anh N):=mkF (R:=Bool) (m0:=0) [] [] (fun r=>some r.1.1) [] Tryz.func64 (fun p=>by kernel_rfl) (by kernel_rfl) (fun _=>by kernel_rfl)

def Eu(N:Nat)  : Option Unit:=
 some ()
noncomputable def Apn(N:Nat):Spec:=mkS 16 ⟨[],[]⟩ [⟨[.agg [.fn 64 [] []]],[]⟩] (fun p=>Eu N) (fun k r=>k (((((),()),()),()),()))
theorem G0(N:Nat):A2 Tryz.prog (Apn N):=mkF (R:=Unit) (m0:=0) [] [] (fun r=>some ()) [] Tryz.func16 (fun p=>by kernel_rfl) (by kernel_rfl) (fun _=>by kernel_rfl)

abbrev A4g:List StSh:=[⟨[.agg [.i .i64,.i .i64]],[.segs [.fn 63 [] [.fz [.fe Qb],.fz [.mp 1],.fz [.fn 64 [] []],.own 0 0]],.map Qk Qc]⟩]
noncomputable abbrev Ba(self:Int→Int→Int→(Qa)→(Qa)→Qg→Option Qu):Spec:=mkS 63 ⟨[.agg [.i .i64,.i .i64,.i .i64],.fz [.fe Qb],.fz [.mp 1],.fz [.fn 64 [] []],.own 0 0],[.segs [.fn 63 [] [.fz [.fe Qb],.fz [.mp 1],.fz [.fn 64 [] []],.own 0 0]],.map Qk Qc]⟩ A4g (fun p=>self p.1.1.1 p.1.1.2.1 p.1.1.2.2.1 p.1.2.1.1 p.2.1.1.2.1.1 p.2.2.1) (fun k r=>k (((r.1,r.2.1,()),()),((((),((r.2.2.1,()),((),()),(((),()),()),(),())),()),r.2.2.2,())))
def E0(N:Nat)(self:Int→Int→Int→(Qa)→(Qa)→Qg→Option Qu)(rec:(Qa)→Qg→Int→Int→Int→Int→Int→Int→Int→Option (Qa×Qg×Int×Int×Int×Int×Int×Int×Int))(u:Ql)(u2 g':Qa)(g2':List (Ql×Qd))(x' x2' x3' g3' g4' best' best2' p' p2' y' y2' y3':Int):Option (Qa×Qg×Int×Int×Int×Int×Int×Int×Int):=
 (A3w N x' p' p2').bind fun x_3=>
 br (!x_3)
  (rec g' g2' x' x2' x3' g3' g4' best' best2')
  ((self y' y2' y3' g' g' g2').bind fun(x_4,y_5,y_6,y_7)=>
  br (decide (0≤x_4))
   (br (!decide (p'=3))
    (chk (x_4+1)<|
    br (decide (best'<(x_4+1)))
     (rec y_6 y_7 x' x2' x3' g3' g4' (x_4+1) y_5)
     (br (decide ((x_4+1)=best'))
      (chk (best2'+y_5)<|
      rec y_6 y_7 x' x2' x3' g3' g4' best' (best2'+y_5))
      (rec y_6 y_7 x' x2' x3' g3' g4' best' best2')))
    (br (decide (best'<x_4))
     (rec y_6 y_7 x' x2' x3' g3' g4' x_4 y_5)
     (br (decide (x_4=best'))
      (chk (best2'+y_5)<|
      rec y_6 y_7 x' x2' x3' g3' g4' best' (best2'+y_5))
      (rec y_6 y_7 x' x2' x3' g3' g4' best' best2'))))
   (br (decide (best'<x_4))
    (rec y_6 y_7 x' x2' x3' g3' g4' x_4 y_5)
    (br (decide (x_4=best'))
     (chk (best2'+y_5)<|
     rec y_6 y_7 x' x2' x3' g3' g4' best' (best2'+y_5))
     (rec y_6 y_7 x' x2' x3' g3' g4' best' best2'))))
def resta_l1(N:Nat)(self:Int→Int→Int→(Qa)→(Qa)→Qg→Option Qu):List Move→(Ql)→(Qa)→(Qa)→Qg→Int→Int→Int→Int→Int→Int→Int→Option (Qa×Qg×Int×Int×Int×Int×Int×Int×Int)
 | [],u,u2,g,g2,x,x2,x3,g3,g4,best,best2=>
  some ((g,g2,x,x2,x3,g3,g4,best,best2))
 | e::es,u,u2,g,g2,x,x2,x3,g3,g4,best,best2=>
  E0 N self (fun g_ g2_ x_ x2_ x3_ g3_ g4_ best_ best2_=>resta_l1 N self es u u2 g_ g2_ x_ x2_ x3_ g3_ g4_ best_ best2_) u u2 g g2 x x2 x3 g3 g4 best best2 e.1.1 e.1.2.1 e.2.1.1 e.2.1.2.1 e.2.1.2.2.1
def resta_S(N:Nat)(self:Int→Int→Int→(Qa)→(Qa)→Qg→Option Qu)(x x2 x3:Int)(u g:Qa)(g2:List (Ql×Qd)):Option Qu:=
 br (decide (x=(u.2.1.length:Int)))
  (some (0,1,g,g2))
  (br ((g2.find? fun(y:Ql×Qd)=>Ty.beq Qk y.1 (x,x2,x3)).isSome)
   (some ((((g2.find? fun(y:Ql×Qd)=>Ty.beq Qk y.1 (x,x2,x3)).map (·.2)).getD (Ty.dflt Qc)).1,(((g2.find? fun(y:Ql×Qd)=>Ty.beq Qk y.1 (x,x2,x3)).map (·.2)).getD (Ty.dflt Qc)).2,g,g2))
   ((Gk N u x x2 x3).bind fun(x_1,y_2)=>
   ((D3 x_1 y_2).bind fun es=>resta_l1 N self es x_1 y_2 g g2 x x2 x3 0 0 (-1) 0).bind fun(g_8,g2_9,x_10,x2_11,x3_12,g3_13,g4_14,best_15,best2_16)=>
   some (best_15,best2_16,g_8,(((x_10,x2_11,x3_12),(best_15,best2_16))::g2_9))))
noncomputable def Yo(N:Nat)(self:Int→Int→Int→(Qa)→(Qa)→Qg→Option Qu)(hself:A2 Tryz.prog (Ba self)):Oks:=[⟨_,H9 N⟩,⟨_,Acz N⟩,⟨_,hself⟩]
noncomputable abbrev Ei:Body:=mkB Tryz.f63 A4g 2
noncomputable def Mb(N:Nat)(self:Int→Int→Int→(Qa)→(Qa)→Qg→Option Qu)(hself:A2 Tryz.prog (Ba self)):List Spec:=(Yo N self hself).map (·.1)
theorem Ry(N:Nat)(self:Int→Int→Int→(Qa)→(Qa)→Qg→Option Qu)(hself:A2 Tryz.prog (Ba self)):AllP (A2 Tryz.prog) (Mb N self hself):=allP_map (Yo N self hself)
noncomputable def Aef:Code:=Ei.c
abbrev Et:Sta:=⟨[2,3,4,5,6,9,34],⟨[.fz [.mp 1],.fz [.fn 64 [] []],.own 0 0,.own 2 0,.own 3 0,.own 4 0,.fn 65 [] [.fe Qk,.fe (.ptr Qb)]],[.segs [.fn 63 [] [.fz [.fe Qb],.fz [.mp 1],.fz [.fn 64 [] []],.own 0 0]],.map Qk Qc,.segs [.i .i64,.i .i64,.i .i64],.segs [.i .i64,.i .i64],.segs [.i .i64,.i .i64]]⟩⟩
abbrev Fu:Sta:=⟨[3,4,5,6,9,10,11],⟨[.fz [.fn 64 [] []],.own 0 0,.own 2 0,.own 3 0,.own 4 0,.own 5 0,.own 6 0],[.segs [.fn 63 [] [.fz [.fe Qb],.fz [.mp 1],.fz [.fn 64 [] []],.own 0 0]],.map Qk Qc,.segs [.i .i64,.i .i64,.i .i64],.segs [.i .i64,.i .i64],.segs [.i .i64,.i .i64],.segs [.i .i64,.i .i64],.segs [.i .i64,.i .i64,.i .i64]]⟩⟩
abbrev T0:Leaf (Qa×Qg×Int×Int×Int×Int×Int×Int×Int):=⟨[.c [1,1,1,1,1,0],.c [1,1,1,1,1,1]],⟨[2,5,6,9],⟨[.fz [.mp 1],.own 2 0,.own 3 0,.own 4 0],[.segs [.fn 63 [] [.fz [.fe Qb],.fz [.mp 1],.fz [.fn 64 [] []],.own 0 0]],.map Qk Qc,.segs [.i .i64,.i .i64,.i .i64],.segs [.i .i64,.i .i64],.segs [.i .i64,.i .i64]]⟩⟩,fun p=>some ((p.2.1.1.2.1.1,p.2.2.1,p.2.2.2.1.1,p.2.2.2.1.2.1,p.2.2.2.1.2.2.1,p.2.2.2.2.1.1,p.2.2.2.2.1.2.1,p.2.2.2.2.2.1.1,p.2.2.2.2.2.1.2.1))⟩
noncomputable def Nw(N:Nat)(self:Int→Int→Int→(Qa)→(Qa)→Qg→Option Qu)(hself:A2 Tryz.prog (Ba self)):Hs:={ at_:=[.c [1,1,1,1,0,1,0],.b 0,.c [1,1,1,1,1]],sta:=Et,exits:=[([.c [1,1,1,1,1,0],.c [1,1,1,1,1,1]],⟨[2,5,6,9],⟨[.fz [.mp 1],.own 2 0,.own 3 0,.own 4 0],[.segs [.fn 63 [] [.fz [.fe Qb],.fz [.mp 1],.fz [.fn 64 [] []],.own 0 0]],.map Qk Qc,.segs [.i .i64,.i .i64,.i .i64],.segs [.i .i64,.i .i64],.segs [.i .i64,.i .i64]]⟩⟩)],run:=fun p k=>((D3 p.1.2.2.2.2.2.2.1.2.1 p.1.2.2.2.2.2.2.1.2.2.1).bind fun es=>resta_l1 N self es p.1.2.2.2.2.2.2.1.2.1 p.1.2.2.2.2.2.2.1.2.2.1 p.2.1.1.2.1.1 p.2.2.1 p.2.2.2.1.1 p.2.2.2.1.2.1 p.2.2.2.1.2.2.1 p.2.2.2.2.1.1 p.2.2.2.2.1.2.1 p.2.2.2.2.2.1.1 p.2.2.2.2.2.1.2.1).bind fun e=>k (.inl ((((),()),(),(),(),()),((((),((e.1,()),((),()),(((),()),()),(),())),()),e.2.1,(e.2.2.1,e.2.2.2.1,e.2.2.2.2.1,()),(e.2.2.2.2.2.1,e.2.2.2.2.2.2.1,()),(e.2.2.2.2.2.2.2.1,e.2.2.2.2.2.2.2.2,()),()))) }
noncomputable abbrev Hv:Body:=mkB Tryz.f63 A4g 5
theorem A3f(N:Nat)(self:Int→Int→Int→(Qa)→(Qa)→Qg→Option Qu)(hself:A2 Tryz.prog (Ba self))(u:Ql)(u2:Qa)(g:Qa)(g2:List (Ql×Qd))(x:Int)(x2:Int)(x3:Int)(g3:Int)(g4:Int)(best:Int)(best2:Int):ev (Z:=Qa×Qg×Int×Int×Int×Int×Int×Int×Int) Tryz.prog (Mb N self hself) Ei [] [T0] none 400 false (nrm Ei.c 99 [.b 0,.c [1,1,1,1,1]]) (stL Et ((((),()),(((),()),()),(),(),(),(),((),(u,u2,())),()),((((),((g,()),((),()),(((),()),()),(),())),()),g2,(x,x2,x3,()),(g3,g4,()),(best,best2,()),()))) (stH Et ((((),()),(((),()),()),(),(),(),(),((),(u,u2,())),()),((((),((g,()),((),()),(((),()),()),(),())),()),g2,(x,x2,x3,()),(g3,g4,()),(best,best2,()),())))=resta_l1 N self [] u u2 g g2 x x2 x3 g3 g4 best best2:=by kernel_rfl
theorem A43(N:Nat)(self:Int→Int→Int→(Qa)→(Qa)→Qg→Option Qu)(hself:A2 Tryz.prog (Ba self))(e:Move)(es:List Move)(u:Ql)(u2:Qa)(g:Qa)(g2:List (Ql×Qd))(x:Int)(x2:Int)(x3:Int)(g3:Int)(g4:Int)(best:Int)(best2:Int):ev (Z:=Qa×Qg×Int×Int×Int×Int×Int×Int×Int) Tryz.prog (Mb N self hself) Hv [] [⟨[.r,.c [1,1,1,1,0,1,0,1]],Fu,fun p=>E0 N self (fun g_ g2_ x_ x2_ x3_ g3_ g4_ best_ best2_=>resta_l1 N self es u u2 g_ g2_ x_ x2_ x3_ g3_ g4_ best_ best2_) u u2 p.2.1.1.2.1.1 p.2.2.1 p.2.2.2.1.1 p.2.2.2.1.2.1 p.2.2.2.1.2.2.1 p.2.2.2.2.1.1 p.2.2.2.2.1.2.1 p.2.2.2.2.2.1.1 p.2.2.2.2.2.1.2.1 p.2.2.2.2.2.2.1.1 p.2.2.2.2.2.2.1.2.1 p.2.2.2.2.2.2.2.1.1 p.2.2.2.2.2.2.2.1.2.1 p.2.2.2.2.2.2.2.1.2.2.1⟩] none 400 false (nrm Ei.c 99 [.c [1,1,1,1,0,1,0,0],.r,.c [1,1,1,1,0,1,0,1]]) (pars [35,36] (encs id Dq.elem e) (stL Et ((((),()),(((),()),()),(),(),(),(),((),(u,u2,())),()),((((),((g,()),((),()),(((),()),()),(),())),()),g2,(x,x2,x3,()),(g3,g4,()),(best,best2,()),())))) (stH Et ((((),()),(((),()),()),(),(),(),(),((),(u,u2,())),()),((((),((g,()),((),()),(((),()),()),(),())),()),g2,(x,x2,x3,()),(g3,g4,()),(best,best2,()),())))=resta_l1 N self (e::es) u u2 g g2 x x2 x3 g3 g4 best best2:=by kernel_rfl
theorem A31(N:Nat)(self:Int→Int→Int→(Qa)→(Qa)→Qg→Option Qu)(hself:A2 Tryz.prog (Ba self))(rec:(Qa)→Qg→Int→Int→Int→Int→Int→Int→Int→Option (Qa×Qg×Int×Int×Int×Int×Int×Int×Int))(u:Ql)(u2:Qa)(g':Qa)(g2':List (Ql×Qd))(x':Int)(x2':Int)(x3':Int)(g3':Int)(g4':Int)(best':Int)(best2':Int)(p':Int)(p2':Int)(y':Int)(y2':Int)(y3':Int):ev (Z:=Qa×Qg×Int×Int×Int×Int×Int×Int×Int) Tryz.prog (Mb N self hself) Hv [] [⟨[],⟨[],⟨[],[.segs [.fn 63 [] [.fz [.fe Qb],.fz [.mp 1],.fz [.fn 64 [] []],.own 0 0]],.map Qk Qc,.segs [.i .i64,.i .i64,.i .i64],.segs [.i .i64,.i .i64],.segs [.i .i64,.i .i64]]⟩⟩,fun p=>rec p.2.1.1.2.1.1 p.2.2.1 p.2.2.2.1.1 p.2.2.2.1.2.1 p.2.2.2.1.2.2.1 p.2.2.2.2.1.1 p.2.2.2.2.1.2.1 p.2.2.2.2.2.1.1 p.2.2.2.2.2.1.2.1⟩] none 400 false (nrm Ei.c 99 [.c [1,1,1,1,0,1,0,1]]) (stL Fu (((((),()),()),(),(),(),(),(),(),()),((((),((g',()),((),()),(((),()),()),(),())),()),g2',(x',x2',x3',()),(g3',g4',()),(best',best2',()),(p',p2',()),(y',y2',y3',()),()))) (stH Fu (((((),()),()),(),(),(),(),(),(),()),((((),((g',()),((),()),(((),()),()),(),())),()),g2',(x',x2',x3',()),(g3',g4',()),(best',best2',()),(p',p2',()),(y',y2',y3',()),())))=E0 N self rec u u2 g' g2' x' x2' x3' g3' g4' best' best2' p' p2' y' y2' y3':=by kernel_rfl
theorem A7q(N:Nat)(self:Int→Int→Int→(Qa)→(Qa)→Qg→Option Qu)(hself:A2 Tryz.prog (Ba self)):Gg Tryz.prog Ei.c Ei.n Ei.m0 true (Nw N self hself):=by
 refine Ld (B:=Ei) (is:=Dq) (g:=.tmp 34) (ps:=#[35,36]) (assign:=sub Aef [1,1,1,1,0,1,0,0]) (body:=sub Aef [1,1,1,1,0,1,0,1]) (Z:=Qa×Qg×Int×Int×Int×Int×Int×Int×Int) (x:=Nw N self hself) (fun p=>(p.1.2.2.2.2.2.2.1.2.1,p.1.2.2.2.2.2.2.1.2.2.1,())) (fun es p=>resta_l1 N self es p.1.2.2.2.2.2.2.1.2.1 p.1.2.2.2.2.2.2.1.2.2.1 p.2.1.1.2.1.1 p.2.2.1 p.2.2.2.1.1 p.2.2.2.1.2.1 p.2.2.2.1.2.2.1 p.2.2.2.2.1.1 p.2.2.2.2.1.2.1 p.2.2.2.2.2.1.1 p.2.2.2.2.2.1.2.1) (staA:=Fu) (fun es q p=>E0 N self (fun g_ g2_ x_ x2_ x3_ g3_ g4_ best_ best2_=>resta_l1 N self es q.2.2.2.2.2.2.1.2.1 q.2.2.2.2.2.2.1.2.2.1 g_ g2_ x_ x2_ x3_ g3_ g4_ best_ best2_) q.2.2.2.2.2.2.1.2.1 q.2.2.2.2.2.2.1.2.2.1 p.2.1.1.2.1.1 p.2.2.1 p.2.2.2.1.1 p.2.2.2.1.2.1 p.2.2.2.1.2.2.1 p.2.2.2.2.1.1 p.2.2.2.2.1.2.1 p.2.2.2.2.2.1.1 p.2.2.2.2.2.1.2.1 p.2.2.2.2.2.2.1.1 p.2.2.2.2.2.2.1.2.1 p.2.2.2.2.2.2.2.1.1 p.2.2.2.2.2.2.2.1.2.1 p.2.2.2.2.2.2.2.1.2.2.1) [] (fun e=>.inl ((((),()),(),(),(),()),((((),((e.1,()),((),()),(((),()),()),(),())),()),e.2.1,(e.2.2.1,e.2.2.2.1,e.2.2.2.2.1,()),(e.2.2.2.2.2.1,e.2.2.2.2.2.2.1,()),(e.2.2.2.2.2.2.2.1,e.2.2.2.2.2.2.2.2,()),()))) (fun _ _ _=>rfl) rfl (by kernel_rfl) (fun _=>by kernel_rfl) (by kernel_rfl) H7 (Nat.le_of_ble_eq_true (by kernel_rfl)) (by kernel_rfl) ?_ ?_ ?_ ?_
 ·exact fun z E Xc hE hX hx p hp a w hS=>ev_sound (z:=z) (B:=Ei) (loops:=[]) (leaves:=[T0]) (top:=true) (Ry N self hself) mixed trivial hE hX ⟨(fun p hp=>by obtain rfl:=Option.some.inj hp;exact hx),trivial⟩ Bf.no 400 false _ _ _ ((A3f N self hself p.1.2.2.2.2.2.2.1.2.1 p.1.2.2.2.2.2.2.1.2.2.1 p.2.1.1.2.1.1 p.2.2.1 p.2.2.2.1.1 p.2.2.2.1.2.1 p.2.2.2.1.2.2.1 p.2.2.2.2.1.1 p.2.2.2.2.1.2.1 p.2.2.2.2.2.1.1 p.2.2.2.2.2.1.2.1).trans hp) a w hS
 ·intro z E Xc hE hX hx e he q b hb a w hS
  simp only[List.not_mem_nil]at he
 ·exact fun z E Xc hE hX e es p hl hp a w hS=>ev_sound (z:=z) (B:=Hv) (loops:=[]) (leaves:=[_]) (top:=false) (Ry N self hself) mixed trivial hE hX ⟨hl,trivial⟩ Bf.no 400 false _ _ _ ((A43 N self hself e es p.1.2.2.2.2.2.2.1.2.1 p.1.2.2.2.2.2.2.1.2.2.1 p.2.1.1.2.1.1 p.2.2.1 p.2.2.2.1.1 p.2.2.2.1.2.1 p.2.2.2.1.2.2.1 p.2.2.2.2.1.1 p.2.2.2.2.1.2.1 p.2.2.2.2.2.1.1 p.2.2.2.2.2.1.2.1).trans hp) a w hS
 ·exact fun z E Xc hE hX es q he hs p hp a w hS=>ev_sound (z:=z) (B:=Hv) (loops:=[]) (leaves:=[_]) (top:=false) (Ry N self hself) mixed trivial hE hX ⟨he,trivial⟩ Bf.no 400 false _ _ _ ((A31 N self hself (fun g_ g2_ x_ x2_ x3_ g3_ g4_ best_ best2_=>resta_l1 N self es q.2.2.2.2.2.2.1.2.1 q.2.2.2.2.2.2.1.2.2.1 g_ g2_ x_ x2_ x3_ g3_ g4_ best_ best2_) q.2.2.2.2.2.2.1.2.1 q.2.2.2.2.2.2.1.2.2.1 p.2.1.1.2.1.1 p.2.2.1 p.2.2.2.1.1 p.2.2.2.1.2.1 p.2.2.2.1.2.2.1 p.2.2.2.2.1.1 p.2.2.2.2.1.2.1 p.2.2.2.2.2.1.1 p.2.2.2.2.2.1.2.1 p.2.2.2.2.2.2.1.1 p.2.2.2.2.2.2.1.2.1 p.2.2.2.2.2.2.2.1.1 p.2.2.2.2.2.2.2.1.2.1 p.2.2.2.2.2.2.2.1.2.2.1).trans hp) a w hS
theorem A04(N:Nat)(self:Int→Int→Int→(Qa)→(Qa)→Qg→Option Qu)(hself:A2 Tryz.prog (Ba self)):A2 Tryz.prog (Ba (resta_S N self)):=mkF (R:=Int×Int×Qa×Qg) (m0:=2) (Yo N self hself) [⟨Nw N self hself,A7q N self hself⟩] (fun r=>some (r.1.1.1,r.1.1.2.1,r.2.1.1.2.1.1,r.2.2.1)) [] Tryz.func63 (fun p=>by kernel_rfl) (by kernel_rfl) (fun _=>by kernel_rfl)
def Dc(N:Nat):Nat→Int→Int→Int→(Qa)→(Qa)→Qg→Option Qu
 | 0=>fun _ _ _ _ _ _=>none
 | n+1=>resta_S N (Dc N n)
theorem Y3(N:Nat):∀n,A2 Tryz.prog (Ba (Dc N n))
 | 0=>A2.none (fun _ _ _=>rfl) (fun args w=>Sem.pv_run _ _ _ (by kernel_rfl) w)
 | n+1=>A04 N (Dc N n) (Y3 N n)
noncomputable abbrev Akt(N:Nat):Spec:=Ba (Dc N N)
theorem A9r(N:Nat):A2 Tryz.prog (Akt N):=Y3 N N

def M4(N:Nat)(rest:Qa)(g:List (Ql×Qd)):Option Qg:=
 (Dc N N 0 0 0 rest rest g).bind fun(x_1,y_2,y_3,y_4)=>
 some (((0,0,0),(x_1,y_2))::y_4)
def Gm(N:Nat)(d:Qa):Option Qg:=
 M4 N d []
noncomputable def A1z(N:Nat):Oks:=[⟨_,A9r N⟩]
abbrev Wt:List StSh:=[⟨[.mp 0],[.map Qk Qc]⟩]
noncomputable abbrev Ahm:Body:=mkB Tryz.f15 Wt 0
abbrev A1j:altD Wt→Option Qg:=fun r=>some r.2.1
noncomputable def A8o(N:Nat):JnQ (Z:=Qg) Ahm true (some A1j) []:=mkJ (A1z N) [] [] ⟨[.c [1,1,1,1,0],.c [1,1,1,1,1]],⟨[5,6],⟨[.fz [.mp 1],.own 0 0],[.segs [.fn 63 [] [.fz [.fe Qb],.fz [.mp 1],.fz [.fn 64 [] []],.own 0 0]],.map Qk Qc]⟩⟩,fun p=>M4 N p.2.1.1.2.1.1 p.2.2.1⟩ (fun p=>by kernel_rfl)
noncomputable def Ahd(N:Nat):Spec:=mkS 15 ⟨[.fe Qb,.agg [.fn 64 [] []]],[]⟩ Wt (fun p=>Gm N p.1.1) (fun k r=>k (((),()),(r,())))
theorem Jn(N:Nat):A2 Tryz.prog (Ahd N):=mkF (R:=Qg) (m0:=0) (A1z N) [] (A1j) [A8o N] Tryz.func15 (fun p=>by kernel_rfl) (by kernel_rfl) (fun _=>by kernel_rfl)

def Gl(N:Nat)(d:Qa):Option Qd:=
 (Gm N d).bind fun x_1=>
 some ((((x_1.find? fun(y:Ql×Qd)=>Ty.beq Qk y.1 (0,0,0)).map (·.2)).getD (Ty.dflt Qc)).1,(((x_1.find? fun(y:Ql×Qd)=>Ty.beq Qk y.1 (0,0,0)).map (·.2)).getD (Ty.dflt Qc)).2)
noncomputable def Af8(N:Nat):Spec:=mkS 73 ⟨[.fe Qb,.agg [.fn 64 [] []]],[]⟩ [⟨[.agg [.i .i64,.i .i64]],[]⟩] (fun p=>Gl N p.1.1) (fun k r=>k (((r.1,r.2,()),()),()))
theorem Fl(N:Nat):A2 Tryz.prog (Af8 N):=mkF (R:=Int×Int) (m0:=0) [⟨_,Jn N⟩] [] (fun r=>some (r.1.1.1,r.1.1.2.1)) [] Tryz.func73 (fun p=>by kernel_rfl) (by kernel_rfl) (fun _=>by kernel_rfl)

def least_S(N:Nat)(e:List Qe)(e2:List Int)(e3 p p2:Int):Option Qd:=
 ((B5 N e e2 e3 p p2).bind fun e=>match e with
 | .inl (x_1,y_2)=>
  (br (!decide (y_2=0))
   (some (0,y_2))
   ((Eu N).bind fun _=>
   (Gl N x_1).bind fun(x_3,y_4)=>
   (Fy N x_1 x_3).bind fun x_5=>
   some (x_5,0)))
 | .inr x_6=>
  (br (!decide (x_6=0))
   (some (0,x_6))
   ((Eu N).bind fun _=>
   none)))
noncomputable def Aij(N:Nat):Spec:=mkS 25 ⟨[.agg [.sl Qf,.sl (.int .i64),.i .i64],.agg [.i .i64,.i .i64]],[]⟩ [⟨[.i .i64,.i .i64],[]⟩] (fun p=>least_S N p.1.1.1 p.1.1.2.1 p.1.1.2.2.1 p.1.2.1.1 p.1.2.1.2.1) (fun k r=>k ((r.1,r.2,()),()))
theorem La(N:Nat):A2 Tryz.prog (Aij N):=mkF (R:=Int×Int) (m0:=0) [⟨_,Ax N⟩,⟨_,I1 N⟩,⟨_,G0 N⟩,⟨_,Fl N⟩] [] (fun r=>some (r.1.1,r.1.2.1)) [] Tryz.func25 (fun p=>by kernel_rfl) (by kernel_rfl) (fun _=>by kernel_rfl)

def Jl(N:Nat)(e:List Qe)(e2:List Int)(e3 p p2:Int):Option Qd:=
 ((B5 N e e2 e3 p p2).bind fun e=>match e with
 | .inl (x_1,y_2)=>
  (br (!decide (y_2=0))
   (some (0,y_2))
   ((Eu N).bind fun _=>
   (Gl N x_1).bind fun(x_3,y_4)=>
   some (y_4,0)))
 | .inr x_5=>
  (br (!decide (x_5=0))
   (some (0,x_5))
   ((Eu N).bind fun _=>
   none)))
noncomputable def Ai0(N:Nat):Spec:=mkS 26 ⟨[.agg [.sl Qf,.sl (.int .i64),.i .i64],.agg [.i .i64,.i .i64]],[]⟩ [⟨[.i .i64,.i .i64],[]⟩] (fun p=>Jl N p.1.1.1 p.1.1.2.1 p.1.1.2.2.1 p.1.2.1.1 p.1.2.1.2.1) (fun k r=>k ((r.1,r.2,()),()))
theorem Tl(N:Nat):A2 Tryz.prog (Ai0 N):=mkF (R:=Int×Int) (m0:=0) [⟨_,Ax N⟩,⟨_,G0 N⟩,⟨_,Fl N⟩] [] (fun r=>some (r.1.1,r.1.2.1)) [] Tryz.func26 (fun p=>by kernel_rfl) (by kernel_rfl) (fun _=>by kernel_rfl)

def Gz(N:Nat)(e:List Qe)(e2:List Int)(e3 a b:Int):Option Int:=
 idx e a fun x_1=>
 idx e b fun x_2=>
 (Eu N).bind fun _=>
 (Gl N (e,e2,e3,x_1,x_2)).bind fun(x_3,y_4)=>
 (Fy N (e,e2,e3,x_1,x_2) x_3).bind fun x_5=>
 some x_5
noncomputable def Afg(N:Nat):Spec:=mkS 89 ⟨[.agg [.sl Qf,.sl (.int .i64),.i .i64],.i .i64,.i .i64],[]⟩ [⟨[.i .i64],[]⟩] (fun p=>Gz N p.1.1.1 p.1.1.2.1 p.1.1.2.2.1 p.1.2.1 p.1.2.2.1) (fun k r=>k ((r,()),()))
theorem Ja(N:Nat):A2 Tryz.prog (Afg N):=mkF (R:=Int) (m0:=0) [⟨_,I1 N⟩,⟨_,G0 N⟩,⟨_,Fl N⟩] [] (fun r=>some r.1.1) [] Tryz.func89 (fun p=>by kernel_rfl) (by kernel_rfl) (fun _=>by kernel_rfl)

def I9(N:Nat)(rec:Int→Int→Int→Int→Qj→Qe→Int→Qh→Option (Int×Int×List Qe×List Int×Int×Qh))(a b u u2:Int)(e:List Qe)(e2:List Int)(e3:Int)(out:List Qd):Option (Int×Int×List Qe×List Int×Int×Qh):=
 chk (b+1)<|
 rec a (b+1) u u2 e e2 e3 out
def epairs_l2(N:Nat):Nat→Int→Int→Int→Int→Qj→Qe→Int→Qh→Option (Int×Int×List Qe×List Int×Int×Qh)
 | 0,_,_,_,_,_,_,_,_=>none
 | n_+1,a,b,u,u2,e,e2,e3,out=>
  br (decide (b<(e.length:Int)))
   ((Gz N e e2 e3 a b).bind fun x_1=>
   br (decide (x_1≤e3))
    (lim (out.length+[(a,b)].length)<|
    I9 N (epairs_l2 N n_) a b u u2 e e2 e3 (out++[(a,b)]))
    (I9 N (epairs_l2 N n_) a b u u2 e e2 e3 out))
   (some ((u,u2,e,e2,e3,out)))
def epairs_l1(N:Nat):Nat→Int→Int→Qj→Qe→Int→Qh→Option Qh
 | 0,_,_,_,_,_,_=>none
 | n_+1,u,u2,e,e2,e3,out=>
  br (decide (u2<u))
   ((epairs_l2 N N u2 u2 u u2 e e2 e3 out).bind fun(u_2,u2_3,e_4,e2_5,e3_6,out_7)=>
   chk (u2_3+1)<|
   epairs_l1 N n_ u_2 (u2_3+1) e_4 e2_5 e3_6 out_7)
   (some (out))
def Le(N:Nat)(e:List Qe)(e2:List Int)(e3:Int):Option Qh:=
 (epairs_l1 N N (e.length:Int) 0 e e2 e3 []).bind fun out_8=>
 some out_8
noncomputable def M3(N:Nat):Oks:=[⟨_,Ja N⟩]
abbrev A97:List StSh:=[⟨[.sl Qc],[]⟩]
noncomputable abbrev Xg:Body:=mkB Tryz.f88 A97 0
abbrev R5:List PI:=[.c [1,1,0,1,0,0,1,1,0,0,1,1,0,0,0,0],.c [1,1,0,1,0,0,1,1,0,0,1,1,0,0,0,1],.c [1,1,0,1,0,0,1,1,0,0,1,1,0,0,1],.l [1,1,0,1,0,0,1,1,0,0,1,1,0,0],.b 2,.b 1,.c [1,1,0,1,0,0,1,1,1],.l [1,1,0,1,0,0],.b 0,.c [1,1,1]]
abbrev Rf:Sta:=⟨[1,3,4,5,8,9],⟨[.own 0 0,.ols 1,.i .i64,.i .i64,.i .i64,.i .i64],[.segs [.sl Qf,.sl (.int .i64),.i .i64],.lst Qc]⟩⟩
abbrev A7l(rec:Int→Int→Int→Int→Qj→Qe→Int→Qh→Option (Int×Int×List Qe×List Int×Int×Qh)):Leaf (Int×Int×List Qe×List Int×Int×Qh):=⟨R5,Rf,fun p=>rec p.1.2.2.1 p.1.2.2.2.1 p.1.2.2.2.2.1 p.1.2.2.2.2.2.1 p.2.1.1 p.2.1.2.1 p.2.1.2.2.1 p.2.2.1⟩
abbrev O8:Leaf (Int×Int×List Qe×List Int×Int×Qh):=⟨[.c [1,1,0,1,0,0,1,1,1],.l [1,1,0,1,0,0],.b 0,.c [1,1,1]],⟨[1,3,8,9],⟨[.own 0 0,.ols 1,.i .i64,.i .i64],[.segs [.sl Qf,.sl (.int .i64),.i .i64],.lst Qc]⟩⟩,fun p=>some ((p.1.2.2.1,p.1.2.2.2.1,p.2.1.1,p.2.1.2.1,p.2.1.2.2.1,p.2.2.1))⟩
noncomputable def A7i(N:Nat)(rec:Int→Int→Int→Int→Qj→Qe→Int→Qh→Option (Int×Int×List Qe×List Int×Int×Qh)){top:Bool}:JnQ (Z:=Int×Int×List Qe×List Int×Int×Qh) Xg top none [A7l rec,O8]:=mkJ (M3 N) [] [] ⟨[.c [1,1,0,1,0,0,1,1,0,0,1,1,0,0,1,1],.l [1,1,0,1,0,0,1,1,0,0,1,1,0,0],.b 2,.b 1,.c [1,1,0,1,0,0,1,1,1],.l [1,1,0,1,0,0],.b 0,.c [1,1,1]],⟨[1,3,4,5,8,9],⟨[.own 0 0,.ols 1,.i .i64,.i .i64,.i .i64,.i .i64],[.segs [.sl Qf,.sl (.int .i64),.i .i64],.lst Qc]⟩⟩,fun p=>I9 N rec p.1.2.2.1 p.1.2.2.2.1 p.1.2.2.2.2.1 p.1.2.2.2.2.2.1 p.2.1.1 p.2.1.2.1 p.2.1.2.2.1 p.2.2.1⟩ (fun p=>by kernel_rfl)
noncomputable def Td(N:Nat){top:Bool}:LpQ Xg top:=mkL (Z:=Int×Int×List Qe×List Int×Int×Qh) (M3 N) [] R5 Rf (fun m p=>epairs_l2 N m p.1.2.2.1 p.1.2.2.2.1 p.1.2.2.2.2.1 p.1.2.2.2.2.2.1 p.2.1.1 p.2.1.2.1 p.2.1.2.2.1 p.2.2.1) [O8] (fun m=>[A7i N (epairs_l2 N m)]) (fun k e=>k (.inl (((),(),e.1,e.2.1,()),((e.2.2.1,e.2.2.2.1,e.2.2.2.2.1,()),e.2.2.2.2.2,())))) N (fun m p=>by kernel_rfl)
noncomputable def A9s(N:Nat){top:Bool}:LpQ Xg top:=mkL (Z:=Qh) (M3 N) [Td N] [.c [1,1,0,1,0,0,0],.c [1,1,0,1,0,0,1],.l [1,1,0,1,0,0],.b 0,.c [1,1,1]] ⟨[1,3,8,9],⟨[.own 0 0,.ols 1,.i .i64,.i .i64],[.segs [.sl Qf,.sl (.int .i64),.i .i64],.lst Qc]⟩⟩ (fun m p=>epairs_l1 N m p.1.2.2.1 p.1.2.2.2.1 p.2.1.1 p.2.1.2.1 p.2.1.2.2.1 p.2.2.1) [⟨[.c [1,1,1,0],.c [1,1,1,1]],⟨[3],⟨[.ols 0],[.lst Qc]⟩⟩,fun p=>some (p.2.1)⟩] (fun _=>[]) (fun k e=>k (.inl (((),()),(e,())))) N (fun m p=>by kernel_rfl)
noncomputable def Agc(N:Nat):Spec:=mkS 88 ⟨[.agg [.sl Qf,.sl (.int .i64),.i .i64]],[]⟩ A97 (fun p=>Le N p.1.1.1 p.1.1.2.1 p.1.1.2.2.1) (fun k r=>k ((r,()),()))
theorem Pe(N:Nat):A2 Tryz.prog (Agc N):=mkF (R:=Qh) (m0:=0) (M3 N) [Td N,A9s N] (fun r=>some r.1.1) [] Tryz.func88 (fun p=>by kernel_rfl) (by kernel_rfl) (fun _=>by kernel_rfl)

def Jb(N:Nat)(e:List Qe)(e2:List Int)(e3:Int):Option (Qh×Int):=
 (D7 N e e2 e3).bind fun x_1=>
 br (!decide (x_1=0))
  (some ([],x_1))
  ((Le N e e2 e3).bind fun x_2=>
  some (x_2,0))
noncomputable def Akw(N:Nat):Spec:=mkS 45 ⟨[.agg [.sl Qf,.sl (.int .i64),.i .i64]],[]⟩ [⟨[.sl Qc,.i .i64],[]⟩] (fun p=>Jb N p.1.1.1 p.1.1.2.1 p.1.1.2.2.1) (fun k r=>k ((r.1,r.2,()),()))
theorem Ul(N:Nat):A2 Tryz.prog (Akw N):=mkF (R:=Qh×Int) (m0:=0) [⟨_,C0 N⟩,⟨_,Pe N⟩] [] (fun r=>some (r.1.1,r.1.2.1)) [] Tryz.func45 (fun p=>by kernel_rfl) (by kernel_rfl) (fun _=>by kernel_rfl)

def L4(N:Nat)(rec:Int→Int→Int→Qj→Qe→Int→Qe→Option Qe)(text u u2:Int)(e:List Qe)(e2:List Int)(e3:Int)(out:List Int):Option Qe:=
 chk (u2+1)<|
 rec text u (u2+1) e e2 e3 out
def with__l1(N:Nat):Nat→Int→Int→Int→Qj→Qe→Int→Qe→Option Qe
 | 0,_,_,_,_,_,_,_=>none
 | n_+1,text,u,u2,e,e2,e3,out=>
  br (decide (u2<u))
   ((Gz N e e2 e3 text u2).bind fun x_3=>
   br (decide (x_3≤e3))
    (lim (out.length+[u2].length)<|
    L4 N (with__l1 N n_) text u u2 e e2 e3 (out++[u2]))
    (L4 N (with__l1 N n_) text u u2 e e2 e3 out))
   (some (out))
def Hx(N:Nat)(e:List Qe)(e2:List Int)(e3 text:Int):Option (List Int×Int):=
 (D7 N e e2 e3).bind fun x_1=>
 br (!decide (x_1=0))
  (some ([],x_1))
  ((Sf N e e2 e3 text).bind fun x_2=>
  br (!x_2)
   (some ([],1))
   ((with__l1 N N text (e.length:Int) 0 e e2 e3 []).bind fun out_4=>
   some (out_4,0)))
noncomputable def Wn(N:Nat):Oks:=[⟨_,Xs N⟩,⟨_,C0 N⟩,⟨_,Ja N⟩]
abbrev Ad9:List StSh:=[⟨[.sl (.int .i64),.i .i64],[]⟩]
noncomputable abbrev Adj:Body:=mkB Tryz.f47 Ad9 0
abbrev T9:List PI:=[.c [1,1,1,1,0,1,0,0,0],.c [1,1,1,1,0,1,0,0,1],.l [1,1,1,1,0,1,0,0],.b 0,.c [1,1,1,1,1]]
abbrev Ut:Sta:=⟨[1,2,7,20,21],⟨[.i .i64,.own 0 0,.ols 1,.i .i64,.i .i64],[.segs [.sl Qf,.sl (.int .i64),.i .i64],.lst (.int .i64)]⟩⟩
abbrev Acu(rec:Int→Int→Int→Qj→Qe→Int→Qe→Option Qe):Leaf Qe:=⟨T9,Ut,fun p=>rec p.1.1 p.1.2.2.2.1 p.1.2.2.2.2.1 p.2.1.1 p.2.1.2.1 p.2.1.2.2.1 p.2.2.1⟩
abbrev Uo:Leaf Qe:=⟨[.c [1,1,1,1,1,0],.c [1,1,1,1,1,1]],⟨[7],⟨[.ols 0],[.lst (.int .i64)]⟩⟩,fun p=>some (p.2.1)⟩
noncomputable def Aa4(N:Nat)(rec:Int→Int→Int→Qj→Qe→Int→Qe→Option Qe){top:Bool}:JnQ (Z:=List Int) Adj top none [Acu rec,Uo]:=mkJ (Wn N) [] [] ⟨[.c [1,1,1,1,0,1,0,0,1,1,1],.l [1,1,1,1,0,1,0,0],.b 0,.c [1,1,1,1,1]],⟨[1,2,7,20,21],⟨[.i .i64,.own 0 0,.ols 1,.i .i64,.i .i64],[.segs [.sl Qf,.sl (.int .i64),.i .i64],.lst (.int .i64)]⟩⟩,fun p=>L4 N rec p.1.1 p.1.2.2.2.1 p.1.2.2.2.2.1 p.2.1.1 p.2.1.2.1 p.2.1.2.2.1 p.2.2.1⟩ (fun p=>by kernel_rfl)
noncomputable def Aah(N:Nat){top:Bool}:LpQ Adj top:=mkL (Z:=List Int) (Wn N) [] T9 Ut (fun m p=>with__l1 N m p.1.1 p.1.2.2.2.1 p.1.2.2.2.2.1 p.2.1.1 p.2.1.2.1 p.2.1.2.2.1 p.2.2.1) [Uo] (fun m=>[Aa4 N (with__l1 N m)]) (fun k e=>k (.inl (((),()),(e,())))) N (fun m p=>by kernel_rfl)
noncomputable def Ajh(N:Nat):Spec:=mkS 47 ⟨[.agg [.sl Qf,.sl (.int .i64),.i .i64],.i .i64],[]⟩ Ad9 (fun p=>Hx N p.1.1.1 p.1.1.2.1 p.1.1.2.2.1 p.1.2.1) (fun k r=>k ((r.1,r.2,()),()))
theorem A6c(N:Nat):A2 Tryz.prog (Ajh N):=mkF (R:=List Int×Int) (m0:=0) (Wn N) [Aah N] (fun r=>some (r.1.1,r.1.2.1)) [] Tryz.func47 (fun p=>by kernel_rfl) (by kernel_rfl) (fun _=>by kernel_rfl)

def H6(N:Nat)(rec:Int→Int→Int→Int→Int→Qj→Qe→Int→Int→Int→Int→Int→Option Qp)(least a b u u2:Int)(e:List Qe)(e2:List Int)(e3 g g2 best best2:Int):Option Qp:=
 chk (b+1)<|
 rec least a (b+1) u u2 e e2 e3 g g2 best best2
def closest_l2(N:Nat):Nat→Int→Int→Int→Int→Int→Qj→Qe→Int→Int→Int→Int→Int→Option Qp
 | 0,_,_,_,_,_,_,_,_,_,_,_,_=>none
 | n_+1,least,a,b,u,u2,e,e2,e3,g,g2,best,best2=>
  br (decide (b<(e.length:Int)))
   ((Gz N e e2 e3 a b).bind fun x_3=>
   br (decide (x_3<least))
    (H6 N (closest_l2 N n_) x_3 a b u u2 e e2 e3 g g2 a b)
    (H6 N (closest_l2 N n_) least a b u u2 e e2 e3 g g2 best best2))
   (some ((least,u,u2,e,e2,e3,g,g2,best,best2)))
def closest_l1(N:Nat):Nat→Int→Int→Int→Qj→Qe→Int→Int→Int→Int→Int→Option (Int×Int×Int×Int×Int)
 | 0,_,_,_,_,_,_,_,_,_,_=>none
 | n_+1,least,u,u2,e,e2,e3,g,g2,best,best2=>
  br (decide (u2<u))
   ((closest_l2 N N least u2 u2 u u2 e e2 e3 g g2 best best2).bind fun(least_4,u_5,u2_6,e_7,e2_8,e3_9,g_10,g2_11,best_12,best2_13)=>
   chk (u2_6+1)<|
   closest_l1 N n_ least_4 u_5 (u2_6+1) e_7 e2_8 e3_9 g_10 g2_11 best_12 best2_13)
   (some ((least,g,g2,best,best2)))
def G8(N:Nat)(e:List Qe)(e2:List Int)(e3:Int):Option (Int×Int×Int×Int):=
 (D7 N e e2 e3).bind fun x_1=>
 br (!decide (x_1=0))
  (some (0,0,0,x_1))
  ((Gz N e e2 e3 0 0).bind fun x_2=>
  (closest_l1 N N x_2 (e.length:Int) 0 e e2 e3 0 0 0 0).bind fun(least_14,g_15,g2_16,best_17,best2_18)=>
  some (best_17,best2_18,least_14,0))
noncomputable def Jp(N:Nat):Oks:=[⟨_,C0 N⟩,⟨_,Ja N⟩]
abbrev A1r:List StSh:=[⟨[.agg [.i .i64,.i .i64],.i .i64,.i .i64],[]⟩]
noncomputable abbrev Rt:Body:=mkB Tryz.f52 A1r 0
abbrev Nb:List PI:=[.c [1,1,1,0,1,0,0,1,1,0,0,1,1,0,0,0,0],.c [1,1,1,0,1,0,0,1,1,0,0,1,1,0,0,0,1],.c [1,1,1,0,1,0,0,1,1,0,0,1,1,0,0,1],.l [1,1,1,0,1,0,0,1,1,0,0,1,1,0,0],.b 2,.b 1,.c [1,1,1,0,1,0,0,1,1,1],.l [1,1,1,0,1,0,0],.b 0,.c [1,1,1,1]]
abbrev N8:Sta:=⟨[1,2,6,7,8,9,22,23],⟨[.own 0 0,.own 1 0,.own 2 0,.i .i64,.i .i64,.i .i64,.i .i64,.i .i64],[.segs [.sl Qf,.sl (.int .i64),.i .i64],.segs [.i .i64,.i .i64],.segs [.i .i64,.i .i64]]⟩⟩
abbrev A2s(rec:Int→Int→Int→Int→Int→Qj→Qe→Int→Int→Int→Int→Int→Option Qp):Leaf Qp:=⟨Nb,N8,fun p=>rec p.1.2.2.2.1 p.1.2.2.2.2.1 p.1.2.2.2.2.2.1 p.1.2.2.2.2.2.2.1 p.1.2.2.2.2.2.2.2.1 p.2.1.1 p.2.1.2.1 p.2.1.2.2.1 p.2.2.1.1 p.2.2.1.2.1 p.2.2.2.1.1 p.2.2.2.1.2.1⟩
abbrev N9:Leaf Qp:=⟨[.c [1,1,1,0,1,0,0,1,1,1],.l [1,1,1,0,1,0,0],.b 0,.c [1,1,1,1]],⟨[1,2,6,7,22,23],⟨[.own 0 0,.own 1 0,.own 2 0,.i .i64,.i .i64,.i .i64],[.segs [.sl Qf,.sl (.int .i64),.i .i64],.segs [.i .i64,.i .i64],.segs [.i .i64,.i .i64]]⟩⟩,fun p=>some ((p.1.2.2.2.1,p.1.2.2.2.2.1,p.1.2.2.2.2.2.1,p.2.1.1,p.2.1.2.1,p.2.1.2.2.1,p.2.2.1.1,p.2.2.1.2.1,p.2.2.2.1.1,p.2.2.2.1.2.1))⟩
noncomputable def A4k(N:Nat)(rec:Int→Int→Int→Int→Int→Qj→Qe→Int→Int→Int→Int→Int→Option Qp){top:Bool}:JnQ (Z:=Int×Int×Int×List Qe×List Int×Int×Int×Int×Int×Int) Rt top none [A2s rec,N9]:=mkJ (Jp N) [] [] ⟨[.c [1,1,1,0,1,0,0,1,1,0,0,1,1,0,0,1,1],.l [1,1,1,0,1,0,0,1,1,0,0,1,1,0,0],.b 2,.b 1,.c [1,1,1,0,1,0,0,1,1,1],.l [1,1,1,0,1,0,0],.b 0,.c [1,1,1,1]],⟨[1,2,6,7,8,9,22,23],⟨[.own 0 0,.own 1 0,.own 2 0,.i .i64,.i .i64,.i .i64,.i .i64,.i .i64],[.segs [.sl Qf,.sl (.int .i64),.i .i64],.segs [.i .i64,.i .i64],.segs [.i .i64,.i .i64]]⟩⟩,fun p=>H6 N rec p.1.2.2.2.1 p.1.2.2.2.2.1 p.1.2.2.2.2.2.1 p.1.2.2.2.2.2.2.1 p.1.2.2.2.2.2.2.2.1 p.2.1.1 p.2.1.2.1 p.2.1.2.2.1 p.2.2.1.1 p.2.2.1.2.1 p.2.2.2.1.1 p.2.2.2.1.2.1⟩ (fun p=>by kernel_rfl)
noncomputable def Ov(N:Nat){top:Bool}:LpQ Rt top:=mkL (Z:=Int×Int×Int×List Qe×List Int×Int×Int×Int×Int×Int) (Jp N) [] Nb N8 (fun m p=>closest_l2 N m p.1.2.2.2.1 p.1.2.2.2.2.1 p.1.2.2.2.2.2.1 p.1.2.2.2.2.2.2.1 p.1.2.2.2.2.2.2.2.1 p.2.1.1 p.2.1.2.1 p.2.1.2.2.1 p.2.2.1.1 p.2.2.1.2.1 p.2.2.2.1.1 p.2.2.2.1.2.1) [N9] (fun m=>[A4k N (closest_l2 N m)]) (fun k e=>k (.inl (((),(),(),e.1,e.2.1,e.2.2.1,()),((e.2.2.2.1,e.2.2.2.2.1,e.2.2.2.2.2.1,()),(e.2.2.2.2.2.2.1,e.2.2.2.2.2.2.2.1,()),(e.2.2.2.2.2.2.2.2.1,e.2.2.2.2.2.2.2.2.2,()),())))) N (fun m p=>by kernel_rfl)
noncomputable def A3m(N:Nat){top:Bool}:LpQ Rt top:=mkL (Z:=Int×Int×Int×Int×Int) (Jp N) [Ov N] [.c [1,1,1,0,1,0,0,0],.c [1,1,1,0,1,0,0,1],.l [1,1,1,0,1,0,0],.b 0,.c [1,1,1,1]] ⟨[1,2,6,7,22,23],⟨[.own 0 0,.own 1 0,.own 2 0,.i .i64,.i .i64,.i .i64],[.segs [.sl Qf,.sl (.int .i64),.i .i64],.segs [.i .i64,.i .i64],.segs [.i .i64,.i .i64]]⟩⟩ (fun m p=>closest_l1 N m p.1.2.2.2.1 p.1.2.2.2.2.1 p.1.2.2.2.2.2.1 p.2.1.1 p.2.1.2.1 p.2.1.2.2.1 p.2.2.1.1 p.2.2.1.2.1 p.2.2.2.1.1 p.2.2.2.1.2.1) [⟨[.c [1,1,1,1,0],.c [1,1,1,1,1]],⟨[2,6,7],⟨[.own 0 0,.own 1 0,.i .i64],[.segs [.i .i64,.i .i64],.segs [.i .i64,.i .i64]]⟩⟩,fun p=>some ((p.1.2.2.1,p.2.1.1,p.2.1.2.1,p.2.2.1.1,p.2.2.1.2.1))⟩] (fun _=>[]) (fun k e=>k (.inl (((),(),e.1,()),((e.2.1,e.2.2.1,()),(e.2.2.2.1,e.2.2.2.2,()),())))) N (fun m p=>by kernel_rfl)
noncomputable def Aat(N:Nat):Spec:=mkS 52 ⟨[.agg [.sl Qf,.sl (.int .i64),.i .i64]],[]⟩ A1r (fun p=>G8 N p.1.1.1 p.1.1.2.1 p.1.1.2.2.1) (fun k r=>k (((r.1,r.2.1,()),r.2.2.1,r.2.2.2,()),()))
theorem A07(N:Nat):A2 Tryz.prog (Aat N):=mkF (R:=Int×Int×Int×Int) (m0:=0) (Jp N) [Ov N,A3m N] (fun r=>some (r.1.1.1,r.1.1.2.1,r.1.2.1,r.1.2.2.1)) [] Tryz.func52 (fun p=>by kernel_rfl) (by kernel_rfl) (fun _=>by kernel_rfl)

def Js(N:Nat)(u u2:Int)(d:Qa)(words:Int)(u3:List Qd)(u4 u5:Int)(u6:Ql)(u7:Qa)(g_ g2_ g3_ g4_ g5_:Int)(g6_:Bool):Option Qq:=
 some ((u,u2,d,words,u3,u4,u5,g_,g2_,g3_,g4_,g5_,g6_))
def Ht(N:Nat)(rec:Int→Int→Int→Int→Int→Bool→Option Qq)(u u2:Int)(d:Qa)(words:Int)(u3:List Qd)(u4 u5:Int)(u6:Ql)(u7:Qa)(u' u2' x' x2' x3' q' q2':Int)(is':Bool)(o' o2' y' y2' y3':Int):Option Qq:=
 br (decide (o'=q')&&decide (o2'=q2'))
  (some ((u,u2,d,words,u3,u4,u5,y',y2',y3',q',q2',true)))
  (rec x' x2' x3' q' q2' is')
def Bx(N:Nat):List Move→Int→Int→(Qa)→Int→Qh→Int→Int→(Ql)→(Qa)→Int→Int→Int→Int→Int→Bool→Option Qq
 | [],u,u2,d,words,u3,u4,u5,u6,u7,x,x2,x3,q,q2,is=>
  some ((u,u2,d,words,u3,u4,u5,x,x2,x3,q,q2,is))
 | e::es,u,u2,d,words,u3,u4,u5,u6,u7,x,x2,x3,q,q2,is=>
  Ht N (fun x_ x2_ x3_ q_ q2_ is_=>Bx N es u u2 d words u3 u4 u5 u6 u7 x_ x2_ x3_ q_ q2_ is_) u u2 d words u3 u4 u5 u6 u7 u u2 x x2 x3 q q2 is e.1.1 e.1.2.1 e.2.1.1 e.2.1.2.1 e.2.1.2.2.1
def Io(N:Nat)(rec:Int→Int→(Qa)→Int→Qh→Int→Int→Int→Int→Int→Option ((Unit)⊕(Qa×Int)))(u u2:Int)(d:Qa)(words:Int)(u3:List Qd)(u4 u5 x x2 x3:Int):Option ((Unit)⊕(Qa×Int)):=
 chk (u5+1)<|
 rec u u2 d words u3 u4 (u5+1) x x2 x3
def faults_l1(N:Nat):Nat→Int→Int→(Qa)→Int→Qh→Int→Int→Int→Int→Int→Option ((Unit)⊕(Qa×Int))
 | 0,_,_,_,_,_,_,_,_,_,_=>none
 | n_+1,u,u2,d,words,u3,u4,u5,x,x2,x3=>
  br (decide (u5<u4))
   (idx u3 u5 fun x_3=>
   (Gk N d x x2 x3).bind fun(x_4,y_5)=>
   ((D3 x_4 y_5).bind fun es=>Bx N es u u2 d words u3 u4 u5 x_4 y_5 x x2 x3 x_3.1 x_3.2 false).bind fun(u_6,u2_7,d_8,words_9,u3_10,u4_11,u5_12,x_13,x2_14,x3_15,q_16,q2_17,is_18)=>
   br (!is_18)
    (some (.inl ()))
    (br (!decide (q_16=3))
     (chk (words_9+1)<|
     Io N (faults_l1 N n_) u_6 u2_7 d_8 (words_9+1) u3_10 u4_11 u5_12 x_13 x2_14 x3_15)
     (Io N (faults_l1 N n_) u_6 u2_7 d_8 words_9 u3_10 u4_11 u5_12 x_13 x2_14 x3_15)))
   (some (.inr (d,words)))
def faults_S(N:Nat)(e:List Qe)(e2:List Int)(e3 p p2:Int)(reading:List Qd):Option Qd:=
 ((B5 N e e2 e3 p p2).bind fun e=>match e with
 | .inl (x_1,y_2)=>
  (br (!decide (y_2=0))
   (some (0,y_2))
   (br (!decide ((reading.length:Int)=(e2.length:Int)))
    (some (0,2))
    ((faults_l1 N N 0 0 x_1 0 reading (reading.length:Int) 0 0 0 0).bind fun e=>match e with
    | .inl _=>
     some (0,8)
    | .inr (d_19,words_20)=>
     (Fy N d_19 words_20).bind fun x_21=>
     some (x_21,0))))
 | .inr x_22=>
  (br (!decide (x_22=0))
   (some (0,x_22))
   (br (!decide ((reading.length:Int)=(e2.length:Int)))
    (some (0,2))
    (none))))
noncomputable def Iu(N:Nat):Oks:=[⟨_,Ax N⟩,⟨_,H9 N⟩,⟨_,I1 N⟩]
abbrev Wz:List StSh:=[⟨[.i .i64,.i .i64],[]⟩]
noncomputable abbrev Bj:Body:=mkB Tryz.f68 Wz 0
noncomputable def Gq(N:Nat):List Spec:=(Iu N).map (·.1)
theorem J7(N:Nat):AllP (A2 Tryz.prog) (Gq N):=allP_map (Iu N)
noncomputable def A70:Code:=Bj.c
abbrev C4:Sta:=⟨[6,7,8,10,11,13,14,35,36,37,43],⟨[.i .i64,.i .i64,.fe Qb,.own 0 0,.i .i64,.own 1 0,.own 2 0,.sl Qc,.i .i64,.i .i64,.fn 65 [] [.fe Qk,.fe (.ptr Qb)]],[.segs [.i .i64,.i .i64,.i .i64],.segs [.i .i64,.i .i64],.segs [.b]]⟩⟩
abbrev Em:Sta:=⟨[6,7,10,13,14,15,16],⟨[.i .i64,.i .i64,.own 0 0,.own 1 0,.own 2 0,.own 3 0,.own 4 0],[.segs [.i .i64,.i .i64,.i .i64],.segs [.i .i64,.i .i64],.segs [.b],.segs [.i .i64,.i .i64],.segs [.i .i64,.i .i64,.i .i64]]⟩⟩
abbrev Fw:Leaf Qq:=⟨[.c [1,1,1,1,0,1,0,0,1,1,0,0,1,1,1,0,0],.c [1,1,1,1,0,1,0,0,1,1,0,0,1,1,1,0,1],.c [1,1,1,1,0,1,0,0,1,1,0,0,1,1,1,1],.b 2,.c [1,1,1,1,0,1,0,0,1,1,1],.l [1,1,1,1,0,1,0,0],.b 1,.c [1,1,1,1,1]],⟨[6,7,8,10,11,13,14,35,36,37],⟨[.i .i64,.i .i64,.fe Qb,.own 0 0,.i .i64,.own 1 0,.own 2 0,.sl Qc,.i .i64,.i .i64],[.segs [.i .i64,.i .i64,.i .i64],.segs [.i .i64,.i .i64],.segs [.b]]⟩⟩,fun p=>some ((p.1.1,p.1.2.1,p.1.2.2.1,p.1.2.2.2.2.1,p.1.2.2.2.2.2.2.2.1,p.1.2.2.2.2.2.2.2.2.1,p.1.2.2.2.2.2.2.2.2.2.1,p.2.1.1,p.2.1.2.1,p.2.1.2.2.1,p.2.2.1.1,p.2.2.1.2.1,p.2.2.2.1.1))⟩
noncomputable def Ew(N:Nat):Hs:={ at_:=[.c [1,1,1,1,0,1,0,0,1,1,0,0,1,1,0,1,0],.b 3,.c [1,1,1,1,0,1,0,0,1,1,0,0,1,1,1],.b 2,.c [1,1,1,1,0,1,0,0,1,1,1],.l [1,1,1,1,0,1,0,0],.b 1,.c [1,1,1,1,1]],sta:=C4,exits:=[([.c [1,1,1,1,0,1,0,0,1,1,0,0,1,1,1,0,0],.c [1,1,1,1,0,1,0,0,1,1,0,0,1,1,1,0,1],.c [1,1,1,1,0,1,0,0,1,1,0,0,1,1,1,1],.b 2,.c [1,1,1,1,0,1,0,0,1,1,1],.l [1,1,1,1,0,1,0,0],.b 1,.c [1,1,1,1,1]],⟨[6,7,8,10,11,13,14,35,36,37],⟨[.i .i64,.i .i64,.fe Qb,.own 0 0,.i .i64,.own 1 0,.own 2 0,.sl Qc,.i .i64,.i .i64],[.segs [.i .i64,.i .i64,.i .i64],.segs [.i .i64,.i .i64],.segs [.b]]⟩⟩)],run:=fun p k=>((D3 p.1.2.2.2.2.2.2.2.2.2.2.1.2.1 p.1.2.2.2.2.2.2.2.2.2.2.1.2.2.1).bind fun es=>Bx N es p.1.1 p.1.2.1 p.1.2.2.1 p.1.2.2.2.2.1 p.1.2.2.2.2.2.2.2.1 p.1.2.2.2.2.2.2.2.2.1 p.1.2.2.2.2.2.2.2.2.2.1 p.1.2.2.2.2.2.2.2.2.2.2.1.2.1 p.1.2.2.2.2.2.2.2.2.2.2.1.2.2.1 p.2.1.1 p.2.1.2.1 p.2.1.2.2.1 p.2.2.1.1 p.2.2.1.2.1 p.2.2.2.1.1).bind fun e=>k (.inl ((e.1,e.2.1,e.2.2.1,(),e.2.2.2.1,(),(),e.2.2.2.2.1,e.2.2.2.2.2.1,e.2.2.2.2.2.2.1,()),((e.2.2.2.2.2.2.2.1,e.2.2.2.2.2.2.2.2.1,e.2.2.2.2.2.2.2.2.2.1,()),(e.2.2.2.2.2.2.2.2.2.2.1,e.2.2.2.2.2.2.2.2.2.2.2.1,()),(e.2.2.2.2.2.2.2.2.2.2.2.2,()),()))) }
noncomputable abbrev Fp:Body:=mkB Tryz.f68 Wz 3
theorem A0j(N:Nat)(u:Int)(u2:Int)(d:Qa)(words:Int)(u3:List Qd)(u4:Int)(u5:Int)(u6:Ql)(u7:Qa)(x:Int)(x2:Int)(x3:Int)(q:Int)(q2:Int)(is:Bool):ev (Z:=Int×Int×Qa×Int×Qh×Int×Int×Int×Int×Int×Int×Int×Bool) Tryz.prog (Gq N) Bj [] [Fw] none 400 false (nrm Bj.c 99 [.b 3,.c [1,1,1,1,0,1,0,0,1,1,0,0,1,1,1],.b 2,.c [1,1,1,1,0,1,0,0,1,1,1],.l [1,1,1,1,0,1,0,0],.b 1,.c [1,1,1,1,1]]) (stL C4 ((u,u2,d,(),words,(),(),u3,u4,u5,((),(u6,u7,())),()),((x,x2,x3,()),(q,q2,()),(is,()),()))) (stH C4 ((u,u2,d,(),words,(),(),u3,u4,u5,((),(u6,u7,())),()),((x,x2,x3,()),(q,q2,()),(is,()),())))=Bx N [] u u2 d words u3 u4 u5 u6 u7 x x2 x3 q q2 is:=by kernel_rfl
theorem A09(N:Nat)(e:Move)(es:List Move)(u:Int)(u2:Int)(d:Qa)(words:Int)(u3:List Qd)(u4:Int)(u5:Int)(u6:Ql)(u7:Qa)(x:Int)(x2:Int)(x3:Int)(q:Int)(q2:Int)(is:Bool):ev (Z:=Int×Int×Qa×Int×Qh×Int×Int×Int×Int×Int×Int×Int×Bool) Tryz.prog (Gq N) Fp [] [⟨[.r,.c [1,1,1,1,0,1,0,0,1,1,0,0,1,1,0,1,0,1]],Em,fun p=>Ht N (fun x_ x2_ x3_ q_ q2_ is_=>Bx N es u u2 d words u3 u4 u5 u6 u7 x_ x2_ x3_ q_ q2_ is_) u u2 d words u3 u4 u5 u6 u7 p.1.1 p.1.2.1 p.2.1.1 p.2.1.2.1 p.2.1.2.2.1 p.2.2.1.1 p.2.2.1.2.1 p.2.2.2.1.1 p.2.2.2.2.1.1 p.2.2.2.2.1.2.1 p.2.2.2.2.2.1.1 p.2.2.2.2.2.1.2.1 p.2.2.2.2.2.1.2.2.1⟩] none 400 false (nrm Bj.c 99 [.c [1,1,1,1,0,1,0,0,1,1,0,0,1,1,0,1,0,0],.r,.c [1,1,1,1,0,1,0,0,1,1,0,0,1,1,0,1,0,1]]) (pars [44,45] (encs id Dq.elem e) (stL C4 ((u,u2,d,(),words,(),(),u3,u4,u5,((),(u6,u7,())),()),((x,x2,x3,()),(q,q2,()),(is,()),())))) (stH C4 ((u,u2,d,(),words,(),(),u3,u4,u5,((),(u6,u7,())),()),((x,x2,x3,()),(q,q2,()),(is,()),())))=Bx N (e::es) u u2 d words u3 u4 u5 u6 u7 x x2 x3 q q2 is:=by kernel_rfl
theorem A00(N:Nat)(rec:Int→Int→Int→Int→Int→Bool→Option Qq)(u:Int)(u2:Int)(d:Qa)(words:Int)(u3:List Qd)(u4:Int)(u5:Int)(u6:Ql)(u7:Qa)(u':Int)(u2':Int)(x':Int)(x2':Int)(x3':Int)(q':Int)(q2':Int)(is':Bool)(o':Int)(o2':Int)(y':Int)(y2':Int)(y3':Int):ev (Z:=Int×Int×Qa×Int×Qh×Int×Int×Int×Int×Int×Int×Int×Bool) Tryz.prog (Gq N) Fp [] [⟨[],⟨[],⟨[],[.segs [.i .i64,.i .i64,.i .i64],.segs [.i .i64,.i .i64],.segs [.b]]⟩⟩,fun p=>rec p.2.1.1 p.2.1.2.1 p.2.1.2.2.1 p.2.2.1.1 p.2.2.1.2.1 p.2.2.2.1.1⟩,⟨[.c [1,1,1,1,0,1,0,0,1,1,0,0,1,1,0,1,0,1,0,1,0,1],.b 4],⟨[],⟨[],[.segs [.i .i64,.i .i64,.i .i64],.segs [.i .i64,.i .i64],.segs [.b]]⟩⟩,fun p=>Js N u u2 d words u3 u4 u5 u6 u7 p.2.1.1 p.2.1.2.1 p.2.1.2.2.1 p.2.2.1.1 p.2.2.1.2.1 p.2.2.2.1.1⟩] none 400 false (nrm Bj.c 99 [.c [1,1,1,1,0,1,0,0,1,1,0,0,1,1,0,1,0,1]]) (stL Em ((u',u2',(),(),(),(),(),()),((x',x2',x3',()),(q',q2',()),(is',()),(o',o2',()),(y',y2',y3',()),()))) (stH Em ((u',u2',(),(),(),(),(),()),((x',x2',x3',()),(q',q2',()),(is',()),(o',o2',()),(y',y2',y3',()),())))=Ht N rec u u2 d words u3 u4 u5 u6 u7 u' u2' x' x2' x3' q' q2' is' o' o2' y' y2' y3':=by kernel_rfl
theorem Wy(N:Nat)(u:Int)(u2:Int)(d:Qa)(words:Int)(u3:List Qd)(u4:Int)(u5:Int)(u6:Ql)(u7:Qa)(g_:Int)(g2_:Int)(g3_:Int)(g4_:Int)(g5_:Int)(g6_:Bool):ev (Z:=Int×Int×Qa×Int×Qh×Int×Int×Int×Int×Int×Int×Int×Bool) Tryz.prog (Gq N) Bj [] [Fw] none 400 false (nrm Bj.c 99 (.c [1,1,1,1,0,1,0,0,1,1,0,0,1,1,0,1,0,1,0,1,0,1]::[.b 3,.c [1,1,1,1,0,1,0,0,1,1,0,0,1,1,1],.b 2,.c [1,1,1,1,0,1,0,0,1,1,1],.l [1,1,1,1,0,1,0,0],.b 1,.c [1,1,1,1,1]])) (C4.tmps.zip (encs id C4.sh.avs (u,u2,d,(),words,(),(),u3,u4,u5,((),(u6,u7,())),()))) (encBs id [.segs [.i .i64,.i .i64,.i .i64],.segs [.i .i64,.i .i64],.segs [.b]] ((g_,g2_,g3_,()),(g4_,g5_,()),(g6_,()),()))=Js N u u2 d words u3 u4 u5 u6 u7 g_ g2_ g3_ g4_ g5_ g6_:=by kernel_rfl
theorem J4(N:Nat):Gg Tryz.prog Bj.c Bj.n Bj.m0 true (Ew N):=by
 refine Ld (B:=Bj) (is:=Dq) (g:=.tmp 43) (ps:=#[44,45]) (assign:=sub A70 [1,1,1,1,0,1,0,0,1,1,0,0,1,1,0,1,0,0]) (body:=sub A70 [1,1,1,1,0,1,0,0,1,1,0,0,1,1,0,1,0,1]) (Z:=Int×Int×Qa×Int×Qh×Int×Int×Int×Int×Int×Int×Int×Bool) (x:=Ew N) (fun p=>(p.1.2.2.2.2.2.2.2.2.2.2.1.2.1,p.1.2.2.2.2.2.2.2.2.2.2.1.2.2.1,())) (fun es p=>Bx N es p.1.1 p.1.2.1 p.1.2.2.1 p.1.2.2.2.2.1 p.1.2.2.2.2.2.2.2.1 p.1.2.2.2.2.2.2.2.2.1 p.1.2.2.2.2.2.2.2.2.2.1 p.1.2.2.2.2.2.2.2.2.2.2.1.2.1 p.1.2.2.2.2.2.2.2.2.2.2.1.2.2.1 p.2.1.1 p.2.1.2.1 p.2.1.2.2.1 p.2.2.1.1 p.2.2.1.2.1 p.2.2.2.1.1) (staA:=Em) (fun es q p=>Ht N (fun x_ x2_ x3_ q_ q2_ is_=>Bx N es q.1 q.2.1 q.2.2.1 q.2.2.2.2.1 q.2.2.2.2.2.2.2.1 q.2.2.2.2.2.2.2.2.1 q.2.2.2.2.2.2.2.2.2.1 q.2.2.2.2.2.2.2.2.2.2.1.2.1 q.2.2.2.2.2.2.2.2.2.2.1.2.2.1 x_ x2_ x3_ q_ q2_ is_) q.1 q.2.1 q.2.2.1 q.2.2.2.2.1 q.2.2.2.2.2.2.2.1 q.2.2.2.2.2.2.2.2.1 q.2.2.2.2.2.2.2.2.2.1 q.2.2.2.2.2.2.2.2.2.2.1.2.1 q.2.2.2.2.2.2.2.2.2.2.1.2.2.1 p.1.1 p.1.2.1 p.2.1.1 p.2.1.2.1 p.2.1.2.2.1 p.2.2.1.1 p.2.2.1.2.1 p.2.2.2.1.1 p.2.2.2.2.1.1 p.2.2.2.2.1.2.1 p.2.2.2.2.2.1.1 p.2.2.2.2.2.1.2.1 p.2.2.2.2.2.1.2.2.1) [⟨[1,1,1,1,0,1,0,0,1,1,0,0,1,1,0,1,0,1,0,1,0,1],[.b 4],[.segs [.i .i64,.i .i64,.i .i64],.segs [.i .i64,.i .i64],.segs [.b]],fun q b=>Js N q.1 q.2.1 q.2.2.1 q.2.2.2.2.1 q.2.2.2.2.2.2.2.1 q.2.2.2.2.2.2.2.2.1 q.2.2.2.2.2.2.2.2.2.1 q.2.2.2.2.2.2.2.2.2.2.1.2.1 q.2.2.2.2.2.2.2.2.2.2.1.2.2.1 ((),b).2.1.1 ((),b).2.1.2.1 ((),b).2.1.2.2.1 ((),b).2.2.1.1 ((),b).2.2.1.2.1 ((),b).2.2.2.1.1⟩] (fun e=>.inl ((e.1,e.2.1,e.2.2.1,(),e.2.2.2.1,(),(),e.2.2.2.2.1,e.2.2.2.2.2.1,e.2.2.2.2.2.2.1,()),((e.2.2.2.2.2.2.2.1,e.2.2.2.2.2.2.2.2.1,e.2.2.2.2.2.2.2.2.2.1,()),(e.2.2.2.2.2.2.2.2.2.2.1,e.2.2.2.2.2.2.2.2.2.2.2.1,()),(e.2.2.2.2.2.2.2.2.2.2.2.2,()),()))) (fun _ _ _=>rfl) rfl (by kernel_rfl) (fun _=>by kernel_rfl) (by kernel_rfl) H7 (Nat.le_of_ble_eq_true (by kernel_rfl)) (by kernel_rfl) ?_ ?_ ?_ ?_
 ·exact fun z E Xc hE hX hx p hp a w hS=>ev_sound (z:=z) (B:=Bj) (loops:=[]) (leaves:=[Fw]) (top:=true) (J7 N) mixed trivial hE hX ⟨(fun p hp=>by obtain rfl:=Option.some.inj hp;exact hx),trivial⟩ Bf.no 400 false _ _ _ ((A0j N p.1.1 p.1.2.1 p.1.2.2.1 p.1.2.2.2.2.1 p.1.2.2.2.2.2.2.2.1 p.1.2.2.2.2.2.2.2.2.1 p.1.2.2.2.2.2.2.2.2.2.1 p.1.2.2.2.2.2.2.2.2.2.2.1.2.1 p.1.2.2.2.2.2.2.2.2.2.2.1.2.2.1 p.2.1.1 p.2.1.2.1 p.2.1.2.2.1 p.2.2.1.1 p.2.2.1.2.1 p.2.2.2.1.1).trans hp) a w hS
 ·intro z E Xc hE hX hx e he q b hb a w hS
  simp only[List.mem_cons,List.not_mem_nil,or_false]at he
  rcases he with rfl
  ·exact ev_sound (z:=z) (B:=Bj) (loops:=[]) (leaves:=[Fw]) (top:=true) (J7 N) mixed trivial hE hX ⟨(fun p hp=>by obtain rfl:=Option.some.inj hp;exact hx),trivial⟩ Bf.no 400 false _ _ _ ((Wy N q.1 q.2.1 q.2.2.1 q.2.2.2.2.1 q.2.2.2.2.2.2.2.1 q.2.2.2.2.2.2.2.2.1 q.2.2.2.2.2.2.2.2.2.1 q.2.2.2.2.2.2.2.2.2.2.1.2.1 q.2.2.2.2.2.2.2.2.2.2.1.2.2.1 ((),b).2.1.1 ((),b).2.1.2.1 ((),b).2.1.2.2.1 ((),b).2.2.1.1 ((),b).2.2.1.2.1 ((),b).2.2.2.1.1).trans hb) a w hS
 ·exact fun z E Xc hE hX e es p hl hp a w hS=>ev_sound (z:=z) (B:=Fp) (loops:=[]) (leaves:=[_]) (top:=false) (J7 N) mixed trivial hE hX ⟨hl,trivial⟩ Bf.no 400 false _ _ _ ((A09 N e es p.1.1 p.1.2.1 p.1.2.2.1 p.1.2.2.2.2.1 p.1.2.2.2.2.2.2.2.1 p.1.2.2.2.2.2.2.2.2.1 p.1.2.2.2.2.2.2.2.2.2.1 p.1.2.2.2.2.2.2.2.2.2.2.1.2.1 p.1.2.2.2.2.2.2.2.2.2.2.1.2.2.1 p.2.1.1 p.2.1.2.1 p.2.1.2.2.1 p.2.2.1.1 p.2.2.1.2.1 p.2.2.2.1.1).trans hp) a w hS
 ·exact fun z E Xc hE hX es q he hs p hp a w hS=>ev_sound (z:=z) (B:=Fp) (loops:=[]) (leaves:=[_,_]) (top:=false) (J7 N) mixed trivial hE hX ⟨he,hs _ List.mem_cons_self,trivial⟩ Bf.no 400 false _ _ _ ((A00 N (fun x_ x2_ x3_ q_ q2_ is_=>Bx N es q.1 q.2.1 q.2.2.1 q.2.2.2.2.1 q.2.2.2.2.2.2.2.1 q.2.2.2.2.2.2.2.2.1 q.2.2.2.2.2.2.2.2.2.1 q.2.2.2.2.2.2.2.2.2.2.1.2.1 q.2.2.2.2.2.2.2.2.2.2.1.2.2.1 x_ x2_ x3_ q_ q2_ is_) q.1 q.2.1 q.2.2.1 q.2.2.2.2.1 q.2.2.2.2.2.2.2.1 q.2.2.2.2.2.2.2.2.1 q.2.2.2.2.2.2.2.2.2.1 q.2.2.2.2.2.2.2.2.2.2.1.2.1 q.2.2.2.2.2.2.2.2.2.2.1.2.2.1 p.1.1 p.1.2.1 p.2.1.1 p.2.1.2.1 p.2.1.2.2.1 p.2.2.1.1 p.2.2.1.2.1 p.2.2.2.1.1 p.2.2.2.2.1.1 p.2.2.2.2.1.2.1 p.2.2.2.2.2.1.1 p.2.2.2.2.2.1.2.1 p.2.2.2.2.2.1.2.2.1).trans hp) a w hS
abbrev On:List PI:=[.c [1,1,1,1,0,1,0,0,0],.c [1,1,1,1,0,1,0,0,1],.l [1,1,1,1,0,1,0,0],.b 1,.c [1,1,1,1,1]]
abbrev Oi:Sta:=⟨[6,7,8,10,11,35,36,37],⟨[.i .i64,.i .i64,.fe Qb,.own 0 0,.i .i64,.sl Qc,.i .i64,.i .i64],[.segs [.i .i64,.i .i64,.i .i64]]⟩⟩
abbrev A9n(rec:Int→Int→(Qa)→Int→Qh→Int→Int→Int→Int→Int→Option ((Unit)⊕(Qa×Int))):Leaf ((Unit)⊕(Qa×Int)):=⟨On,Oi,fun p=>rec p.1.1 p.1.2.1 p.1.2.2.1 p.1.2.2.2.2.1 p.1.2.2.2.2.2.1 p.1.2.2.2.2.2.2.1 p.1.2.2.2.2.2.2.2.1 p.2.1.1 p.2.1.2.1 p.2.1.2.2.1⟩
abbrev Oz:Leaf ((Unit)⊕(Qa×Int)):=⟨[.c [1,1,1,1,0,1,0,0,1,1,0,0,1,1,1,0,1,0,0],.c [1,1,1,1,0,1,0,0,1,1,0,0,1,1,1,0,1,0,1],.c [1,1,1,1,0,1,0,0,1,1,0,0,1,1,1,1],.b 2,.c [1,1,1,1,0,1,0,0,1,1,1],.l [1,1,1,1,0,1,0,0],.b 1,.c [1,1,1,1,1]],⟨[],⟨[],[]⟩⟩,fun p=>some (.inl ())⟩
abbrev R2:Leaf ((Unit)⊕(Qa×Int)):=⟨[.c [1,1,1,1,1,0],.c [1,1,1,1,1,1]],⟨[8,11],⟨[.fe Qb,.i .i64],[]⟩⟩,fun p=>some (.inr (p.1.1,p.1.2.1))⟩
noncomputable def A5h(N:Nat)(rec:Int→Int→(Qa)→Int→Qh→Int→Int→Int→Int→Int→Option ((Unit)⊕(Qa×Int))):JnQ (Z:=(Unit)⊕(Qa×Int)) Bj true none [A9n rec,Oz,R2]:=mkJ (Iu N) [⟨Ew N,J4 N⟩] [] ⟨[.c [1,1,1,1,0,1,0,0,1,1,1],.l [1,1,1,1,0,1,0,0],.b 1,.c [1,1,1,1,1]],⟨[6,7,8,10,11,35,36,37],⟨[.i .i64,.i .i64,.fe Qb,.own 0 0,.i .i64,.sl Qc,.i .i64,.i .i64],[.segs [.i .i64,.i .i64,.i .i64]]⟩⟩,fun p=>Io N rec p.1.1 p.1.2.1 p.1.2.2.1 p.1.2.2.2.2.1 p.1.2.2.2.2.2.1 p.1.2.2.2.2.2.2.1 p.1.2.2.2.2.2.2.2.1 p.2.1.1 p.2.1.2.1 p.2.1.2.2.1⟩ (fun p=>by kernel_rfl)
noncomputable def A7w(N:Nat):LpQ Bj true:=mkL (Z:=(Unit)⊕(Qa×Int)) (Iu N) [⟨Ew N,J4 N⟩] On Oi (fun m p=>faults_l1 N m p.1.1 p.1.2.1 p.1.2.2.1 p.1.2.2.2.2.1 p.1.2.2.2.2.2.1 p.1.2.2.2.2.2.2.1 p.1.2.2.2.2.2.2.2.1 p.2.1.1 p.2.1.2.1 p.2.1.2.2.1) [Oz,R2] (fun m=>[A5h N (faults_l1 N m)]) (fun k e=>match e with | .inl x=>k (.inl ((),())) | .inr x=>k (.inr (.inl ((x.1,x.2,()),())))) N (fun m p=>by kernel_rfl) (hg:=(by rintro _ _ (_ | _)<;>rfl))
noncomputable def Af9(N:Nat):Spec:=mkS 68 ⟨[.agg [.sl Qf,.sl (.int .i64),.i .i64],.agg [.i .i64,.i .i64],.sl Qc],[]⟩ Wz (fun p=>faults_S N p.1.1.1 p.1.1.2.1 p.1.1.2.2.1 p.1.2.1.1 p.1.2.1.2.1 p.1.2.2.1) (fun k r=>k ((r.1,r.2,()),()))
theorem A2p(N:Nat):A2 Tryz.prog (Af9 N):=mkF (R:=Int×Int) (m0:=0) (Iu N) [⟨Ew N,J4 N⟩,A7w N] (fun r=>some (r.1.1,r.1.2.1)) [] Tryz.func68 (fun p=>by kernel_rfl) (by kernel_rfl) (fun _=>by kernel_rfl)

def Vx(N:Nat)(heard q q2 u u2:Int):Option Bool:=
 br (!decide (heard=u))
  (some true)
  (some (decide (q=u2)))
noncomputable def Al4(N:Nat):Spec:=mkS 74 ⟨[.i .i64,.agg [.i .i64,.i .i64],.fe (.int .i64),.fe (.int .i64)],[]⟩ [⟨[.b],[]⟩] (fun p=>Vx N p.1.1 p.1.2.1.1 p.1.2.1.2.1 p.1.2.2.1 p.1.2.2.2.1) (fun k r=>k ((r,()),()))
theorem A5s(N:Nat):A2 Tryz.prog (Al4 N):=mkF (R:=Bool) (m0:=0) [] [] (fun r=>some r.1.1) [] Tryz.func74 (fun p=>by kernel_rfl) (by kernel_rfl) (fun _=>by kernel_rfl)

abbrev A2z:List StSh:=[⟨[.agg [.i .i64,.i .i64]],[.segs [.fn 63 [] [.fz [.fe Qb],.fz [.mp 1],.fz [.fn 74 [] [.fe (.int .i64),.fe (.int .i64)]],.own 0 0]],.map Qk Qc]⟩]
noncomputable abbrev Bc(self:Int→Int→Int→(Qa)→Int→Int→(Qa)→Int→Int→Qg→Option Qn):Spec:=mkS 63 ⟨[.agg [.i .i64,.i .i64,.i .i64],.fz [.fe Qb],.fz [.mp 1],.fz [.fn 74 [] [.fe (.int .i64),.fe (.int .i64)]],.own 0 0],[.segs [.fn 63 [] [.fz [.fe Qb],.fz [.mp 1],.fz [.fn 74 [] [.fe (.int .i64),.fe (.int .i64)]],.own 0 0]],.map Qk Qc]⟩ A2z (fun p=>self p.1.1.1 p.1.1.2.1 p.1.1.2.2.1 p.1.2.1.1 p.1.2.2.2.1.1.2.1 p.1.2.2.2.1.1.2.2.1 p.2.1.1.2.1.1 p.2.1.1.2.2.2.1.1.2.1 p.2.1.1.2.2.2.1.1.2.2.1 p.2.2.1) (fun k r=>k (((r.1,r.2.1,()),()),((((),((r.2.2.1,()),((),()),(((),(r.2.2.2.1,r.2.2.2.2.1,())),()),(),())),()),r.2.2.2.2.2,())))
def Ea(N:Nat)(self:Int→Int→Int→(Qa)→Int→Int→(Qa)→Int→Int→Qg→Option Qn)(rec:(Qa)→Int→Int→Qg→Int→Int→Int→Int→Int→Int→Int→Option Qv)(u u2:Int)(u3:Ql)(u4:Qa)(u' u2':Int)(g':Qa)(g2' g3':Int)(g4':List (Ql×Qd))(x' x2' x3' g5' g6' best' best2' p' p2' y' y2' y3':Int):Option Qv:=
 (Vx N x' p' p2' u' u2').bind fun x_3=>
 br (!x_3)
  (rec g' g2' g3' g4' x' x2' x3' g5' g6' best' best2')
  ((self y' y2' y3' g' g2' g3' g' g2' g3' g4').bind fun(x_4,y_5,y_6,y_7,y_8,y_9)=>
  br (decide (0≤x_4))
   (br (!decide (p'=3))
    (chk (x_4+1)<|
    br (decide (best'<(x_4+1)))
     (rec y_6 y_7 y_8 y_9 x' x2' x3' g5' g6' (x_4+1) y_5)
     (br (decide ((x_4+1)=best'))
      (chk (best2'+y_5)<|
      rec y_6 y_7 y_8 y_9 x' x2' x3' g5' g6' best' (best2'+y_5))
      (rec y_6 y_7 y_8 y_9 x' x2' x3' g5' g6' best' best2')))
    (br (decide (best'<x_4))
     (rec y_6 y_7 y_8 y_9 x' x2' x3' g5' g6' x_4 y_5)
     (br (decide (x_4=best'))
      (chk (best2'+y_5)<|
      rec y_6 y_7 y_8 y_9 x' x2' x3' g5' g6' best' (best2'+y_5))
      (rec y_6 y_7 y_8 y_9 x' x2' x3' g5' g6' best' best2'))))
   (br (decide (best'<x_4))
    (rec y_6 y_7 y_8 y_9 x' x2' x3' g5' g6' x_4 y_5)
    (br (decide (x_4=best'))
     (chk (best2'+y_5)<|
     rec y_6 y_7 y_8 y_9 x' x2' x3' g5' g6' best' (best2'+y_5))
     (rec y_6 y_7 y_8 y_9 x' x2' x3' g5' g6' best' best2'))))
def rests_l1(N:Nat)(self:Int→Int→Int→(Qa)→Int→Int→(Qa)→Int→Int→Qg→Option Qn):List Move→Int→Int→(Ql)→(Qa)→(Qa)→Int→Int→Qg→Int→Int→Int→Int→Int→Int→Int→Option Qv
 | [],u,u2,u3,u4,g,g2,g3,g4,x,x2,x3,g5,g6,best,best2=>
  some ((g,g2,g3,g4,x,x2,x3,g5,g6,best,best2))
 | e::es,u,u2,u3,u4,g,g2,g3,g4,x,x2,x3,g5,g6,best,best2=>
  Ea N self (fun g_ g2_ g3_ g4_ x_ x2_ x3_ g5_ g6_ best_ best2_=>rests_l1 N self es u u2 u3 u4 g_ g2_ g3_ g4_ x_ x2_ x3_ g5_ g6_ best_ best2_) u u2 u3 u4 u u2 g g2 g3 g4 x x2 x3 g5 g6 best best2 e.1.1 e.1.2.1 e.2.1.1 e.2.1.2.1 e.2.1.2.2.1
def Vz(N:Nat)(self:Int→Int→Int→(Qa)→Int→Int→(Qa)→Int→Int→Qg→Option Qn)(x x2 x3:Int)(u:Qa)(u2 u3:Int)(g:Qa)(g2 g3:Int)(g4:List (Ql×Qd)):Option Qn:=
 br (decide (x=(u.2.1.length:Int)))
  (some (0,1,g,g2,g3,g4))
  (br ((g4.find? fun(y:Ql×Qd)=>Ty.beq Qk y.1 (x,x2,x3)).isSome)
   (some ((((g4.find? fun(y:Ql×Qd)=>Ty.beq Qk y.1 (x,x2,x3)).map (·.2)).getD (Ty.dflt Qc)).1,(((g4.find? fun(y:Ql×Qd)=>Ty.beq Qk y.1 (x,x2,x3)).map (·.2)).getD (Ty.dflt Qc)).2,g,g2,g3,g4))
   ((Gk N u x x2 x3).bind fun(x_1,y_2)=>
   ((D3 x_1 y_2).bind fun es=>rests_l1 N self es u2 u3 x_1 y_2 g g2 g3 g4 x x2 x3 0 0 (-1) 0).bind fun(g_10,g2_11,g3_12,g4_13,x_14,x2_15,x3_16,g5_17,g6_18,best_19,best2_20)=>
   some (best_19,best2_20,g_10,g2_11,g3_12,(((x_14,x2_15,x3_16),(best_19,best2_20))::g4_13))))
noncomputable def Xi(N:Nat)(self:Int→Int→Int→(Qa)→Int→Int→(Qa)→Int→Int→Qg→Option Qn)(hself:A2 Tryz.prog (Bc self)):Oks:=[⟨_,H9 N⟩,⟨_,A5s N⟩,⟨_,hself⟩]
noncomputable abbrev Eh:Body:=mkB Tryz.f63 A2z 2
noncomputable def M1(N:Nat)(self:Int→Int→Int→(Qa)→Int→Int→(Qa)→Int→Int→Qg→Option Qn)(hself:A2 Tryz.prog (Bc self)):List Spec:=(Xi N self hself).map (·.1)
theorem S6(N:Nat)(self:Int→Int→Int→(Qa)→Int→Int→(Qa)→Int→Int→Qg→Option Qn)(hself:A2 Tryz.prog (Bc self)):AllP (A2 Tryz.prog) (M1 N self hself):=allP_map (Xi N self hself)
noncomputable def Aed:Code:=Eh.c
abbrev F6:Sta:=⟨[2,3,4,5,6,9,34],⟨[.fz [.mp 1],.fz [.fn 74 [] [.fe (.int .i64),.fe (.int .i64)]],.own 0 0,.own 2 0,.own 3 0,.own 4 0,.fn 65 [] [.fe Qk,.fe (.ptr Qb)]],[.segs [.fn 63 [] [.fz [.fe Qb],.fz [.mp 1],.fz [.fn 74 [] [.fe (.int .i64),.fe (.int .i64)]],.own 0 0]],.map Qk Qc,.segs [.i .i64,.i .i64,.i .i64],.segs [.i .i64,.i .i64],.segs [.i .i64,.i .i64]]⟩⟩
abbrev Fs:Sta:=⟨[3,4,5,6,9,10,11],⟨[.fz [.fn 74 [] [.fe (.int .i64),.fe (.int .i64)]],.own 0 0,.own 2 0,.own 3 0,.own 4 0,.own 5 0,.own 6 0],[.segs [.fn 63 [] [.fz [.fe Qb],.fz [.mp 1],.fz [.fn 74 [] [.fe (.int .i64),.fe (.int .i64)]],.own 0 0]],.map Qk Qc,.segs [.i .i64,.i .i64,.i .i64],.segs [.i .i64,.i .i64],.segs [.i .i64,.i .i64],.segs [.i .i64,.i .i64],.segs [.i .i64,.i .i64,.i .i64]]⟩⟩
abbrev U6:Leaf Qv:=⟨[.c [1,1,1,1,1,0],.c [1,1,1,1,1,1]],⟨[2,5,6,9],⟨[.fz [.mp 1],.own 2 0,.own 3 0,.own 4 0],[.segs [.fn 63 [] [.fz [.fe Qb],.fz [.mp 1],.fz [.fn 74 [] [.fe (.int .i64),.fe (.int .i64)]],.own 0 0]],.map Qk Qc,.segs [.i .i64,.i .i64,.i .i64],.segs [.i .i64,.i .i64],.segs [.i .i64,.i .i64]]⟩⟩,fun p=>some ((p.2.1.1.2.1.1,p.2.1.1.2.2.2.1.1.2.1,p.2.1.1.2.2.2.1.1.2.2.1,p.2.2.1,p.2.2.2.1.1,p.2.2.2.1.2.1,p.2.2.2.1.2.2.1,p.2.2.2.2.1.1,p.2.2.2.2.1.2.1,p.2.2.2.2.2.1.1,p.2.2.2.2.2.1.2.1))⟩
noncomputable def Nm(N:Nat)(self:Int→Int→Int→(Qa)→Int→Int→(Qa)→Int→Int→Qg→Option Qn)(hself:A2 Tryz.prog (Bc self)):Hs:={ at_:=[.c [1,1,1,1,0,1,0],.b 0,.c [1,1,1,1,1]],sta:=F6,exits:=[([.c [1,1,1,1,1,0],.c [1,1,1,1,1,1]],⟨[2,5,6,9],⟨[.fz [.mp 1],.own 2 0,.own 3 0,.own 4 0],[.segs [.fn 63 [] [.fz [.fe Qb],.fz [.mp 1],.fz [.fn 74 [] [.fe (.int .i64),.fe (.int .i64)]],.own 0 0]],.map Qk Qc,.segs [.i .i64,.i .i64,.i .i64],.segs [.i .i64,.i .i64],.segs [.i .i64,.i .i64]]⟩⟩)],run:=fun p k=>((D3 p.1.2.2.2.2.2.2.1.2.1 p.1.2.2.2.2.2.2.1.2.2.1).bind fun es=>rests_l1 N self es p.1.2.1.1.2.1 p.1.2.1.1.2.2.1 p.1.2.2.2.2.2.2.1.2.1 p.1.2.2.2.2.2.2.1.2.2.1 p.2.1.1.2.1.1 p.2.1.1.2.2.2.1.1.2.1 p.2.1.1.2.2.2.1.1.2.2.1 p.2.2.1 p.2.2.2.1.1 p.2.2.2.1.2.1 p.2.2.2.1.2.2.1 p.2.2.2.2.1.1 p.2.2.2.2.1.2.1 p.2.2.2.2.2.1.1 p.2.2.2.2.2.1.2.1).bind fun e=>k (.inl ((((),()),(),(),(),()),((((),((e.1,()),((),()),(((),(e.2.1,e.2.2.1,())),()),(),())),()),e.2.2.2.1,(e.2.2.2.2.1,e.2.2.2.2.2.1,e.2.2.2.2.2.2.1,()),(e.2.2.2.2.2.2.2.1,e.2.2.2.2.2.2.2.2.1,()),(e.2.2.2.2.2.2.2.2.2.1,e.2.2.2.2.2.2.2.2.2.2,()),()))) }
noncomputable abbrev Hg:Body:=mkB Tryz.f63 A2z 5
theorem A4r(N:Nat)(self:Int→Int→Int→(Qa)→Int→Int→(Qa)→Int→Int→Qg→Option Qn)(hself:A2 Tryz.prog (Bc self))(u:Int)(u2:Int)(u3:Ql)(u4:Qa)(g:Qa)(g2:Int)(g3:Int)(g4:List (Ql×Qd))(x:Int)(x2:Int)(x3:Int)(g5:Int)(g6:Int)(best:Int)(best2:Int):ev (Z:=Qa×Int×Int×Qg×Int×Int×Int×Int×Int×Int×Int) Tryz.prog (M1 N self hself) Eh [] [U6] none 400 false (nrm Eh.c 99 [.b 0,.c [1,1,1,1,1]]) (stL F6 ((((),()),(((),(u,u2,())),()),(),(),(),(),((),(u3,u4,())),()),((((),((g,()),((),()),(((),(g2,g3,())),()),(),())),()),g4,(x,x2,x3,()),(g5,g6,()),(best,best2,()),()))) (stH F6 ((((),()),(((),(u,u2,())),()),(),(),(),(),((),(u3,u4,())),()),((((),((g,()),((),()),(((),(g2,g3,())),()),(),())),()),g4,(x,x2,x3,()),(g5,g6,()),(best,best2,()),())))=rests_l1 N self [] u u2 u3 u4 g g2 g3 g4 x x2 x3 g5 g6 best best2:=by kernel_rfl
theorem A3d(N:Nat)(self:Int→Int→Int→(Qa)→Int→Int→(Qa)→Int→Int→Qg→Option Qn)(hself:A2 Tryz.prog (Bc self))(e:Move)(es:List Move)(u:Int)(u2:Int)(u3:Ql)(u4:Qa)(g:Qa)(g2:Int)(g3:Int)(g4:List (Ql×Qd))(x:Int)(x2:Int)(x3:Int)(g5:Int)(g6:Int)(best:Int)(best2:Int):ev (Z:=Qa×Int×Int×Qg×Int×Int×Int×Int×Int×Int×Int) Tryz.prog (M1 N self hself) Hg [] [⟨[.r,.c [1,1,1,1,0,1,0,1]],Fs,fun p=>Ea N self (fun g_ g2_ g3_ g4_ x_ x2_ x3_ g5_ g6_ best_ best2_=>rests_l1 N self es u u2 u3 u4 g_ g2_ g3_ g4_ x_ x2_ x3_ g5_ g6_ best_ best2_) u u2 u3 u4 p.1.1.1.2.1 p.1.1.1.2.2.1 p.2.1.1.2.1.1 p.2.1.1.2.2.2.1.1.2.1 p.2.1.1.2.2.2.1.1.2.2.1 p.2.2.1 p.2.2.2.1.1 p.2.2.2.1.2.1 p.2.2.2.1.2.2.1 p.2.2.2.2.1.1 p.2.2.2.2.1.2.1 p.2.2.2.2.2.1.1 p.2.2.2.2.2.1.2.1 p.2.2.2.2.2.2.1.1 p.2.2.2.2.2.2.1.2.1 p.2.2.2.2.2.2.2.1.1 p.2.2.2.2.2.2.2.1.2.1 p.2.2.2.2.2.2.2.1.2.2.1⟩] none 400 false (nrm Eh.c 99 [.c [1,1,1,1,0,1,0,0],.r,.c [1,1,1,1,0,1,0,1]]) (pars [35,36] (encs id Dq.elem e) (stL F6 ((((),()),(((),(u,u2,())),()),(),(),(),(),((),(u3,u4,())),()),((((),((g,()),((),()),(((),(g2,g3,())),()),(),())),()),g4,(x,x2,x3,()),(g5,g6,()),(best,best2,()),())))) (stH F6 ((((),()),(((),(u,u2,())),()),(),(),(),(),((),(u3,u4,())),()),((((),((g,()),((),()),(((),(g2,g3,())),()),(),())),()),g4,(x,x2,x3,()),(g5,g6,()),(best,best2,()),())))=rests_l1 N self (e::es) u u2 u3 u4 g g2 g3 g4 x x2 x3 g5 g6 best best2:=by kernel_rfl
theorem A32(N:Nat)(self:Int→Int→Int→(Qa)→Int→Int→(Qa)→Int→Int→Qg→Option Qn)(hself:A2 Tryz.prog (Bc self))(rec:(Qa)→Int→Int→Qg→Int→Int→Int→Int→Int→Int→Int→Option Qv)(u:Int)(u2:Int)(u3:Ql)(u4:Qa)(u':Int)(u2':Int)(g':Qa)(g2':Int)(g3':Int)(g4':List (Ql×Qd))(x':Int)(x2':Int)(x3':Int)(g5':Int)(g6':Int)(best':Int)(best2':Int)(p':Int)(p2':Int)(y':Int)(y2':Int)(y3':Int):ev (Z:=Qa×Int×Int×Qg×Int×Int×Int×Int×Int×Int×Int) Tryz.prog (M1 N self hself) Hg [] [⟨[],⟨[],⟨[],[.segs [.fn 63 [] [.fz [.fe Qb],.fz [.mp 1],.fz [.fn 74 [] [.fe (.int .i64),.fe (.int .i64)]],.own 0 0]],.map Qk Qc,.segs [.i .i64,.i .i64,.i .i64],.segs [.i .i64,.i .i64],.segs [.i .i64,.i .i64]]⟩⟩,fun p=>rec p.2.1.1.2.1.1 p.2.1.1.2.2.2.1.1.2.1 p.2.1.1.2.2.2.1.1.2.2.1 p.2.2.1 p.2.2.2.1.1 p.2.2.2.1.2.1 p.2.2.2.1.2.2.1 p.2.2.2.2.1.1 p.2.2.2.2.1.2.1 p.2.2.2.2.2.1.1 p.2.2.2.2.2.1.2.1⟩] none 400 false (nrm Eh.c 99 [.c [1,1,1,1,0,1,0,1]]) (stL Fs (((((),(u',u2',())),()),(),(),(),(),(),(),()),((((),((g',()),((),()),(((),(g2',g3',())),()),(),())),()),g4',(x',x2',x3',()),(g5',g6',()),(best',best2',()),(p',p2',()),(y',y2',y3',()),()))) (stH Fs (((((),(u',u2',())),()),(),(),(),(),(),(),()),((((),((g',()),((),()),(((),(g2',g3',())),()),(),())),()),g4',(x',x2',x3',()),(g5',g6',()),(best',best2',()),(p',p2',()),(y',y2',y3',()),())))=Ea N self rec u u2 u3 u4 u' u2' g' g2' g3' g4' x' x2' x3' g5' g6' best' best2' p' p2' y' y2' y3':=by kernel_rfl
theorem A86(N:Nat)(self:Int→Int→Int→(Qa)→Int→Int→(Qa)→Int→Int→Qg→Option Qn)(hself:A2 Tryz.prog (Bc self)):Gg Tryz.prog Eh.c Eh.n Eh.m0 true (Nm N self hself):=by
 refine Ld (B:=Eh) (is:=Dq) (g:=.tmp 34) (ps:=#[35,36]) (assign:=sub Aed [1,1,1,1,0,1,0,0]) (body:=sub Aed [1,1,1,1,0,1,0,1]) (Z:=Qa×Int×Int×Qg×Int×Int×Int×Int×Int×Int×Int) (x:=Nm N self hself) (fun p=>(p.1.2.2.2.2.2.2.1.2.1,p.1.2.2.2.2.2.2.1.2.2.1,())) (fun es p=>rests_l1 N self es p.1.2.1.1.2.1 p.1.2.1.1.2.2.1 p.1.2.2.2.2.2.2.1.2.1 p.1.2.2.2.2.2.2.1.2.2.1 p.2.1.1.2.1.1 p.2.1.1.2.2.2.1.1.2.1 p.2.1.1.2.2.2.1.1.2.2.1 p.2.2.1 p.2.2.2.1.1 p.2.2.2.1.2.1 p.2.2.2.1.2.2.1 p.2.2.2.2.1.1 p.2.2.2.2.1.2.1 p.2.2.2.2.2.1.1 p.2.2.2.2.2.1.2.1) (staA:=Fs) (fun es q p=>Ea N self (fun g_ g2_ g3_ g4_ x_ x2_ x3_ g5_ g6_ best_ best2_=>rests_l1 N self es q.2.1.1.2.1 q.2.1.1.2.2.1 q.2.2.2.2.2.2.1.2.1 q.2.2.2.2.2.2.1.2.2.1 g_ g2_ g3_ g4_ x_ x2_ x3_ g5_ g6_ best_ best2_) q.2.1.1.2.1 q.2.1.1.2.2.1 q.2.2.2.2.2.2.1.2.1 q.2.2.2.2.2.2.1.2.2.1 p.1.1.1.2.1 p.1.1.1.2.2.1 p.2.1.1.2.1.1 p.2.1.1.2.2.2.1.1.2.1 p.2.1.1.2.2.2.1.1.2.2.1 p.2.2.1 p.2.2.2.1.1 p.2.2.2.1.2.1 p.2.2.2.1.2.2.1 p.2.2.2.2.1.1 p.2.2.2.2.1.2.1 p.2.2.2.2.2.1.1 p.2.2.2.2.2.1.2.1 p.2.2.2.2.2.2.1.1 p.2.2.2.2.2.2.1.2.1 p.2.2.2.2.2.2.2.1.1 p.2.2.2.2.2.2.2.1.2.1 p.2.2.2.2.2.2.2.1.2.2.1) [] (fun e=>.inl ((((),()),(),(),(),()),((((),((e.1,()),((),()),(((),(e.2.1,e.2.2.1,())),()),(),())),()),e.2.2.2.1,(e.2.2.2.2.1,e.2.2.2.2.2.1,e.2.2.2.2.2.2.1,()),(e.2.2.2.2.2.2.2.1,e.2.2.2.2.2.2.2.2.1,()),(e.2.2.2.2.2.2.2.2.2.1,e.2.2.2.2.2.2.2.2.2.2,()),()))) (fun _ _ _=>rfl) rfl (by kernel_rfl) (fun _=>by kernel_rfl) (by kernel_rfl) H7 (Nat.le_of_ble_eq_true (by kernel_rfl)) (by kernel_rfl) ?_ ?_ ?_ ?_
 ·exact fun z E Xc hE hX hx p hp a w hS=>ev_sound (z:=z) (B:=Eh) (loops:=[]) (leaves:=[U6]) (top:=true) (S6 N self hself) mixed trivial hE hX ⟨(fun p hp=>by obtain rfl:=Option.some.inj hp;exact hx),trivial⟩ Bf.no 400 false _ _ _ ((A4r N self hself p.1.2.1.1.2.1 p.1.2.1.1.2.2.1 p.1.2.2.2.2.2.2.1.2.1 p.1.2.2.2.2.2.2.1.2.2.1 p.2.1.1.2.1.1 p.2.1.1.2.2.2.1.1.2.1 p.2.1.1.2.2.2.1.1.2.2.1 p.2.2.1 p.2.2.2.1.1 p.2.2.2.1.2.1 p.2.2.2.1.2.2.1 p.2.2.2.2.1.1 p.2.2.2.2.1.2.1 p.2.2.2.2.2.1.1 p.2.2.2.2.2.1.2.1).trans hp) a w hS
 ·intro z E Xc hE hX hx e he q b hb a w hS
  simp only[List.not_mem_nil]at he
 ·exact fun z E Xc hE hX e es p hl hp a w hS=>ev_sound (z:=z) (B:=Hg) (loops:=[]) (leaves:=[_]) (top:=false) (S6 N self hself) mixed trivial hE hX ⟨hl,trivial⟩ Bf.no 400 false _ _ _ ((A3d N self hself e es p.1.2.1.1.2.1 p.1.2.1.1.2.2.1 p.1.2.2.2.2.2.2.1.2.1 p.1.2.2.2.2.2.2.1.2.2.1 p.2.1.1.2.1.1 p.2.1.1.2.2.2.1.1.2.1 p.2.1.1.2.2.2.1.1.2.2.1 p.2.2.1 p.2.2.2.1.1 p.2.2.2.1.2.1 p.2.2.2.1.2.2.1 p.2.2.2.2.1.1 p.2.2.2.2.1.2.1 p.2.2.2.2.2.1.1 p.2.2.2.2.2.1.2.1).trans hp) a w hS
 ·exact fun z E Xc hE hX es q he hs p hp a w hS=>ev_sound (z:=z) (B:=Hg) (loops:=[]) (leaves:=[_]) (top:=false) (S6 N self hself) mixed trivial hE hX ⟨he,trivial⟩ Bf.no 400 false _ _ _ ((A32 N self hself (fun g_ g2_ g3_ g4_ x_ x2_ x3_ g5_ g6_ best_ best2_=>rests_l1 N self es q.2.1.1.2.1 q.2.1.1.2.2.1 q.2.2.2.2.2.2.1.2.1 q.2.2.2.2.2.2.1.2.2.1 g_ g2_ g3_ g4_ x_ x2_ x3_ g5_ g6_ best_ best2_) q.2.1.1.2.1 q.2.1.1.2.2.1 q.2.2.2.2.2.2.1.2.1 q.2.2.2.2.2.2.1.2.2.1 p.1.1.1.2.1 p.1.1.1.2.2.1 p.2.1.1.2.1.1 p.2.1.1.2.2.2.1.1.2.1 p.2.1.1.2.2.2.1.1.2.2.1 p.2.2.1 p.2.2.2.1.1 p.2.2.2.1.2.1 p.2.2.2.1.2.2.1 p.2.2.2.2.1.1 p.2.2.2.2.1.2.1 p.2.2.2.2.2.1.1 p.2.2.2.2.2.1.2.1 p.2.2.2.2.2.2.1.1 p.2.2.2.2.2.2.1.2.1 p.2.2.2.2.2.2.2.1.1 p.2.2.2.2.2.2.2.1.2.1 p.2.2.2.2.2.2.2.1.2.2.1).trans hp) a w hS
theorem A0g(N:Nat)(self:Int→Int→Int→(Qa)→Int→Int→(Qa)→Int→Int→Qg→Option Qn)(hself:A2 Tryz.prog (Bc self)):A2 Tryz.prog (Bc (Vz N self)):=mkF (R:=Int×Int×Qa×Int×Int×Qg) (m0:=2) (Xi N self hself) [⟨Nm N self hself,A86 N self hself⟩] (fun r=>some (r.1.1.1,r.1.1.2.1,r.2.1.1.2.1.1,r.2.1.1.2.2.2.1.1.2.1,r.2.1.1.2.2.2.1.1.2.2.1,r.2.2.1)) [] Tryz.func63 (fun p=>by kernel_rfl) (by kernel_rfl) (fun _=>by kernel_rfl)
def He(N:Nat):Nat→Int→Int→Int→(Qa)→Int→Int→(Qa)→Int→Int→Qg→Option Qn
 | 0=>fun _ _ _ _ _ _ _ _ _ _=>none
 | n+1=>Vz N (He N n)
theorem Xo(N:Nat):∀n,A2 Tryz.prog (Bc (He N n))
 | 0=>A2.none (fun _ _ _=>rfl) (fun args w=>Sem.pv_run _ _ _ (by kernel_rfl) w)
 | n+1=>A0g N (He N n) (Xo N n)
noncomputable abbrev Ajz(N:Nat):Spec:=Bc (He N N)
theorem A71(N:Nat):A2 Tryz.prog (Ajz N):=Xo N N

def Rk(N:Nat)(rest:Qa)(rest2 rest3:Int)(g:List (Ql×Qd)):Option Qg:=
 (He N N 0 0 0 rest rest2 rest3 rest rest2 rest3 g).bind fun(x_1,y_2,y_3,y_4,y_5,y_6)=>
 some (((0,0,0),(x_1,y_2))::y_6)
def Yg(N:Nat)(d:Qa)(f f2:Int):Option Qg:=
 Rk N d f f2 []
noncomputable def A2j(N:Nat):Oks:=[⟨_,A71 N⟩]
abbrev Zg:List StSh:=[⟨[.mp 0],[.map Qk Qc]⟩]
noncomputable abbrev Aiq:Body:=mkB Tryz.f15 Zg 0
abbrev A1i:altD Zg→Option Qg:=fun r=>some r.2.1
noncomputable def A95(N:Nat):JnQ (Z:=Qg) Aiq true (some A1i) []:=mkJ (A2j N) [] [] ⟨[.c [1,1,1,1,0],.c [1,1,1,1,1]],⟨[5,6],⟨[.fz [.mp 1],.own 0 0],[.segs [.fn 63 [] [.fz [.fe Qb],.fz [.mp 1],.fz [.fn 74 [] [.fe (.int .i64),.fe (.int .i64)]],.own 0 0]],.map Qk Qc]⟩⟩,fun p=>Rk N p.2.1.1.2.1.1 p.2.1.1.2.2.2.1.1.2.1 p.2.1.1.2.2.2.1.1.2.2.1 p.2.2.1⟩ (fun p=>by kernel_rfl)
noncomputable def Ahe(N:Nat):Spec:=mkS 15 ⟨[.fe Qb,.agg [.fn 74 [] [.fe (.int .i64),.fe (.int .i64)]]],[]⟩ Zg (fun p=>Yg N p.1.1 p.1.2.1.1.2.1 p.1.2.1.1.2.2.1) (fun k r=>k (((),()),(r,())))
theorem A3p(N:Nat):A2 Tryz.prog (Ahe N):=mkF (R:=Qg) (m0:=0) (A2j N) [] (A1i) [A95 N] Tryz.func15 (fun p=>by kernel_rfl) (by kernel_rfl) (fun _=>by kernel_rfl)

def R9(N:Nat)(d:Qa)(f f2:Int):Option Qd:=
 (Yg N d f f2).bind fun x_1=>
 some ((((x_1.find? fun(y:Ql×Qd)=>Ty.beq Qk y.1 (0,0,0)).map (·.2)).getD (Ty.dflt Qc)).1,(((x_1.find? fun(y:Ql×Qd)=>Ty.beq Qk y.1 (0,0,0)).map (·.2)).getD (Ty.dflt Qc)).2)
noncomputable def Afu(N:Nat):Spec:=mkS 73 ⟨[.fe Qb,.agg [.fn 74 [] [.fe (.int .i64),.fe (.int .i64)]]],[]⟩ [⟨[.agg [.i .i64,.i .i64]],[]⟩] (fun p=>R9 N p.1.1 p.1.2.1.1.2.1 p.1.2.1.1.2.2.1) (fun k r=>k (((r.1,r.2,()),()),()))
theorem A37(N:Nat):A2 Tryz.prog (Afu N):=mkF (R:=Int×Int) (m0:=0) [⟨_,A3p N⟩] [] (fun r=>some (r.1.1.1,r.1.1.2.1)) [] Tryz.func73 (fun p=>by kernel_rfl) (by kernel_rfl) (fun _=>by kernel_rfl)

def Q2(N:Nat)(rec:(Qa)→Int→Int→Qe→Int→Int→Int→Qe→Int→Option (Qa×Int×Int×Int×Int×List Int))(d:Qa)(u u2:Int)(u3:List Int)(u4 best best2:Int)(out:List Int)(i:Int):Option (Qa×Int×Int×Int×Int×List Int):=
 chk (u4+1)<|
 rec d u u2 u3 (u4+1) best best2 out i
def sure_l2(N:Nat):Nat→(Qa)→Int→Int→Qe→Int→Int→Int→Qe→Int→Option (Qa×Int×Int×Int×Int×List Int)
 | 0,_,_,_,_,_,_,_,_,_=>none
 | n_+1,d,u,u2,u3,u4,best,best2,out,i=>
  br (decide (u4<3))
   (idx u3 u4 fun x_5=>
   (R9 N d i x_5).bind fun(x_6,y_7)=>
   br (decide (x_6=best)&&decide (y_7=best2))
    (rng i out.length<|
    get out i.toNat fun _=>
    Q2 N (sure_l2 N n_) d u u2 u3 u4 best best2 (out.set i.toNat x_5) i)
    (Q2 N (sure_l2 N n_) d u u2 u3 u4 best best2 out i))
   (some ((d,u,u2,best,best2,out)))
def sure_l1(N:Nat):Nat→(Qa)→Int→Int→Int→Int→Qe→Option Qe
 | 0,_,_,_,_,_,_=>none
 | n_+1,d,u,u2,best,best2,out=>
  br (decide (u2<u))
   ((sure_l2 N N d u u2 [1,2,3] 0 best best2 out u2).bind fun(d_9,u_10,u2_11,best_12,best2_13,out_14)=>
   chk (u2_11+1)<|
   sure_l1 N n_ d_9 u_10 (u2_11+1) best_12 best2_13 out_14)
   (some (out))
def Nu(N:Nat)(e:List Qe)(e2:List Int)(e3 p p2:Int):Option (List Int×Int):=
 ((B5 N e e2 e3 p p2).bind fun e=>match e with
 | .inl (x_1,y_2)=>
  (br (!decide (y_2=0))
   (some ([],y_2))
   ((Eu N).bind fun _=>
   (Gl N x_1).bind fun(x_3,y_4)=>
   grd (lmI (e2.length:Int))<|
   (sure_l1 N N x_1 ((List.replicate (e2.length:Int).toNat (0:Int)).length:Int) 0 x_3 y_4 (List.replicate (e2.length:Int).toNat (0:Int))).bind fun out_15=>
   some (out_15,0)))
 | .inr x_16=>
  (br (!decide (x_16=0))
   (some ([],x_16))
   ((Eu N).bind fun _=>
   none)))
noncomputable def Vv(N:Nat):Oks:=[⟨_,Ax N⟩,⟨_,G0 N⟩,⟨_,Fl N⟩,⟨_,A37 N⟩]
abbrev Akm:List StSh:=[⟨[.sl (.int .i64),.i .i64],[]⟩]
noncomputable abbrev Acr:Body:=mkB Tryz.f27 Akm 0
abbrev Zo:List PI:=[.c [1,1,1,1,1,0,1,0,0,1,1,0,0,1,1,0,0,0],.c [1,1,1,1,1,0,1,0,0,1,1,0,0,1,1,0,0,1],.l [1,1,1,1,1,0,1,0,0,1,1,0,0,1,1,0,0],.b 2,.b 1,.c [1,1,1,1,1,0,1,0,0,1,1,1],.l [1,1,1,1,1,0,1,0,0],.b 0,.c [1,1,1,1,1,1]]
abbrev Ys:Sta:=⟨[6,8,9,10,31,32,35,36],⟨[.fe Qb,.own 0 0,.ols 1,.own 2 0,.i .i64,.i .i64,.arr (.int .i64) 3,.i .i64],[.segs [.i .i64,.i .i64],.lst (.int .i64),.segs [.i .i64]]⟩⟩
abbrev Afp(rec:(Qa)→Int→Int→Qe→Int→Int→Int→Qe→Int→Option (Qa×Int×Int×Int×Int×List Int)):Leaf (Qa×Int×Int×Int×Int×List Int):=⟨Zo,Ys,fun p=>rec p.1.1 p.1.2.2.2.2.1 p.1.2.2.2.2.2.1 p.1.2.2.2.2.2.2.1 p.1.2.2.2.2.2.2.2.1 p.2.1.1 p.2.1.2.1 p.2.2.1 p.2.2.2.1.1⟩
abbrev Xq:Leaf (Qa×Int×Int×Int×Int×List Int):=⟨[.c [1,1,1,1,1,0,1,0,0,1,1,1],.l [1,1,1,1,1,0,1,0,0],.b 0,.c [1,1,1,1,1,1]],⟨[6,8,9,31,32],⟨[.fe Qb,.own 0 0,.ols 1,.i .i64,.i .i64],[.segs [.i .i64,.i .i64],.lst (.int .i64)]⟩⟩,fun p=>some ((p.1.1,p.1.2.2.2.1,p.1.2.2.2.2.1,p.2.1.1,p.2.1.2.1,p.2.2.1))⟩
noncomputable def Aha(N:Nat)(rec:(Qa)→Int→Int→Qe→Int→Int→Int→Qe→Int→Option (Qa×Int×Int×Int×Int×List Int)){top:Bool}:JnQ (Z:=Qa×Int×Int×Int×Int×List Int) Acr top none [Afp rec,Xq]:=mkJ (Vv N) [] [] ⟨[.c [1,1,1,1,1,0,1,0,0,1,1,0,0,1,1,0,0,1,1,1],.l [1,1,1,1,1,0,1,0,0,1,1,0,0,1,1,0,0],.b 2,.b 1,.c [1,1,1,1,1,0,1,0,0,1,1,1],.l [1,1,1,1,1,0,1,0,0],.b 0,.c [1,1,1,1,1,1]],⟨[6,8,9,10,31,32,35,36],⟨[.fe Qb,.own 0 0,.ols 1,.own 2 0,.i .i64,.i .i64,.arr (.int .i64) 3,.i .i64],[.segs [.i .i64,.i .i64],.lst (.int .i64),.segs [.i .i64]]⟩⟩,fun p=>Q2 N rec p.1.1 p.1.2.2.2.2.1 p.1.2.2.2.2.2.1 p.1.2.2.2.2.2.2.1 p.1.2.2.2.2.2.2.2.1 p.2.1.1 p.2.1.2.1 p.2.2.1 p.2.2.2.1.1⟩ (fun p=>by kernel_rfl)
noncomputable def A2a(N:Nat){top:Bool}:LpQ Acr top:=mkL (Z:=Qa×Int×Int×Int×Int×List Int) (Vv N) [] Zo Ys (fun m p=>sure_l2 N m p.1.1 p.1.2.2.2.2.1 p.1.2.2.2.2.2.1 p.1.2.2.2.2.2.2.1 p.1.2.2.2.2.2.2.2.1 p.2.1.1 p.2.1.2.1 p.2.2.1 p.2.2.2.1.1) [Xq] (fun m=>[Aha N (sure_l2 N m)]) (fun k e=>k (.inl ((e.1,(),(),e.2.1,e.2.2.1,()),((e.2.2.2.1,e.2.2.2.2.1,()),e.2.2.2.2.2,())))) N (fun m p=>by kernel_rfl)
noncomputable def Aex(N:Nat){top:Bool}:LpQ Acr top:=mkL (Z:=List Int) (Vv N) [A2a N] [.c [1,1,1,1,1,0,1,0,0,0],.c [1,1,1,1,1,0,1,0,0,1],.l [1,1,1,1,1,0,1,0,0],.b 0,.c [1,1,1,1,1,1]] ⟨[6,8,9,31,32],⟨[.fe Qb,.own 0 0,.ols 1,.i .i64,.i .i64],[.segs [.i .i64,.i .i64],.lst (.int .i64)]⟩⟩ (fun m p=>sure_l1 N m p.1.1 p.1.2.2.2.1 p.1.2.2.2.2.1 p.2.1.1 p.2.1.2.1 p.2.2.1) [⟨[.c [1,1,1,1,1,1,0],.c [1,1,1,1,1,1,1]],⟨[9],⟨[.ols 0],[.lst (.int .i64)]⟩⟩,fun p=>some (p.2.1)⟩] (fun _=>[]) (fun k e=>k (.inl (((),()),(e,())))) N (fun m p=>by kernel_rfl)
noncomputable def Ano(N:Nat):Spec:=mkS 27 ⟨[.agg [.sl Qf,.sl (.int .i64),.i .i64],.agg [.i .i64,.i .i64]],[]⟩ Akm (fun p=>Nu N p.1.1.1 p.1.1.2.1 p.1.1.2.2.1 p.1.2.1.1 p.1.2.1.2.1) (fun k r=>k ((r.1,r.2,()),()))
theorem Yd(N:Nat):A2 Tryz.prog (Ano N):=mkF (R:=List Int×Int) (m0:=0) (Vv N) [A2a N,Aex N] (fun r=>some (r.1.1,r.1.2.1)) [] Tryz.func27 (fun p=>by kernel_rfl) (by kernel_rfl) (fun _=>by kernel_rfl)

end Go.Proofs.YtfcnhnbnjdccfaaGreat

namespace Go.Proofs.YtfcnhnbnjdccfaaGreat
set_option linter.all false
open Go

def equali_l1(N:Nat):Nat→Qe→Qe→Int→Int→Option ((Unit)⊕(Unit))
 | 0,_,_,_,_=>none
 | n_+1,s1,s2,u,u2=>
  br (decide (u2<u))
   (idx s1 u2 fun x_1=>
   idx s2 u2 fun x_2=>
   br (!decide (x_1=x_2))
    (some (.inl ()))
    (chk (u2+1)<|
    equali_l1 N n_ s1 s2 u (u2+1)))
   (some (.inr ()))
def Kc(N:Nat)(s1 s2:List Int):Option Bool:=
 br (!decide ((s1.length:Int)=(s2.length:Int)))
  (some false)
  ((equali_l1 N N s1 s2 (s1.length:Int) 0).bind fun e=>match e with
  | .inl _=>
   some false
  | .inr _=>
   some true)
noncomputable def A1u(N:Nat):Oks:=[]
abbrev A73:List StSh:=[⟨[.b],[]⟩]
noncomputable abbrev Ai4:Body:=mkB Tryz.f87 A73 0
noncomputable def A9k(N:Nat){top:Bool}:LpQ Ai4 top:=mkL (Z:=(Unit)⊕(Unit)) (A1u N) [] [.c [1,1,0,1,0,0,0],.c [1,1,0,1,0,0,1],.l [1,1,0,1,0,0],.b 0,.c [1,1,1]] ⟨[0,1,12,13],⟨[.sl (.int .i64),.sl (.int .i64),.i .i64,.i .i64],[]⟩⟩ (fun m p=>equali_l1 N m p.1.1 p.1.2.1 p.1.2.2.1 p.1.2.2.2.1) [⟨[.c [1,1,0,1,0,0,1,1,0,0,1,1,0,0],.c [1,1,0,1,0,0,1,1,0,0,1,1,0,1],.b 1,.c [1,1,0,1,0,0,1,1,1],.l [1,1,0,1,0,0],.b 0,.c [1,1,1]],⟨[],⟨[],[]⟩⟩,fun p=>some (.inl ())⟩,⟨[.c [1,1,1,0],.c [1,1,1,1]],⟨[],⟨[],[]⟩⟩,fun p=>some (.inr ())⟩] (fun _=>[]) (fun k e=>match e with | .inl x=>k (.inl ((),())) | .inr x=>k (.inr (.inl ((),())))) N (fun m p=>by kernel_rfl) (hg:=(by rintro _ _ (_ | _)<;>rfl))
noncomputable def Af3(N:Nat):Spec:=mkS 87 ⟨[.sl (.int .i64),.sl (.int .i64)],[]⟩ A73 (fun p=>Kc N p.1.1 p.1.2.1) (fun k r=>k ((r,()),()))
theorem Pg(N:Nat):A2 Tryz.prog (Af3 N):=mkF (R:=Bool) (m0:=0) (A1u N) [A9k N] (fun r=>some r.1.1) [] Tryz.func87 (fun p=>by kernel_rfl) (by kernel_rfl) (fun _=>by kernel_rfl)

def Ji(N:Nat)(a b:List Int):Option Bool:=
 (Kc N a b).bind fun x_1=>
 some x_1
noncomputable def Ajx(N:Nat):Spec:=mkS 49 ⟨[.sl (.int .i64),.sl (.int .i64)],[]⟩ [⟨[.b],[]⟩] (fun p=>Ji N p.1.1 p.1.2.1) (fun k r=>k ((r,()),()))
theorem K7(N:Nat):A2 Tryz.prog (Ajx N):=mkF (R:=Bool) (m0:=0) [⟨_,Pg N⟩] [] (fun r=>some r.1.1) [] Tryz.func49 (fun p=>by kernel_rfl) (by kernel_rfl) (fun _=>by kernel_rfl)

def Sm(N:Nat):Nat→Qe→Qe→Int→Int→Option ((Unit)⊕(Unit))
 | 0,_,_,_,_=>none
 | n_+1,s1,s2,u,u2=>
  br (decide (u2<u))
   (idx s1 u2 fun x_1=>
   idx s2 u2 fun x_2=>
   br (!decide (x_1=x_2))
    (some (.inl ()))
    (chk (u2+1)<|
    Sm N n_ s1 s2 u (u2+1)))
   (some (.inr ()))
def A9o(N:Nat)(s1 s2:List Int):Option Bool:=
 br (!decide ((s1.length:Int)=(s2.length:Int)))
  (some false)
  ((Sm N N s1 s2 (s1.length:Int) 0).bind fun e=>match e with
  | .inl _=>
   some false
  | .inr _=>
   some true)
noncomputable def A0v(N:Nat):Oks:=[]
abbrev A6g:List StSh:=[⟨[.b],[]⟩]
noncomputable abbrev Ale:Body:=mkB Tryz.f96 A6g 0
noncomputable def A6x(N:Nat){top:Bool}:LpQ Ale top:=mkL (Z:=(Unit)⊕(Unit)) (A0v N) [] [.c [1,1,0,1,0,0,0],.c [1,1,0,1,0,0,1],.l [1,1,0,1,0,0],.b 0,.c [1,1,1]] ⟨[0,1,12,13],⟨[.sl (.int .i64),.sl (.int .i64),.i .i64,.i .i64],[]⟩⟩ (fun m p=>Sm N m p.1.1 p.1.2.1 p.1.2.2.1 p.1.2.2.2.1) [⟨[.c [1,1,0,1,0,0,1,1,0,0,1,1,0,0],.c [1,1,0,1,0,0,1,1,0,0,1,1,0,1],.b 1,.c [1,1,0,1,0,0,1,1,1],.l [1,1,0,1,0,0],.b 0,.c [1,1,1]],⟨[],⟨[],[]⟩⟩,fun p=>some (.inl ())⟩,⟨[.c [1,1,1,0],.c [1,1,1,1]],⟨[],⟨[],[]⟩⟩,fun p=>some (.inr ())⟩] (fun _=>[]) (fun k e=>match e with | .inl x=>k (.inl ((),())) | .inr x=>k (.inr (.inl ((),())))) N (fun m p=>by kernel_rfl) (hg:=(by rintro _ _ (_ | _)<;>rfl))
noncomputable def Afq(N:Nat):Spec:=mkS 96 ⟨[.sl (.int .i64),.sl (.int .i64)],[]⟩ A6g (fun p=>A9o N p.1.1 p.1.2.1) (fun k r=>k ((r,()),()))
theorem A42(N:Nat):A2 Tryz.prog (Afq N):=mkF (R:=Bool) (m0:=0) (A0v N) [A6x N] (fun r=>some r.1.1) [] Tryz.func96 (fun p=>by kernel_rfl) (by kernel_rfl) (fun _=>by kernel_rfl)

def Adu(N:Nat)(a b:List Int):Option Bool:=
 (A9o N a b).bind fun x_1=>
 some x_1
noncomputable def Aif(N:Nat):Spec:=mkS 60 ⟨[.sl (.int .i64),.sl (.int .i64)],[]⟩ [⟨[.b],[]⟩] (fun p=>Adu N p.1.1 p.1.2.1) (fun k r=>k ((r,()),()))
theorem A5d(N:Nat):A2 Tryz.prog (Aif N):=mkF (R:=Bool) (m0:=0) [⟨_,A42 N⟩] [] (fun r=>some r.1.1) [] Tryz.func60 (fun p=>by kernel_rfl) (by kernel_rfl) (fun _=>by kernel_rfl)

def Sd(N:Nat):Nat→Qh→Qh→Int→Int→Option ((Unit)⊕(Unit))
 | 0,_,_,_,_=>none
 | n_+1,s1,s2,u,u2=>
  br (decide (u2<u))
   (idx s1 u2 fun x_1=>
   idx s2 u2 fun x_2=>
   br (!(decide (x_1.1=x_2.1)&&decide (x_1.2=x_2.2)))
    (some (.inl ()))
    (chk (u2+1)<|
    Sd N n_ s1 s2 u (u2+1)))
   (some (.inr ()))
def A8a(N:Nat)(s1 s2:List Qd):Option Bool:=
 br (!decide ((s1.length:Int)=(s2.length:Int)))
  (some false)
  ((Sd N N s1 s2 (s1.length:Int) 0).bind fun e=>match e with
  | .inl _=>
   some false
  | .inr _=>
   some true)
noncomputable def A19(N:Nat):Oks:=[]
abbrev A7k:List StSh:=[⟨[.b],[]⟩]
noncomputable abbrev Ahp:Body:=mkB Tryz.f97 A7k 0
noncomputable def A84(N:Nat){top:Bool}:LpQ Ahp top:=mkL (Z:=(Unit)⊕(Unit)) (A19 N) [] [.c [1,1,0,1,0,0,0],.c [1,1,0,1,0,0,1],.l [1,1,0,1,0,0],.b 0,.c [1,1,1]] ⟨[0,1,12,13],⟨[.sl Qc,.sl Qc,.i .i64,.i .i64],[]⟩⟩ (fun m p=>Sd N m p.1.1 p.1.2.1 p.1.2.2.1 p.1.2.2.2.1) [⟨[.c [1,1,0,1,0,0,1,1,0,0,1,1,0,0],.c [1,1,0,1,0,0,1,1,0,0,1,1,0,1],.b 1,.c [1,1,0,1,0,0,1,1,1],.l [1,1,0,1,0,0],.b 0,.c [1,1,1]],⟨[],⟨[],[]⟩⟩,fun p=>some (.inl ())⟩,⟨[.c [1,1,1,0],.c [1,1,1,1]],⟨[],⟨[],[]⟩⟩,fun p=>some (.inr ())⟩] (fun _=>[]) (fun k e=>match e with | .inl x=>k (.inl ((),())) | .inr x=>k (.inr (.inl ((),())))) N (fun m p=>by kernel_rfl) (hg:=(by rintro _ _ (_ | _)<;>rfl))
noncomputable def Agt(N:Nat):Spec:=mkS 97 ⟨[.sl Qc,.sl Qc],[]⟩ A7k (fun p=>A8a N p.1.1 p.1.2.1) (fun k r=>k ((r,()),()))
theorem A2q(N:Nat):A2 Tryz.prog (Agt N):=mkF (R:=Bool) (m0:=0) (A19 N) [A84 N] (fun r=>some r.1.1) [] Tryz.func97 (fun p=>by kernel_rfl) (by kernel_rfl) (fun _=>by kernel_rfl)

def A4s(N:Nat)(a b:List Qd):Option Bool:=
 (A8a N a b).bind fun x_1=>
 some x_1
noncomputable def Aki(N:Nat):Spec:=mkS 61 ⟨[.sl Qc,.sl Qc],[]⟩ [⟨[.b],[]⟩] (fun p=>A4s N p.1.1 p.1.2.1) (fun k r=>k ((r,()),()))
theorem A5l(N:Nat):A2 Tryz.prog (Aki N):=mkF (R:=Bool) (m0:=0) [⟨_,A2q N⟩] [] (fun r=>some r.1.1) [] Tryz.func61 (fun p=>by kernel_rfl) (by kernel_rfl) (fun _=>by kernel_rfl)

def Qx(N:Nat)(heard faults:Int):Option (List Qe×List Int×Int):=
 grd (decide ((0:Int)≤heard∧heard≤([1,4,2,2,3].length:Int)))<|
 some ([[1,2,3],[4,2]],([1,4,2,2,3].take heard.toNat),faults)
noncomputable def Aox(N:Nat):Spec:=mkS 4 ⟨[.i .i64,.i .i64],[]⟩ [⟨[.agg [.sl Qf,.sl (.int .i64),.i .i64]],[]⟩] (fun p=>Qx N p.1.1 p.1.2.1) (fun k r=>k (((r.1,r.2.1,r.2.2,()),()),()))
theorem Aeu(N:Nat):A2 Tryz.prog (Aox N):=mkF (R:=List Qe×List Int×Int) (m0:=0) [] [] (fun r=>some (r.1.1.1,r.1.1.2.1,r.1.1.2.2.1)) [] Tryz.func4 (fun p=>by kernel_rfl) (by kernel_rfl) (fun _=>by kernel_rfl)

def B0(N:Nat)  : Option Bool:=
 (Qx N 5 0).bind fun(x_1,y_2,y_3)=>
 (least_S N x_1 y_2 y_3 0 1).bind fun(x_4,y_5)=>
 (Qx N 5 0).bind fun(x_6,y_7,y_8)=>
 (Jl N x_6 y_7 y_8 0 1).bind fun(x_9,y_10)=>
 (Qx N 5 0).bind fun(x_11,y_12,y_13)=>
 (Nu N x_11 y_12 y_13 0 1).bind fun(x_14,y_15)=>
 (Qx N 5 2).bind fun(x_16,y_17,y_18)=>
 (Jb N x_16 y_17 y_18).bind fun(x_19,y_20)=>
 br (!decide (y_5=0))
  (some false)
  (br (!decide (y_10=0))
   (some false)
   (br (!decide (y_15=0))
    (some false)
    (br (!decide (y_20=0))
     (some false)
     (br (!decide (x_4=0))
      (some false)
      (br (!decide (x_9=2))
       (some false)
       ((Adu N x_14 [1,2,0,0,1]).bind fun x_21=>
       br (!x_21)
        (some false)
        ((A4s N x_19 [(0,1)]).bind fun x_22=>
        br (!x_22)
         (some false)
         ((Qx N 3 0).bind fun(x_23,y_24,y_25)=>
         (least_S N x_23 y_24 y_25 0 1).bind fun(x_26,y_27)=>
         (Qx N 5 0).bind fun(x_28,y_29,y_30)=>
         (dist_S N x_28 y_29 y_30 0 1).bind fun(x_31,y_32)=>
         (Qx N 5 0).bind fun(x_33,y_34,y_35)=>
         (Dx N x_33 y_34 y_35 0 1).bind fun(x_36,y_37)=>
         (Qx N 5 2).bind fun(x_38,y_39,y_40)=>
         (Nh N x_38 y_39 y_40).bind fun(x_41,y_42)=>
         br (decide (y_27=0))
          (br (decide (y_32=0))
           (br (decide (y_37=0))
            (br (decide (y_42=0))
             (br (decide (x_26=2))
              (br (decide (x_31=3))
               ((Ji N x_36 [2]).bind fun x_43=>
               br x_43
                ((A4s N x_41 [(0,1)]).bind fun x_44=>
                some x_44)
                (some false))
               (some false))
              (some false))
             (some false))
            (some false))
           (some false))
          (some false)))))))))
noncomputable def Aj5(N:Nat):Spec:=mkS 13 ⟨[],[]⟩ [⟨[.b],[]⟩] (fun p=>B0 N) (fun k r=>k ((r,()),()))
theorem D2(N:Nat):A2 Tryz.prog (Aj5 N):=mkF (R:=Bool) (m0:=0) [⟨_,Y8 N⟩,⟨_,N5 N⟩,⟨_,Xh N⟩,⟨_,La N⟩,⟨_,Tl N⟩,⟨_,Ul N⟩,⟨_,Yd N⟩,⟨_,K7 N⟩,⟨_,A5d N⟩,⟨_,A5l N⟩,⟨_,Aeu N⟩] [] (fun r=>some r.1.1) [] Tryz.func13 (fun p=>by kernel_rfl) (by kernel_rfl) (fun _=>by kernel_rfl)

def Ou(N:Nat)(l:List Int):Option Qe:=
 grd (lmI (l.length:Int))<|
 some (l.take (min l.length (List.replicate (l.length:Int).toNat (0:Int)).length)++(List.replicate (l.length:Int).toNat (0:Int)).drop (min l.length (List.replicate (l.length:Int).toNat (0:Int)).length))
noncomputable def Aik(N:Nat):Spec:=mkS 70 ⟨[.sl (.int .i64)],[]⟩ [⟨[.sl (.int .i64)],[]⟩] (fun p=>Ou N p.1.1) (fun k r=>k ((r,()),()))
theorem U4(N:Nat):A2 Tryz.prog (Aik N):=mkF (R:=List Int) (m0:=0) [] [] (fun r=>some r.1.1) [] Tryz.func70 (fun p=>by kernel_rfl) (by kernel_rfl) (fun _=>by kernel_rfl)

def copyr_l1(N:Nat):Nat→Qj→Int→Int→Qj→Option Qj
 | 0,_,_,_,_=>none
 | n_+1,u,u2,u3,out=>
  br (decide (u3<u2))
   (idx u u3 fun x_1=>
   (Ou N x_1).bind fun x_2=>
   rng u3 out.length<|
   get out u3.toNat fun _=>
   chk (u3+1)<|
   copyr_l1 N n_ u u2 (u3+1) (out.set u3.toNat x_2))
   (some (out))
def Mh(N:Nat)(l:List Qe):Option Qj:=
 grd (lmI (l.length:Int))<|
 (copyr_l1 N N l (l.length:Int) 0 (List.replicate (l.length:Int).toNat ([]:Qe))).bind fun out_4=>
 some out_4
noncomputable def A5z(N:Nat):Oks:=[⟨_,U4 N⟩]
abbrev Aek:List StSh:=[⟨[.sl Qf],[]⟩]
noncomputable abbrev Ana:Body:=mkB Tryz.f41 Aek 0
noncomputable def Ab9(N:Nat){top:Bool}:LpQ Ana top:=mkL (Z:=List Qe) (A5z N) [] [.c [1,1,0,1,0,0,0],.c [1,1,0,1,0,0,1],.l [1,1,0,1,0,0],.b 0,.c [1,1,1]] ⟨[3,9,10,11],⟨[.ols 0,.sl Qf,.i .i64,.i .i64],[.lst Qf]⟩⟩ (fun m p=>copyr_l1 N m p.1.2.1 p.1.2.2.1 p.1.2.2.2.1 p.2.1) [⟨[.c [1,1,1,0],.c [1,1,1,1]],⟨[3],⟨[.ols 0],[.lst Qf]⟩⟩,fun p=>some (p.2.1)⟩] (fun _=>[]) (fun k e=>k (.inl (((),()),(e,())))) N (fun m p=>by kernel_rfl)
noncomputable def Ai5(N:Nat):Spec:=mkS 41 ⟨[.sl Qf],[]⟩ Aek (fun p=>Mh N p.1.1) (fun k r=>k ((r,()),()))
theorem V1(N:Nat):A2 Tryz.prog (Ai5 N):=mkF (R:=List Qe) (m0:=0) (A5z N) [Ab9 N] (fun r=>some r.1.1) [] Tryz.func41 (fun p=>by kernel_rfl) (by kernel_rfl) (fun _=>by kernel_rfl)

def C9(N:Nat)(e:List Qe)(e2:List Int)(e3:Int):Option (List Qe×List Int×Int):=
 (Mh N e).bind fun x_1=>
 (Ou N e2).bind fun x_2=>
 some (x_1,x_2,e3)
noncomputable def Ai7(N:Nat):Spec:=mkS 23 ⟨[.agg [.sl Qf,.sl (.int .i64),.i .i64]],[]⟩ [⟨[.agg [.sl Qf,.sl (.int .i64),.i .i64]],[]⟩] (fun p=>C9 N p.1.1.1 p.1.1.2.1 p.1.1.2.2.1) (fun k r=>k (((r.1,r.2.1,r.2.2,()),()),()))
theorem F5(N:Nat):A2 Tryz.prog (Ai7 N):=mkF (R:=List Qe×List Int×Int) (m0:=0) [⟨_,U4 N⟩,⟨_,V1 N⟩] [] (fun r=>some (r.1.1.1,r.1.1.2.1,r.1.1.2.2.1)) [] Tryz.func23 (fun p=>by kernel_rfl) (by kernel_rfl) (fun _=>by kernel_rfl)

end Go.Proofs.YtfcnhnbnjdccfaaGreat

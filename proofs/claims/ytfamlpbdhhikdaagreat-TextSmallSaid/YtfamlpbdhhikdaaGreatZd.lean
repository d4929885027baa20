/-
  Parts of a proof, put together: SvP, InB, SvQ, X1, TG, TP1, TIt.
  Conditions: none.
-/
import Derived.Test.YtfamlpbdhhikdaaGreatChecked
import Derived.Test.YtfamlpbdhhikdaaGreatZa
import Derived.Test.YtfamlpbdhhikdaaGreatZc
namespace Go.Proofs.YtfamlpbdhhikdaaGreat
set_option linter.all false
open Go
theorem mixed : Tryz.prog.follows .mixedOrders = true := by kernel_rfl
theorem bind_congr_ {α Y : Type} (o : Option α) (f g : α → Option Y) (h : ∀ e, f e = g e) : o.bind f = o.bind g := by rw [funext h]
theorem SpecOK.none {P : Program} {s : Spec} (h : ∀ (Z : Type) (p : s.ins.den) (κ : altD s.outs → Option Z), s.run p κ = Option.none) (hc : ∀ args w, (callFunc s.f args).run P w = .ok (.enter s.f args) w) : SpecOK P s :=
 ⟨fun Z p κ => by rw [h, h]; rfl, hc, fun p r hr => by rw [h] at hr; cases hr⟩
end Go.Proofs.YtfamlpbdhhikdaaGreat

namespace Go.Proofs.YtfamlpbdhhikdaaGreat
set_option linter.all false
open Go
def Ty.inB : (t : Ty) → t.den → Prop
 | .int k, n => inR k n
 | .bool, _ => True
 | .pair a b, x => a.inB x.1 ∧ b.inB x.2
 | .sl a, l => l.length ≤ 9223372036854775807 ∧ ∀ x ∈ (l : List a.den), a.inB x
 | .ptr a, x => a.inB x
theorem Ty.inB_of {M : Nat → Option Obj} : ∀ (t : Ty) (x : t.den) (vs : List Value), RepC M t x vs → t.inB x
 | .int k, n, vs, h => h.2
 | .bool, _, _, _ => trivial
 | .pair a b, x, vs, h => by
  obtain ⟨v1, v2, _, h1, h2⟩ := h
  exact ⟨Ty.inB_of a _ _ h1, Ty.inB_of b _ _ h2⟩
 | .sl a, l, vs, h => by
  obtain ⟨v, _, h1, ad, cap, _, _, h2⟩ := h
  refine ⟨h1, fun x hx => ?_⟩
  rcases h2 with rfl | ⟨b, o, us, ty, _, _, h3⟩
  ·cases hx
  ·obtain ⟨i, hi⟩ := List.getElem?_of_mem hx
   obtain ⟨us, _, h4⟩ := h3 i x hi
   exact Ty.inB_of a _ _ h4
 | .ptr a, x, vs, h => by
  obtain ⟨b, o, ws, ty, us, _, _, _, h4⟩ := h
  exact Ty.inB_of a _ _ h4
theorem Ty.inB_i64 {n : Int} (h : (Ty.int .i64).inB n) : -9223372036854775808 ≤ n ∧ n ≤ 9223372036854775807 := by
 have h1 : IntKind.i64.min = -9223372036854775808 := by decide
 have h2 : IntKind.i64.max = 9223372036854775807 := by decide
 unfold Ty.inB inR at h
 rw [h1, h2] at h
 exact h
end Go.Proofs.YtfamlpbdhhikdaaGreat

namespace Go.Proofs.YtfamlpbdhhikdaaGreat
set_option linter.all false
open Go
abbrev Oks := List { s : Spec // SpecOK Tryz.prog s }
abbrev LpQ (B : Body) (top : Bool) := { x : LoopS // LoopOK Tryz.prog B.c B.n B.m0 top x }
abbrev JnQ {Z : Type} (B : Body) (top : Bool) (rt : Option (altD B.outs → Option Z)) (base : List (Leaf Z)) := { l : Leaf Z // ∀ z E Xc, EOK B.m0 E → CxOK top Xc → RetOK Tryz.prog B E Xc z rt → AllP (LeafOK Tryz.prog B.c B.n B.m0 E Xc z) base → LeafOK Tryz.prog B.c B.n B.m0 E Xc z l }
theorem allP_map.{u} {α : Type u} {p : α → Prop} : ∀ l : List { x : α // p x }, AllP p (l.map (·.1))
 | [] => trivial
 | x :: l => ⟨x.2, allP_map l⟩
theorem allP_app.{u} {α : Type u} {p : α → Prop} : ∀ {l m : List α}, AllP p l → AllP p m → AllP p (l ++ m)
 | [], _, _, h => h
 | _ :: _, _, h, h2 => ⟨h.1, allP_app h.2 h2⟩
section
variable {Z : Type} {B : Body} {top : Bool}
theorem allJ {rt : Option (altD B.outs → Option Z)} {base : List (Leaf Z)} {z : Z} {E : EE} {Xc : Ctx} (hE : EOK B.m0 E) (hX : CxOK top Xc) (hr : RetOK Tryz.prog B E Xc z rt) (hb : AllP (LeafOK Tryz.prog B.c B.n B.m0 E Xc z) base) : ∀ js : List (JnQ B top rt base), AllP (LeafOK Tryz.prog B.c B.n B.m0 E Xc z) (js.map (·.1))
 | [] => trivial
 | j :: js => ⟨j.2 z E Xc hE hX hr hb, allJ hE hX hr hb js⟩
def mkJ {rt : Option (altD B.outs → Option Z)} {base : List (Leaf Z)} (sp : Oks) (lps : List (LpQ B top)) (js : List (JnQ B top rt base)) (l : Leaf Z)
    (h : ∀ p, ev Tryz.prog (sp.map (·.1)) B (lps.map (·.1)) (base ++ js.map (·.1)) rt 400 true l.at_ (stL l.sta p) (stH l.sta p) = l.fn p) : JnQ B top rt base :=
 ⟨l, fun _ _ _ hE hX hr hb => leaf_of_ev (allP_map sp) mixed (allP_map lps) hE hX (allP_app hb (allJ hE hX hr hb js)) hr h⟩
abbrev exs (ex : List (Leaf Z)) : List (List PI × Sta) := ex.map fun l => (l.at_, l.sta)
def mkL (sp : Oks) (lps : List (LpQ B top)) (at_ : List PI) (sta : Sta) (F : Nat → sta.sh.den → Option Z) (ex : List (Leaf Z)) (js : (m : Nat) → List (JnQ B top none (⟨at_, sta, F m⟩ :: ex))) (g : {Y : Type} → (exD (exs ex) → Y) → Z → Y) (N : Nat)
    (hev : ∀ m p, ev Tryz.prog (sp.map (·.1)) B (lps.map (·.1)) ((⟨at_, sta, F m⟩ :: ex) ++ (js m).map (·.1)) none 400 true at_ (stL sta p) (stH sta p) = F (m + 1) p)
    (h0 : ∀ p, F 0 p = none := by intro _; rfl)
    (hg : ∀ (Y : Type) (k : exD (exs ex) → Y) (z : Z), g k z = k (g id z) := by intro _ _ _; rfl)
    (hex : ∀ z, AllP (fun l : Leaf Z => ∀ p, l.fn p = some z → exK (exs ex) (g id z) = (l.at_, stL l.sta p, stH l.sta p)) ex := by
   intro _; (repeat' apply And.intro) <;> first | exact trivial | (intro p h; obtain rfl := Option.some.inj h; rfl)) : LpQ B top :=
 ⟨{ at_ := at_, sta := sta, exits := exs ex, run := fun p k => (F N p).bind (g k) },
 loop_of_ev (N := N) F (g id) (fun Y p k => bind_congr_ _ _ _ fun e => hg _ k e) h0 fun m z E Xc hE hX hrec hx =>
  have hb : AllP (LeafOK Tryz.prog B.c B.n B.m0 E Xc z) (⟨at_, sta, F m⟩ :: ex) := ⟨hrec, by
   have h2 := hex z
   have key : ∀ l : List (Leaf Z), AllP (fun l : Leaf Z => ∀ p, l.fn p = some z → exK (exs ex) (g id z) = (l.at_, stL l.sta p, stH l.sta p)) l → AllP (LeafOK Tryz.prog B.c B.n B.m0 E Xc z) l := by
    intro l
    induction l with
    | nil => intro _; trivial
    | cons a l ih =>
     intro h
     refine ⟨fun p hp => ?_, ih h.2⟩
     have e := h.1 p hp
     intro a w hS
     have := hx a w
     rw [e] at this
     exact this hS
   exact key _ h2⟩
  leaf_of_ev (allP_map sp) mixed (allP_map lps) hE hX (allP_app hb (allJ hE hX RetOK.no hb (js m))) RetOK.no (hev m)⟩
end
def mkS {R : Type} (f : FuncId) (ins : StSh) (outs : List StSh) (F : ins.den → Option R) (g : {Y : Type} → (altD outs → Y) → R → Y) : Spec := { f := f, ins := ins, outs := outs, run := fun p k => (F p).bind (g k) }
def mkB (fn : Func) (outs : List StSh) (m0 : Nat) : Body := { c := fn.body.getD .skip, n := fn.ntmps, res := fn.results.toList, outs := outs, m0 := m0 }
theorem mkF {R : Type} {f : FuncId} {ins : StSh} {outs : List StSh} {F : ins.den → Option R} {g : {Y : Type} → (altD outs → Y) → R → Y} {fn : Func} {m0 : Nat} (sp : Oks) (lps : List (LpQ (mkB fn outs m0) true)) (rt : altD outs → Option R) (js : List (JnQ (mkB fn outs m0) true (some rt) ([] : List (Leaf R)))) (hf : Tryz.prog.funcs[f]? = some fn)
  (hev : ∀ p, ev Tryz.prog (sp.map (·.1)) (mkB fn outs m0) (lps.map (·.1)) (js.map (·.1)) (some rt) 400 false (nrm (mkB fn outs m0).c 99 [.c []]) (stL ⟨List.range' 0 ins.avs.length, ins⟩ p) (stH ⟨List.range' 0 ins.avs.length, ins⟩ p) = F p)
  (hb : (fn.body.isSome && decide (m0 = ins.blks.length) && ins.blks.all BSh.live) = true)
  (hc : ∀ args, Sem.pv Tryz.prog (callFunc f args) = some (.enter f args))
  (hg : ∀ (Y : Type) (k : altD outs → Y) (z : R), g k z = k (g id z) := by intro _ _ _; rfl)
  (hrt : ∀ r z, rt r = some z → g id z = r := by intro r z h; cases h; rfl) : SpecOK Tryz.prog (mkS f ins outs F g) := by
 simp only [Bool.and_eq_true, decide_eq_true_eq] at hb
 exact fn_sound (B := mkB fn outs m0) F (g id) rt (fun Y p k => bind_congr_ _ _ _ fun e => hg _ k e) hrt hf (by obtain ⟨c, e⟩ := Option.isSome_iff_exists.1 hb.1.1; rw [mkB, e]; rfl) rfl (by simp [mkB]) hb.1.2 rfl rfl (fun args w => Sem.pv_run _ _ _ (hc args) w)
  (allP_map sp) mixed (allP_map lps) (fun z E Xc hE hX hr => allJ (base := []) hE hX hr trivial js) hev hb.2
end Go.Proofs.YtfamlpbdhhikdaaGreat

namespace Go.Proofs.YtfamlpbdhhikdaaGreat
set_option linter.all false
open Go
abbrev Qa : Type := (List (Int × (Int × Bool))) × ((List (Int × (Int × Int))) × Int)
abbrev Qb : Ty := .pair (.sl (.pair (.int .i64) (.pair (.int .i64) .bool))) (.pair (.sl (.pair (.int .i64) (.pair (.int .i64) (.int .i64)))) (.int .i64))
abbrev Qc : Ty := .pair (.int .i64) (.pair (.int .i64) (.int .i64))
abbrev Qd : Ty := .pair (.int .i64) (.pair (.int .i64) .bool)
abbrev Qe : Type := Int × (Int × Bool)
abbrev Qf : Type := Int × (Int × Int)
abbrev Qg : Type := List Int
abbrev Qh : Type := List Qe
abbrev Qi : Type := List Qf
abbrev Qj : Type := List Int × Qa × List Bool
abbrev Qk : Type := Qa × Int × Qa × List Int × List Int
abbrev Ql : Ty := .sl (.int .i64)
abbrev Qm : Type := Qa × Int × List Int
abbrev Qn : Type := Int × Int
abbrev Qo : Ty := .ptr Qb
abbrev Qp : Type := List Int × Int × List Int × Bool × Int × Int × Int × Qh × Qi × Int
abbrev Qq : Type := List Bool
abbrev Qr : Type := List Qg
abbrev Qs : Type := List Int × Int × List Int × Bool × Int × Qh × Qi × Int
abbrev Qt : Type := Int × Int × Int × Int × Int
abbrev Qu : Type := Int × Int × Qh × Qi
abbrev Qv : Type := Qa × Int × Qa × Int × Qa × List Int × List Int
abbrev Qw : Type := Qa × Int
abbrev Qx : Type := List Int × Qa × Int
abbrev Qy : Type := Qa × Int × Int × Int × List Int × List Int
abbrev Qz : Type := List Int × Qh × Qi × Int × Int × Int × Qh
abbrev QA : Type := Qh × Qi × Int × Int × Int × List Int × Qh


def in__S (N : Nat) (n lo hi : Int) : Option Bool :=
 br (decide (lo ≤ n))
  (some (decide (n ≤ hi)))
  (some false)
noncomputable def sp_in_ (N : Nat) : Spec := mkS 66 ⟨[.i .i64, .i .i64, .i .i64], []⟩ [⟨[.b], []⟩] (fun p => in__S N p.1.1 p.1.2.1 p.1.2.2.1) (fun k r => k ((r, ()), ()))
theorem sp_in__ok (N : Nat) : SpecOK Tryz.prog (sp_in_ N) := mkF (R := Bool) (m0 := 0) [] [] (fun r => some r.1.1) [] Tryz.func66 (fun p => by kernel_rfl) (by kernel_rfl) (fun _ => by kernel_rfl)

def sum_l1 (N : Nat) : Nat → Int → Qg → Int → Int → Option Int
 | 0, _, _, _, _ => none
 | n_ + 1, n, u, u2, u3 =>
  br (decide (u3 < u2))
   (idx u u3 fun x_1 =>
   chk (n + x_1) <|
   chk (u3 + 1) <|
   sum_l1 N n_ (n + x_1) u u2 (u3 + 1))
   (some (n))
def sum_S (N : Nat) (l : List Int) : Option Int :=
 (sum_l1 N N 0 l (l.length : Int) 0).bind fun n_2 =>
 some n_2
noncomputable def sum_sp (N : Nat) : Oks := []
abbrev sum_o : List StSh := [⟨[.i .i64], []⟩]
noncomputable abbrev sum_B : Body := mkB Tryz.f111 sum_o 0
noncomputable def sum_l1_L (N : Nat) {top : Bool} : LpQ sum_B top := mkL (Z := Int) (sum_sp N) [] [.c [1, 1, 0, 1, 0, 0, 0], .c [1, 1, 0, 1, 0, 0, 1], .l [1, 1, 0, 1, 0, 0], .b 0, .c [1, 1, 1]] ⟨[3, 6, 7, 8], ⟨[.i .i64, .sl (.int .i64), .i .i64, .i .i64], []⟩⟩ (fun m p => sum_l1 N m p.1.1 p.1.2.1 p.1.2.2.1 p.1.2.2.2.1) [⟨[.c [1, 1, 1, 0], .c [1, 1, 1, 1]], ⟨[3], ⟨[.i .i64], []⟩⟩, fun p => some (p.1.1)⟩] (fun _ => []) (fun k e => k (.inl ((e, ()), ()))) N (fun m p => by kernel_rfl)
noncomputable def sp_sum (N : Nat) : Spec := mkS 111 ⟨[.sl (.int .i64)], []⟩ sum_o (fun p => sum_S N p.1.1) (fun k r => k ((r, ()), ()))
theorem sp_sum_ok (N : Nat) : SpecOK Tryz.prog (sp_sum N) := mkF (R := Int) (m0 := 0) (sum_sp N) [sum_l1_L N] (fun r => some r.1.1) [] Tryz.func111 (fun p => by kernel_rfl) (by kernel_rfl) (fun _ => by kernel_rfl)

def word_S (N : Nat) (t : List Qe) (t2 : List Qf) (t3 n : Int) : Option Bool :=
 chk ((t.length : Int) - 1) <|
 (in__S N n 0 ((t.length : Int) - 1)).bind fun x_1 =>
 some x_1
noncomputable def sp_word (N : Nat) : Spec := mkS 71 ⟨[.agg [.sl Qd, .sl Qc, .i .i64], .i .i64], []⟩ [⟨[.b], []⟩] (fun p => word_S N p.1.1.1 p.1.1.2.1 p.1.1.2.2.1 p.1.2.1) (fun k r => k ((r, ()), ()))
theorem sp_word_ok (N : Nat) : SpecOK Tryz.prog (sp_word N) := mkF (R := Bool) (m0 := 0) [⟨_, sp_in__ok N⟩] [] (fun r => some r.1.1) [] Tryz.func71 (fun p => by kernel_rfl) (by kernel_rfl) (fun _ => by kernel_rfl)

def check1_S (N : Nat) (w w2 : Int) (w3 : Bool) : Option Bool :=
 (in__S N w 1 9).bind fun x_1 =>
 br x_1
  ((in__S N w2 0 20).bind fun x_2 =>
  some x_2)
  (some false)
noncomputable def sp_check1 (N : Nat) : Spec := mkS 68 ⟨[.agg [.i .i64, .i .i64, .b]], []⟩ [⟨[.b], []⟩] (fun p => check1_S N p.1.1.1 p.1.1.2.1 p.1.1.2.2.1) (fun k r => k ((r, ()), ()))
theorem sp_check1_ok (N : Nat) : SpecOK Tryz.prog (sp_check1 N) := mkF (R := Bool) (m0 := 0) [⟨_, sp_in__ok N⟩] [] (fun r => some r.1.1) [] Tryz.func68 (fun p => by kernel_rfl) (by kernel_rfl) (fun _ => by kernel_rfl)

def check2_S (N : Nat) (x x2 x3 : Int) (u : Qa) : Option Bool :=
 (word_S N u.1 u.2.1 u.2.2 x).bind fun x_1 =>
 br x_1
  ((word_S N u.1 u.2.1 u.2.2 x2).bind fun x_2 =>
  br x_2
   ((word_S N u.1 u.2.1 u.2.2 x3).bind fun x_3 =>
   some x_3)
   (some false))
  (some false)
noncomputable def sp_check2 (N : Nat) : Spec := mkS 70 ⟨[.agg [.i .i64, .i .i64, .i .i64], .fe Qb], []⟩ [⟨[.b], []⟩] (fun p => check2_S N p.1.1.1 p.1.1.2.1 p.1.1.2.2.1 p.1.2.1) (fun k r => k ((r, ()), ()))
theorem sp_check2_ok (N : Nat) : SpecOK Tryz.prog (sp_check2 N) := mkF (R := Bool) (m0 := 0) [⟨_, sp_word_ok N⟩] [] (fun r => some r.1.1) [] Tryz.func70 (fun p => by kernel_rfl) (by kernel_rfl) (fun _ => by kernel_rfl)

def check3_S (N : Nat) (x x2 x3 : Int) : Option Bool :=
 some (decide (x2 ≤ x3))
noncomputable def sp_check3 (N : Nat) : Spec := mkS 72 ⟨[.agg [.i .i64, .i .i64, .i .i64]], []⟩ [⟨[.b], []⟩] (fun p => check3_S N p.1.1.1 p.1.1.2.1 p.1.1.2.2.1) (fun k r => k ((r, ()), ()))
theorem sp_check3_ok (N : Nat) : SpecOK Tryz.prog (sp_check3 N) := mkF (R := Bool) (m0 := 0) [] [] (fun r => some r.1.1) [] Tryz.func72 (fun p => by kernel_rfl) (by kernel_rfl) (fun _ => by kernel_rfl)

def check4_S (N : Nat) (x x2 x3 : Int) : Option Bool :=
 (in__S N x x2 x3).bind fun x_1 =>
 some (!x_1)
noncomputable def sp_check4 (N : Nat) : Spec := mkS 73 ⟨[.agg [.i .i64, .i .i64, .i .i64]], []⟩ [⟨[.b], []⟩] (fun p => check4_S N p.1.1.1 p.1.1.2.1 p.1.1.2.2.1) (fun k r => k ((r, ()), ()))
theorem sp_check4_ok (N : Nat) : SpecOK Tryz.prog (sp_check4 N) := mkF (R := Bool) (m0 := 0) [⟨_, sp_in__ok N⟩] [] (fun r => some r.1.1) [] Tryz.func73 (fun p => by kernel_rfl) (by kernel_rfl) (fun _ => by kernel_rfl)

def every1w_S (N : Nat) (x x2 : Int) (x3 : Bool) : Option Bool :=
 (check1_S N x x2 x3).bind fun x_1 =>
 some (!x_1)
noncomputable def sp_every1w (N : Nat) : Spec := mkS 113 ⟨[.agg [.i .i64, .i .i64, .b], .own 0 0], [.segs [.fn 68 [] []]]⟩ [⟨[.b], [.segs [.fn 68 [] []]]⟩] (fun p => every1w_S N p.1.1.1 p.1.1.2.1 p.1.1.2.2.1) (fun k r => k ((r, ()), ((((), ()), ()), ())))
theorem sp_every1w_ok (N : Nat) : SpecOK Tryz.prog (sp_every1w N) := mkF (R := Bool) (m0 := 1) [⟨_, sp_check1_ok N⟩] [] (fun r => some r.1.1) [] Tryz.func113 (fun p => by kernel_rfl) (by kernel_rfl) (fun _ => by kernel_rfl)

def ixfw_l1 (N : Nat) : Nat → Qh → Int → Int → Option ((Int) ⊕ (Unit))
 | 0, _, _, _ => none
 | n_ + 1, s, u, u2 =>
  br (decide (u2 < u))
   (idx s u2 fun x_1 =>
   (every1w_S N x_1.1 x_1.2.1 x_1.2.2).bind fun x_2 =>
   br x_2
    (some (.inl u2))
    (chk (u2 + 1) <|
    ixfw_l1 N n_ s u (u2 + 1)))
   (some (.inr ()))
def ixfw_S (N : Nat) (s : List Qe) : Option Int :=
 (ixfw_l1 N N s (s.length : Int) 0).bind fun e => match e with
 | .inl i_3 =>
  some i_3
 | .inr _ =>
  some (-1)
noncomputable def ixfw_sp (N : Nat) : Oks := [⟨_, sp_every1w_ok N⟩]
abbrev ixfw_o : List StSh := [⟨[.i .i64], [.segs [.fn 68 [] []]]⟩]
noncomputable abbrev ixfw_B : Body := mkB Tryz.f124 ixfw_o 1
noncomputable def ixfw_l1_L (N : Nat) {top : Bool} : LpQ ixfw_B top := mkL (Z := (Int) ⊕ (Unit)) (ixfw_sp N) [] [.c [1, 0, 1, 0, 0, 0], .c [1, 0, 1, 0, 0, 1], .l [1, 0, 1, 0, 0], .b 0, .c [1, 1]] ⟨[0, 1, 7, 8], ⟨[.sl Qd, .fn 113 [] [.own 0 0], .i .i64, .i .i64], [.segs [.fn 68 [] []]]⟩⟩ (fun m p => ixfw_l1 N m p.1.1 p.1.2.2.1 p.1.2.2.2.1) [⟨[.c [1, 0, 1, 0, 0, 1, 1, 0, 0, 1, 1, 0, 0], .c [1, 0, 1, 0, 0, 1, 1, 0, 0, 1, 1, 0, 1], .b 1, .c [1, 0, 1, 0, 0, 1, 1, 1], .l [1, 0, 1, 0, 0], .b 0, .c [1, 1]], ⟨[5], ⟨[.i .i64], [.segs [.fn 68 [] []]]⟩⟩, fun p => some (.inl p.1.1)⟩, ⟨[.c [1, 1, 0], .c [1, 1, 1]], ⟨[], ⟨[], [.segs [.fn 68 [] []]]⟩⟩, fun p => some (.inr ())⟩] (fun _ => []) (fun k e => match e with | .inl x => k (.inl ((x, ()), ((((), ()), ()), ()))) | .inr x => k (.inr (.inl ((), ((((), ()), ()), ()))))) N (fun m p => by kernel_rfl) (hg := (by rintro _ _ (_ | _) <;> rfl))
noncomputable def sp_ixfw (N : Nat) : Spec := mkS 124 ⟨[.sl Qd, .fn 113 [] [.own 0 0]], [.segs [.fn 68 [] []]]⟩ ixfw_o (fun p => ixfw_S N p.1.1) (fun k r => k ((r, ()), ((((), ()), ()), ())))
theorem sp_ixfw_ok (N : Nat) : SpecOK Tryz.prog (sp_ixfw N) := mkF (R := Int) (m0 := 1) (ixfw_sp N) [ixfw_l1_L N] (fun r => some r.1.1) [] Tryz.func124 (fun p => by kernel_rfl) (by kernel_rfl) (fun _ => by kernel_rfl)

def cofw_S (N : Nat) (s : List Qe) : Option Bool :=
 (ixfw_S N s).bind fun x_1 =>
 some (decide (0 ≤ x_1))
noncomputable def sp_cofw (N : Nat) : Spec := mkS 100 ⟨[.sl Qd, .fn 113 [] [.own 0 0]], [.segs [.fn 68 [] []]]⟩ [⟨[.b], [.segs [.fn 68 [] []]]⟩] (fun p => cofw_S N p.1.1) (fun k r => k ((r, ()), ((((), ()), ()), ())))
theorem sp_cofw_ok (N : Nat) : SpecOK Tryz.prog (sp_cofw N) := mkF (R := Bool) (m0 := 1) [⟨_, sp_ixfw_ok N⟩] [] (fun r => some r.1.1) [] Tryz.func100 (fun p => by kernel_rfl) (by kernel_rfl) (fun _ => by kernel_rfl)

def everyw_S (N : Nat) (l : List Qe) : Option Bool :=
 (cofw_S N l).bind fun x_1 =>
 some (!x_1)
noncomputable def sp_everyw (N : Nat) : Spec := mkS 67 ⟨[.sl Qd, .fn 68 [] []], []⟩ [⟨[.b], []⟩] (fun p => everyw_S N p.1.1) (fun k r => k ((r, ()), ()))
theorem sp_everyw_ok (N : Nat) : SpecOK Tryz.prog (sp_everyw N) := mkF (R := Bool) (m0 := 0) [⟨_, sp_cofw_ok N⟩] [] (fun r => some r.1.1) [] Tryz.func67 (fun p => by kernel_rfl) (by kernel_rfl) (fun _ => by kernel_rfl)

def every1t2_S (N : Nat) (x x2 x3 : Int) (g : Qa) : Option (Bool × Qa) :=
 (check2_S N x x2 x3 g).bind fun x_1 =>
 some ((!x_1), g)
noncomputable def sp_every1t2 (N : Nat) : Spec := mkS 115 ⟨[.agg [.i .i64, .i .i64, .i .i64], .own 0 0], [.segs [.fn 70 [] [.fe Qb]]]⟩ [⟨[.b], [.segs [.fn 70 [] [.fe Qb]]]⟩] (fun p => every1t2_S N p.1.1.1 p.1.1.2.1 p.1.1.2.2.1 p.2.1.1.2.1) (fun k r => k ((r.1, ()), ((((), (r.2, ())), ()), ())))
theorem sp_every1t2_ok (N : Nat) : SpecOK Tryz.prog (sp_every1t2 N) := mkF (R := Bool × Qa) (m0 := 1) [⟨_, sp_check2_ok N⟩] [] (fun r => some (r.1.1, r.2.1.1.2.1)) [] Tryz.func115 (fun p => by kernel_rfl) (by kernel_rfl) (fun _ => by kernel_rfl)

def ixft2_l1 (N : Nat) : Nat → Qi → Int → Int → (Qa) → Option ((Int × Qa) ⊕ (Qa))
 | 0, _, _, _, _ => none
 | n_ + 1, s, u, u2, f =>
  br (decide (u2 < u))
   (idx s u2 fun x_1 =>
   (every1t2_S N x_1.1 x_1.2.1 x_1.2.2 f).bind fun (x_2, y_3) =>
   br x_2
    (some (.inl (u2, y_3)))
    (chk (u2 + 1) <|
    ixft2_l1 N n_ s u (u2 + 1) y_3))
   (some (.inr f))
def ixft2_S (N : Nat) (s : List Qf) (f : Qa) : Option (Int × Qa) :=
 (ixft2_l1 N N s (s.length : Int) 0 f).bind fun e => match e with
 | .inl (i_4, g_5) =>
  some (i_4, g_5)
 | .inr g_6 =>
  some (-1, g_6)
noncomputable def ixft2_sp (N : Nat) : Oks := [⟨_, sp_every1t2_ok N⟩]
abbrev ixft2_o : List StSh := [⟨[.i .i64], [.segs [.fn 70 [] [.fe Qb]]]⟩]
noncomputable abbrev ixft2_B : Body := mkB Tryz.f129 ixft2_o 1
noncomputable def ixft2_l1_L (N : Nat) {top : Bool} : LpQ ixft2_B top := mkL (Z := (Int × Qa) ⊕ (Qa)) (ixft2_sp N) [] [.c [1, 0, 1, 0, 0, 0], .c [1, 0, 1, 0, 0, 1], .l [1, 0, 1, 0, 0], .b 0, .c [1, 1]] ⟨[0, 1, 7, 8], ⟨[.sl Qc, .fn 115 [] [.own 0 0], .i .i64, .i .i64], [.segs [.fn 70 [] [.fe Qb]]]⟩⟩ (fun m p => ixft2_l1 N m p.1.1 p.1.2.2.1 p.1.2.2.2.1 p.2.1.1.2.1) [⟨[.c [1, 0, 1, 0, 0, 1, 1, 0, 0, 1, 1, 0, 0], .c [1, 0, 1, 0, 0, 1, 1, 0, 0, 1, 1, 0, 1], .b 1, .c [1, 0, 1, 0, 0, 1, 1, 1], .l [1, 0, 1, 0, 0], .b 0, .c [1, 1]], ⟨[5], ⟨[.i .i64], [.segs [.fn 70 [] [.fe Qb]]]⟩⟩, fun p => some (.inl (p.1.1, p.2.1.1.2.1))⟩, ⟨[.c [1, 1, 0], .c [1, 1, 1]], ⟨[], ⟨[], [.segs [.fn 70 [] [.fe Qb]]]⟩⟩, fun p => some (.inr p.2.1.1.2.1)⟩] (fun _ => []) (fun k e => match e with | .inl x => k (.inl ((x.1, ()), ((((), (x.2, ())), ()), ()))) | .inr x => k (.inr (.inl ((), ((((), (x, ())), ()), ()))))) N (fun m p => by kernel_rfl) (hg := (by rintro _ _ (_ | _) <;> rfl))
noncomputable def sp_ixft2 (N : Nat) : Spec := mkS 129 ⟨[.sl Qc, .fn 115 [] [.own 0 0]], [.segs [.fn 70 [] [.fe Qb]]]⟩ ixft2_o (fun p => ixft2_S N p.1.1 p.2.1.1.2.1) (fun k r => k ((r.1, ()), ((((), (r.2, ())), ()), ())))
theorem sp_ixft2_ok (N : Nat) : SpecOK Tryz.prog (sp_ixft2 N) := mkF (R := Int × Qa) (m0 := 1) (ixft2_sp N) [ixft2_l1_L N] (fun r => some (r.1.1, r.2.1.1.2.1)) [] Tryz.func129 (fun p => by kernel_rfl) (by kernel_rfl) (fun _ => by kernel_rfl)

def coft2_S (N : Nat) (s : List Qf) (f : Qa) : Option (Bool × Qa) :=
 (ixft2_S N s f).bind fun (x_1, y_2) =>
 some ((decide (0 ≤ x_1)), y_2)
noncomputable def sp_coft2 (N : Nat) : Spec := mkS 114 ⟨[.sl Qc, .fn 115 [] [.own 0 0]], [.segs [.fn 70 [] [.fe Qb]]]⟩ [⟨[.b], [.segs [.fn 70 [] [.fe Qb]]]⟩] (fun p => coft2_S N p.1.1 p.2.1.1.2.1) (fun k r => k ((r.1, ()), ((((), (r.2, ())), ()), ())))
theorem sp_coft2_ok (N : Nat) : SpecOK Tryz.prog (sp_coft2 N) := mkF (R := Bool × Qa) (m0 := 1) [⟨_, sp_ixft2_ok N⟩] [] (fun r => some (r.1.1, r.2.1.1.2.1)) [] Tryz.func114 (fun p => by kernel_rfl) (by kernel_rfl) (fun _ => by kernel_rfl)

def everyt2_S (N : Nat) (l : List Qf) (holds : Qa) : Option Bool :=
 (coft2_S N l holds).bind fun (x_1, y_2) =>
 some (!x_1)
noncomputable def sp_everyt2 (N : Nat) : Spec := mkS 69 ⟨[.sl Qc, .fn 70 [] [.fe Qb]], []⟩ [⟨[.b], []⟩] (fun p => everyt2_S N p.1.1 p.1.2.1.2.1) (fun k r => k ((r, ()), ()))
theorem sp_everyt2_ok (N : Nat) : SpecOK Tryz.prog (sp_everyt2 N) := mkF (R := Bool) (m0 := 0) [⟨_, sp_coft2_ok N⟩] [] (fun r => some r.1.1) [] Tryz.func69 (fun p => by kernel_rfl) (by kernel_rfl) (fun _ => by kernel_rfl)

def every1t3_S (N : Nat) (x x2 x3 : Int) : Option Bool :=
 (check3_S N x x2 x3).bind fun x_1 =>
 some (!x_1)
noncomputable def sp_every1t3 (N : Nat) : Spec := mkS 115 ⟨[.agg [.i .i64, .i .i64, .i .i64], .own 0 0], [.segs [.fn 72 [] []]]⟩ [⟨[.b], [.segs [.fn 72 [] []]]⟩] (fun p => every1t3_S N p.1.1.1 p.1.1.2.1 p.1.1.2.2.1) (fun k r => k ((r, ()), ((((), ()), ()), ())))
theorem sp_every1t3_ok (N : Nat) : SpecOK Tryz.prog (sp_every1t3 N) := mkF (R := Bool) (m0 := 1) [⟨_, sp_check3_ok N⟩] [] (fun r => some r.1.1) [] Tryz.func115 (fun p => by kernel_rfl) (by kernel_rfl) (fun _ => by kernel_rfl)

def ixft3_l1 (N : Nat) : Nat → Qi → Int → Int → Option ((Int) ⊕ (Unit))
 | 0, _, _, _ => none
 | n_ + 1, s, u, u2 =>
  br (decide (u2 < u))
   (idx s u2 fun x_1 =>
   (every1t3_S N x_1.1 x_1.2.1 x_1.2.2).bind fun x_2 =>
   br x_2
    (some (.inl u2))
    (chk (u2 + 1) <|
    ixft3_l1 N n_ s u (u2 + 1)))
   (some (.inr ()))
def ixft3_S (N : Nat) (s : List Qf) : Option Int :=
 (ixft3_l1 N N s (s.length : Int) 0).bind fun e => match e with
 | .inl i_3 =>
  some i_3
 | .inr _ =>
  some (-1)
noncomputable def ixft3_sp (N : Nat) : Oks := [⟨_, sp_every1t3_ok N⟩]
abbrev ixft3_o : List StSh := [⟨[.i .i64], [.segs [.fn 72 [] []]]⟩]
noncomputable abbrev ixft3_B : Body := mkB Tryz.f129 ixft3_o 1
noncomputable def ixft3_l1_L (N : Nat) {top : Bool} : LpQ ixft3_B top := mkL (Z := (Int) ⊕ (Unit)) (ixft3_sp N) [] [.c [1, 0, 1, 0, 0, 0], .c [1, 0, 1, 0, 0, 1], .l [1, 0, 1, 0, 0], .b 0, .c [1, 1]] ⟨[0, 1, 7, 8], ⟨[.sl Qc, .fn 115 [] [.own 0 0], .i .i64, .i .i64], [.segs [.fn 72 [] []]]⟩⟩ (fun m p => ixft3_l1 N m p.1.1 p.1.2.2.1 p.1.2.2.2.1) [⟨[.c [1, 0, 1, 0, 0, 1, 1, 0, 0, 1, 1, 0, 0], .c [1, 0, 1, 0, 0, 1, 1, 0, 0, 1, 1, 0, 1], .b 1, .c [1, 0, 1, 0, 0, 1, 1, 1], .l [1, 0, 1, 0, 0], .b 0, .c [1, 1]], ⟨[5], ⟨[.i .i64], [.segs [.fn 72 [] []]]⟩⟩, fun p => some (.inl p.1.1)⟩, ⟨[.c [1, 1, 0], .c [1, 1, 1]], ⟨[], ⟨[], [.segs [.fn 72 [] []]]⟩⟩, fun p => some (.inr ())⟩] (fun _ => []) (fun k e => match e with | .inl x => k (.inl ((x, ()), ((((), ()), ()), ()))) | .inr x => k (.inr (.inl ((), ((((), ()), ()), ()))))) N (fun m p => by kernel_rfl) (hg := (by rintro _ _ (_ | _) <;> rfl))
noncomputable def sp_ixft3 (N : Nat) : Spec := mkS 129 ⟨[.sl Qc, .fn 115 [] [.own 0 0]], [.segs [.fn 72 [] []]]⟩ ixft3_o (fun p => ixft3_S N p.1.1) (fun k r => k ((r, ()), ((((), ()), ()), ())))
theorem sp_ixft3_ok (N : Nat) : SpecOK Tryz.prog (sp_ixft3 N) := mkF (R := Int) (m0 := 1) (ixft3_sp N) [ixft3_l1_L N] (fun r => some r.1.1) [] Tryz.func129 (fun p => by kernel_rfl) (by kernel_rfl) (fun _ => by kernel_rfl)

def coft3_S (N : Nat) (s : List Qf) : Option Bool :=
 (ixft3_S N s).bind fun x_1 =>
 some (decide (0 ≤ x_1))
noncomputable def sp_coft3 (N : Nat) : Spec := mkS 114 ⟨[.sl Qc, .fn 115 [] [.own 0 0]], [.segs [.fn 72 [] []]]⟩ [⟨[.b], [.segs [.fn 72 [] []]]⟩] (fun p => coft3_S N p.1.1) (fun k r => k ((r, ()), ((((), ()), ()), ())))
theorem sp_coft3_ok (N : Nat) : SpecOK Tryz.prog (sp_coft3 N) := mkF (R := Bool) (m0 := 1) [⟨_, sp_ixft3_ok N⟩] [] (fun r => some r.1.1) [] Tryz.func114 (fun p => by kernel_rfl) (by kernel_rfl) (fun _ => by kernel_rfl)

def everyt3_S (N : Nat) (l : List Qf) : Option Bool :=
 (coft3_S N l).bind fun x_1 =>
 some (!x_1)
noncomputable def sp_everyt3 (N : Nat) : Spec := mkS 69 ⟨[.sl Qc, .fn 72 [] []], []⟩ [⟨[.b], []⟩] (fun p => everyt3_S N p.1.1) (fun k r => k ((r, ()), ()))
theorem sp_everyt3_ok (N : Nat) : SpecOK Tryz.prog (sp_everyt3 N) := mkF (R := Bool) (m0 := 0) [⟨_, sp_coft3_ok N⟩] [] (fun r => some r.1.1) [] Tryz.func69 (fun p => by kernel_rfl) (by kernel_rfl) (fun _ => by kernel_rfl)

def every1t4_S (N : Nat) (x x2 x3 : Int) : Option Bool :=
 (check4_S N x x2 x3).bind fun x_1 =>
 some (!x_1)
noncomputable def sp_every1t4 (N : Nat) : Spec := mkS 115 ⟨[.agg [.i .i64, .i .i64, .i .i64], .own 0 0], [.segs [.fn 73 [] []]]⟩ [⟨[.b], [.segs [.fn 73 [] []]]⟩] (fun p => every1t4_S N p.1.1.1 p.1.1.2.1 p.1.1.2.2.1) (fun k r => k ((r, ()), ((((), ()), ()), ())))
theorem sp_every1t4_ok (N : Nat) : SpecOK Tryz.prog (sp_every1t4 N) := mkF (R := Bool) (m0 := 1) [⟨_, sp_check4_ok N⟩] [] (fun r => some r.1.1) [] Tryz.func115 (fun p => by kernel_rfl) (by kernel_rfl) (fun _ => by kernel_rfl)

def ixft4_l1 (N : Nat) : Nat → Qi → Int → Int → Option ((Int) ⊕ (Unit))
 | 0, _, _, _ => none
 | n_ + 1, s, u, u2 =>
  br (decide (u2 < u))
   (idx s u2 fun x_1 =>
   (every1t4_S N x_1.1 x_1.2.1 x_1.2.2).bind fun x_2 =>
   br x_2
    (some (.inl u2))
    (chk (u2 + 1) <|
    ixft4_l1 N n_ s u (u2 + 1)))
   (some (.inr ()))
def ixft4_S (N : Nat) (s : List Qf) : Option Int :=
 (ixft4_l1 N N s (s.length : Int) 0).bind fun e => match e with
 | .inl i_3 =>
  some i_3
 | .inr _ =>
  some (-1)
noncomputable def ixft4_sp (N : Nat) : Oks := [⟨_, sp_every1t4_ok N⟩]
abbrev ixft4_o : List StSh := [⟨[.i .i64], [.segs [.fn 73 [] []]]⟩]
noncomputable abbrev ixft4_B : Body := mkB Tryz.f129 ixft4_o 1
noncomputable def ixft4_l1_L (N : Nat) {top : Bool} : LpQ ixft4_B top := mkL (Z := (Int) ⊕ (Unit)) (ixft4_sp N) [] [.c [1, 0, 1, 0, 0, 0], .c [1, 0, 1, 0, 0, 1], .l [1, 0, 1, 0, 0], .b 0, .c [1, 1]] ⟨[0, 1, 7, 8], ⟨[.sl Qc, .fn 115 [] [.own 0 0], .i .i64, .i .i64], [.segs [.fn 73 [] []]]⟩⟩ (fun m p => ixft4_l1 N m p.1.1 p.1.2.2.1 p.1.2.2.2.1) [⟨[.c [1, 0, 1, 0, 0, 1, 1, 0, 0, 1, 1, 0, 0], .c [1, 0, 1, 0, 0, 1, 1, 0, 0, 1, 1, 0, 1], .b 1, .c [1, 0, 1, 0, 0, 1, 1, 1], .l [1, 0, 1, 0, 0], .b 0, .c [1, 1]], ⟨[5], ⟨[.i .i64], [.segs [.fn 73 [] []]]⟩⟩, fun p => some (.inl p.1.1)⟩, ⟨[.c [1, 1, 0], .c [1, 1, 1]], ⟨[], ⟨[], [.segs [.fn 73 [] []]]⟩⟩, fun p => some (.inr ())⟩] (fun _ => []) (fun k e => match e with | .inl x => k (.inl ((x, ()), ((((), ()), ()), ()))) | .inr x => k (.inr (.inl ((), ((((), ()), ()), ()))))) N (fun m p => by kernel_rfl) (hg := (by rintro _ _ (_ | _) <;> rfl))
noncomputable def sp_ixft4 (N : Nat) : Spec := mkS 129 ⟨[.sl Qc, .fn 115 [] [.own 0 0]], [.segs [.fn 73 [] []]]⟩ ixft4_o (fun p => ixft4_S N p.1.1) (fun k r => k ((r, ()), ((((), ()), ()), ())))
theorem sp_ixft4_ok (N : Nat) : SpecOK Tryz.prog (sp_ixft4 N) := mkF (R := Int) (m0 := 1) (ixft4_sp N) [ixft4_l1_L N] (fun r => some r.1.1) [] Tryz.func129 (fun p => by kernel_rfl) (by kernel_rfl) (fun _ => by kernel_rfl)

def coft4_S (N : Nat) (s : List Qf) : Option Bool :=
 (ixft4_S N s).bind fun x_1 =>
 some (decide (0 ≤ x_1))
noncomputable def sp_coft4 (N : Nat) : Spec := mkS 114 ⟨[.sl Qc, .fn 115 [] [.own 0 0]], [.segs [.fn 73 [] []]]⟩ [⟨[.b], [.segs [.fn 73 [] []]]⟩] (fun p => coft4_S N p.1.1) (fun k r => k ((r, ()), ((((), ()), ()), ())))
theorem sp_coft4_ok (N : Nat) : SpecOK Tryz.prog (sp_coft4 N) := mkF (R := Bool) (m0 := 1) [⟨_, sp_ixft4_ok N⟩] [] (fun r => some r.1.1) [] Tryz.func114 (fun p => by kernel_rfl) (by kernel_rfl) (fun _ => by kernel_rfl)

def everyt4_S (N : Nat) (l : List Qf) : Option Bool :=
 (coft4_S N l).bind fun x_1 =>
 some (!x_1)
noncomputable def sp_everyt4 (N : Nat) : Spec := mkS 69 ⟨[.sl Qc, .fn 73 [] []], []⟩ [⟨[.b], []⟩] (fun p => everyt4_S N p.1.1) (fun k r => k ((r, ()), ()))
theorem sp_everyt4_ok (N : Nat) : SpecOK Tryz.prog (sp_everyt4 N) := mkF (R := Bool) (m0 := 0) [⟨_, sp_coft4_ok N⟩] [] (fun r => some r.1.1) [] Tryz.func69 (fun p => by kernel_rfl) (by kernel_rfl) (fun _ => by kernel_rfl)

def check_S (N : Nat) (t : List Qe) (t2 : List Qf) (t3 : Int) : Option Int :=
 (in__S N (t.length : Int) 1 12).bind fun x_1 =>
 br (!x_1)
  (some 2)
  (br (decide (6 < (t2.length : Int)))
   (some 2)
   ((in__S N t3 1 40).bind fun x_2 =>
   br (!x_2)
    (some 3)
    ((everyw_S N t).bind fun x_3 =>
    br (!x_3)
     (some 3)
     ((everyt2_S N t2 (t, t2, t3)).bind fun x_4 =>
     br (!x_4)
      (some 1)
      ((everyt3_S N t2).bind fun x_5 =>
      br (!x_5)
       (some 4)
       ((everyt4_S N t2).bind fun x_6 =>
       br (!x_6)
        (some 7)
        (some 0)))))))
noncomputable def sp_check (N : Nat) : Spec := mkS 16 ⟨[.agg [.sl Qd, .sl Qc, .i .i64]], []⟩ [⟨[.i .i64], []⟩] (fun p => check_S N p.1.1.1 p.1.1.2.1 p.1.1.2.2.1) (fun k r => k ((r, ()), ()))
theorem sp_check_ok (N : Nat) : SpecOK Tryz.prog (sp_check N) := mkF (R := Int) (m0 := 0) [⟨_, sp_in__ok N⟩, ⟨_, sp_everyw_ok N⟩, ⟨_, sp_everyt2_ok N⟩, ⟨_, sp_everyt3_ok N⟩, ⟨_, sp_everyt4_ok N⟩] [] (fun r => some r.1.1) [] Tryz.func16 (fun p => by kernel_rfl) (by kernel_rfl) (fun _ => by kernel_rfl)

def opened_S (N : Nat) (t : List Qe) (t2 : List Qf) (t3 : Int) : Option (Qw ⊕ (Int)) :=
 (check_S N t t2 t3).bind fun x_1 =>
 br (!decide (x_1 = 0))
  (some (.inr x_1))
  (some (.inl ((t, t2, t3), 0)))
noncomputable def sp_opened (N : Nat) : Spec := mkS 57 ⟨[.agg [.sl Qd, .sl Qc, .i .i64]], []⟩ [⟨[.fe Qb, .i .i64], []⟩, ⟨[.nilp, .i .i64], []⟩] (fun p => opened_S N p.1.1.1 p.1.1.2.1 p.1.1.2.2.1) (fun k r => match r with | .inl r => k (.inl ((r.1, r.2, ()), ())) | .inr r => k (.inr (((), r, ()), ())))
theorem sp_opened_ok (N : Nat) : SpecOK Tryz.prog (sp_opened N) := mkF (R := Qw ⊕ (Int)) (m0 := 0) [⟨_, sp_check_ok N⟩] [] (fun r => match r with | .inl r => some (.inl (r.1.1, r.1.2.1)) | .inr r => some (.inr r.1.2.1)) [] Tryz.func57 (fun p => by kernel_rfl) (by kernel_rfl) (fun _ => by kernel_rfl) (by rintro _ _ (_ | _) <;> rfl) (by rintro (_ | _) z h <;> (cases h; rfl))

def end__S (N : Nat) (d : Qa) : Option Int :=
 some (d.1.length : Int)
noncomputable def sp_end_ (N : Nat) : Spec := mkS 60 ⟨[.fe Qb], []⟩ [⟨[.i .i64], []⟩] (fun p => end__S N p.1.1) (fun k r => k ((r, ()), ()))
theorem sp_end__ok (N : Nat) : SpecOK Tryz.prog (sp_end_ N) := mkF (R := Int) (m0 := 0) [] [] (fun r => some r.1.1) [] Tryz.func60 (fun p => by kernel_rfl) (by kernel_rfl) (fun _ => by kernel_rfl)

def syllables_l1 (N : Nat) : Nat → Int → Qh → Int → Int → Option Int
 | 0, _, _, _, _ => none
 | n_ + 1, n, u, u2, u3 =>
  br (decide (u3 < u2))
   (idx u u3 fun x_1 =>
   chk (n + x_1.1) <|
   chk (u3 + 1) <|
   syllables_l1 N n_ (n + x_1.1) u u2 (u3 + 1))
   (some (n))
def syllables_S (N : Nat) (d : Qa) (from_ to : Int) : Option Int :=
 grd (decide ((0 : Int) ≤ from_ ∧ (from_ : Int) ≤ to ∧ to ≤ (d.1.length : Int))) <|
 (syllables_l1 N N 0 ((d.1.take to.toNat).drop from_.toNat) (((d.1.take to.toNat).drop from_.toNat).length : Int) 0).bind fun n_2 =>
 some n_2
noncomputable def syllables_sp (N : Nat) : Oks := []
abbrev syllables_o : List StSh := [⟨[.i .i64], []⟩]
noncomputable abbrev syllables_B : Body := mkB Tryz.f106 syllables_o 0
noncomputable def syllables_l1_L (N : Nat) {top : Bool} : LpQ syllables_B top := mkL (Z := Int) (syllables_sp N) [] [.c [1, 1, 0, 1, 0, 0, 0], .c [1, 1, 0, 1, 0, 0, 1], .l [1, 1, 0, 1, 0, 0], .b 0, .c [1, 1, 1]] ⟨[7, 17, 18, 19], ⟨[.i .i64, .sl Qd, .i .i64, .i .i64], []⟩⟩ (fun m p => syllables_l1 N m p.1.1 p.1.2.1 p.1.2.2.1 p.1.2.2.2.1) [⟨[.c [1, 1, 1, 0], .c [1, 1, 1, 1]], ⟨[7], ⟨[.i .i64], []⟩⟩, fun p => some (p.1.1)⟩] (fun _ => []) (fun k e => k (.inl ((e, ()), ()))) N (fun m p => by kernel_rfl)
noncomputable def sp_syllables (N : Nat) : Spec := mkS 106 ⟨[.fe Qb, .i .i64, .i .i64], []⟩ syllables_o (fun p => syllables_S N p.1.1 p.1.2.1 p.1.2.2.1) (fun k r => k ((r, ()), ()))
theorem sp_syllables_ok (N : Nat) : SpecOK Tryz.prog (sp_syllables N) := mkF (R := Int) (m0 := 0) (syllables_sp N) [syllables_l1_L N] (fun r => some r.1.1) [] Tryz.func106 (fun p => by kernel_rfl) (by kernel_rfl) (fun _ => by kernel_rfl)

def turned_j1 (N : Nat) (rec : Int → Int → Qi → Int → Int → Qg → Option Qg) (from_ to : Int) (u : List Qf) (u2 u3 : Int) (out : List Int) : Option Qg :=
 chk (u3 + 1) <|
 rec from_ to u u2 (u3 + 1) out
def turned_l1 (N : Nat) : Nat → Int → Int → Qi → Int → Int → Qg → Option Qg
 | 0, _, _, _, _, _, _ => none
 | n_ + 1, from_, to, u, u2, u3, out =>
  br (decide (u3 < u2))
   (idx u u3 fun x_1 =>
   br (decide (from_ ≤ x_1.2.1))
    (br (decide (x_1.2.2 < to))
     (chk (to - 1) <|
     (in__S N x_1.1 from_ (to - 1)).bind fun x_2 =>
     br (!x_2)
      (lim (out.length + [u3].length) <|
      turned_j1 N (turned_l1 N n_) from_ to u u2 u3 (out ++ [u3]))
      (turned_j1 N (turned_l1 N n_) from_ to u u2 u3 out))
     (turned_j1 N (turned_l1 N n_) from_ to u u2 u3 out))
    (turned_j1 N (turned_l1 N n_) from_ to u u2 u3 out))
   (some (out))
def turned_S (N : Nat) (d : Qa) (from_ to : Int) : Option Qg :=
 (turned_l1 N N from_ to d.2.1 (d.2.1.length : Int) 0 []).bind fun out_3 =>
 some out_3
noncomputable def turned_sp (N : Nat) : Oks := [⟨_, sp_in__ok N⟩]
abbrev turned_o : List StSh := [⟨[.sl (.int .i64)], []⟩]
noncomputable abbrev turned_B : Body := mkB Tryz.f77 turned_o 0
abbrev turned_l1_at : List PI := [.c [1, 1, 0, 1, 0, 0, 0], .c [1, 1, 0, 1, 0, 0, 1], .l [1, 1, 0, 1, 0, 0], .b 0, .c [1, 1, 1]]
abbrev turned_l1_st : Sta := ⟨[1, 2, 7, 14, 15, 16], ⟨[.i .i64, .i .i64, .ols 0, .sl Qc, .i .i64, .i .i64], [.lst (.int .i64)]⟩⟩
abbrev turned_l1_h (rec : Int → Int → Qi → Int → Int → Qg → Option Qg) : Leaf Qg := ⟨turned_l1_at, turned_l1_st, fun p => rec p.1.1 p.1.2.1 p.1.2.2.2.1 p.1.2.2.2.2.1 p.1.2.2.2.2.2.1 p.2.1⟩
abbrev turned_l1_e0 : Leaf Qg := ⟨[.c [1, 1, 1, 0], .c [1, 1, 1, 1]], ⟨[7], ⟨[.ols 0], [.lst (.int .i64)]⟩⟩, fun p => some (p.2.1)⟩
noncomputable def turned_j1_k (N : Nat) (rec : Int → Int → Qi → Int → Int → Qg → Option Qg) {top : Bool} : JnQ (Z := List Int) turned_B top none [turned_l1_h rec, turned_l1_e0] := mkJ (turned_sp N) [] [] ⟨[.c [1, 1, 0, 1, 0, 0, 1, 1, 1], .l [1, 1, 0, 1, 0, 0], .b 0, .c [1, 1, 1]], ⟨[1, 2, 7, 14, 15, 16], ⟨[.i .i64, .i .i64, .ols 0, .sl Qc, .i .i64, .i .i64], [.lst (.int .i64)]⟩⟩, fun p => turned_j1 N rec p.1.1 p.1.2.1 p.1.2.2.2.1 p.1.2.2.2.2.1 p.1.2.2.2.2.2.1 p.2.1⟩ (fun p => by kernel_rfl)
noncomputable def turned_l1_L (N : Nat) {top : Bool} : LpQ turned_B top := mkL (Z := List Int) (turned_sp N) [] turned_l1_at turned_l1_st (fun m p => turned_l1 N m p.1.1 p.1.2.1 p.1.2.2.2.1 p.1.2.2.2.2.1 p.1.2.2.2.2.2.1 p.2.1) [turned_l1_e0] (fun m => [turned_j1_k N (turned_l1 N m)]) (fun k e => k (.inl (((), ()), (e, ())))) N (fun m p => by kernel_rfl)
noncomputable def sp_turned (N : Nat) : Spec := mkS 77 ⟨[.fe Qb, .i .i64, .i .i64], []⟩ turned_o (fun p => turned_S N p.1.1 p.1.2.1 p.1.2.2.1) (fun k r => k ((r, ()), ()))
theorem sp_turned_ok (N : Nat) : SpecOK Tryz.prog (sp_turned N) := mkF (R := List Int) (m0 := 0) (turned_sp N) [turned_l1_L N] (fun r => some r.1.1) [] Tryz.func77 (fun p => by kernel_rfl) (by kernel_rfl) (fun _ => by kernel_rfl)

def stops_S (N : Nat) (d : Qa) (place : Int) : Option Bool :=
 br (decide (place = 0))
  (some true)
  ((end__S N d).bind fun x_1 =>
  br (decide (place = x_1))
   (some true)
   (chk (place - 1) <|
   idx d.1 (place - 1) fun x_2 =>
   some x_2.2.2))
noncomputable def sp_stops (N : Nat) : Spec := mkS 128 ⟨[.fe Qb, .i .i64], []⟩ [⟨[.b], []⟩] (fun p => stops_S N p.1.1 p.1.2.1) (fun k r => k ((r, ()), ()))
theorem sp_stops_ok (N : Nat) : SpecOK Tryz.prog (sp_stops N) := mkF (R := Bool) (m0 := 0) [⟨_, sp_end__ok N⟩] [] (fun r => some r.1.1) [] Tryz.func128 (fun p => by kernel_rfl) (by kernel_rfl) (fun _ => by kernel_rfl)

def fault_S (N : Nat) (d : Qa) (from_ to : Int) : Option (Int × Bool) :=
 (syllables_S N d from_ to).bind fun x_1 =>
 br (decide (d.2.2 < x_1))
  (some (0, true))
  ((stops_S N d from_).bind fun x_2 =>
  br (!x_2)
   (some (1, true))
   ((stops_S N d to).bind fun x_3 =>
   br (!x_3)
    (some (1, true))
    ((turned_S N d from_ to).bind fun x_4 =>
    some (2, (decide (0 < (x_4.length : Int)))))))
noncomputable def sp_fault (N : Nat) : Spec := mkS 110 ⟨[.fe Qb, .i .i64, .i .i64], []⟩ [⟨[.i .i64, .b], []⟩] (fun p => fault_S N p.1.1 p.1.2.1 p.1.2.2.1) (fun k r => k ((r.1, r.2, ()), ()))
theorem sp_fault_ok (N : Nat) : SpecOK Tryz.prog (sp_fault N) := mkF (R := Int × Bool) (m0 := 0) [⟨_, sp_syllables_ok N⟩, ⟨_, sp_turned_ok N⟩, ⟨_, sp_stops_ok N⟩] [] (fun r => some (r.1.1, r.1.2.1)) [] Tryz.func110 (fun p => by kernel_rfl) (by kernel_rfl) (fun _ => by kernel_rfl)

def right_S (N : Nat) (d : Qa) (from_ to : Int) : Option Bool :=
 (fault_S N d from_ to).bind fun (x_1, y_2) =>
 some (!y_2)
noncomputable def sp_right (N : Nat) : Spec := mkS 58 ⟨[.fe Qb, .i .i64, .i .i64], []⟩ [⟨[.b], []⟩] (fun p => right_S N p.1.1 p.1.2.1 p.1.2.2.1) (fun k r => k ((r, ()), ()))
theorem sp_right_ok (N : Nat) : SpecOK Tryz.prog (sp_right N) := mkF (R := Bool) (m0 := 0) [⟨_, sp_fault_ok N⟩] [] (fun r => some r.1.1) [] Tryz.func58 (fun p => by kernel_rfl) (by kernel_rfl) (fun _ => by kernel_rfl)

def reading1_S (N : Nat) (n : Int) : Option Bool :=
 (in__S N n 1 12).bind fun x_1 =>
 some x_1
noncomputable def sp_reading1 (N : Nat) : Spec := mkS 116 ⟨[.i .i64], []⟩ [⟨[.b], []⟩] (fun p => reading1_S N p.1.1) (fun k r => k ((r, ()), ()))
theorem sp_reading1_ok (N : Nat) : SpecOK Tryz.prog (sp_reading1 N) := mkF (R := Bool) (m0 := 0) [⟨_, sp_in__ok N⟩] [] (fun r => some r.1.1) [] Tryz.func116 (fun p => by kernel_rfl) (by kernel_rfl) (fun _ => by kernel_rfl)

def every1i1_S (N : Nat) (x : Int) : Option Bool :=
 (reading1_S N x).bind fun x_1 =>
 some (!x_1)
noncomputable def sp_every1i1 (N : Nat) : Spec := mkS 121 ⟨[.i .i64, .own 0 0], [.segs [.fn 116 [] []]]⟩ [⟨[.b], [.segs [.fn 116 [] []]]⟩] (fun p => every1i1_S N p.1.1) (fun k r => k ((r, ()), ((((), ()), ()), ())))
theorem sp_every1i1_ok (N : Nat) : SpecOK Tryz.prog (sp_every1i1 N) := mkF (R := Bool) (m0 := 1) [⟨_, sp_reading1_ok N⟩] [] (fun r => some r.1.1) [] Tryz.func121 (fun p => by kernel_rfl) (by kernel_rfl) (fun _ => by kernel_rfl)

def ixfi1_l1 (N : Nat) : Nat → Qg → Int → Int → Option ((Int) ⊕ (Unit))
 | 0, _, _, _ => none
 | n_ + 1, s, u, u2 =>
  br (decide (u2 < u))
   (idx s u2 fun x_1 =>
   (every1i1_S N x_1).bind fun x_2 =>
   br x_2
    (some (.inl u2))
    (chk (u2 + 1) <|
    ixfi1_l1 N n_ s u (u2 + 1)))
   (some (.inr ()))
def ixfi1_S (N : Nat) (s : List Int) : Option Int :=
 (ixfi1_l1 N N s (s.length : Int) 0).bind fun e => match e with
 | .inl i_3 =>
  some i_3
 | .inr _ =>
  some (-1)
noncomputable def ixfi1_sp (N : Nat) : Oks := [⟨_, sp_every1i1_ok N⟩]
abbrev ixfi1_o : List StSh := [⟨[.i .i64], [.segs [.fn 116 [] []]]⟩]
noncomputable abbrev ixfi1_B : Body := mkB Tryz.f130 ixfi1_o 1
noncomputable def ixfi1_l1_L (N : Nat) {top : Bool} : LpQ ixfi1_B top := mkL (Z := (Int) ⊕ (Unit)) (ixfi1_sp N) [] [.c [1, 0, 1, 0, 0, 0], .c [1, 0, 1, 0, 0, 1], .l [1, 0, 1, 0, 0], .b 0, .c [1, 1]] ⟨[0, 1, 7, 8], ⟨[.sl (.int .i64), .fn 121 [] [.own 0 0], .i .i64, .i .i64], [.segs [.fn 116 [] []]]⟩⟩ (fun m p => ixfi1_l1 N m p.1.1 p.1.2.2.1 p.1.2.2.2.1) [⟨[.c [1, 0, 1, 0, 0, 1, 1, 0, 0, 1, 1, 0, 0], .c [1, 0, 1, 0, 0, 1, 1, 0, 0, 1, 1, 0, 1], .b 1, .c [1, 0, 1, 0, 0, 1, 1, 1], .l [1, 0, 1, 0, 0], .b 0, .c [1, 1]], ⟨[5], ⟨[.i .i64], [.segs [.fn 116 [] []]]⟩⟩, fun p => some (.inl p.1.1)⟩, ⟨[.c [1, 1, 0], .c [1, 1, 1]], ⟨[], ⟨[], [.segs [.fn 116 [] []]]⟩⟩, fun p => some (.inr ())⟩] (fun _ => []) (fun k e => match e with | .inl x => k (.inl ((x, ()), ((((), ()), ()), ()))) | .inr x => k (.inr (.inl ((), ((((), ()), ()), ()))))) N (fun m p => by kernel_rfl) (hg := (by rintro _ _ (_ | _) <;> rfl))
noncomputable def sp_ixfi1 (N : Nat) : Spec := mkS 130 ⟨[.sl (.int .i64), .fn 121 [] [.own 0 0]], [.segs [.fn 116 [] []]]⟩ ixfi1_o (fun p => ixfi1_S N p.1.1) (fun k r => k ((r, ()), ((((), ()), ()), ())))
theorem sp_ixfi1_ok (N : Nat) : SpecOK Tryz.prog (sp_ixfi1 N) := mkF (R := Int) (m0 := 1) (ixfi1_sp N) [ixfi1_l1_L N] (fun r => some r.1.1) [] Tryz.func130 (fun p => by kernel_rfl) (by kernel_rfl) (fun _ => by kernel_rfl)

def cofi1_S (N : Nat) (s : List Int) : Option Bool :=
 (ixfi1_S N s).bind fun x_1 =>
 some (decide (0 ≤ x_1))
noncomputable def sp_cofi1 (N : Nat) : Spec := mkS 120 ⟨[.sl (.int .i64), .fn 121 [] [.own 0 0]], [.segs [.fn 116 [] []]]⟩ [⟨[.b], [.segs [.fn 116 [] []]]⟩] (fun p => cofi1_S N p.1.1) (fun k r => k ((r, ()), ((((), ()), ()), ())))
theorem sp_cofi1_ok (N : Nat) : SpecOK Tryz.prog (sp_cofi1 N) := mkF (R := Bool) (m0 := 1) [⟨_, sp_ixfi1_ok N⟩] [] (fun r => some r.1.1) [] Tryz.func120 (fun p => by kernel_rfl) (by kernel_rfl) (fun _ => by kernel_rfl)

def everyi1_S (N : Nat) (l : List Int) : Option Bool :=
 (cofi1_S N l).bind fun x_1 =>
 some (!x_1)
noncomputable def sp_everyi1 (N : Nat) : Spec := mkS 86 ⟨[.sl (.int .i64), .fn 116 [] []], []⟩ [⟨[.b], []⟩] (fun p => everyi1_S N p.1.1) (fun k r => k ((r, ()), ()))
theorem sp_everyi1_ok (N : Nat) : SpecOK Tryz.prog (sp_everyi1 N) := mkF (R := Bool) (m0 := 0) [⟨_, sp_cofi1_ok N⟩] [] (fun r => some r.1.1) [] Tryz.func86 (fun p => by kernel_rfl) (by kernel_rfl) (fun _ => by kernel_rfl)

def reading_S (N : Nat) (t : List Qe) (t2 : List Qf) (t3 : Int) (l : List Int) : Option (Qw ⊕ (Int)) :=
 ((opened_S N t t2 t3).bind fun e => match e with
 | .inl (x_1, y_2) =>
  (br (!decide (y_2 = 0))
   (some (.inr y_2))
   ((everyi1_S N l).bind fun x_3 =>
   br (!x_3)
    (some (.inr 3))
    ((sum_S N l).bind fun x_4 =>
    (end__S N x_1).bind fun x_5 =>
    br (!decide (x_4 = x_5))
     (some (.inr 2))
     (some (.inl (x_1, 0))))))
 | .inr x_6 =>
  (br (!decide (x_6 = 0))
   (some (.inr x_6))
   ((everyi1_S N l).bind fun x_7 =>
   br (!x_7)
    (some (.inr 3))
    ((sum_S N l).bind fun x_8 =>
    none))))
noncomputable def sp_reading (N : Nat) : Spec := mkS 81 ⟨[.agg [.sl Qd, .sl Qc, .i .i64], .sl (.int .i64)], []⟩ [⟨[.fe Qb, .i .i64], []⟩, ⟨[.nilp, .i .i64], []⟩] (fun p => reading_S N p.1.1.1 p.1.1.2.1 p.1.1.2.2.1 p.1.2.1) (fun k r => match r with | .inl r => k (.inl ((r.1, r.2, ()), ())) | .inr r => k (.inr (((), r, ()), ())))
theorem sp_reading_ok (N : Nat) : SpecOK Tryz.prog (sp_reading N) := mkF (R := Qw ⊕ (Int)) (m0 := 0) [⟨_, sp_sum_ok N⟩, ⟨_, sp_opened_ok N⟩, ⟨_, sp_end__ok N⟩, ⟨_, sp_everyi1_ok N⟩] [] (fun r => match r with | .inl r => some (.inl (r.1.1, r.1.2.1)) | .inr r => some (.inr r.1.2.1)) [] Tryz.func81 (fun p => by kernel_rfl) (by kernel_rfl) (fun _ => by kernel_rfl) (by rintro _ _ (_ | _) <;> rfl) (by rintro (_ | _) z h <;> (cases h; rfl))

def wrong_l1 (N : Nat) : Nat → (Qa) → Int → Int → Int → Bool → Qg → Int → Int → Option ((Int × Bool × Int) ⊕ (Int × Int × Bool))
 | 0, _, _, _, _, _, _, _, _ => none
 | n_ + 1, d, at_, kind, place, found, u, u2, u3 =>
  br (decide (u3 < u2))
   (idx u u3 fun x_1 =>
   chk (place + x_1) <|
   (fault_S N d place (place + x_1)).bind fun (x_2, y_3) =>
   br y_3
    (some (.inl (x_2, y_3, u3)))
    (chk (place + x_1) <|
    chk (u3 + 1) <|
    wrong_l1 N n_ d at_ x_2 (place + x_1) y_3 u u2 (u3 + 1)))
   (some (.inr (at_, kind, found)))
def wrong_S (N : Nat) (d : Qa) (l : List Int) : Option (Int × Int × Bool) :=
 (wrong_l1 N N d 0 0 0 false l (l.length : Int) 0).bind fun e => match e with
 | .inl (kind_4, found_5, i_6) =>
  some (i_6, kind_4, found_5)
 | .inr (at__7, kind_8, found_9) =>
  some (at__7, kind_8, found_9)
noncomputable def wrong_sp (N : Nat) : Oks := [⟨_, sp_fault_ok N⟩]
abbrev wrong_o : List StSh := [⟨[.i .i64, .i .i64, .b], []⟩]
noncomputable abbrev wrong_B : Body := mkB Tryz.f82 wrong_o 0
noncomputable def wrong_l1_L (N : Nat) {top : Bool} : LpQ wrong_B top := mkL (Z := (Int × Bool × Int) ⊕ (Int × Int × Bool)) (wrong_sp N) [] [.c [1, 0, 1, 1, 1, 0, 1, 0, 0, 0], .c [1, 0, 1, 1, 1, 0, 1, 0, 0, 1], .l [1, 0, 1, 1, 1, 0, 1, 0, 0], .b 0, .c [1, 0, 1, 1, 1, 1], .s [1, 0]] ⟨[0, 7, 8, 9, 10, 13, 14, 15], ⟨[.fe Qb, .i .i64, .i .i64, .i .i64, .b, .sl (.int .i64), .i .i64, .i .i64], []⟩⟩ (fun m p => wrong_l1 N m p.1.1 p.1.2.1 p.1.2.2.1 p.1.2.2.2.1 p.1.2.2.2.2.1 p.1.2.2.2.2.2.1 p.1.2.2.2.2.2.2.1 p.1.2.2.2.2.2.2.2.1) [⟨[.c [1, 0, 1, 1, 1, 0, 1, 0, 0, 1, 1, 0, 0, 1, 0, 1, 1, 0, 0], .c [1, 0, 1, 1, 1, 0, 1, 0, 0, 1, 1, 0, 0, 1, 0, 1, 1, 0, 1], .c [1, 0, 1, 1, 1, 0, 1, 0, 0, 1, 1, 0, 0, 1, 1], .b 1, .c [1, 0, 1, 1, 1, 0, 1, 0, 0, 1, 1, 1], .l [1, 0, 1, 1, 1, 0, 1, 0, 0], .b 0, .c [1, 0, 1, 1, 1, 1], .s [1, 0]], ⟨[8, 10, 11], ⟨[.i .i64, .b, .i .i64], []⟩⟩, fun p => some (.inl (p.1.1, p.1.2.1, p.1.2.2.1))⟩, ⟨[.c [1, 0, 1, 1, 1, 1, 0], .c [1, 0, 1, 1, 1, 1, 1], .s [1, 0]], ⟨[7, 8, 10], ⟨[.i .i64, .i .i64, .b], []⟩⟩, fun p => some (.inr (p.1.1, p.1.2.1, p.1.2.2.1))⟩] (fun _ => []) (fun k e => match e with | .inl x => k (.inl ((x.1, x.2.1, x.2.2, ()), ())) | .inr x => k (.inr (.inl ((x.1, x.2.1, x.2.2, ()), ())))) N (fun m p => by kernel_rfl) (hg := (by rintro _ _ (_ | _) <;> rfl))
noncomputable def sp_wrong (N : Nat) : Spec := mkS 82 ⟨[.fe Qb, .sl (.int .i64)], []⟩ wrong_o (fun p => wrong_S N p.1.1 p.1.2.1) (fun k r => k ((r.1, r.2.1, r.2.2, ()), ()))
theorem sp_wrong_ok (N : Nat) : SpecOK Tryz.prog (sp_wrong N) := mkF (R := Int × Int × Bool) (m0 := 0) (wrong_sp N) [wrong_l1_L N] (fun r => some (r.1.1, r.1.2.1, r.1.2.2.1)) [] Tryz.func82 (fun p => by kernel_rfl) (by kernel_rfl) (fun _ => by kernel_rfl)

def lwrong_S (N : Nat) (t : List Qe) (t2 : List Qf) (t3 : Int) (l : List Int) : Option (Int × Int × Int) :=
 ((reading_S N t t2 t3 l).bind fun e => match e with
 | .inl (x_1, y_2) =>
  (br (!decide (y_2 = 0))
   (some (0, 0, y_2))
   ((wrong_S N x_1 l).bind fun (x_3, y_4, y_5) =>
   br (!y_5)
    (some (0, 0, 6))
    (some (x_3, y_4, 0))))
 | .inr x_6 =>
  (br (!decide (x_6 = 0))
   (some (0, 0, x_6))
   (none)))
noncomputable def sp_lwrong (N : Nat) : Spec := mkS 26 ⟨[.agg [.sl Qd, .sl Qc, .i .i64], .sl (.int .i64)], []⟩ [⟨[.i .i64, .i .i64, .i .i64], []⟩] (fun p => lwrong_S N p.1.1.1 p.1.1.2.1 p.1.1.2.2.1 p.1.2.1) (fun k r => k ((r.1, r.2.1, r.2.2, ()), ()))
theorem sp_lwrong_ok (N : Nat) : SpecOK Tryz.prog (sp_lwrong N) := mkF (R := Int × Int × Int) (m0 := 0) [⟨_, sp_reading_ok N⟩, ⟨_, sp_wrong_ok N⟩] [] (fun r => some (r.1.1, r.1.2.1, r.1.2.2.1)) [] Tryz.func26 (fun p => by kernel_rfl) (by kernel_rfl) (fun _ => by kernel_rfl)

def says__S (N : Nat) (t : List Qe) (t2 : List Qf) (t3 part part2 : Int) : Option (List Int × Int) :=
 ((opened_S N t t2 t3).bind fun e => match e with
 | .inl (x_1, y_2) =>
  (br (!decide (y_2 = 0))
   (some ([], y_2))
   ((word_S N t t2 t3 part).bind fun x_3 =>
   br (!x_3)
    (some ([], 1))
    ((word_S N t t2 t3 part2).bind fun x_4 =>
    br (!x_4)
     (some ([], 1))
     (br (decide (part2 < part))
      (some ([], 4))
      (chk (part2 + 1) <|
      (turned_S N x_1 part (part2 + 1)).bind fun x_5 =>
      some (x_5, 0))))))
 | .inr x_6 =>
  (br (!decide (x_6 = 0))
   (some ([], x_6))
   ((word_S N t t2 t3 part).bind fun x_7 =>
   br (!x_7)
    (some ([], 1))
    ((word_S N t t2 t3 part2).bind fun x_8 =>
    br (!x_8)
     (some ([], 1))
     (br (decide (part2 < part))
      (some ([], 4))
      (chk (part2 + 1) <|
      none))))))
noncomputable def sp_says_ (N : Nat) : Spec := mkS 23 ⟨[.agg [.sl Qd, .sl Qc, .i .i64], .agg [.i .i64, .i .i64]], []⟩ [⟨[.sl (.int .i64), .i .i64], []⟩] (fun p => says__S N p.1.1.1 p.1.1.2.1 p.1.1.2.2.1 p.1.2.1.1 p.1.2.1.2.1) (fun k r => k ((r.1, r.2, ()), ()))
theorem sp_says__ok (N : Nat) : SpecOK Tryz.prog (sp_says_ N) := mkF (R := List Int × Int) (m0 := 0) [⟨_, sp_word_ok N⟩, ⟨_, sp_opened_ok N⟩, ⟨_, sp_turned_ok N⟩] [] (fun r => some (r.1.1, r.1.2.1)) [] Tryz.func23 (fun p => by kernel_rfl) (by kernel_rfl) (fun _ => by kernel_rfl)

def indexi_l1 (N : Nat) : Nat → Qg → Int → Int → Int → Option ((Int) ⊕ (Unit))
 | 0, _, _, _, _ => none
 | n_ + 1, s, v, u, u2 =>
  br (decide (u2 < u))
   (idx s u2 fun x_1 =>
   br (decide (v = x_1))
    (some (.inl u2))
    (chk (u2 + 1) <|
    indexi_l1 N n_ s v u (u2 + 1)))
   (some (.inr ()))
def indexi_S (N : Nat) (s : List Int) (v : Int) : Option Int :=
 (indexi_l1 N N s v (s.length : Int) 0).bind fun e => match e with
 | .inl i_2 =>
  some i_2
 | .inr _ =>
  some (-1)
noncomputable def indexi_sp (N : Nat) : Oks := []
abbrev indexi_o : List StSh := [⟨[.i .i64], []⟩]
noncomputable abbrev indexi_B : Body := mkB Tryz.f123 indexi_o 0
noncomputable def indexi_l1_L (N : Nat) {top : Bool} : LpQ indexi_B top := mkL (Z := (Int) ⊕ (Unit)) (indexi_sp N) [] [.c [1, 0, 1, 0, 0, 0], .c [1, 0, 1, 0, 0, 1], .l [1, 0, 1, 0, 0], .b 0, .c [1, 1]] ⟨[0, 1, 7, 8], ⟨[.sl (.int .i64), .i .i64, .i .i64, .i .i64], []⟩⟩ (fun m p => indexi_l1 N m p.1.1 p.1.2.1 p.1.2.2.1 p.1.2.2.2.1) [⟨[.c [1, 0, 1, 0, 0, 1, 1, 0, 0, 1, 1, 0, 0], .c [1, 0, 1, 0, 0, 1, 1, 0, 0, 1, 1, 0, 1], .b 1, .c [1, 0, 1, 0, 0, 1, 1, 1], .l [1, 0, 1, 0, 0], .b 0, .c [1, 1]], ⟨[5], ⟨[.i .i64], []⟩⟩, fun p => some (.inl p.1.1)⟩, ⟨[.c [1, 1, 0], .c [1, 1, 1]], ⟨[], ⟨[], []⟩⟩, fun p => some (.inr ())⟩] (fun _ => []) (fun k e => match e with | .inl x => k (.inl ((x, ()), ())) | .inr x => k (.inr (.inl ((), ())))) N (fun m p => by kernel_rfl) (hg := (by rintro _ _ (_ | _) <;> rfl))
noncomputable def sp_indexi (N : Nat) : Spec := mkS 123 ⟨[.sl (.int .i64), .i .i64], []⟩ indexi_o (fun p => indexi_S N p.1.1 p.1.2.1) (fun k r => k ((r, ()), ()))
theorem sp_indexi_ok (N : Nat) : SpecOK Tryz.prog (sp_indexi N) := mkF (R := Int) (m0 := 0) (indexi_sp N) [indexi_l1_L N] (fun r => some r.1.1) [] Tryz.func123 (fun p => by kernel_rfl) (by kernel_rfl) (fun _ => by kernel_rfl)

def containsi_S (N : Nat) (s : List Int) (v : Int) : Option Bool :=
 (indexi_S N s v).bind fun x_1 =>
 some (decide (0 ≤ x_1))
noncomputable def sp_containsi (N : Nat) : Spec := mkS 95 ⟨[.sl (.int .i64), .i .i64], []⟩ [⟨[.b], []⟩] (fun p => containsi_S N p.1.1 p.1.2.1) (fun k r => k ((r, ()), ()))
theorem sp_containsi_ok (N : Nat) : SpecOK Tryz.prog (sp_containsi N) := mkF (R := Bool) (m0 := 0) [⟨_, sp_indexi_ok N⟩] [] (fun r => some r.1.1) [] Tryz.func95 (fun p => by kernel_rfl) (by kernel_rfl) (fun _ => by kernel_rfl)

def astray_l3 (N : Nat) : Nat → Qg → (Qa) → Int → Int → Int → Int → Int → Int → Int → Int → Qg → Int → Int → Int → Int → Option (Qt ⊕ (List Int × Qa × Int × Int × Int × Int × Int × List Int × Int × Int × Int × Int))
 | 0, _, _, _, _, _, _, _, _, _, _, _, _, _, _, _ => none
 | n_ + 1, l, d, turn, from_, a, n, to, b, u, u2, u3, u4, u5, g, g2 =>
  br (decide (b < (l.length : Int)))
   (idx l b fun x_7 =>
   chk (to + x_7) <|
   (turned_S N d from_ (to + x_7)).bind fun x_8 =>
   (containsi_S N x_8 turn).bind fun x_9 =>
   br x_9
    (some (.inl (turn, a, b, g, g2)))
    (chk (b + 1) <|
    astray_l3 N n_ l d turn from_ a n (to + x_7) (b + 1) u u2 u3 u4 u5 g g2))
   (some (.inr (l, d, turn, from_, n, u, u2, u3, u4, u5, g, g2)))
def astray_l2 (N : Nat) : Nat → Qg → (Qa) → Int → Int → Int → Int → Qg → Int → Int → Int → Int → Option (Qt ⊕ (List Int × Qa × Int × Int × Int × Int))
 | 0, _, _, _, _, _, _, _, _, _, _, _ => none
 | n_ + 1, l, d, turn, from_, u, u2, u3, u4, u5, g, g2 =>
  br (decide (u5 < u4))
   (idx u3 u5 fun x_6 =>
   (astray_l3 N N l d turn from_ u5 x_6 from_ u5 u u2 u3 u4 u5 g g2).bind fun e => match e with
   | .inl (turn_10, a_11, b_12, g_13, g2_14) =>
    some (.inl (turn_10, a_11, b_12, g_13, g2_14))
   | .inr (l_15, d_16, turn_17, from__18, n_19, u_20, u2_21, u3_22, u4_23, u5_24, g_25, g2_26) =>
    chk (from__18 + n_19) <|
    chk (u5_24 + 1) <|
    astray_l2 N n_ l_15 d_16 turn_17 (from__18 + n_19) u_20 u2_21 u3_22 u4_23 (u5_24 + 1) g_25 g2_26)
   (some (.inr (l, d, u, u2, g, g2)))
def astray_l1 (N : Nat) : Nat → Qg → (Qa) → Int → Int → Int → Int → Option (Qt ⊕ Qn)
 | 0, _, _, _, _, _, _ => none
 | n_ + 1, l, d, u, u2, g, g2 =>
  br (decide (u2 < u))
   ((astray_l2 N N l d u2 0 u u2 l (l.length : Int) 0 g g2).bind fun e => match e with
   | .inl (turn_27, a_28, b_29, g_30, g2_31) =>
    some (.inl (turn_27, a_28, b_29, g_30, g2_31))
   | .inr (l_32, d_33, u_34, u2_35, g_36, g2_37) =>
    chk (u2_35 + 1) <|
    astray_l1 N n_ l_32 d_33 u_34 (u2_35 + 1) g_36 g2_37)
   (some (.inr (g, g2)))
def astray_S (N : Nat) (t : List Qe) (t2 : List Qf) (t3 : Int) (l : List Int) : Option (Int × Int × Int × Int) :=
 ((reading_S N t t2 t3 l).bind fun e => match e with
 | .inl (x_1, y_2) =>
  (br (!decide (y_2 = 0))
   (some (0, 0, 0, y_2))
   ((wrong_S N x_1 l).bind fun (x_3, y_4, y_5) =>
   br y_5
    (some (0, 0, 0, 8))
    ((astray_l1 N N l x_1 (x_1.2.1.length : Int) 0 0 0).bind fun e => match e with
    | .inl (turn_38, a_39, b_40, g_41, g2_42) =>
     some (turn_38, a_39, b_40, 0)
    | .inr (g_43, g2_44) =>
     some (0, 0, 0, 6))))
 | .inr x_45 =>
  (br (!decide (x_45 = 0))
   (some (0, 0, 0, x_45))
   (none)))
noncomputable def astray_sp (N : Nat) : Oks := [⟨_, sp_turned_ok N⟩, ⟨_, sp_reading_ok N⟩, ⟨_, sp_wrong_ok N⟩, ⟨_, sp_containsi_ok N⟩]
abbrev astray_o : List StSh := [⟨[.i .i64, .agg [.i .i64, .i .i64], .i .i64], []⟩]
noncomputable abbrev astray_B : Body := mkB Tryz.f35 astray_o 0
noncomputable def astray_l3_L (N : Nat) {top : Bool} : LpQ astray_B top := mkL (Z := Qt ⊕ (List Int × Qa × Int × Int × Int × Int × Int × List Int × Int × Int × Int × Int)) (astray_sp N) [] [.c [1, 1, 1, 1, 0, 1, 0, 0, 1, 1, 0, 0, 1, 1, 1, 0, 0, 1, 1, 0, 0, 1, 1, 0, 1, 0, 0, 0, 0], .c [1, 1, 1, 1, 0, 1, 0, 0, 1, 1, 0, 0, 1, 1, 1, 0, 0, 1, 1, 0, 0, 1, 1, 0, 1, 0, 0, 0, 1], .c [1, 1, 1, 1, 0, 1, 0, 0, 1, 1, 0, 0, 1, 1, 1, 0, 0, 1, 1, 0, 0, 1, 1, 0, 1, 0, 0, 1], .l [1, 1, 1, 1, 0, 1, 0, 0, 1, 1, 0, 0, 1, 1, 1, 0, 0, 1, 1, 0, 0, 1, 1, 0, 1, 0, 0], .b 4, .c [1, 1, 1, 1, 0, 1, 0, 0, 1, 1, 0, 0, 1, 1, 1, 0, 0, 1, 1, 0, 0, 1, 1, 1], .b 3, .c [1, 1, 1, 1, 0, 1, 0, 0, 1, 1, 0, 0, 1, 1, 1, 0, 0, 1, 1, 1], .l [1, 1, 1, 1, 0, 1, 0, 0, 1, 1, 0, 0, 1, 1, 1, 0, 0], .b 2, .b 1, .c [1, 1, 1, 1, 0, 1, 0, 0, 1, 1, 1], .l [1, 1, 1, 1, 0, 1, 0, 0], .b 0, .c [1, 1, 1, 1, 1]] ⟨[1, 5, 7, 12, 13, 14, 15, 16, 17, 42, 43, 46, 47, 48], ⟨[.sl (.int .i64), .own 0 0, .fe Qb, .i .i64, .i .i64, .i .i64, .i .i64, .i .i64, .i .i64, .i .i64, .i .i64, .sl (.int .i64), .i .i64, .i .i64], [.segs [.i .i64, .i .i64]]⟩⟩ (fun m p => astray_l3 N m p.1.1 p.1.2.2.1 p.1.2.2.2.1 p.1.2.2.2.2.1 p.1.2.2.2.2.2.1 p.1.2.2.2.2.2.2.1 p.1.2.2.2.2.2.2.2.1 p.1.2.2.2.2.2.2.2.2.1 p.1.2.2.2.2.2.2.2.2.2.1 p.1.2.2.2.2.2.2.2.2.2.2.1 p.1.2.2.2.2.2.2.2.2.2.2.2.1 p.1.2.2.2.2.2.2.2.2.2.2.2.2.1 p.1.2.2.2.2.2.2.2.2.2.2.2.2.2.1 p.2.1.1 p.2.1.2.1) [⟨[.c [1, 1, 1, 1, 0, 1, 0, 0, 1, 1, 0, 0, 1, 1, 1, 0, 0, 1, 1, 0, 0, 1, 1, 0, 1, 0, 0, 1, 0, 0, 1, 1, 0, 0], .c [1, 1, 1, 1, 0, 1, 0, 0, 1, 1, 0, 0, 1, 1, 1, 0, 0, 1, 1, 0, 0, 1, 1, 0, 1, 0, 0, 1, 0, 0, 1, 1, 0, 1], .b 5, .c [1, 1, 1, 1, 0, 1, 0, 0, 1, 1, 0, 0, 1, 1, 1, 0, 0, 1, 1, 0, 0, 1, 1, 0, 1, 0, 0, 1, 1], .l [1, 1, 1, 1, 0, 1, 0, 0, 1, 1, 0, 0, 1, 1, 1, 0, 0, 1, 1, 0, 0, 1, 1, 0, 1, 0, 0], .b 4, .c [1, 1, 1, 1, 0, 1, 0, 0, 1, 1, 0, 0, 1, 1, 1, 0, 0, 1, 1, 0, 0, 1, 1, 1], .b 3, .c [1, 1, 1, 1, 0, 1, 0, 0, 1, 1, 0, 0, 1, 1, 1, 0, 0, 1, 1, 1], .l [1, 1, 1, 1, 0, 1, 0, 0, 1, 1, 0, 0, 1, 1, 1, 0, 0], .b 2, .b 1, .c [1, 1, 1, 1, 0, 1, 0, 0, 1, 1, 1], .l [1, 1, 1, 1, 0, 1, 0, 0], .b 0, .c [1, 1, 1, 1, 1]], ⟨[5, 12, 14, 17], ⟨[.own 0 0, .i .i64, .i .i64, .i .i64], [.segs [.i .i64, .i .i64]]⟩⟩, fun p => some (.inl (p.1.2.1, p.1.2.2.1, p.1.2.2.2.1, p.2.1.1, p.2.1.2.1))⟩, ⟨[.c [1, 1, 1, 1, 0, 1, 0, 0, 1, 1, 0, 0, 1, 1, 1, 0, 0, 1, 1, 0, 0, 1, 1, 1], .b 3, .c [1, 1, 1, 1, 0, 1, 0, 0, 1, 1, 0, 0, 1, 1, 1, 0, 0, 1, 1, 1], .l [1, 1, 1, 1, 0, 1, 0, 0, 1, 1, 0, 0, 1, 1, 1, 0, 0], .b 2, .b 1, .c [1, 1, 1, 1, 0, 1, 0, 0, 1, 1, 1], .l [1, 1, 1, 1, 0, 1, 0, 0], .b 0, .c [1, 1, 1, 1, 1]], ⟨[1, 5, 7, 12, 13, 15, 42, 43, 46, 47, 48], ⟨[.sl (.int .i64), .own 0 0, .fe Qb, .i .i64, .i .i64, .i .i64, .i .i64, .i .i64, .sl (.int .i64), .i .i64, .i .i64], [.segs [.i .i64, .i .i64]]⟩⟩, fun p => some (.inr (p.1.1, p.1.2.2.1, p.1.2.2.2.1, p.1.2.2.2.2.1, p.1.2.2.2.2.2.1, p.1.2.2.2.2.2.2.1, p.1.2.2.2.2.2.2.2.1, p.1.2.2.2.2.2.2.2.2.1, p.1.2.2.2.2.2.2.2.2.2.1, p.1.2.2.2.2.2.2.2.2.2.2.1, p.2.1.1, p.2.1.2.1))⟩] (fun _ => []) (fun k e => match e with | .inl x => k (.inl (((), x.1, x.2.1, x.2.2.1, ()), ((x.2.2.2.1, x.2.2.2.2, ()), ()))) | .inr x => k (.inr (.inl ((x.1, (), x.2.1, x.2.2.1, x.2.2.2.1, x.2.2.2.2.1, x.2.2.2.2.2.1, x.2.2.2.2.2.2.1, x.2.2.2.2.2.2.2.1, x.2.2.2.2.2.2.2.2.1, x.2.2.2.2.2.2.2.2.2.1, ()), ((x.2.2.2.2.2.2.2.2.2.2.1, x.2.2.2.2.2.2.2.2.2.2.2, ()), ()))))) N (fun m p => by kernel_rfl) (hg := (by rintro _ _ (_ | _) <;> rfl))
noncomputable def astray_l2_L (N : Nat) {top : Bool} : LpQ astray_B top := mkL (Z := Qt ⊕ (List Int × Qa × Int × Int × Int × Int)) (astray_sp N) [astray_l3_L N] [.c [1, 1, 1, 1, 0, 1, 0, 0, 1, 1, 0, 0, 1, 1, 1, 0, 0, 0], .c [1, 1, 1, 1, 0, 1, 0, 0, 1, 1, 0, 0, 1, 1, 1, 0, 0, 1], .l [1, 1, 1, 1, 0, 1, 0, 0, 1, 1, 0, 0, 1, 1, 1, 0, 0], .b 2, .b 1, .c [1, 1, 1, 1, 0, 1, 0, 0, 1, 1, 1], .l [1, 1, 1, 1, 0, 1, 0, 0], .b 0, .c [1, 1, 1, 1, 1]] ⟨[1, 5, 7, 12, 13, 42, 43, 46, 47, 48], ⟨[.sl (.int .i64), .own 0 0, .fe Qb, .i .i64, .i .i64, .i .i64, .i .i64, .sl (.int .i64), .i .i64, .i .i64], [.segs [.i .i64, .i .i64]]⟩⟩ (fun m p => astray_l2 N m p.1.1 p.1.2.2.1 p.1.2.2.2.1 p.1.2.2.2.2.1 p.1.2.2.2.2.2.1 p.1.2.2.2.2.2.2.1 p.1.2.2.2.2.2.2.2.1 p.1.2.2.2.2.2.2.2.2.1 p.1.2.2.2.2.2.2.2.2.2.1 p.2.1.1 p.2.1.2.1) [⟨[.c [1, 1, 1, 1, 0, 1, 0, 0, 1, 1, 0, 0, 1, 1, 1, 0, 0, 1, 1, 0, 0, 1, 1, 0, 1, 0, 0, 1, 0, 0, 1, 1, 0, 0], .c [1, 1, 1, 1, 0, 1, 0, 0, 1, 1, 0, 0, 1, 1, 1, 0, 0, 1, 1, 0, 0, 1, 1, 0, 1, 0, 0, 1, 0, 0, 1, 1, 0, 1], .b 5, .c [1, 1, 1, 1, 0, 1, 0, 0, 1, 1, 0, 0, 1, 1, 1, 0, 0, 1, 1, 0, 0, 1, 1, 0, 1, 0, 0, 1, 1], .l [1, 1, 1, 1, 0, 1, 0, 0, 1, 1, 0, 0, 1, 1, 1, 0, 0, 1, 1, 0, 0, 1, 1, 0, 1, 0, 0], .b 4, .c [1, 1, 1, 1, 0, 1, 0, 0, 1, 1, 0, 0, 1, 1, 1, 0, 0, 1, 1, 0, 0, 1, 1, 1], .b 3, .c [1, 1, 1, 1, 0, 1, 0, 0, 1, 1, 0, 0, 1, 1, 1, 0, 0, 1, 1, 1], .l [1, 1, 1, 1, 0, 1, 0, 0, 1, 1, 0, 0, 1, 1, 1, 0, 0], .b 2, .b 1, .c [1, 1, 1, 1, 0, 1, 0, 0, 1, 1, 1], .l [1, 1, 1, 1, 0, 1, 0, 0], .b 0, .c [1, 1, 1, 1, 1]], ⟨[5, 12, 14, 17], ⟨[.own 0 0, .i .i64, .i .i64, .i .i64], [.segs [.i .i64, .i .i64]]⟩⟩, fun p => some (.inl (p.1.2.1, p.1.2.2.1, p.1.2.2.2.1, p.2.1.1, p.2.1.2.1))⟩, ⟨[.c [1, 1, 1, 1, 0, 1, 0, 0, 1, 1, 1], .l [1, 1, 1, 1, 0, 1, 0, 0], .b 0, .c [1, 1, 1, 1, 1]], ⟨[1, 5, 7, 42, 43], ⟨[.sl (.int .i64), .own 0 0, .fe Qb, .i .i64, .i .i64], [.segs [.i .i64, .i .i64]]⟩⟩, fun p => some (.inr (p.1.1, p.1.2.2.1, p.1.2.2.2.1, p.1.2.2.2.2.1, p.2.1.1, p.2.1.2.1))⟩] (fun _ => []) (fun k e => match e with | .inl x => k (.inl (((), x.1, x.2.1, x.2.2.1, ()), ((x.2.2.2.1, x.2.2.2.2, ()), ()))) | .inr x => k (.inr (.inl ((x.1, (), x.2.1, x.2.2.1, x.2.2.2.1, ()), ((x.2.2.2.2.1, x.2.2.2.2.2, ()), ()))))) N (fun m p => by kernel_rfl) (hg := (by rintro _ _ (_ | _) <;> rfl))
noncomputable def astray_l1_L (N : Nat) {top : Bool} : LpQ astray_B top := mkL (Z := Qt ⊕ Qn) (astray_sp N) [astray_l3_L N, astray_l2_L N] [.c [1, 1, 1, 1, 0, 1, 0, 0, 0], .c [1, 1, 1, 1, 0, 1, 0, 0, 1], .l [1, 1, 1, 1, 0, 1, 0, 0], .b 0, .c [1, 1, 1, 1, 1]] ⟨[1, 5, 7, 42, 43], ⟨[.sl (.int .i64), .own 0 0, .fe Qb, .i .i64, .i .i64], [.segs [.i .i64, .i .i64]]⟩⟩ (fun m p => astray_l1 N m p.1.1 p.1.2.2.1 p.1.2.2.2.1 p.1.2.2.2.2.1 p.2.1.1 p.2.1.2.1) [⟨[.c [1, 1, 1, 1, 0, 1, 0, 0, 1, 1, 0, 0, 1, 1, 1, 0, 0, 1, 1, 0, 0, 1, 1, 0, 1, 0, 0, 1, 0, 0, 1, 1, 0, 0], .c [1, 1, 1, 1, 0, 1, 0, 0, 1, 1, 0, 0, 1, 1, 1, 0, 0, 1, 1, 0, 0, 1, 1, 0, 1, 0, 0, 1, 0, 0, 1, 1, 0, 1], .b 5, .c [1, 1, 1, 1, 0, 1, 0, 0, 1, 1, 0, 0, 1, 1, 1, 0, 0, 1, 1, 0, 0, 1, 1, 0, 1, 0, 0, 1, 1], .l [1, 1, 1, 1, 0, 1, 0, 0, 1, 1, 0, 0, 1, 1, 1, 0, 0, 1, 1, 0, 0, 1, 1, 0, 1, 0, 0], .b 4, .c [1, 1, 1, 1, 0, 1, 0, 0, 1, 1, 0, 0, 1, 1, 1, 0, 0, 1, 1, 0, 0, 1, 1, 1], .b 3, .c [1, 1, 1, 1, 0, 1, 0, 0, 1, 1, 0, 0, 1, 1, 1, 0, 0, 1, 1, 1], .l [1, 1, 1, 1, 0, 1, 0, 0, 1, 1, 0, 0, 1, 1, 1, 0, 0], .b 2, .b 1, .c [1, 1, 1, 1, 0, 1, 0, 0, 1, 1, 1], .l [1, 1, 1, 1, 0, 1, 0, 0], .b 0, .c [1, 1, 1, 1, 1]], ⟨[5, 12, 14, 17], ⟨[.own 0 0, .i .i64, .i .i64, .i .i64], [.segs [.i .i64, .i .i64]]⟩⟩, fun p => some (.inl (p.1.2.1, p.1.2.2.1, p.1.2.2.2.1, p.2.1.1, p.2.1.2.1))⟩, ⟨[.c [1, 1, 1, 1, 1, 0], .c [1, 1, 1, 1, 1, 1]], ⟨[5], ⟨[.own 0 0], [.segs [.i .i64, .i .i64]]⟩⟩, fun p => some (.inr (p.2.1.1, p.2.1.2.1))⟩] (fun _ => []) (fun k e => match e with | .inl x => k (.inl (((), x.1, x.2.1, x.2.2.1, ()), ((x.2.2.2.1, x.2.2.2.2, ()), ()))) | .inr x => k (.inr (.inl (((), ()), ((x.1, x.2, ()), ()))))) N (fun m p => by kernel_rfl) (hg := (by rintro _ _ (_ | _) <;> rfl))
noncomputable def sp_astray (N : Nat) : Spec := mkS 35 ⟨[.agg [.sl Qd, .sl Qc, .i .i64], .sl (.int .i64)], []⟩ astray_o (fun p => astray_S N p.1.1.1 p.1.1.2.1 p.1.1.2.2.1 p.1.2.1) (fun k r => k ((r.1, (r.2.1, r.2.2.1, ()), r.2.2.2, ()), ()))
theorem sp_astray_ok (N : Nat) : SpecOK Tryz.prog (sp_astray N) := mkF (R := Int × Int × Int × Int) (m0 := 0) (astray_sp N) [astray_l3_L N, astray_l2_L N, astray_l1_L N] (fun r => some (r.1.1, r.1.2.1.1, r.1.2.1.2.1, r.1.2.2.1)) [] Tryz.func35 (fun p => by kernel_rfl) (by kernel_rfl) (fun _ => by kernel_rfl)

def price_j1 (N : Nat) (rec : Int → Int → Qh → Int → Int → Option Int) (pence n : Int) (u : List Qe) (u2 u3 : Int) : Option Int :=
 chk (u3 + 1) <|
 rec pence n u u2 (u3 + 1)
def price_l1 (N : Nat) : Nat → Int → Int → Qh → Int → Int → Option Int
 | 0, _, _, _, _, _ => none
 | n_ + 1, pence, n, u, u2, u3 =>
  br (decide (u3 < u2))
   (idx u u3 fun x_4 =>
   chk (n + pence) <|
   br (decide (3 < x_4.1))
    (chk ((n + pence) + pence) <|
    price_j1 N (price_l1 N n_) pence ((n + pence) + pence) u u2 u3)
    (price_j1 N (price_l1 N n_) pence (n + pence) u u2 u3))
   (some (n))
def price_S (N : Nat) (t : List Qe) (t2 : List Qf) (t3 pence : Int) : Option Qn :=
 ((opened_S N t t2 t3).bind fun e => match e with
 | .inl (x_1, y_2) =>
  (br (!decide (y_2 = 0))
   (some (0, y_2))
   ((in__S N pence 1 100).bind fun x_3 =>
   br (!x_3)
    (some (0, 3))
    ((price_l1 N N pence 0 x_1.1 (x_1.1.length : Int) 0).bind fun n_5 =>
    some (n_5, 0))))
 | .inr x_6 =>
  (br (!decide (x_6 = 0))
   (some (0, x_6))
   ((in__S N pence 1 100).bind fun x_7 =>
   br (!x_7)
    (some (0, 3))
    (none))))
noncomputable def price_sp (N : Nat) : Oks := [⟨_, sp_in__ok N⟩, ⟨_, sp_opened_ok N⟩]
abbrev price_o : List StSh := [⟨[.i .i64, .i .i64], []⟩]
noncomputable abbrev price_B : Body := mkB Tryz.f42 price_o 0
abbrev price_l1_at : List PI := [.c [1, 1, 1, 1, 1, 0, 1, 0, 0, 0], .c [1, 1, 1, 1, 1, 0, 1, 0, 0, 1], .l [1, 1, 1, 1, 1, 0, 1, 0, 0], .b 0, .c [1, 1, 1, 1, 1, 1]]
abbrev price_l1_st : Sta := ⟨[1, 8, 26, 27, 28], ⟨[.i .i64, .i .i64, .sl Qd, .i .i64, .i .i64], []⟩⟩
abbrev price_l1_h (rec : Int → Int → Qh → Int → Int → Option Int) : Leaf Int := ⟨price_l1_at, price_l1_st, fun p => rec p.1.1 p.1.2.1 p.1.2.2.1 p.1.2.2.2.1 p.1.2.2.2.2.1⟩
abbrev price_l1_e0 : Leaf Int := ⟨[.c [1, 1, 1, 1, 1, 1, 0], .c [1, 1, 1, 1, 1, 1, 1]], ⟨[8], ⟨[.i .i64], []⟩⟩, fun p => some (p.1.1)⟩
noncomputable def price_j1_k (N : Nat) (rec : Int → Int → Qh → Int → Int → Option Int) {top : Bool} : JnQ (Z := Int) price_B top none [price_l1_h rec, price_l1_e0] := mkJ (price_sp N) [] [] ⟨[.c [1, 1, 1, 1, 1, 0, 1, 0, 0, 1, 1, 1], .l [1, 1, 1, 1, 1, 0, 1, 0, 0], .b 0, .c [1, 1, 1, 1, 1, 1]], ⟨[1, 8, 26, 27, 28], ⟨[.i .i64, .i .i64, .sl Qd, .i .i64, .i .i64], []⟩⟩, fun p => price_j1 N rec p.1.1 p.1.2.1 p.1.2.2.1 p.1.2.2.2.1 p.1.2.2.2.2.1⟩ (fun p => by kernel_rfl)
noncomputable def price_l1_L (N : Nat) {top : Bool} : LpQ price_B top := mkL (Z := Int) (price_sp N) [] price_l1_at price_l1_st (fun m p => price_l1 N m p.1.1 p.1.2.1 p.1.2.2.1 p.1.2.2.2.1 p.1.2.2.2.2.1) [price_l1_e0] (fun m => [price_j1_k N (price_l1 N m)]) (fun k e => k (.inl ((e, ()), ()))) N (fun m p => by kernel_rfl)
noncomputable def sp_price (N : Nat) : Spec := mkS 42 ⟨[.agg [.sl Qd, .sl Qc, .i .i64], .i .i64], []⟩ price_o (fun p => price_S N p.1.1.1 p.1.1.2.1 p.1.1.2.2.1 p.1.2.1) (fun k r => k ((r.1, r.2, ()), ()))
theorem sp_price_ok (N : Nat) : SpecOK Tryz.prog (sp_price N) := mkF (R := Int × Int) (m0 := 0) (price_sp N) [price_l1_L N] (fun r => some (r.1.1, r.1.2.1)) [] Tryz.func42 (fun p => by kernel_rfl) (by kernel_rfl) (fun _ => by kernel_rfl)

def keeps1_l1 (N : Nat) : Nat → (Qg) → Int → Int → Int → Int → Option ((Unit) ⊕ (Qg × Int × Int × Int))
 | 0, _, _, _, _, _ => none
 | n_ + 1, u, w, x, x2, x3 =>
  br (decide (w ≤ x3))
   ((containsi_S N u w).bind fun x_1 =>
   br (!x_1)
    (some (.inl ()))
    (chk (w + 1) <|
    keeps1_l1 N n_ u (w + 1) x x2 x3))
   (some (.inr (u, x, x2, x3)))
def keeps1_S (N : Nat) (x x2 x3 : Int) (u : Qg) : Option Bool :=
 (keeps1_l1 N N u x2 x x2 x3).bind fun e => match e with
 | .inl _ =>
  some true
 | .inr (u_2, x_3, x2_4, x3_5) =>
  (containsi_S N u_2 x_3).bind fun x_6 =>
  some x_6
noncomputable def keeps1_sp (N : Nat) : Oks := [⟨_, sp_containsi_ok N⟩]
abbrev keeps1_o : List StSh := [⟨[.b], []⟩]
noncomputable abbrev keeps1_B : Body := mkB Tryz.f112 keeps1_o 0
noncomputable def keeps1_l1_L (N : Nat) {top : Bool} : LpQ keeps1_B top := mkL (Z := (Unit) ⊕ (Qg × Int × Int × Int)) (keeps1_sp N) [] [.c [1, 0, 1, 0, 0, 0, 0], .c [1, 0, 1, 0, 0, 0, 1], .c [1, 0, 1, 0, 0, 1], .l [1, 0, 1, 0, 0], .b 0, .c [1, 1]] ⟨[1, 2, 4], ⟨[.fe Ql, .own 0 0, .i .i64], [.segs [.i .i64, .i .i64, .i .i64]]⟩⟩ (fun m p => keeps1_l1 N m p.1.1 p.1.2.2.1 p.2.1.1 p.2.1.2.1 p.2.1.2.2.1) [⟨[.c [1, 0, 1, 0, 0, 1, 0, 0, 1, 0, 0], .c [1, 0, 1, 0, 0, 1, 0, 0, 1, 0, 1], .b 1, .c [1, 0, 1, 0, 0, 1, 1], .l [1, 0, 1, 0, 0], .b 0, .c [1, 1]], ⟨[], ⟨[], []⟩⟩, fun p => some (.inl ())⟩, ⟨[.c [1, 1, 0], .c [1, 1, 1]], ⟨[1, 2], ⟨[.fe Ql, .own 0 0], [.segs [.i .i64, .i .i64, .i .i64]]⟩⟩, fun p => some (.inr (p.1.1, p.2.1.1, p.2.1.2.1, p.2.1.2.2.1))⟩] (fun _ => []) (fun k e => match e with | .inl x => k (.inl ((), ())) | .inr x => k (.inr (.inl ((x.1, (), ()), ((x.2.1, x.2.2.1, x.2.2.2, ()), ()))))) N (fun m p => by kernel_rfl) (hg := (by rintro _ _ (_ | _) <;> rfl))
noncomputable def sp_keeps1 (N : Nat) : Spec := mkS 112 ⟨[.agg [.i .i64, .i .i64, .i .i64], .fe Ql], []⟩ keeps1_o (fun p => keeps1_S N p.1.1.1 p.1.1.2.1 p.1.1.2.2.1 p.1.2.1) (fun k r => k ((r, ()), ()))
theorem sp_keeps1_ok (N : Nat) : SpecOK Tryz.prog (sp_keeps1 N) := mkF (R := Bool) (m0 := 0) (keeps1_sp N) [keeps1_l1_L N] (fun r => some r.1.1) [] Tryz.func112 (fun p => by kernel_rfl) (by kernel_rfl) (fun _ => by kernel_rfl)

def every1t5_S (N : Nat) (x x2 x3 : Int) (g : Qg) : Option (Bool × Qg) :=
 (keeps1_S N x x2 x3 g).bind fun x_1 =>
 some ((!x_1), g)
noncomputable def sp_every1t5 (N : Nat) : Spec := mkS 115 ⟨[.agg [.i .i64, .i .i64, .i .i64], .own 0 0], [.segs [.fn 112 [] [.fe Ql]]]⟩ [⟨[.b], [.segs [.fn 112 [] [.fe Ql]]]⟩] (fun p => every1t5_S N p.1.1.1 p.1.1.2.1 p.1.1.2.2.1 p.2.1.1.2.1) (fun k r => k ((r.1, ()), ((((), (r.2, ())), ()), ())))
theorem sp_every1t5_ok (N : Nat) : SpecOK Tryz.prog (sp_every1t5 N) := mkF (R := Bool × Qg) (m0 := 1) [⟨_, sp_keeps1_ok N⟩] [] (fun r => some (r.1.1, r.2.1.1.2.1)) [] Tryz.func115 (fun p => by kernel_rfl) (by kernel_rfl) (fun _ => by kernel_rfl)

def ixft5_l1 (N : Nat) : Nat → Qi → Int → Int → (Qg) → Option ((Int × Qg) ⊕ (Qg))
 | 0, _, _, _, _ => none
 | n_ + 1, s, u, u2, f =>
  br (decide (u2 < u))
   (idx s u2 fun x_1 =>
   (every1t5_S N x_1.1 x_1.2.1 x_1.2.2 f).bind fun (x_2, y_3) =>
   br x_2
    (some (.inl (u2, y_3)))
    (chk (u2 + 1) <|
    ixft5_l1 N n_ s u (u2 + 1) y_3))
   (some (.inr f))
def ixft5_S (N : Nat) (s : List Qf) (f : Qg) : Option (Int × Qg) :=
 (ixft5_l1 N N s (s.length : Int) 0 f).bind fun e => match e with
 | .inl (i_4, g_5) =>
  some (i_4, g_5)
 | .inr g_6 =>
  some (-1, g_6)
noncomputable def ixft5_sp (N : Nat) : Oks := [⟨_, sp_every1t5_ok N⟩]
abbrev ixft5_o : List StSh := [⟨[.i .i64], [.segs [.fn 112 [] [.fe Ql]]]⟩]
noncomputable abbrev ixft5_B : Body := mkB Tryz.f129 ixft5_o 1
noncomputable def ixft5_l1_L (N : Nat) {top : Bool} : LpQ ixft5_B top := mkL (Z := (Int × Qg) ⊕ (Qg)) (ixft5_sp N) [] [.c [1, 0, 1, 0, 0, 0], .c [1, 0, 1, 0, 0, 1], .l [1, 0, 1, 0, 0], .b 0, .c [1, 1]] ⟨[0, 1, 7, 8], ⟨[.sl Qc, .fn 115 [] [.own 0 0], .i .i64, .i .i64], [.segs [.fn 112 [] [.fe Ql]]]⟩⟩ (fun m p => ixft5_l1 N m p.1.1 p.1.2.2.1 p.1.2.2.2.1 p.2.1.1.2.1) [⟨[.c [1, 0, 1, 0, 0, 1, 1, 0, 0, 1, 1, 0, 0], .c [1, 0, 1, 0, 0, 1, 1, 0, 0, 1, 1, 0, 1], .b 1, .c [1, 0, 1, 0, 0, 1, 1, 1], .l [1, 0, 1, 0, 0], .b 0, .c [1, 1]], ⟨[5], ⟨[.i .i64], [.segs [.fn 112 [] [.fe Ql]]]⟩⟩, fun p => some (.inl (p.1.1, p.2.1.1.2.1))⟩, ⟨[.c [1, 1, 0], .c [1, 1, 1]], ⟨[], ⟨[], [.segs [.fn 112 [] [.fe Ql]]]⟩⟩, fun p => some (.inr p.2.1.1.2.1)⟩] (fun _ => []) (fun k e => match e with | .inl x => k (.inl ((x.1, ()), ((((), (x.2, ())), ()), ()))) | .inr x => k (.inr (.inl ((), ((((), (x, ())), ()), ()))))) N (fun m p => by kernel_rfl) (hg := (by rintro _ _ (_ | _) <;> rfl))
noncomputable def sp_ixft5 (N : Nat) : Spec := mkS 129 ⟨[.sl Qc, .fn 115 [] [.own 0 0]], [.segs [.fn 112 [] [.fe Ql]]]⟩ ixft5_o (fun p => ixft5_S N p.1.1 p.2.1.1.2.1) (fun k r => k ((r.1, ()), ((((), (r.2, ())), ()), ())))
theorem sp_ixft5_ok (N : Nat) : SpecOK Tryz.prog (sp_ixft5 N) := mkF (R := Int × Qg) (m0 := 1) (ixft5_sp N) [ixft5_l1_L N] (fun r => some (r.1.1, r.2.1.1.2.1)) [] Tryz.func129 (fun p => by kernel_rfl) (by kernel_rfl) (fun _ => by kernel_rfl)

def coft5_S (N : Nat) (s : List Qf) (f : Qg) : Option (Bool × Qg) :=
 (ixft5_S N s f).bind fun (x_1, y_2) =>
 some ((decide (0 ≤ x_1)), y_2)
noncomputable def sp_coft5 (N : Nat) : Spec := mkS 114 ⟨[.sl Qc, .fn 115 [] [.own 0 0]], [.segs [.fn 112 [] [.fe Ql]]]⟩ [⟨[.b], [.segs [.fn 112 [] [.fe Ql]]]⟩] (fun p => coft5_S N p.1.1 p.2.1.1.2.1) (fun k r => k ((r.1, ()), ((((), (r.2, ())), ()), ())))
theorem sp_coft5_ok (N : Nat) : SpecOK Tryz.prog (sp_coft5 N) := mkF (R := Bool × Qg) (m0 := 1) [⟨_, sp_ixft5_ok N⟩] [] (fun r => some (r.1.1, r.2.1.1.2.1)) [] Tryz.func114 (fun p => by kernel_rfl) (by kernel_rfl) (fun _ => by kernel_rfl)

def everyt5_S (N : Nat) (l : List Qf) (holds : Qg) : Option Bool :=
 (coft5_S N l holds).bind fun (x_1, y_2) =>
 some (!x_1)
noncomputable def sp_everyt5 (N : Nat) : Spec := mkS 69 ⟨[.sl Qc, .fn 112 [] [.fe Ql]], []⟩ [⟨[.b], []⟩] (fun p => everyt5_S N p.1.1 p.1.2.1.2.1) (fun k r => k ((r, ()), ()))
theorem sp_everyt5_ok (N : Nat) : SpecOK Tryz.prog (sp_everyt5 N) := mkF (R := Bool) (m0 := 0) [⟨_, sp_coft5_ok N⟩] [] (fun r => some r.1.1) [] Tryz.func69 (fun p => by kernel_rfl) (by kernel_rfl) (fun _ => by kernel_rfl)

def keeps_S (N : Nat) (d : Qa) (l : List Int) : Option Bool :=
 (everyt5_S N d.2.1 l).bind fun x_1 =>
 some x_1
noncomputable def sp_keeps (N : Nat) : Spec := mkS 65 ⟨[.fe Qb, .sl (.int .i64)], []⟩ [⟨[.b], []⟩] (fun p => keeps_S N p.1.1 p.1.2.1) (fun k r => k ((r, ()), ()))
theorem sp_keeps_ok (N : Nat) : SpecOK Tryz.prog (sp_keeps N) := mkF (R := Bool) (m0 := 0) [⟨_, sp_everyt5_ok N⟩] [] (fun r => some r.1.1) [] Tryz.func65 (fun p => by kernel_rfl) (by kernel_rfl) (fun _ => by kernel_rfl)

def weight_l1 (N : Nat) : Nat → (Qa) → Qg → Int → Int → Qg → Option Qg
 | 0, _, _, _, _, _ => none
 | n_ + 1, d, u, u2, u3, out =>
  br (decide (u3 < u2))
   (idx u u3 fun x_1 =>
   idx d.1 x_1 fun x_2 =>
   lim (out.length + [x_2.2.1].length) <|
   chk (u3 + 1) <|
   weight_l1 N n_ d u u2 (u3 + 1) (out ++ [x_2.2.1]))
   (some (out))
def weight_S (N : Nat) (d : Qa) (l : List Int) : Option Int :=
 (weight_l1 N N d l (l.length : Int) 0 []).bind fun out_3 =>
 (sum_S N out_3).bind fun x_4 =>
 some x_4
noncomputable def weight_sp (N : Nat) : Oks := [⟨_, sp_sum_ok N⟩]
abbrev weight_o : List StSh := [⟨[.i .i64], []⟩]
noncomputable abbrev weight_B : Body := mkB Tryz.f64 weight_o 0
noncomputable def weight_l1_L (N : Nat) {top : Bool} : LpQ weight_B top := mkL (Z := List Int) (weight_sp N) [] [.c [1, 1, 0, 1, 0, 0, 0], .c [1, 1, 0, 1, 0, 0, 1], .l [1, 1, 0, 1, 0, 0], .b 0, .c [1, 1, 1]] ⟨[0, 5, 8, 9, 10], ⟨[.fe Qb, .ols 0, .sl (.int .i64), .i .i64, .i .i64], [.lst (.int .i64)]⟩⟩ (fun m p => weight_l1 N m p.1.1 p.1.2.2.1 p.1.2.2.2.1 p.1.2.2.2.2.1 p.2.1) [⟨[.c [1, 1, 1, 0], .c [1, 1, 1, 1]], ⟨[5], ⟨[.ols 0], [.lst (.int .i64)]⟩⟩, fun p => some (p.2.1)⟩] (fun _ => []) (fun k e => k (.inl (((), ()), (e, ())))) N (fun m p => by kernel_rfl)
noncomputable def sp_weight (N : Nat) : Spec := mkS 64 ⟨[.fe Qb, .sl (.int .i64)], []⟩ weight_o (fun p => weight_S N p.1.1 p.1.2.1) (fun k r => k ((r, ()), ()))
theorem sp_weight_ok (N : Nat) : SpecOK Tryz.prog (sp_weight N) := mkF (R := Int) (m0 := 0) (weight_sp N) [weight_l1_L N] (fun r => some r.1.1) [] Tryz.func64 (fun p => by kernel_rfl) (by kernel_rfl) (fun _ => by kernel_rfl)

def every1i2_S (N : Nat) (x : Int) (g : List Qe) (g2 : List Qf) (g3 : Int) : Option (Bool × Qh × Qi × Int) :=
 (word_S N g g2 g3 x).bind fun x_1 =>
 some ((!x_1), g, g2, g3)
noncomputable def sp_every1i2 (N : Nat) : Spec := mkS 121 ⟨[.i .i64, .own 0 0], [.segs [.fn 71 [.agg [.sl Qd, .sl Qc, .i .i64]] []]]⟩ [⟨[.b], [.segs [.fn 71 [.agg [.sl Qd, .sl Qc, .i .i64]] []]]⟩] (fun p => every1i2_S N p.1.1 p.2.1.1.1.1.1 p.2.1.1.1.1.2.1 p.2.1.1.1.1.2.2.1) (fun k r => k ((r.1, ()), (((((r.2.1, r.2.2.1, r.2.2.2, ()), ()), ()), ()), ())))
theorem sp_every1i2_ok (N : Nat) : SpecOK Tryz.prog (sp_every1i2 N) := mkF (R := Bool × Qh × Qi × Int) (m0 := 1) [⟨_, sp_word_ok N⟩] [] (fun r => some (r.1.1, r.2.1.1.1.1.1, r.2.1.1.1.1.2.1, r.2.1.1.1.1.2.2.1)) [] Tryz.func121 (fun p => by kernel_rfl) (by kernel_rfl) (fun _ => by kernel_rfl)

def ixfi2_l1 (N : Nat) : Nat → Qg → Int → Int → Qh → Qi → Int → Option ((Int × Qh × Qi × Int) ⊕ (Qh × Qi × Int))
 | 0, _, _, _, _, _, _ => none
 | n_ + 1, s, u, u2, f, f2, f3 =>
  br (decide (u2 < u))
   (idx s u2 fun x_1 =>
   (every1i2_S N x_1 f f2 f3).bind fun (x_2, y_3, y_4, y_5) =>
   br x_2
    (some (.inl (u2, y_3, y_4, y_5)))
    (chk (u2 + 1) <|
    ixfi2_l1 N n_ s u (u2 + 1) y_3 y_4 y_5))
   (some (.inr (f, f2, f3)))
def ixfi2_S (N : Nat) (s : List Int) (f : List Qe) (f2 : List Qf) (f3 : Int) : Option (Int × Qh × Qi × Int) :=
 (ixfi2_l1 N N s (s.length : Int) 0 f f2 f3).bind fun e => match e with
 | .inl (i_6, g_7, g2_8, g3_9) =>
  some (i_6, g_7, g2_8, g3_9)
 | .inr (g_10, g2_11, g3_12) =>
  some (-1, g_10, g2_11, g3_12)
noncomputable def ixfi2_sp (N : Nat) : Oks := [⟨_, sp_every1i2_ok N⟩]
abbrev ixfi2_o : List StSh := [⟨[.i .i64], [.segs [.fn 71 [.agg [.sl Qd, .sl Qc, .i .i64]] []]]⟩]
noncomputable abbrev ixfi2_B : Body := mkB Tryz.f130 ixfi2_o 1
noncomputable def ixfi2_l1_L (N : Nat) {top : Bool} : LpQ ixfi2_B top := mkL (Z := (Int × Qh × Qi × Int) ⊕ (Qh × Qi × Int)) (ixfi2_sp N) [] [.c [1, 0, 1, 0, 0, 0], .c [1, 0, 1, 0, 0, 1], .l [1, 0, 1, 0, 0], .b 0, .c [1, 1]] ⟨[0, 1, 7, 8], ⟨[.sl (.int .i64), .fn 121 [] [.own 0 0], .i .i64, .i .i64], [.segs [.fn 71 [.agg [.sl Qd, .sl Qc, .i .i64]] []]]⟩⟩ (fun m p => ixfi2_l1 N m p.1.1 p.1.2.2.1 p.1.2.2.2.1 p.2.1.1.1.1.1 p.2.1.1.1.1.2.1 p.2.1.1.1.1.2.2.1) [⟨[.c [1, 0, 1, 0, 0, 1, 1, 0, 0, 1, 1, 0, 0], .c [1, 0, 1, 0, 0, 1, 1, 0, 0, 1, 1, 0, 1], .b 1, .c [1, 0, 1, 0, 0, 1, 1, 1], .l [1, 0, 1, 0, 0], .b 0, .c [1, 1]], ⟨[5], ⟨[.i .i64], [.segs [.fn 71 [.agg [.sl Qd, .sl Qc, .i .i64]] []]]⟩⟩, fun p => some (.inl (p.1.1, p.2.1.1.1.1.1, p.2.1.1.1.1.2.1, p.2.1.1.1.1.2.2.1))⟩, ⟨[.c [1, 1, 0], .c [1, 1, 1]], ⟨[], ⟨[], [.segs [.fn 71 [.agg [.sl Qd, .sl Qc, .i .i64]] []]]⟩⟩, fun p => some (.inr (p.2.1.1.1.1.1, p.2.1.1.1.1.2.1, p.2.1.1.1.1.2.2.1))⟩] (fun _ => []) (fun k e => match e with | .inl x => k (.inl ((x.1, ()), (((((x.2.1, x.2.2.1, x.2.2.2, ()), ()), ()), ()), ()))) | .inr x => k (.inr (.inl ((), (((((x.1, x.2.1, x.2.2, ()), ()), ()), ()), ()))))) N (fun m p => by kernel_rfl) (hg := (by rintro _ _ (_ | _) <;> rfl))
noncomputable def sp_ixfi2 (N : Nat) : Spec := mkS 130 ⟨[.sl (.int .i64), .fn 121 [] [.own 0 0]], [.segs [.fn 71 [.agg [.sl Qd, .sl Qc, .i .i64]] []]]⟩ ixfi2_o (fun p => ixfi2_S N p.1.1 p.2.1.1.1.1.1 p.2.1.1.1.1.2.1 p.2.1.1.1.1.2.2.1) (fun k r => k ((r.1, ()), (((((r.2.1, r.2.2.1, r.2.2.2, ()), ()), ()), ()), ())))
theorem sp_ixfi2_ok (N : Nat) : SpecOK Tryz.prog (sp_ixfi2 N) := mkF (R := Int × Qh × Qi × Int) (m0 := 1) (ixfi2_sp N) [ixfi2_l1_L N] (fun r => some (r.1.1, r.2.1.1.1.1.1, r.2.1.1.1.1.2.1, r.2.1.1.1.1.2.2.1)) [] Tryz.func130 (fun p => by kernel_rfl) (by kernel_rfl) (fun _ => by kernel_rfl)

def cofi2_S (N : Nat) (s : List Int) (f : List Qe) (f2 : List Qf) (f3 : Int) : Option (Bool × Qh × Qi × Int) :=
 (ixfi2_S N s f f2 f3).bind fun (x_1, y_2, y_3, y_4) =>
 some ((decide (0 ≤ x_1)), y_2, y_3, y_4)
noncomputable def sp_cofi2 (N : Nat) : Spec := mkS 120 ⟨[.sl (.int .i64), .fn 121 [] [.own 0 0]], [.segs [.fn 71 [.agg [.sl Qd, .sl Qc, .i .i64]] []]]⟩ [⟨[.b], [.segs [.fn 71 [.agg [.sl Qd, .sl Qc, .i .i64]] []]]⟩] (fun p => cofi2_S N p.1.1 p.2.1.1.1.1.1 p.2.1.1.1.1.2.1 p.2.1.1.1.1.2.2.1) (fun k r => k ((r.1, ()), (((((r.2.1, r.2.2.1, r.2.2.2, ()), ()), ()), ()), ())))
theorem sp_cofi2_ok (N : Nat) : SpecOK Tryz.prog (sp_cofi2 N) := mkF (R := Bool × Qh × Qi × Int) (m0 := 1) [⟨_, sp_ixfi2_ok N⟩] [] (fun r => some (r.1.1, r.2.1.1.1.1.1, r.2.1.1.1.1.2.1, r.2.1.1.1.1.2.2.1)) [] Tryz.func120 (fun p => by kernel_rfl) (by kernel_rfl) (fun _ => by kernel_rfl)

def everyi2_S (N : Nat) (l : List Int) (holds : List Qe) (holds2 : List Qf) (holds3 : Int) : Option Bool :=
 (cofi2_S N l holds holds2 holds3).bind fun (x_1, y_2, y_3, y_4) =>
 some (!x_1)
noncomputable def sp_everyi2 (N : Nat) : Spec := mkS 86 ⟨[.sl (.int .i64), .fn 71 [.agg [.sl Qd, .sl Qc, .i .i64]] []], []⟩ [⟨[.b], []⟩] (fun p => everyi2_S N p.1.1 p.1.2.1.1.1.1 p.1.2.1.1.1.2.1 p.1.2.1.1.1.2.2.1) (fun k r => k ((r, ()), ()))
theorem sp_everyi2_ok (N : Nat) : SpecOK Tryz.prog (sp_everyi2 N) := mkF (R := Bool) (m0 := 0) [⟨_, sp_cofi2_ok N⟩] [] (fun r => some r.1.1) [] Tryz.func86 (fun p => by kernel_rfl) (by kernel_rfl) (fun _ => by kernel_rfl)

def kept_l1 (N : Nat) : Nat → Qg → (Qa) → Int → Int → Option ((Unit) ⊕ (List Int × Qa))
 | 0, _, _, _, _ => none
 | n_ + 1, l, d, u, u2 =>
  br (decide (u2 < u))
   (idx l u2 fun x_4 =>
   chk (u2 + 1) <|
   idx l (u2 + 1) fun x_5 =>
   br (decide (x_5 ≤ x_4))
    (some (.inl ()))
    (chk (u2 + 1) <|
    kept_l1 N n_ l d u (u2 + 1)))
   (some (.inr (l, d)))
def kept_S (N : Nat) (t : List Qe) (t2 : List Qf) (t3 : Int) (l : List Int) : Option ((Qa × List Int × Int) ⊕ (Int)) :=
 ((opened_S N t t2 t3).bind fun e => match e with
 | .inl (x_1, y_2) =>
  (br (!decide (y_2 = 0))
   (some (.inr y_2))
   (br (decide ((l.length : Int) = 0))
    (some (.inr 2))
    ((everyi2_S N l t t2 t3).bind fun x_3 =>
    br (!x_3)
     (some (.inr 1))
     (grd (decide ((0 : Int) ≤ 1 ∧ 1 ≤ (l.length : Int))) <|
     (kept_l1 N N l x_1 ((l.drop 1).length : Int) 0).bind fun e => match e with
     | .inl _ =>
      some (.inr 4)
     | .inr (l_6, d_7) =>
      grd (lmI (l_6.length : Int)) <|
      some (.inl (d_7, (l_6.take (min l_6.length (List.replicate (l_6.length : Int).toNat (0 : Int)).length) ++ (List.replicate (l_6.length : Int).toNat (0 : Int)).drop (min l_6.length (List.replicate (l_6.length : Int).toNat (0 : Int)).length)), 0))))))
 | .inr x_8 =>
  (br (!decide (x_8 = 0))
   (some (.inr x_8))
   (br (decide ((l.length : Int) = 0))
    (some (.inr 2))
    ((everyi2_S N l t t2 t3).bind fun x_9 =>
    br (!x_9)
     (some (.inr 1))
     (grd (decide ((0 : Int) ≤ 1 ∧ 1 ≤ (l.length : Int))) <|
     none)))))
noncomputable def kept_sp (N : Nat) : Oks := [⟨_, sp_opened_ok N⟩, ⟨_, sp_everyi2_ok N⟩]
abbrev kept_o : List StSh := [⟨[.fe Qb, .sl (.int .i64), .i .i64], []⟩, ⟨[.nilp, .nils, .i .i64], []⟩]
noncomputable abbrev kept_B : Body := mkB Tryz.f97 kept_o 0
noncomputable def kept_l1_L (N : Nat) {top : Bool} : LpQ kept_B top := mkL (Z := (Unit) ⊕ (List Int × Qa)) (kept_sp N) [] [.c [1, 1, 1, 0, 1, 0, 0, 0], .c [1, 1, 1, 0, 1, 0, 0, 1], .l [1, 1, 1, 0, 1, 0, 0], .b 1, .c [1, 1, 1, 1]] ⟨[1, 7, 32, 33], ⟨[.sl (.int .i64), .fe Qb, .i .i64, .i .i64], []⟩⟩ (fun m p => kept_l1 N m p.1.1 p.1.2.1 p.1.2.2.1 p.1.2.2.2.1) [⟨[.c [1, 1, 1, 0, 1, 0, 0, 1, 1, 0, 0, 1, 1, 0, 0], .c [1, 1, 1, 0, 1, 0, 0, 1, 1, 0, 0, 1, 1, 0, 1], .b 2, .c [1, 1, 1, 0, 1, 0, 0, 1, 1, 1], .l [1, 1, 1, 0, 1, 0, 0], .b 1, .c [1, 1, 1, 1]], ⟨[], ⟨[], []⟩⟩, fun p => some (.inl ())⟩, ⟨[.c [1, 1, 1, 1, 0], .c [1, 1, 1, 1, 1]], ⟨[1, 7], ⟨[.sl (.int .i64), .fe Qb], []⟩⟩, fun p => some (.inr (p.1.1, p.1.2.1))⟩] (fun _ => []) (fun k e => match e with | .inl x => k (.inl ((), ())) | .inr x => k (.inr (.inl ((x.1, x.2, ()), ())))) N (fun m p => by kernel_rfl) (hg := (by rintro _ _ (_ | _) <;> rfl))
noncomputable def sp_kept (N : Nat) : Spec := mkS 97 ⟨[.agg [.sl Qd, .sl Qc, .i .i64], .sl (.int .i64)], []⟩ kept_o (fun p => kept_S N p.1.1.1 p.1.1.2.1 p.1.1.2.2.1 p.1.2.1) (fun k r => match r with | .inl r => k (.inl ((r.1, r.2.1, r.2.2, ()), ())) | .inr r => k (.inr (((), (), r, ()), ())))
theorem sp_kept_ok (N : Nat) : SpecOK Tryz.prog (sp_kept N) := mkF (R := (Qa × List Int × Int) ⊕ (Int)) (m0 := 0) (kept_sp N) [kept_l1_L N] (fun r => match r with | .inl r => some (.inl (r.1.1, r.1.2.1, r.1.2.2.1)) | .inr r => some (.inr r.1.2.2.1)) [] Tryz.func97 (fun p => by kernel_rfl) (by kernel_rfl) (fun _ => by kernel_rfl) (by rintro _ _ (_ | _) <;> rfl) (by rintro (_ | _) z h <;> (cases h; rfl))

def lkeeps_S (N : Nat) (t : List Qe) (t2 : List Qf) (t3 : Int) (l : List Int) : Option (Bool × Int × Int) :=
 ((kept_S N t t2 t3 l).bind fun e => match e with
 | .inl (x_1, y_2, y_3) =>
  (br (!decide (y_3 = 0))
   (some (false, 0, y_3))
   ((keeps_S N x_1 y_2).bind fun x_4 =>
   (weight_S N x_1 y_2).bind fun x_5 =>
   some (x_4, x_5, 0)))
 | .inr x_6 =>
  (br (!decide (x_6 = 0))
   (some (false, 0, x_6))
   (none)))
noncomputable def sp_lkeeps (N : Nat) : Spec := mkS 38 ⟨[.agg [.sl Qd, .sl Qc, .i .i64], .sl (.int .i64)], []⟩ [⟨[.b, .i .i64, .i .i64], []⟩] (fun p => lkeeps_S N p.1.1.1 p.1.1.2.1 p.1.1.2.2.1 p.1.2.1) (fun k r => k ((r.1, r.2.1, r.2.2, ()), ()))
theorem sp_lkeeps_ok (N : Nat) : SpecOK Tryz.prog (sp_lkeeps N) := mkF (R := Bool × Int × Int) (m0 := 0) [⟨_, sp_keeps_ok N⟩, ⟨_, sp_weight_ok N⟩, ⟨_, sp_kept_ok N⟩] [] (fun r => some (r.1.1, r.1.2.1, r.1.2.2.1)) [] Tryz.func38 (fun p => by kernel_rfl) (by kernel_rfl) (fun _ => by kernel_rfl)

def spare_j1 (N : Nat) (rec : (Qa) → Int → Int → Int → Int → Int → Qg → Qg → Option Qy) (d : Qa) (w u u2 u3 u4 : Int) (out others : List Int) : Option Qy :=
 chk (u4 + 1) <|
 rec d w u u2 u3 (u4 + 1) out others
def spare_l2 (N : Nat) : Nat → (Qa) → Int → Int → Int → Int → Int → Qg → Qg → Option Qy
 | 0, _, _, _, _, _, _, _, _ => none
 | n_ + 1, d, w, u, u2, u3, u4, out, others =>
  br (decide (u4 < u3))
   (br (!decide (u4 = w))
    (lim (others.length + [u4].length) <|
    spare_j1 N (spare_l2 N n_) d w u u2 u3 u4 out (others ++ [u4]))
    (spare_j1 N (spare_l2 N n_) d w u u2 u3 u4 out others))
   (some ((d, w, u, u2, out, others)))
def spare_j2 (N : Nat) (rec : (Qa) → Int → Int → Qg → Option Qg) (d : Qa) (u u2 : Int) (out : List Int) : Option Qg :=
 chk (u2 + 1) <|
 rec d u (u2 + 1) out
def spare_l1 (N : Nat) : Nat → (Qa) → Int → Int → Qg → Option Qg
 | 0, _, _, _, _ => none
 | n_ + 1, d, u, u2, out =>
  br (decide (u2 < u))
   ((spare_l2 N N d u2 u u2 (d.1.length : Int) 0 out []).bind fun (d_3, w_4, u_5, u2_6, out_7, others_8) =>
   br (decide (0 < (others_8.length : Int)))
    ((keeps_S N d_3 others_8).bind fun x_9 =>
    br x_9
     (lim (out_7.length + [w_4].length) <|
     spare_j2 N (spare_l1 N n_) d_3 u_5 u2_6 (out_7 ++ [w_4]))
     (spare_j2 N (spare_l1 N n_) d_3 u_5 u2_6 out_7))
    (spare_j2 N (spare_l1 N n_) d_3 u_5 u2_6 out_7))
   (some (out))
def spare_S (N : Nat) (t : List Qe) (t2 : List Qf) (t3 : Int) : Option (List Int × Int) :=
 ((opened_S N t t2 t3).bind fun e => match e with
 | .inl (x_1, y_2) =>
  (br (!decide (y_2 = 0))
   (some ([], y_2))
   ((spare_l1 N N x_1 (x_1.1.length : Int) 0 []).bind fun out_10 =>
   some (out_10, 0)))
 | .inr x_11 =>
  (br (!decide (x_11 = 0))
   (some ([], x_11))
   (none)))
noncomputable def spare_sp (N : Nat) : Oks := [⟨_, sp_opened_ok N⟩, ⟨_, sp_keeps_ok N⟩]
abbrev spare_o : List StSh := [⟨[.sl (.int .i64), .i .i64], []⟩]
noncomputable abbrev spare_B : Body := mkB Tryz.f45 spare_o 0
abbrev spare_l2_at : List PI := [.c [1, 1, 1, 1, 0, 1, 0, 0, 1, 1, 0, 0, 1, 1, 0, 1, 0, 0, 0], .c [1, 1, 1, 1, 0, 1, 0, 0, 1, 1, 0, 0, 1, 1, 0, 1, 0, 0, 1], .l [1, 1, 1, 1, 0, 1, 0, 0, 1, 1, 0, 0, 1, 1, 0, 1, 0, 0], .b 2, .c [1, 1, 1, 1, 0, 1, 0, 0, 1, 1, 0, 0, 1, 1, 1], .b 1, .c [1, 1, 1, 1, 0, 1, 0, 0, 1, 1, 1], .l [1, 1, 1, 1, 0, 1, 0, 0], .b 0, .c [1, 1, 1, 1, 1]]
abbrev spare_l2_st : Sta := ⟨[4, 6, 7, 8, 23, 24, 32, 33], ⟨[.fe Qb, .ols 0, .i .i64, .ols 1, .i .i64, .i .i64, .i .i64, .i .i64], [.lst (.int .i64), .lst (.int .i64)]⟩⟩
abbrev spare_l2_h (rec : (Qa) → Int → Int → Int → Int → Int → Qg → Qg → Option Qy) : Leaf Qy := ⟨spare_l2_at, spare_l2_st, fun p => rec p.1.1 p.1.2.2.1 p.1.2.2.2.2.1 p.1.2.2.2.2.2.1 p.1.2.2.2.2.2.2.1 p.1.2.2.2.2.2.2.2.1 p.2.1 p.2.2.1⟩
abbrev spare_l2_e0 : Leaf Qy := ⟨[.c [1, 1, 1, 1, 0, 1, 0, 0, 1, 1, 0, 0, 1, 1, 1, 0], .c [1, 1, 1, 1, 0, 1, 0, 0, 1, 1, 0, 0, 1, 1, 1, 1], .b 1, .c [1, 1, 1, 1, 0, 1, 0, 0, 1, 1, 1], .l [1, 1, 1, 1, 0, 1, 0, 0], .b 0, .c [1, 1, 1, 1, 1]], ⟨[4, 6, 7, 8, 23, 24], ⟨[.fe Qb, .ols 0, .i .i64, .ols 1, .i .i64, .i .i64], [.lst (.int .i64), .lst (.int .i64)]⟩⟩, fun p => some ((p.1.1, p.1.2.2.1, p.1.2.2.2.2.1, p.1.2.2.2.2.2.1, p.2.1, p.2.2.1))⟩
noncomputable def spare_j1_k (N : Nat) (rec : (Qa) → Int → Int → Int → Int → Int → Qg → Qg → Option Qy) {top : Bool} : JnQ (Z := Qa × Int × Int × Int × List Int × List Int) spare_B top none [spare_l2_h rec, spare_l2_e0] := mkJ (spare_sp N) [] [] ⟨[.c [1, 1, 1, 1, 0, 1, 0, 0, 1, 1, 0, 0, 1, 1, 0, 1, 0, 0, 1, 1, 1], .l [1, 1, 1, 1, 0, 1, 0, 0, 1, 1, 0, 0, 1, 1, 0, 1, 0, 0], .b 2, .c [1, 1, 1, 1, 0, 1, 0, 0, 1, 1, 0, 0, 1, 1, 1], .b 1, .c [1, 1, 1, 1, 0, 1, 0, 0, 1, 1, 1], .l [1, 1, 1, 1, 0, 1, 0, 0], .b 0, .c [1, 1, 1, 1, 1]], ⟨[4, 6, 7, 8, 23, 24, 32, 33], ⟨[.fe Qb, .ols 0, .i .i64, .ols 1, .i .i64, .i .i64, .i .i64, .i .i64], [.lst (.int .i64), .lst (.int .i64)]⟩⟩, fun p => spare_j1 N rec p.1.1 p.1.2.2.1 p.1.2.2.2.2.1 p.1.2.2.2.2.2.1 p.1.2.2.2.2.2.2.1 p.1.2.2.2.2.2.2.2.1 p.2.1 p.2.2.1⟩ (fun p => by kernel_rfl)
noncomputable def spare_l2_L (N : Nat) {top : Bool} : LpQ spare_B top := mkL (Z := Qa × Int × Int × Int × List Int × List Int) (spare_sp N) [] spare_l2_at spare_l2_st (fun m p => spare_l2 N m p.1.1 p.1.2.2.1 p.1.2.2.2.2.1 p.1.2.2.2.2.2.1 p.1.2.2.2.2.2.2.1 p.1.2.2.2.2.2.2.2.1 p.2.1 p.2.2.1) [spare_l2_e0] (fun m => [spare_j1_k N (spare_l2 N m)]) (fun k e => k (.inl ((e.1, (), e.2.1, (), e.2.2.1, e.2.2.2.1, ()), (e.2.2.2.2.1, e.2.2.2.2.2, ())))) N (fun m p => by kernel_rfl)
abbrev spare_l1_at : List PI := [.c [1, 1, 1, 1, 0, 1, 0, 0, 0], .c [1, 1, 1, 1, 0, 1, 0, 0, 1], .l [1, 1, 1, 1, 0, 1, 0, 0], .b 0, .c [1, 1, 1, 1, 1]]
abbrev spare_l1_st : Sta := ⟨[4, 6, 23, 24], ⟨[.fe Qb, .ols 0, .i .i64, .i .i64], [.lst (.int .i64)]⟩⟩
abbrev spare_l1_h (rec : (Qa) → Int → Int → Qg → Option Qg) : Leaf Qg := ⟨spare_l1_at, spare_l1_st, fun p => rec p.1.1 p.1.2.2.1 p.1.2.2.2.1 p.2.1⟩
abbrev spare_l1_e0 : Leaf Qg := ⟨[.c [1, 1, 1, 1, 1, 0], .c [1, 1, 1, 1, 1, 1]], ⟨[6], ⟨[.ols 0], [.lst (.int .i64)]⟩⟩, fun p => some (p.2.1)⟩
noncomputable def spare_j2_k (N : Nat) (rec : (Qa) → Int → Int → Qg → Option Qg) {top : Bool} : JnQ (Z := List Int) spare_B top none [spare_l1_h rec, spare_l1_e0] := mkJ (spare_sp N) [spare_l2_L N] [] ⟨[.c [1, 1, 1, 1, 0, 1, 0, 0, 1, 1, 1], .l [1, 1, 1, 1, 0, 1, 0, 0], .b 0, .c [1, 1, 1, 1, 1]], ⟨[4, 6, 23, 24], ⟨[.fe Qb, .ols 0, .i .i64, .i .i64], [.lst (.int .i64)]⟩⟩, fun p => spare_j2 N rec p.1.1 p.1.2.2.1 p.1.2.2.2.1 p.2.1⟩ (fun p => by kernel_rfl)
noncomputable def spare_l1_L (N : Nat) {top : Bool} : LpQ spare_B top := mkL (Z := List Int) (spare_sp N) [spare_l2_L N] spare_l1_at spare_l1_st (fun m p => spare_l1 N m p.1.1 p.1.2.2.1 p.1.2.2.2.1 p.2.1) [spare_l1_e0] (fun m => [spare_j2_k N (spare_l1 N m)]) (fun k e => k (.inl (((), ()), (e, ())))) N (fun m p => by kernel_rfl)
noncomputable def sp_spare (N : Nat) : Spec := mkS 45 ⟨[.agg [.sl Qd, .sl Qc, .i .i64]], []⟩ spare_o (fun p => spare_S N p.1.1.1 p.1.1.2.1 p.1.1.2.2.1) (fun k r => k ((r.1, r.2, ()), ()))
theorem sp_spare_ok (N : Nat) : SpecOK Tryz.prog (sp_spare N) := mkF (R := List Int × Int) (m0 := 0) (spare_sp N) [spare_l2_L N, spare_l1_L N] (fun r => some (r.1.1, r.1.2.1)) [] Tryz.func45 (fun p => by kernel_rfl) (by kernel_rfl) (fun _ => by kernel_rfl)

def isnan1_S (N : Nat) (x : Int) : Option Bool :=
 some (!decide (x = x))
noncomputable def sp_isnan1 (N : Nat) : Spec := mkS 131 ⟨[.i .i64], []⟩ [⟨[.b], []⟩] (fun p => isnan1_S N p.1.1) (fun k r => k ((r, ()), ()))
theorem sp_isnan1_ok (N : Nat) : SpecOK Tryz.prog (sp_isnan1 N) := mkF (R := Bool) (m0 := 0) [] [] (fun r => some r.1.1) [] Tryz.func131 (fun p => by kernel_rfl) (by kernel_rfl) (fun _ => by kernel_rfl)

def less_S (N : Nat) (x y : Int) : Option Bool :=
 (isnan1_S N x).bind fun x_1 =>
 br x_1
  ((isnan1_S N y).bind fun x_2 =>
  br (!x_2)
   (some true)
   (some (decide (x < y))))
  (some (decide (x < y)))
noncomputable def sp_less (N : Nat) : Spec := mkS 125 ⟨[.i .i64, .i .i64], []⟩ [⟨[.b], []⟩] (fun p => less_S N p.1.1 p.1.2.1) (fun k r => k ((r, ()), ()))
theorem sp_less_ok (N : Nat) : SpecOK Tryz.prog (sp_less N) := mkF (R := Bool) (m0 := 0) [⟨_, sp_isnan1_ok N⟩] [] (fun r => some r.1.1) [] Tryz.func125 (fun p => by kernel_rfl) (by kernel_rfl) (fun _ => by kernel_rfl)

def isnan2_S (N : Nat) (x : Int) : Option Bool :=
 some (!decide (x = x))
noncomputable def sp_isnan2 (N : Nat) : Spec := mkS 126 ⟨[.i .i64], []⟩ [⟨[.b], []⟩] (fun p => isnan2_S N p.1.1) (fun k r => k ((r, ()), ()))
theorem sp_isnan2_ok (N : Nat) : SpecOK Tryz.prog (sp_isnan2 N) := mkF (R := Bool) (m0 := 0) [] [] (fun r => some r.1.1) [] Tryz.func126 (fun p => by kernel_rfl) (by kernel_rfl) (fun _ => by kernel_rfl)

def bins_l1 (N : Nat) : Nat → Qg → Int → Int → Int → Int → Option (List Int × Int × Int × Int)
 | 0, _, _, _, _, _ => none
 | n_ + 1, x, target, n, i, j =>
  br (decide (i < j))
   (chk (i + j) <|
   idx x (IntKind.i64.wrap (Int.fdiv (IntKind.u64.wrap (i + j)) (2 ^ 1))) fun x_1 =>
   (less_S N x_1 target).bind fun x_2 =>
   br x_2
    (chk ((IntKind.i64.wrap (Int.fdiv (IntKind.u64.wrap (i + j)) (2 ^ 1))) + 1) <|
    bins_l1 N n_ x target n ((IntKind.i64.wrap (Int.fdiv (IntKind.u64.wrap (i + j)) (2 ^ 1))) + 1) j)
    (bins_l1 N n_ x target n i (IntKind.i64.wrap (Int.fdiv (IntKind.u64.wrap (i + j)) (2 ^ 1)))))
   (some ((x, target, n, i)))
def bins_S (N : Nat) (x : List Int) (target : Int) : Option (Int × Bool) :=
 (bins_l1 N N x target (x.length : Int) 0 (x.length : Int)).bind fun (x_3, target_4, n_5, i_6) =>
 br (decide (i_6 < n_5))
  (idx x_3 i_6 fun x_7 =>
  br (decide (x_7 = target_4))
   (some (i_6, true))
   (idx x_3 i_6 fun x_8 =>
   (isnan2_S N x_8).bind fun x_9 =>
   br x_9
    ((isnan2_S N target_4).bind fun x_10 =>
    some (i_6, x_10))
    (some (i_6, false))))
  (some (i_6, false))
noncomputable def bins_sp (N : Nat) : Oks := [⟨_, sp_less_ok N⟩, ⟨_, sp_isnan2_ok N⟩]
abbrev bins_o : List StSh := [⟨[.i .i64, .b], []⟩]
noncomputable abbrev bins_B : Body := mkB Tryz.f102 bins_o 0
noncomputable def bins_l1_L (N : Nat) {top : Bool} : LpQ bins_B top := mkL (Z := List Int × Int × Int × Int) (bins_sp N) [] [.c [1, 1, 1, 0, 0, 0, 0, 0], .c [1, 1, 1, 0, 0, 0, 0, 1], .c [1, 1, 1, 0, 0, 0, 1], .l [1, 1, 1, 0, 0, 0], .b 0, .c [1, 1, 1, 1]] ⟨[0, 1, 6, 7, 8], ⟨[.sl (.int .i64), .i .i64, .i .i64, .i .i64, .i .i64], []⟩⟩ (fun m p => bins_l1 N m p.1.1 p.1.2.1 p.1.2.2.1 p.1.2.2.2.1 p.1.2.2.2.2.1) [⟨[.c [1, 1, 1, 1, 0], .c [1, 1, 1, 1, 1]], ⟨[0, 1, 6, 7], ⟨[.sl (.int .i64), .i .i64, .i .i64, .i .i64], []⟩⟩, fun p => some ((p.1.1, p.1.2.1, p.1.2.2.1, p.1.2.2.2.1))⟩] (fun _ => []) (fun k e => k (.inl ((e.1, e.2.1, e.2.2.1, e.2.2.2, ()), ()))) N (fun m p => by kernel_rfl)
noncomputable def sp_bins (N : Nat) : Spec := mkS 102 ⟨[.sl (.int .i64), .i .i64], []⟩ bins_o (fun p => bins_S N p.1.1 p.1.2.1) (fun k r => k ((r.1, r.2, ()), ()))
theorem sp_bins_ok (N : Nat) : SpecOK Tryz.prog (sp_bins N) := mkF (R := Int × Bool) (m0 := 0) (bins_sp N) [bins_l1_L N] (fun r => some (r.1.1, r.1.2.1)) [] Tryz.func102 (fun p => by kernel_rfl) (by kernel_rfl) (fun _ => by kernel_rfl)

def shorter1_S (N : Nat) (o o2 : Int) (o3 : Bool) : Option Bool :=
 some o3
noncomputable def sp_shorter1 (N : Nat) : Spec := mkS 101 ⟨[.agg [.i .i64, .i .i64, .b]], []⟩ [⟨[.b], []⟩] (fun p => shorter1_S N p.1.1.1 p.1.1.2.1 p.1.1.2.2.1) (fun k r => k ((r, ()), ()))
theorem sp_shorter1_ok (N : Nat) : SpecOK Tryz.prog (sp_shorter1 N) := mkF (R := Bool) (m0 := 0) [] [] (fun r => some r.1.1) [] Tryz.func101 (fun p => by kernel_rfl) (by kernel_rfl) (fun _ => by kernel_rfl)

def ixfsw_l1 (N : Nat) : Nat → Qh → Int → Int → Option ((Int) ⊕ (Unit))
 | 0, _, _, _ => none
 | n_ + 1, s, u, u2 =>
  br (decide (u2 < u))
   (idx s u2 fun x_1 =>
   (shorter1_S N x_1.1 x_1.2.1 x_1.2.2).bind fun x_2 =>
   br x_2
    (some (.inl u2))
    (chk (u2 + 1) <|
    ixfsw_l1 N n_ s u (u2 + 1)))
   (some (.inr ()))
def ixfsw_S (N : Nat) (s : List Qe) : Option Int :=
 (ixfsw_l1 N N s (s.length : Int) 0).bind fun e => match e with
 | .inl i_3 =>
  some i_3
 | .inr _ =>
  some (-1)
noncomputable def ixfsw_sp (N : Nat) : Oks := [⟨_, sp_shorter1_ok N⟩]
abbrev ixfsw_o : List StSh := [⟨[.i .i64], []⟩]
noncomputable abbrev ixfsw_B : Body := mkB Tryz.f124 ixfsw_o 0
noncomputable def ixfsw_l1_L (N : Nat) {top : Bool} : LpQ ixfsw_B top := mkL (Z := (Int) ⊕ (Unit)) (ixfsw_sp N) [] [.c [1, 0, 1, 0, 0, 0], .c [1, 0, 1, 0, 0, 1], .l [1, 0, 1, 0, 0], .b 0, .c [1, 1]] ⟨[0, 1, 7, 8], ⟨[.sl Qd, .fn 101 [] [], .i .i64, .i .i64], []⟩⟩ (fun m p => ixfsw_l1 N m p.1.1 p.1.2.2.1 p.1.2.2.2.1) [⟨[.c [1, 0, 1, 0, 0, 1, 1, 0, 0, 1, 1, 0, 0], .c [1, 0, 1, 0, 0, 1, 1, 0, 0, 1, 1, 0, 1], .b 1, .c [1, 0, 1, 0, 0, 1, 1, 1], .l [1, 0, 1, 0, 0], .b 0, .c [1, 1]], ⟨[5], ⟨[.i .i64], []⟩⟩, fun p => some (.inl p.1.1)⟩, ⟨[.c [1, 1, 0], .c [1, 1, 1]], ⟨[], ⟨[], []⟩⟩, fun p => some (.inr ())⟩] (fun _ => []) (fun k e => match e with | .inl x => k (.inl ((x, ()), ())) | .inr x => k (.inr (.inl ((), ())))) N (fun m p => by kernel_rfl) (hg := (by rintro _ _ (_ | _) <;> rfl))
noncomputable def sp_ixfsw (N : Nat) : Spec := mkS 124 ⟨[.sl Qd, .fn 101 [] []], []⟩ ixfsw_o (fun p => ixfsw_S N p.1.1) (fun k r => k ((r, ()), ()))
theorem sp_ixfsw_ok (N : Nat) : SpecOK Tryz.prog (sp_ixfsw N) := mkF (R := Int) (m0 := 0) (ixfsw_sp N) [ixfsw_l1_L N] (fun r => some r.1.1) [] Tryz.func124 (fun p => by kernel_rfl) (by kernel_rfl) (fun _ => by kernel_rfl)

def cofsw_S (N : Nat) (s : List Qe) : Option Bool :=
 (ixfsw_S N s).bind fun x_1 =>
 some (decide (0 ≤ x_1))
noncomputable def sp_cofsw (N : Nat) : Spec := mkS 100 ⟨[.sl Qd, .fn 101 [] []], []⟩ [⟨[.b], []⟩] (fun p => cofsw_S N p.1.1) (fun k r => k ((r, ()), ()))
theorem sp_cofsw_ok (N : Nat) : SpecOK Tryz.prog (sp_cofsw N) := mkF (R := Bool) (m0 := 0) [⟨_, sp_ixfsw_ok N⟩] [] (fun r => some r.1.1) [] Tryz.func100 (fun p => by kernel_rfl) (by kernel_rfl) (fun _ => by kernel_rfl)

def shorter_j1 (N : Nat) (rec : (Qa) → Qg → Qg → Int → Int → Qh → Qi → Int → Int → Int → Qh → Option Qz) (d : Qa) (own : List Int) (w end_ : Int) (u : List Int) (u2 u3 : Int) (t : List Qe) (t2 : List Qf) (t3 g out x x2 : Int) (x3 : Bool) (out2 : List Qe) : Option Qz :=
 grd (decide ((0 : Int) ≤ w ∧ (w : Int) ≤ end_ ∧ end_ ≤ (t.length : Int))) <|
 (cofsw_S N ((t.take end_.toNat).drop w.toNat)).bind fun x_9 =>
 lim (out2.length + [(x, x2, x_9)].length) <|
 chk (u3 + 1) <|
 rec d own u u2 (u3 + 1) t t2 t3 g out (out2 ++ [(x, x2, x_9)])
def shorter_l1 (N : Nat) : Nat → (Qa) → Qg → Qg → Int → Int → Qh → Qi → Int → Int → Int → Qh → Option Qz
 | 0, _, _, _, _, _, _, _, _, _, _, _ => none
 | n_ + 1, d, own, u, u2, u3, t, t2, t3, g, out, out2 =>
  br (decide (u3 < u2))
   (idx u u3 fun x_5 =>
   idx t x_5 fun x_6 =>
   (end__S N d).bind fun x_7 =>
   chk (u3 + 1) <|
   br (decide ((u3 + 1) < (own.length : Int)))
    (chk (u3 + 1) <|
    idx own (u3 + 1) fun x_8 =>
    shorter_j1 N (shorter_l1 N n_) d own x_5 x_8 u u2 u3 t t2 t3 g out x_6.1 x_6.2.1 x_6.2.2 out2)
    (shorter_j1 N (shorter_l1 N n_) d own x_5 x_7 u u2 u3 t t2 t3 g out x_6.1 x_6.2.1 x_6.2.2 out2))
   (some ((own, t, t2, t3, g, out, out2)))
def shorter_j2 (N : Nat) (rec : Qg → Qi → Int → Int → Int → Int → Qh → Qi → Option Qu) (own : List Int) (u : List Qf) (u2 u3 g out : Int) (out2 : List Qe) (out3 : List Qf) : Option Qu :=
 chk (u3 + 1) <|
 rec own u u2 (u3 + 1) g out out2 out3
def shorter_l2 (N : Nat) : Nat → Qg → Qi → Int → Int → Int → Int → Qh → Qi → Option Qu
 | 0, _, _, _, _, _, _, _, _ => none
 | n_ + 1, own, u, u2, u3, g, out, out2, out3 =>
  br (decide (u3 < u2))
   (idx u u3 fun x_17 =>
   (bins_S N own x_17.1).bind fun (x_18, y_19) =>
   (bins_S N own x_17.2.1).bind fun (x_20, y_21) =>
   (bins_S N own x_17.2.2).bind fun (x_22, y_23) =>
   br y_19
    (br y_21
     (br y_23
      (chk (x_22 - x_20) <|
      chk (x_17.2.2 - x_17.2.1) <|
      br (decide ((x_22 - x_20) = (x_17.2.2 - x_17.2.1)))
       (lim (out3.length + [(x_18, x_20, x_22)].length) <|
       shorter_j2 N (shorter_l2 N n_) own u u2 u3 g out out2 (out3 ++ [(x_18, x_20, x_22)]))
       (shorter_j2 N (shorter_l2 N n_) own u u2 u3 g out out2 out3))
      (shorter_j2 N (shorter_l2 N n_) own u u2 u3 g out out2 out3))
     (shorter_j2 N (shorter_l2 N n_) own u u2 u3 g out out2 out3))
    (shorter_j2 N (shorter_l2 N n_) own u u2 u3 g out out2 out3))
   (some ((g, out, out2, out3)))
def shorter_S (N : Nat) (t : List Qe) (t2 : List Qf) (t3 : Int) (l : List Int) : Option Qu :=
 ((kept_S N t t2 t3 l).bind fun e => match e with
 | .inl (x_1, y_2, y_3) =>
  (br (!decide (y_3 = 0))
   (some (0, y_3, [], []))
   ((keeps_S N x_1 y_2).bind fun x_4 =>
   br (!x_4)
    (some (0, 8, [], []))
    ((shorter_l1 N N x_1 y_2 y_2 (y_2.length : Int) 0 t t2 t3 0 t3 []).bind fun (own_10, t_11, t2_12, t3_13, g_14, out_15, out2_16) =>
    (shorter_l2 N N own_10 t2_12 (t2_12.length : Int) 0 g_14 out_15 out2_16 []).bind fun (g_24, out_25, out2_26, out3_27) =>
    some (out_25, 0, out2_26, out3_27))))
 | .inr x_28 =>
  (br (!decide (x_28 = 0))
   (some (0, x_28, [], []))
   (none)))
noncomputable def shorter_sp (N : Nat) : Oks := [⟨_, sp_end__ok N⟩, ⟨_, sp_keeps_ok N⟩, ⟨_, sp_kept_ok N⟩, ⟨_, sp_bins_ok N⟩, ⟨_, sp_cofsw_ok N⟩]
abbrev shorter_o : List StSh := [⟨[.agg [.ols 0, .ols 1, .i .i64], .i .i64], [.lst Qd, .lst Qc]⟩]
noncomputable abbrev shorter_B : Body := mkB Tryz.f40 shorter_o 0
abbrev shorter_l1_at : List PI := [.c [1, 1, 1, 1, 1, 0, 1, 0, 0, 0], .c [1, 1, 1, 1, 1, 0, 1, 0, 0, 1], .l [1, 1, 1, 1, 1, 0, 1, 0, 0], .b 0, .c [1, 1, 1, 1, 1, 1]]
abbrev shorter_l1_st : Sta := ⟨[2, 4, 6, 7, 9, 41, 42, 43], ⟨[.own 0 0, .own 1 0, .fe Qb, .sl (.int .i64), .own 2 0, .sl (.int .i64), .i .i64, .i .i64], [.segs [.sl Qd, .sl Qc, .i .i64], .segs [.nils, .nils, .i .i64], .segs [.ols 3, .nils, .i .i64], .lst Qd]⟩⟩
abbrev shorter_l1_h (rec : (Qa) → Qg → Qg → Int → Int → Qh → Qi → Int → Int → Int → Qh → Option Qz) : Leaf Qz := ⟨shorter_l1_at, shorter_l1_st, fun p => rec p.1.2.2.1 p.1.2.2.2.1 p.1.2.2.2.2.2.1 p.1.2.2.2.2.2.2.1 p.1.2.2.2.2.2.2.2.1 p.2.1.1 p.2.1.2.1 p.2.1.2.2.1 p.2.2.1.2.2.1 p.2.2.2.1.2.2.1 p.2.2.2.2.1⟩
abbrev shorter_l1_e0 : Leaf Qz := ⟨[.c [1, 1, 1, 1, 1, 1, 0, 0], .c [1, 1, 1, 1, 1, 1, 0, 1], .c [1, 1, 1, 1, 1, 1, 1]], ⟨[2, 4, 7, 9], ⟨[.own 0 0, .own 1 0, .sl (.int .i64), .own 2 0], [.segs [.sl Qd, .sl Qc, .i .i64], .segs [.nils, .nils, .i .i64], .segs [.ols 3, .nils, .i .i64], .lst Qd]⟩⟩, fun p => some ((p.1.2.2.1, p.2.1.1, p.2.1.2.1, p.2.1.2.2.1, p.2.2.1.2.2.1, p.2.2.2.1.2.2.1, p.2.2.2.2.1))⟩
noncomputable def shorter_j1_k (N : Nat) (rec : (Qa) → Qg → Qg → Int → Int → Qh → Qi → Int → Int → Int → Qh → Option Qz) {top : Bool} : JnQ (Z := List Int × Qh × Qi × Int × Int × Int × Qh) shorter_B top none [shorter_l1_h rec, shorter_l1_e0] := mkJ (shorter_sp N) [] [] ⟨[.c [1, 1, 1, 1, 1, 0, 1, 0, 0, 1, 1, 0, 0, 1, 1, 1, 0], .c [1, 1, 1, 1, 1, 0, 1, 0, 0, 1, 1, 0, 0, 1, 1, 1, 1], .b 1, .c [1, 1, 1, 1, 1, 0, 1, 0, 0, 1, 1, 1], .l [1, 1, 1, 1, 1, 0, 1, 0, 0], .b 0, .c [1, 1, 1, 1, 1, 1]], ⟨[2, 4, 6, 7, 9, 11, 12, 13, 41, 42, 43], ⟨[.own 0 0, .own 1 0, .fe Qb, .sl (.int .i64), .own 2 0, .i .i64, .own 3 0, .i .i64, .sl (.int .i64), .i .i64, .i .i64], [.segs [.sl Qd, .sl Qc, .i .i64], .segs [.nils, .nils, .i .i64], .segs [.ols 4, .nils, .i .i64], .segs [.i .i64, .i .i64, .b], .lst Qd]⟩⟩, fun p => shorter_j1 N rec p.1.2.2.1 p.1.2.2.2.1 p.1.2.2.2.2.2.1 p.1.2.2.2.2.2.2.2.1 p.1.2.2.2.2.2.2.2.2.1 p.1.2.2.2.2.2.2.2.2.2.1 p.1.2.2.2.2.2.2.2.2.2.2.1 p.2.1.1 p.2.1.2.1 p.2.1.2.2.1 p.2.2.1.2.2.1 p.2.2.2.1.2.2.1 p.2.2.2.2.1.1 p.2.2.2.2.1.2.1 p.2.2.2.2.1.2.2.1 p.2.2.2.2.2.1⟩ (fun p => by kernel_rfl)
noncomputable def shorter_l1_L (N : Nat) {top : Bool} : LpQ shorter_B top := mkL (Z := List Int × Qh × Qi × Int × Int × Int × Qh) (shorter_sp N) [] shorter_l1_at shorter_l1_st (fun m p => shorter_l1 N m p.1.2.2.1 p.1.2.2.2.1 p.1.2.2.2.2.2.1 p.1.2.2.2.2.2.2.1 p.1.2.2.2.2.2.2.2.1 p.2.1.1 p.2.1.2.1 p.2.1.2.2.1 p.2.2.1.2.2.1 p.2.2.2.1.2.2.1 p.2.2.2.2.1) [shorter_l1_e0] (fun m => [shorter_j1_k N (shorter_l1 N m)]) (fun k e => k (.inl (((), (), e.1, (), ()), ((e.2.1, e.2.2.1, e.2.2.2.1, ()), ((), (), e.2.2.2.2.1, ()), ((), (), e.2.2.2.2.2.1, ()), e.2.2.2.2.2.2, ())))) N (fun m p => by kernel_rfl)
abbrev shorter_l2_at : List PI := [.c [1, 1, 1, 1, 1, 1, 0, 1, 0, 0, 0], .c [1, 1, 1, 1, 1, 1, 0, 1, 0, 0, 1], .l [1, 1, 1, 1, 1, 1, 0, 1, 0, 0], .b 2, .c [1, 1, 1, 1, 1, 1, 1]]
abbrev shorter_l2_st : Sta := ⟨[4, 7, 9, 80, 81, 82], ⟨[.own 0 0, .sl (.int .i64), .own 1 0, .sl Qc, .i .i64, .i .i64], [.segs [.nils, .nils, .i .i64], .segs [.ols 2, .ols 3, .i .i64], .lst Qd, .lst Qc]⟩⟩
abbrev shorter_l2_h (rec : Qg → Qi → Int → Int → Int → Int → Qh → Qi → Option Qu) : Leaf Qu := ⟨shorter_l2_at, shorter_l2_st, fun p => rec p.1.2.1 p.1.2.2.2.1 p.1.2.2.2.2.1 p.1.2.2.2.2.2.1 p.2.1.2.2.1 p.2.2.1.2.2.1 p.2.2.2.1 p.2.2.2.2.1⟩
abbrev shorter_l2_e0 : Leaf Qu := ⟨[.c [1, 1, 1, 1, 1, 1, 1, 0], .c [1, 1, 1, 1, 1, 1, 1, 1]], ⟨[4, 9], ⟨[.own 0 0, .own 1 0], [.segs [.nils, .nils, .i .i64], .segs [.ols 2, .ols 3, .i .i64], .lst Qd, .lst Qc]⟩⟩, fun p => some ((p.2.1.2.2.1, p.2.2.1.2.2.1, p.2.2.2.1, p.2.2.2.2.1))⟩
noncomputable def shorter_j2_k (N : Nat) (rec : Qg → Qi → Int → Int → Int → Int → Qh → Qi → Option Qu) {top : Bool} : JnQ (Z := Int × Int × Qh × Qi) shorter_B top none [shorter_l2_h rec, shorter_l2_e0] := mkJ (shorter_sp N) [shorter_l1_L N] [] ⟨[.c [1, 1, 1, 1, 1, 1, 0, 1, 0, 0, 1, 1, 1], .l [1, 1, 1, 1, 1, 1, 0, 1, 0, 0], .b 2, .c [1, 1, 1, 1, 1, 1, 1]], ⟨[4, 7, 9, 80, 81, 82], ⟨[.own 0 0, .sl (.int .i64), .own 1 0, .sl Qc, .i .i64, .i .i64], [.segs [.nils, .nils, .i .i64], .segs [.ols 2, .ols 3, .i .i64], .lst Qd, .lst Qc]⟩⟩, fun p => shorter_j2 N rec p.1.2.1 p.1.2.2.2.1 p.1.2.2.2.2.1 p.1.2.2.2.2.2.1 p.2.1.2.2.1 p.2.2.1.2.2.1 p.2.2.2.1 p.2.2.2.2.1⟩ (fun p => by kernel_rfl)
noncomputable def shorter_l2_L (N : Nat) {top : Bool} : LpQ shorter_B top := mkL (Z := Int × Int × Qh × Qi) (shorter_sp N) [shorter_l1_L N] shorter_l2_at shorter_l2_st (fun m p => shorter_l2 N m p.1.2.1 p.1.2.2.2.1 p.1.2.2.2.2.1 p.1.2.2.2.2.2.1 p.2.1.2.2.1 p.2.2.1.2.2.1 p.2.2.2.1 p.2.2.2.2.1) [shorter_l2_e0] (fun m => [shorter_j2_k N (shorter_l2 N m)]) (fun k e => k (.inl (((), (), ()), (((), (), e.1, ()), ((), (), e.2.1, ()), e.2.2.1, e.2.2.2, ())))) N (fun m p => by kernel_rfl)
noncomputable def sp_shorter (N : Nat) : Spec := mkS 40 ⟨[.agg [.sl Qd, .sl Qc, .i .i64], .sl (.int .i64)], []⟩ shorter_o (fun p => shorter_S N p.1.1.1 p.1.1.2.1 p.1.1.2.2.1 p.1.2.1) (fun k r => k ((((), (), r.1, ()), r.2.1, ()), (r.2.2.1, r.2.2.2, ())))
theorem sp_shorter_ok (N : Nat) : SpecOK Tryz.prog (sp_shorter N) := mkF (R := Int × Int × Qh × Qi) (m0 := 0) (shorter_sp N) [shorter_l1_L N, shorter_l2_L N] (fun r => some (r.1.1.2.2.1, r.1.2.1, r.2.1, r.2.2.1)) [] Tryz.func40 (fun p => by kernel_rfl) (by kernel_rfl) (fun _ => by kernel_rfl)

def fewestr_j1 (N : Nat) (rec : (Qa) → Int → Int → (Qa) → Qg → Qg → Option Qk) (d : Qa) (from_ to : Int) (r : Qa) (least next : List Int) : Option Qk :=
 chk (to + 1) <|
 rec d from_ (to + 1) r least next
def fewestr_l2 (N : Nat) : Nat → (Qa) → Int → Int → (Qa) → Qg → Qg → Option Qk
 | 0, _, _, _, _, _, _ => none
 | n_ + 1, d, from_, to, r, least, next =>
  (end__S N d).bind fun x_2 =>
  br (decide (to ≤ x_2))
   ((end__S N d).bind fun x_3 =>
   br (decide (to < x_3))
    (rng to 13 <|
    get next to.toNat fun x_4 =>
    br (decide (x_4 = 0))
     (fewestr_j1 N (fewestr_l2 N n_) d from_ to r least next)
     ((right_S N r from_ to).bind fun x_5 =>
     br (!x_5)
      (fewestr_j1 N (fewestr_l2 N n_) d from_ to r least next)
      (rng from_ 13 <|
      get next from_.toNat fun x_6 =>
      br (decide (x_6 = 0))
       (rng to 13 <|
       get least to.toNat fun x_7 =>
       chk (x_7 + 1) <|
       rng from_ 13 <|
       get least from_.toNat fun _ =>
       rng from_ 13 <|
       get next from_.toNat fun _ =>
       fewestr_j1 N (fewestr_l2 N n_) d from_ to r (least.set from_.toNat (x_7 + 1)) (next.set from_.toNat to))
       (rng to 13 <|
       get least to.toNat fun x_10 =>
       chk (x_10 + 1) <|
       rng from_ 13 <|
       get least from_.toNat fun x_11 =>
       br (decide ((x_10 + 1) < x_11))
        (rng to 13 <|
        get least to.toNat fun x_12 =>
        chk (x_12 + 1) <|
        rng from_ 13 <|
        get least from_.toNat fun _ =>
        rng from_ 13 <|
        get next from_.toNat fun _ =>
        fewestr_j1 N (fewestr_l2 N n_) d from_ to r (least.set from_.toNat (x_12 + 1)) (next.set from_.toNat to))
        (fewestr_j1 N (fewestr_l2 N n_) d from_ to r least next)))))
    ((right_S N r from_ to).bind fun x_15 =>
    br (!x_15)
     (fewestr_j1 N (fewestr_l2 N n_) d from_ to r least next)
     (rng from_ 13 <|
     get next from_.toNat fun x_16 =>
     br (decide (x_16 = 0))
      (rng to 13 <|
      get least to.toNat fun x_17 =>
      chk (x_17 + 1) <|
      rng from_ 13 <|
      get least from_.toNat fun _ =>
      rng from_ 13 <|
      get next from_.toNat fun _ =>
      fewestr_j1 N (fewestr_l2 N n_) d from_ to r (least.set from_.toNat (x_17 + 1)) (next.set from_.toNat to))
      (rng to 13 <|
      get least to.toNat fun x_20 =>
      chk (x_20 + 1) <|
      rng from_ 13 <|
      get least from_.toNat fun x_21 =>
      br (decide ((x_20 + 1) < x_21))
       (rng to 13 <|
       get least to.toNat fun x_22 =>
       chk (x_22 + 1) <|
       rng from_ 13 <|
       get least from_.toNat fun _ =>
       rng from_ 13 <|
       get next from_.toNat fun _ =>
       fewestr_j1 N (fewestr_l2 N n_) d from_ to r (least.set from_.toNat (x_22 + 1)) (next.set from_.toNat to))
       (fewestr_j1 N (fewestr_l2 N n_) d from_ to r least next)))))
   (some ((d, from_, r, least, next)))
def fewestr_l1 (N : Nat) : Nat → (Qa) → Int → (Qa) → Qg → Qg → Option (Qa × List Int)
 | 0, _, _, _, _, _ => none
 | n_ + 1, d, from_, r, least, next =>
  br (decide (0 ≤ from_))
   (chk (from_ + 1) <|
   (fewestr_l2 N N d from_ (from_ + 1) r least next).bind fun (d_25, from__26, r_27, least_28, next_29) =>
   chk (from__26 - 1) <|
   fewestr_l1 N n_ d_25 (from__26 - 1) r_27 least_28 next_29)
   (some ((d, next)))
def fewestr_l3 (N : Nat) : Nat → (Qa) → Int → Qg → Qg → Option Qg
 | 0, _, _, _, _ => none
 | n_ + 1, d, at_, next, out =>
  (end__S N d).bind fun x_33 =>
  br (decide (at_ < x_33))
   (rng at_ 13 <|
   get next at_.toNat fun x_34 =>
   chk (x_34 - at_) <|
   lim (out.length + [(x_34 - at_)].length) <|
   rng at_ 13 <|
   get next at_.toNat fun x_35 =>
   fewestr_l3 N n_ d x_35 next (out ++ [(x_34 - at_)]))
   (some (out))
def fewestr_S (N : Nat) (r d : Qa) : Option (List Int × Bool) :=
 (end__S N d).bind fun x_1 =>
 chk (x_1 - 1) <|
 (fewestr_l1 N N d (x_1 - 1) r (List.replicate 13 (0 : Int)) (List.replicate 13 (0 : Int))).bind fun (d_30, next_31) =>
 get next_31 0 fun x_32 =>
 br (decide (x_32 = 0))
  (some ([], false))
  ((fewestr_l3 N N d_30 0 next_31 []).bind fun out_36 =>
  some (out_36, true))
noncomputable def fewestr_sp (N : Nat) : Oks := [⟨_, sp_end__ok N⟩, ⟨_, sp_right_ok N⟩]
abbrev fewestr_o : List StSh := [⟨[.sl (.int .i64), .b], []⟩]
noncomputable abbrev fewestr_B : Body := mkB Tryz.f59 fewestr_o 0
abbrev fewestr_l2_at : List PI := [.c [1, 1, 0, 1, 0, 0, 1, 0, 0, 1, 0, 0, 0, 0], .c [1, 1, 0, 1, 0, 0, 1, 0, 0, 1, 0, 0, 0, 1], .c [1, 1, 0, 1, 0, 0, 1, 0, 0, 1, 0, 0, 1], .l [1, 1, 0, 1, 0, 0, 1, 0, 0, 1, 0, 0], .b 2, .b 1, .c [1, 1, 0, 1, 0, 0, 1, 1], .l [1, 1, 0, 1, 0, 0], .b 0, .c [1, 1, 1]]
abbrev fewestr_l2_st : Sta := ⟨[1, 2, 6, 7, 8, 9], ⟨[.fe Qb, .own 0 0, .own 1 0, .own 2 0, .i .i64, .i .i64], [.segs [.fn 58 [.fe Qb] []], .segs [.arr (.int .i64) 13], .segs [.arr (.int .i64) 13]]⟩⟩
abbrev fewestr_l2_h (rec : (Qa) → Int → Int → (Qa) → Qg → Qg → Option Qk) : Leaf Qk := ⟨fewestr_l2_at, fewestr_l2_st, fun p => rec p.1.1 p.1.2.2.2.2.1 p.1.2.2.2.2.2.1 p.2.1.1.1.1 p.2.2.1.1 p.2.2.2.1.1⟩
abbrev fewestr_l2_e0 : Leaf Qk := ⟨[.c [1, 1, 0, 1, 0, 0, 1, 1], .l [1, 1, 0, 1, 0, 0], .b 0, .c [1, 1, 1]], ⟨[1, 2, 6, 7, 8], ⟨[.fe Qb, .own 0 0, .own 1 0, .own 2 0, .i .i64], [.segs [.fn 58 [.fe Qb] []], .segs [.arr (.int .i64) 13], .segs [.arr (.int .i64) 13]]⟩⟩, fun p => some ((p.1.1, p.1.2.2.2.2.1, p.2.1.1.1.1, p.2.2.1.1, p.2.2.2.1.1))⟩
noncomputable def fewestr_j1_k (N : Nat) (rec : (Qa) → Int → Int → (Qa) → Qg → Qg → Option Qk) {top : Bool} : JnQ (Z := Qa × Int × Qa × List Int × List Int) fewestr_B top none [fewestr_l2_h rec, fewestr_l2_e0] := mkJ (fewestr_sp N) [] [] ⟨[.c [1, 1, 0, 1, 0, 0, 1, 0, 0, 1, 0, 0, 1, 1], .l [1, 1, 0, 1, 0, 0, 1, 0, 0, 1, 0, 0], .b 2, .b 1, .c [1, 1, 0, 1, 0, 0, 1, 1], .l [1, 1, 0, 1, 0, 0], .b 0, .c [1, 1, 1]], ⟨[1, 2, 6, 7, 8, 9], ⟨[.fe Qb, .own 0 0, .own 1 0, .own 2 0, .i .i64, .i .i64], [.segs [.fn 58 [.fe Qb] []], .segs [.arr (.int .i64) 13], .segs [.arr (.int .i64) 13]]⟩⟩, fun p => fewestr_j1 N rec p.1.1 p.1.2.2.2.2.1 p.1.2.2.2.2.2.1 p.2.1.1.1.1 p.2.2.1.1 p.2.2.2.1.1⟩ (fun p => by kernel_rfl)
noncomputable def fewestr_l2_L (N : Nat) {top : Bool} : LpQ fewestr_B top := mkL (Z := Qa × Int × Qa × List Int × List Int) (fewestr_sp N) [] fewestr_l2_at fewestr_l2_st (fun m p => fewestr_l2 N m p.1.1 p.1.2.2.2.2.1 p.1.2.2.2.2.2.1 p.2.1.1.1.1 p.2.2.1.1 p.2.2.2.1.1) [fewestr_l2_e0] (fun m => [fewestr_j1_k N (fewestr_l2 N m)]) (fun k e => k (.inl ((e.1, (), (), (), e.2.1, ()), ((((e.2.2.1, ()), ()), ()), (e.2.2.2.1, ()), (e.2.2.2.2, ()), ())))) N (fun m p => by kernel_rfl)
noncomputable def fewestr_l1_L (N : Nat) {top : Bool} : LpQ fewestr_B top := mkL (Z := Qa × List Int) (fewestr_sp N) [fewestr_l2_L N] [.c [1, 1, 0, 1, 0, 0, 0, 0], .c [1, 1, 0, 1, 0, 0, 0, 1], .c [1, 1, 0, 1, 0, 0, 1], .l [1, 1, 0, 1, 0, 0], .b 0, .c [1, 1, 1]] ⟨[1, 2, 6, 7, 8], ⟨[.fe Qb, .own 0 0, .own 1 0, .own 2 0, .i .i64], [.segs [.fn 58 [.fe Qb] []], .segs [.arr (.int .i64) 13], .segs [.arr (.int .i64) 13]]⟩⟩ (fun m p => fewestr_l1 N m p.1.1 p.1.2.2.2.2.1 p.2.1.1.1.1 p.2.2.1.1 p.2.2.2.1.1) [⟨[.c [1, 1, 1, 0, 0], .c [1, 1, 1, 0, 1], .c [1, 1, 1, 1]], ⟨[1, 7], ⟨[.fe Qb, .own 0 0], [.segs [.arr (.int .i64) 13]]⟩⟩, fun p => some ((p.1.1, p.2.1.1))⟩] (fun _ => []) (fun k e => k (.inl ((e.1, (), ()), ((e.2, ()), ())))) N (fun m p => by kernel_rfl)
noncomputable def fewestr_l3_L (N : Nat) {top : Bool} : LpQ fewestr_B top := mkL (Z := List Int) (fewestr_sp N) [fewestr_l2_L N, fewestr_l1_L N] [.c [1, 1, 1, 1, 1, 0, 1, 0, 0, 0, 0], .c [1, 1, 1, 1, 1, 0, 1, 0, 0, 0, 1], .c [1, 1, 1, 1, 1, 0, 1, 0, 0, 1], .l [1, 1, 1, 1, 1, 0, 1, 0, 0], .b 4, .c [1, 1, 1, 1, 1, 1]] ⟨[1, 7, 10, 11], ⟨[.fe Qb, .own 0 0, .ols 1, .i .i64], [.segs [.arr (.int .i64) 13], .lst (.int .i64)]⟩⟩ (fun m p => fewestr_l3 N m p.1.1 p.1.2.2.2.1 p.2.1.1 p.2.2.1) [⟨[.c [1, 1, 1, 1, 1, 1, 0], .c [1, 1, 1, 1, 1, 1, 1]], ⟨[10], ⟨[.ols 0], [.lst (.int .i64)]⟩⟩, fun p => some (p.2.1)⟩] (fun _ => []) (fun k e => k (.inl (((), ()), (e, ())))) N (fun m p => by kernel_rfl)
noncomputable def sp_fewestr (N : Nat) : Spec := mkS 59 ⟨[.agg [.fn 58 [.fe Qb] []], .fe Qb], []⟩ fewestr_o (fun p => fewestr_S N p.1.1.1.1.1 p.1.2.1) (fun k r => k ((r.1, r.2, ()), ()))
theorem sp_fewestr_ok (N : Nat) : SpecOK Tryz.prog (sp_fewestr N) := mkF (R := List Int × Bool) (m0 := 0) (fewestr_sp N) [fewestr_l2_L N, fewestr_l1_L N, fewestr_l3_L N] (fun r => some (r.1.1, r.1.2.1)) [] Tryz.func59 (fun p => by kernel_rfl) (by kernel_rfl) (fun _ => by kernel_rfl)

def fewest_S (N : Nat) (t : List Qe) (t2 : List Qf) (t3 : Int) : Option (List Int × Int) :=
 ((opened_S N t t2 t3).bind fun e => match e with
 | .inl (x_1, y_2) =>
  (br (!decide (y_2 = 0))
   (some ([], y_2))
   ((fewestr_S N x_1 x_1).bind fun (x_3, y_4) =>
   br (!y_4)
    (some ([], 6))
    (some (x_3, 0))))
 | .inr x_5 =>
  (br (!decide (x_5 = 0))
   (some ([], x_5))
   (none)))
noncomputable def sp_fewest (N : Nat) : Spec := mkS 12 ⟨[.agg [.sl Qd, .sl Qc, .i .i64]], []⟩ [⟨[.sl (.int .i64), .i .i64], []⟩] (fun p => fewest_S N p.1.1.1 p.1.1.2.1 p.1.1.2.2.1) (fun k r => k ((r.1, r.2, ()), ()))
theorem sp_fewest_ok (N : Nat) : SpecOK Tryz.prog (sp_fewest N) := mkF (R := List Int × Int) (m0 := 0) [⟨_, sp_opened_ok N⟩, ⟨_, sp_fewestr_ok N⟩] [] (fun r => some (r.1.1, r.1.2.1)) [] Tryz.func12 (fun p => by kernel_rfl) (by kernel_rfl) (fun _ => by kernel_rfl)

end Go.Proofs.YtfamlpbdhhikdaaGreat

namespace Go.Proofs.YtfamlpbdhhikdaaGreat
set_option linter.all false
open Go
def Ok {α : Type} (o : Option α) (Q : α → Prop) : Prop := ∃ x, o = some x ∧ Q x
section
variable {α β Z : Type} {Q : Z → Prop} {x y : Option Z}
theorem Ok.some {z : Z} (h : Q z) : Ok (some z) Q := ⟨z, rfl, h⟩
theorem Ok.bind {o : Option α} {P : α → Prop} {f : α → Option Z} (h : Ok o P) (k : ∀ a, P a → Ok (f a) Q) : Ok (o.bind f) Q := by
 obtain ⟨a, rfl, ha⟩ := h
 exact k a ha
theorem Ok.eqb {o : Option α} {a : α} {f : α → Option Z} (h : o = Option.some a) (k : Ok (f a) Q) : Ok (o.bind f) Q := by subst h; exact k
theorem Ok.mono {P : Z → Prop} (h : Ok x P) (k : ∀ a, P a → Q a) : Ok x Q := let ⟨a, e, p⟩ := h; ⟨a, e, k a p⟩
theorem Ok.br {c : Bool} (h1 : c = true → Ok x Q) (h2 : c = false → Ok y Q) : Ok (br c x y) Q := by
 cases c
 ·exact h2 rfl
 ·exact h1 rfl
theorem Ok.brd {p : Prop} [Decidable p] (h1 : p → Ok x Q) (h2 : ¬ p → Ok y Q) : Ok (Proofs.YtfamlpbdhhikdaaGreat.br (decide p) x y) Q := by
 by_cases h : p
 ·simpa [h, Proofs.YtfamlpbdhhikdaaGreat.br] using h1 h
 ·simpa [h, Proofs.YtfamlpbdhhikdaaGreat.br] using h2 h
theorem chk_eq {n : Int} (hn : -9223372036854775808 ≤ n ∧ n ≤ 9223372036854775807) : chk n x = x := by unfold chk; rw [okI_iff.2 hn]
theorem Ok.chk {n : Int} (hn : -9223372036854775808 ≤ n ∧ n ≤ 9223372036854775807) (h : Ok x Q) : Ok (chk n x) Q := by rw [chk_eq hn]; exact h
theorem grd_eq {c : Bool} (hc : c = true) : grd c x = x := by subst hc; rfl
theorem Ok.grd {c : Bool} (hc : c = true) (h : Ok x Q) : Ok (grd c x) Q := by subst hc; exact h
theorem rng_eq {i : Int} {n : Nat} (hi : 0 ≤ i ∧ i < n) : rng i n x = x := by unfold rng; rw [if_pos hi]
theorem Ok.rng {i : Int} {n : Nat} (hi : 0 ≤ i ∧ i < n) (h : Ok x Q) : Ok (rng i n x) Q := by rw [rng_eq hi]; exact h
theorem lim_eq {n : Nat} (hn : n ≤ 1000000) : lim n x = x := by unfold lim; rw [if_pos hn]
theorem Ok.lim {n : Nat} (hn : n ≤ 1000000) (h : Ok x Q) : Ok (lim n x) Q := by rw [lim_eq hn]; exact h
theorem idx_eq {l : List α} {i : Int} {f : α → Option Z} {a : α} (h0 : 0 ≤ i) (h : l[i.toNat]? = Option.some a) : idx l i f = f a := by unfold idx; rw [if_pos h0, h]
theorem Ok.idx {l : List α} {i : Int} {f : α → Option Z} (h0 : 0 ≤ i) (h : i < l.length) (k : ∀ a, l[i.toNat]? = Option.some a → a ∈ l → Ok (f a) Q) : Ok (idx l i f) Q := by
 have hlt : i.toNat < l.length := by omega
 have e : l[i.toNat]? = Option.some l[i.toNat] := List.getElem?_eq_getElem hlt
 rw [idx_eq h0 e]
 exact k _ e (List.getElem_mem hlt)
theorem get_eq {l : List α} {k : Nat} {f : α → Option Z} {a : α} (h : l[k]? = Option.some a) : get l k f = f a := by unfold get; rw [h]
theorem get_get {l : List α} {k : Nat} {f : α → Option Z} (d : α) (h : k < l.length) : get l k f = f (l.getD k d) := get_eq (by simp [List.getD, h])
theorem Ok.get {l : List α} {k : Nat} {f : α → Option Z} (h : k < l.length) (c : ∀ a, l[k]? = Option.some a → a ∈ l → Ok (f a) Q) : Ok (get l k f) Q := by
 have e : l[k]? = Option.some l[k] := List.getElem?_eq_getElem h
 rw [get_eq e]
 exact c _ e (List.getElem_mem h)
theorem br_true : br true x y = x := rfl
theorem br_false : br false x y = y := rfl
theorem br_dec {p : Prop} [Decidable p] (h : p) : br (decide p) x y = x := by simp [h, br]
theorem br_ndec {p : Prop} [Decidable p] (h : ¬ p) : br (decide p) x y = y := by simp [h, br]
theorem br_nd {p : Prop} [Decidable p] (h : p) : br (!decide p) x y = y := by simp [h, br]
theorem br_nnd {p : Prop} [Decidable p] (h : ¬ p) : br (!decide p) x y = x := by simp [h, br]
theorem bind_eq {o : Option α} {a : α} {f : α → Option Z} (h : o = Option.some a) : o.bind f = f a := by subst h; rfl
end
def InR (lo hi : Int) (l : List Int) : Prop := ∀ x ∈ l, lo ≤ x ∧ x ≤ hi
theorem InR.append {lo hi : Int} {l : List Int} (h : InR lo hi l) {x : Int} (hx : lo ≤ x ∧ x ≤ hi) : InR lo hi (l ++ [x]) := by
 intro y hy
 rcases List.mem_append.1 hy with hy | hy
 ·exact h y hy
 ·simp at hy; subst hy; exact hx
theorem InR.drop {lo hi : Int} {l : List Int} (h : InR lo hi l) (n : Nat) : InR lo hi (l.drop n) := fun x hx => h x (List.mem_of_mem_drop hx)
theorem InR.nil {lo hi : Int} : InR lo hi [] := fun _ h => by cases h
theorem InR.mono {lo hi lo' hi' : Int} {l : List Int} (h : InR lo hi l) (h1 : lo' ≤ lo) (h2 : hi ≤ hi') : InR lo' hi' l := fun x hx => by have := h x hx; omega

def ixL {α : Type} (f : α → Option Bool) : Nat → List α → Int → Int → Option (Int ⊕ Unit)
 | 0, _, _, _ => none
 | n + 1, s, u, u2 => br (decide (u2 < u)) (idx s u2 fun x => (f x).bind fun c => br c (some (.inl u2)) (chk (u2 + 1) <| ixL f n s u (u2 + 1))) (some (.inr ()))
def ixS {α : Type} (f : α → Option Bool) (N : Nat) (s : List α) : Option Int := (ixL f N s (s.length : Int) 0).bind fun e => match e with
 | .inl i => some i
 | .inr _ => some (-1)
theorem ixL_ok {α : Type} {f : α → Option Bool} {p : α → Bool} {s : List α} (hf : ∀ x ∈ s, f x = some (p x)) (hs : s.length ≤ 1000000) : ∀ (n k : Nat), s.length < n + k → k ≤ s.length →
  Ok (ixL f n s (s.length : Int) (k : Int)) fun r => match r with | .inl i => (0 ≤ i ∧ i < s.length) ∧ (s.drop k).any p = true | .inr _ => (s.drop k).any p = false
 | 0, k, h, hk => by omega
 | n + 1, k, h, hk => by
  unfold ixL
  refine Ok.brd (fun h1 => ?_) (fun h1 => Ok.some ?_)
  ·have hlt : k < s.length := by omega
   refine Ok.idx (by omega) h1 (fun a ha hm => ?_)
   have hd : s.drop k = a :: s.drop (k + 1) := by
    rw [List.drop_eq_getElem_cons hlt]
    have : s[k]? = some a := by simpa using ha
    rw [List.getElem?_eq_getElem hlt] at this
    simp only [Option.some.injEq] at this
    rw [this]
   refine Ok.eqb (hf a hm) (Ok.br (fun hp => Ok.some ?_) (fun hp => Ok.chk (by omega) ?_))
   ·exact ⟨⟨by omega, by omega⟩, by rw [hd]; simp [hp]⟩
   ·have := ixL_ok hf hs n (k + 1) (by omega) (by omega)
    rw [show ((k + 1 : Nat) : Int) = (k : Int) + 1 by omega] at this
    refine this.mono (fun r hr => ?_)
    rw [hd]
    cases r <;> simpa [hp] using hr
  ·have : s.drop k = [] := List.drop_of_length_le (by omega)
   simp [this]
theorem ixS_any {α : Type} {f : α → Option Bool} {p : α → Bool} {s : List α} {N : Nat} (hf : ∀ x ∈ s, f x = some (p x)) (hs : s.length ≤ 1000000) (hN : s.length < N) : ((ixS f N s).bind fun x => some (decide (0 ≤ x))) = some (s.any p) := by
 obtain ⟨r, h1, h2⟩ := ixL_ok hf hs N 0 (by omega) (by omega)
 unfold ixS
 rw [show ((0 : Nat) : Int) = 0 from rfl] at h1
 rw [h1]
 cases r with
 | inl i => simp only [List.drop_zero] at h2; simp [h2.1.1, h2.2]
 | inr u => simp only [List.drop_zero] at h2; simp [h2]
theorem any_not {α : Type} (p : α → Bool) (s : List α) : (!(s.any fun x => !p x)) = s.all p := by
 induction s with
 | nil => rfl
 | cons a s ih => simp only [List.any_cons, List.all_cons, Bool.not_or, Bool.not_not, ih]
end Go.Proofs.YtfamlpbdhhikdaaGreat

namespace Go.Proofs.YtfamlpbdhhikdaaGreat
set_option linter.all false
open Go

abbrev Wd := Int × (Int × Bool)
abbrev Tn := Int × (Int × Int)
abbrev Tx := List Wd × (List Tn × Int)
def okW (ws : List Wd) : Bool := decide (ws.length ≤ 100) && ws.all fun w => decide (0 ≤ w.1 ∧ w.1 ≤ 1000)
theorem okW_iff {ws : List Wd} : okW ws = true ↔ ws.length ≤ 100 ∧ ∀ w ∈ ws, 0 ≤ w.1 ∧ w.1 ≤ 1000 := by simp [okW]
def sylR (ws : List Wd) (a b : Nat) : Int := (((ws.take b).drop a).map (·.1)).sum
theorem drop_cons {α : Type} {l : List α} {k : Nat} (h : k < l.length) (d : α) : l.drop k = l.getD k d :: l.drop (k + 1) := by
 rw [List.drop_eq_getElem_cons h]; simp [List.getD, h]
theorem gets {α : Type} {l : List α} {k : Nat} (h : k < l.length) (d : α) : l[((k : Nat) : Int).toNat]? = some (l.getD k d) := by simp [List.getD, h]
theorem sum_bound {l : List Wd} (h : ∀ w ∈ l, 0 ≤ w.1 ∧ w.1 ≤ 1000) : 0 ≤ (l.map (·.1)).sum ∧ (l.map (·.1)).sum ≤ 1000 * l.length := by
 induction l with
 | nil => simp
 | cons a l ih =>
  have h1 := h a (by simp)
  have h2 := ih (fun w hw => h w (by simp [hw]))
  simp only [List.map_cons, List.sum_cons, List.length_cons]
  omega
theorem syllables_l1_p {N : Nat} {u : List Wd} (hu : u.length ≤ 100) (hw : ∀ w ∈ u, 0 ≤ w.1 ∧ w.1 ≤ 1000) : ∀ (n k : Nat) (s : Int), u.length < n + k → k ≤ u.length → 0 ≤ s ∧ s ≤ 1000 * k → syllables_l1 N n s u u.length k = some (s + ((u.drop k).map (·.1)).sum)
 | 0, k, s, h, hk, _ => by omega
 | n + 1, k, s, h, hk, hs => by
  unfold syllables_l1
  by_cases hlt : k < u.length
  ·rw [br_dec (by omega), idx_eq (by omega) (gets hlt (0, 0, false))]
   have hm := hw _ (getD_mem' hlt (0, 0, false))
   rw [drop_cons hlt (0, 0, false)]
   generalize u.getD k (0, 0, false) = x at *
   rw [chk_eq (by omega), chk_eq (by omega)]
   have := syllables_l1_p (N := N) hu hw n (k + 1) (s + x.1) (by omega) (by omega) (by omega)
   rw [show ((k + 1 : Nat) : Int) = (k : Int) + 1 by omega] at this
   rw [this]
   simp only [List.map_cons, List.sum_cons]
   congr 1; omega
  ·rw [br_ndec (by omega), List.drop_of_length_le (by omega)]
   simp
where
 getD_mem' {α : Type} {l : List α} {i : Nat} (h : i < l.length) (d : α) : l.getD i d ∈ l := by
  simp [List.getD, h]
theorem getD_mem {α : Type} {l : List α} {i : Nat} {d : α} (h : i < l.length) : l.getD i d ∈ l := by
 simp [List.getD, h]
theorem take_drop_mem {ws : List Wd} (h : ∀ w ∈ ws, 0 ≤ w.1 ∧ w.1 ≤ 1000) (a b : Nat) : ∀ w ∈ (ws.take b).drop a, 0 ≤ w.1 ∧ w.1 ≤ 1000 := fun w hw => h w (List.mem_of_mem_take (List.mem_of_mem_drop hw))
theorem sylR_bound {ws : List Wd} (h : okW ws = true) (a b : Nat) : 0 ≤ sylR ws a b ∧ sylR ws a b ≤ 100000 := by
 obtain ⟨h1, h2⟩ := okW_iff.1 h
 have := sum_bound (take_drop_mem h2 a b)
 unfold sylR
 have : ((ws.take b).drop a).length ≤ 100 := by simp only [List.length_drop, List.length_take]; omega
 omega
section
variable {N : Nat} (hN : 110 ≤ N) {ws : List Wd} {ts : List Tn} {br_ : Int}
include hN
theorem syllables_v (h : okW ws = true) {a b : Int} (ha : 0 ≤ a) (hab : a ≤ b) (hb : b ≤ ws.length) : syllables_S N (ws, ts, br_) a b = some (sylR ws a.toNat b.toNat) := by
 obtain ⟨h1, h2⟩ := okW_iff.1 h
 unfold syllables_S
 rw [grd_eq (by simp; omega)]
 dsimp only
 have hl : ((ws.take b.toNat).drop a.toNat).length ≤ 100 := by simp only [List.length_drop, List.length_take]; omega
 have := syllables_l1_p (N := N) (u := (ws.take b.toNat).drop a.toNat) hl (take_drop_mem h2 _ _) N 0 0 (by omega) (by omega) (by omega)
 simp only [Int.natCast_zero, List.drop_zero, Int.zero_add] at this
 rw [this]
 rfl
end
def turnP (a b : Int) (x : Tn) : Bool := decide (a ≤ x.2.1) && decide (x.2.2 < b) && !decide (a ≤ x.1 ∧ x.1 ≤ b - 1)
def turnK (ts : List Tn) (a b : Int) (k : Nat) : List Int := ((List.range k).filter fun i => turnP a b (ts.getD i (0, 0, 0))).map fun (i : Nat) => (i : Int)
theorem turnK_len (ts : List Tn) (a b : Int) (k : Nat) : (turnK ts a b k).length ≤ k := by
 have := List.length_filter_le (fun i => turnP a b (ts.getD i (0, 0, 0))) (List.range k)
 simp only [turnK, List.length_map]
 simpa using this
theorem turnK_succ (ts : List Tn) (a b : Int) (k : Nat) : turnK ts a b (k + 1) = turnK ts a b k ++ (if turnP a b (ts.getD k (0, 0, 0)) = true then [(k : Int)] else []) := by
 simp only [turnK, List.range_succ, List.filter_append, List.map_append]
 congr 1
 rw [List.filter_cons]
 by_cases h : turnP a b (ts.getD k (0, 0, 0)) = true
 ·rw [if_pos h, if_pos h]; rfl
 ·rw [if_neg h, if_neg h]; rfl
theorem mem_turnK {ts : List Tn} {a b : Int} {k i : Nat} : (i : Int) ∈ turnK ts a b k ↔ i < k ∧ turnP a b (ts.getD i (0, 0, 0)) = true := by
 simp only [turnK, List.mem_map, List.mem_filter, List.mem_range]
 constructor
 ·rintro ⟨j, hj, e⟩
  obtain rfl : j = i := by omega
  exact hj
 ·exact fun h => ⟨i, h, rfl⟩
def turnL (ts : List Tn) (a b : Int) : List Int := turnK ts a b ts.length
theorem in_v (N : Nat) (n lo hi : Int) : in__S N n lo hi = some (decide (lo ≤ n ∧ n ≤ hi)) := by
 unfold in__S br
 by_cases h : lo ≤ n <;> simp [h]
theorem turned_l1_p {N : Nat} {ts : List Tn} (ht : ts.length ≤ 1000) {a b : Int} (hb : -1000000 ≤ b ∧ b ≤ 1000000) : ∀ (n k : Nat), ts.length < n + k → k ≤ ts.length → turned_l1 N n a b ts ts.length k (turnK ts a b k) = some (turnL ts a b)
 | 0, k, h, hk => by omega
 | n + 1, k, h, hk => by
  unfold turned_l1
  by_cases hlt : k < ts.length
  ·rw [br_dec (by omega), idx_eq (by omega) (gets hlt (0, 0, 0))]
   have ih := turned_l1_p (N := N) ht (a := a) hb n (k + 1) (by omega) (by omega)
   rw [turnK_succ] at ih
   have hl := turnK_len ts a b k
   generalize ts.getD k (0, 0, 0) = x at *
   have hj : ∀ out, turned_j1 N (turned_l1 N n) a b ts ts.length k out = turned_l1 N n a b ts ts.length ((k + 1 : Nat) : Int) out := fun out => by
    unfold turned_j1
    rw [chk_eq (by omega)]; rfl
   simp only [hj, in_v, Option.bind_some]
   rw [chk_eq (by omega), lim_eq (by simp; omega)]
   by_cases h1 : a ≤ x.2.1 <;> by_cases h2 : x.2.2 < b <;> by_cases h3 : a ≤ x.1 ∧ x.1 ≤ b - 1 <;> simp only [turnP, br, h1, h2, h3, decide_true, decide_false, Bool.and_true, Bool.true_and, Bool.and_false, Bool.false_and, Bool.not_true, Bool.not_false, ite_true, ite_false, if_true, if_false, List.append_nil, and_self, and_true, true_and, and_false, false_and, Bool.false_eq_true] at ih ⊢ <;> first | exact ih | (simp [h3] at ih ⊢; exact ih)
  ·obtain rfl : k = ts.length := by omega
   rw [br_ndec (by omega)]; rfl
section
variable {N : Nat} (hN : 110 ≤ N) {ws : List Wd} {ts : List Tn} {br_ : Int}
include hN
theorem turned_v (ht : ts.length ≤ 100) {a b : Int} (hb : -1000000 ≤ b ∧ b ≤ 1000000) : turned_S N (ws, ts, br_) a b = some (turnL ts a b) := by
 unfold turned_S
 have := turned_l1_p (N := N) (ts := ts) (by omega) (a := a) hb N 0 (by omega) (by omega)
 simp only [Int.natCast_zero] at this
 have e : turnK ts a b 0 = [] := rfl
 rw [e] at this
 rw [this]; rfl
end
def stopR (ws : List Wd) (p : Nat) : Bool := decide (p = 0) || decide (p = ws.length) || (ws.getD (p - 1) (0, 0, false)).2.2
theorem stops_v {N : Nat} {ws : List Wd} {ts : List Tn} {br_ : Int} (h : ws.length ≤ 1000) {p : Nat} (hp : p ≤ ws.length) : stops_S N (ws, ts, br_) p = some (stopR ws p) := by
 unfold stops_S end__S stopR
 by_cases h0 : p = 0
 ·subst h0; simp [br]
 ·rw [br_ndec (by omega)]
  rw [bind_eq (rfl : some ((ws.length : Nat) : Int) = _)]
  by_cases h1 : p = ws.length
  ·rw [br_dec (by simp [h1])]; simp [h1]
  ·rw [br_ndec (by omega), chk_eq (by omega), show (p : Int) - 1 = ((p - 1 : Nat) : Int) by omega, idx_eq (by omega) (gets (l := ws) (by omega) (0, 0, false))]
   simp [h0, h1]
def faultR (ws : List Wd) (ts : List Tn) (br_ : Int) (a b : Nat) : Int × Bool :=
 if br_ < sylR ws a b then (0, true) else if !stopR ws a || !stopR ws b then (1, true) else (2, decide (0 < ((turnL ts a b).length : Int)))
def rightR (ws : List Wd) (ts : List Tn) (br_ : Int) (a b : Nat) : Bool := !(faultR ws ts br_ a b).2
section
variable {N : Nat} (hN : 110 ≤ N) {ws : List Wd} {ts : List Tn} {br_ : Int} (h : okW ws = true) (ht : ts.length ≤ 100)
include hN h ht
theorem fault_v {a b : Nat} (hab : a ≤ b) (hb : b ≤ ws.length) : fault_S N (ws, ts, br_) a b = some (faultR ws ts br_ a b) := by
 have hl := (okW_iff.1 h).1
 unfold fault_S faultR
 rw [syllables_v hN h (by omega) (by omega) (by omega), stops_v (by omega) (by omega), stops_v (by omega) hb, turned_v hN ht (by omega)]
 simp only [Option.bind_some, Int.toNat_natCast]
 by_cases h1 : br_ < sylR ws a b
 ·rw [br_dec h1, if_pos h1]
 ·rw [br_ndec h1, if_neg h1]
  cases stopR ws a <;> cases stopR ws b <;> simp [br]
theorem right_v {a b : Nat} (hab : a ≤ b) (hb : b ≤ ws.length) : right_S N (ws, ts, br_) a b = some (rightR ws ts br_ a b) := by
 unfold right_S rightR
 rw [fault_v hN h ht hab hb]; rfl
end
end Go.Proofs.YtfamlpbdhhikdaaGreat

namespace Go.Proofs.YtfamlpbdhhikdaaGreat
set_option linter.all false
open Go

theorem call_pure {P : Program} {s : Spec} (hok : SpecOK P s) (hb : s.ins.blks = []) {p : s.ins.den} {r : altD s.outs} (hr : s.run p some = some r) {M : Nat → Option Obj} {w : World} (hM : ∀ b o, M b = some o → w.heap[b]? = some o)
  {vs : List Value} (hv : RepVs ⟨fun _ => none, M⟩ (encs id s.ins.avs p.1) vs) : Fn P s.f vs.toArray w (fun v w' => Ext w w' ∧ ∃ g', RepV g' (resVal (encs id (altOf s.outs r).1.avs (altOf s.outs r).2.1)) v) := by
 have hh : ∀ i, hOf p.2 i = Option.none := fun i => by
  unfold hOf
  rw [List.getElem?_eq_none]
  rw [encBs_len, hb]; exact Nat.zero_le _
 have hs : Sim ⟨fun _ => none, M⟩ (hOf p.2) w := ⟨fun b o h => hM b o h, fun i k hk => (by rw [hh i] at hk; cases hk), fun i j ki kj b ci ni cj nj h1 => (by rw [hh i] at h1; cases h1)⟩
 refine Fn.mono (hok.fn p r hr ⟨fun _ => none, M⟩ w vs hv hs (fun _ _ => rfl)) ?_
 rintro v w' ⟨g', st, _, hv'⟩
 refine ⟨⟨st.os, st.tape, st.output, st.size, fun k hk _ => st.same k hk ?_⟩, g', hv'⟩
 rintro ⟨i, hi, _⟩
 rw [hb] at hi; simp at hi
def Cl (w : World) (b o : Nat) (vs : List Value) : Prop := ∀ (i : Nat) (v : Value), vs[i]? = some v → w.cell? ⟨b, o + i, none⟩ = some v
theorem Cl.cell {w : World} {b o i : Nat} {vs : List Value} {v : Value} (h : Cl w b o vs) (hi : vs[i]? = some v) : w.cell? ⟨b, o + i, none⟩ = some v := h i v hi
theorem Cl.of_seg {w : World} {b o : Nat} {ws us : List Value} {ty : TypeId} {z : Nat × Nat} (hb : w.heap[b]? = some (.cells ws.toArray ty z)) (h : Seg ws o us) : Cl w b o us := fun i v hi => by
 have := Seg.row hb h i v hi
 rwa [addr_add] at this
def toL (R : Nat → Bool) (m k : Nat) : List Nat := (List.range' k (m + 1 - k)).filter R
theorem toL_yes {R : Nat → Bool} {m k : Nat} (h : k ≤ m) (e : R k = true) : toL R m k = k :: toL R m (k + 1) := by
 unfold toL
 rw [show m + 1 - k = (m + 1 - (k + 1)) + 1 by omega, List.range'_succ, List.filter_cons, if_pos e]
theorem toL_no {R : Nat → Bool} {m k : Nat} (h : k ≤ m) (e : R k = false) : toL R m k = toL R m (k + 1) := by
 unfold toL
 rw [show m + 1 - k = (m + 1 - (k + 1)) + 1 by omega, List.range'_succ, List.filter_cons, if_neg (by simp [e])]
theorem toL_end {R : Nat → Bool} {m k : Nat} (h : m < k) : toL R m k = [] := by
 unfold toL
 rw [show m + 1 - k = 0 by omega]; rfl
theorem mem_toL {R : Nat → Bool} {m k j : Nat} : j ∈ toL R m k ↔ k ≤ j ∧ j ≤ m ∧ R j = true := by
 unfold toL
 rw [List.mem_filter, List.mem_range'_1]
 constructor
 ·rintro ⟨⟨h1, h2⟩, h3⟩; exact ⟨h1, by omega, h3⟩
 ·rintro ⟨h1, h2, h3⟩; exact ⟨⟨h1, by omega⟩, h3⟩

noncomputable def c143 : Code := (Tryz.f122.body).getD .skip
noncomputable def K143_0 : List Item := [.code (sub c143 [0]), .code (sub c143 [1])]
noncomputable def K143_1 : List Item := [.code (sub c143 [1, 0, 0, 0, 0]), .code (sub c143 [1, 0, 0, 0, 1]), .code (sub c143 [1, 0, 0, 1]), .inLoop (sub c143 [1, 0, 0]), .inBlock 0]
noncomputable def K143_2 : List Item := [.code (sub c143 [1, 0, 0, 0, 1]), .code (sub c143 [1, 0, 0, 1]), .inLoop (sub c143 [1, 0, 0]), .inBlock 0]
noncomputable def K143_3 : List Item := [.code (sub c143 [1, 0, 0, 1, 0, 0, 0]), .code (sub c143 [1, 0, 0, 1, 0, 0, 1]), .inBlock 1, .code (sub c143 [1, 0, 0, 1, 1]), .inLoop (sub c143 [1, 0, 0]), .inBlock 0]
noncomputable def K143_4 : List Item := []
noncomputable def K143_5 : List Item := [.code (sub c143 [1, 0, 0, 1, 0, 0, 1]), .inBlock 1, .code (sub c143 [1, 0, 0, 1, 1]), .inLoop (sub c143 [1, 0, 0]), .inBlock 0]
noncomputable def K143_6 : List Item := [.code (sub c143 [1, 0, 0, 1, 0, 0, 1, 0]), .inBlock 1, .code (sub c143 [1, 0, 0, 1, 1]), .inLoop (sub c143 [1, 0, 0]), .inBlock 0]
noncomputable def K143_7 : List Item := [.code (sub c143 [1, 0, 0, 1, 1]), .inLoop (sub c143 [1, 0, 0]), .inBlock 0]
set_option maxHeartbeats 400000 in
theorem breaths1_fn (l bf bd of_ od : Nat) (vd : Addr) (fr m : Nat) (R : Nat → Bool) (S : List Nat) (J : List Nat → World → Prop) (Q : World → Prop) (w : World)
  (hbf : ∀ w', Upd (l :: S) w w' → Cl w' bf of_ [.int .i64 (↑fr : Int)]) (hbd : ∀ w', Upd (l :: S) w w' → Cl w' bd od [.pointer (some vd)])
  (hend : ∀ w', Upd (l :: S) w w' → Fn Tryz.prog 60 #[.pointer (some vd)] w' (fun v w2 => Ext w' w2 ∧ v = .int .i64 (↑m : Int)))
  (hright : ∀ (k : Nat) w', fr ≤ k → k ≤ m → Upd (l :: S) w w' → Fn Tryz.prog 58 #[.pointer (some vd), .int .i64 (↑fr : Int), .int .i64 (↑k : Int)] w' (fun v w2 => Ext w' w2 ∧ v = .bool (R k)))
  (hfr : fr ≤ m ∧ m ≤ 1000000) (hJ : J (toL R m (fr + 1)) w) (hxJ : ∀ r, Stays w.heap.size (J r))
  (hy : ∀ k r w1, k ∈ toL R m (fr + 1) → J (k :: r) w1 → Upd (l :: S) w w1 → Yield Tryz.prog l #[.int .i64 ↑k] w1 (fun v w2 => Upd (l :: S) w1 w2 ∧ ((v = .bool true ∧ J r w2) ∨ (v = .bool false ∧ Q w2)))) :
  Fn Tryz.prog 122 #[(.func (.yield l) #[] #[]), (.pointer (some ⟨bf, of_, none⟩)), (.pointer (some ⟨bd, od, none⟩))] w (fun _ w' => Upd (l :: S) w w' ∧ (J [] w' ∨ Q w')) := by
 refine Fn.ofSt (c := c143) 23 K143_0 [(0, (.func (.yield l) #[] #[])), (1, (.pointer (some ⟨bf, of_, none⟩))), (2, (.pointer (some ⟨bd, od, none⟩)))] Tryz.func122 (by kernel_rfl) ⟨⟨rfl, by kernel_rfl⟩, by kernel_rfl⟩ (by kernel_rfl) ?_
 intro cs
 refine St.reg K143_1 [(0, true), (1, true), (2, true)] (by kernel_rfl) (by kernel_rfl) ?_
 refine RX.q 3 [(0, true, (.int .i64 (↑fr : Int))), (1, false, (.int .i64 ((↑fr : Int) + 1)))] [(0, (.func (.yield l) #[] #[])), (1, (.pointer (some ⟨bf, of_, none⟩))), (2, (.pointer (some ⟨bd, od, none⟩))), (4, (.int .i64 ((↑fr : Int) + 1)))] [.cell ⟨bf, of_ + 0, none⟩ (.int .i64 (↑fr : Int)), .eq (.int .i64 (IntKind.i64.wrap ((↑fr : Int) + 1))) (.int .i64 ((↑fr : Int) + 1))] (by kernel_rfl) ⟨Cl.cell (hbf w (Upd.refl _ w)) rfl, int64 (by omega)⟩ ?_
 refine RX.done [(0, (.func (.yield l) #[] #[])), (1, (.pointer (some ⟨bf, of_, none⟩))), (2, (.pointer (some ⟨bd, od, none⟩))), (4, (.int .i64 ((↑fr : Int) + 1)))] (by kernel_rfl) (by kernel_rfl) ?_
 have loop1 : ∀ (N : Nat) (k : Nat) (w2 : World), (fr + 1 ≤ k ∧ k ≤ m + 1) → (J (toL R m k) w2) → (Upd (l :: S) w w2) → N = m + 1 - k → St Tryz.prog (fctx Tryz.prog 122 (fun _ w' => Upd (l :: S) w w' ∧ (J [] w' ∨ Q w')) cs) 23 K143_1 [(4, (.int .i64 (↑k : Int))), (0, (.func (.yield l) #[] #[])), (1, (.pointer (some ⟨bf, of_, none⟩))), (2, (.pointer (some ⟨bd, od, none⟩)))] [] w2 := by
  intro N3
  induction N3 using Nat.strongRecOn with
  | ind N3 ih4 => ?_
  intro k w2 hk hJk hE hN5
  refine St.reg K143_2 [(0, true), (1, true), (2, false), (3, true)] (by kernel_rfl) (by kernel_rfl) ?_
  refine RX.q 2 [(1, true, (.pointer (some vd)))] [(0, (.func (.yield l) #[] #[])), (1, (.pointer (some ⟨bf, of_, none⟩))), (2, (.pointer (some ⟨bd, od, none⟩))), (4, (.int .i64 (↑k : Int))), (7, (.int .i64 (↑k : Int))), (8, (.pointer (some vd)))] [.cell ⟨bd, od + 0, none⟩ (.pointer (some vd))] (by kernel_rfl) (Cl.cell (hbd w2 hE) rfl) ?_
  refine RX.call 9 60 #[(.pointer (some vd))] [(0, (.func (.yield l) #[] #[])), (1, (.pointer (some ⟨bf, of_, none⟩))), (2, (.pointer (some ⟨bd, od, none⟩))), (4, (.int .i64 (↑k : Int))), (7, (.int .i64 (↑k : Int))), (8, (.pointer (some vd)))] (fun _ => by kernel_rfl) (by kernel_rfl) ?_
  refine Fn.mono (hend w2 hE) ?_
  rintro _ w3 ⟨hx3, rfl⟩
  have hE3 : Upd (l :: S) w w3 := Upd.ext hE hx3
  have hJ3 : J (toL R m k) w3 := Stays.ext (hxJ _) hJk hx3
  refine RX.q 1 [] [(0, (.func (.yield l) #[] #[])), (1, (.pointer (some ⟨bf, of_, none⟩))), (2, (.pointer (some ⟨bd, od, none⟩))), (4, (.int .i64 (↑k : Int))), (10, (.bool (decide ((↑k : Int) ≤ (↑m : Int)))))] [] (by kernel_rfl) trivial ?_
  refine RX.done [(0, (.func (.yield l) #[] #[])), (1, (.pointer (some ⟨bf, of_, none⟩))), (2, (.pointer (some ⟨bd, od, none⟩))), (4, (.int .i64 (↑k : Int))), (10, (.bool (decide ((↑k : Int) ≤ (↑m : Int)))))] (by kernel_rfl) (by kernel_rfl) ?_
  refine St.cond (k1 := K143_3) (k2 := K143_4) (decide ((↑k : Int) ≤ (↑m : Int))) (by kernel_rfl) (fun hc7 => ?_) (fun hc7 => ?_)
  ·have hh8 : (↑k : Int) ≤ (↑m : Int) := by simpa using hc7
   clear hc7
   refine St.weak (L' := [(0, (.func (.yield l) #[] #[])), (1, (.pointer (some ⟨bf, of_, none⟩))), (2, (.pointer (some ⟨bd, od, none⟩))), (4, (.int .i64 (↑k : Int)))]) (by kernel_rfl) ?_
   refine St.reg K143_5 [(0, true), (1, true), (2, true), (3, false), (4, true), (5, true), (6, true), (7, false), (8, true), (9, true)] (by kernel_rfl) (by kernel_rfl) ?_
   refine RX.q 3 [(0, true, (.pointer (some vd))), (1, true, (.int .i64 (↑fr : Int)))] [(0, (.func (.yield l) #[] #[])), (1, (.pointer (some ⟨bf, of_, none⟩))), (2, (.pointer (some ⟨bd, od, none⟩))), (4, (.int .i64 (↑k : Int))), (13, (.pointer (some vd))), (14, (.int .i64 (↑fr : Int))), (15, (.int .i64 (↑k : Int)))] [.cell ⟨bd, od + 0, none⟩ (.pointer (some vd)), .cell ⟨bf, of_ + 0, none⟩ (.int .i64 (↑fr : Int))] (by kernel_rfl) ⟨Cl.cell (hbd w3 hE3) rfl, Cl.cell (hbf w3 hE3) rfl⟩ ?_
   refine RX.call 16 58 #[(.pointer (some vd)), (.int .i64 (↑fr : Int)), (.int .i64 (↑k : Int))] [(0, (.func (.yield l) #[] #[])), (1, (.pointer (some ⟨bf, of_, none⟩))), (2, (.pointer (some ⟨bd, od, none⟩))), (4, (.int .i64 (↑k : Int))), (13, (.pointer (some vd))), (14, (.int .i64 (↑fr : Int))), (15, (.int .i64 (↑k : Int)))] (fun _ => by kernel_rfl) (by kernel_rfl) ?_
   refine Fn.mono (hright k w3 (by omega) (by omega) hE3) ?_
   rintro _ w4 ⟨hx4, rfl⟩
   have hE4 : Upd (l :: S) w w4 := Upd.ext hE3 hx4
   have hJ4 : J (toL R m k) w4 := Stays.ext (hxJ _) hJ3 hx4
   cases hR : R k with
   | true =>
    refine RX.q 3 [] [(0, (.func (.yield l) #[] #[])), (1, (.pointer (some ⟨bf, of_, none⟩))), (2, (.pointer (some ⟨bd, od, none⟩))), (4, (.int .i64 (↑k : Int))), (17, (.bool true)), (18, (.func (.yield l) #[] #[])), (19, (.int .i64 (↑k : Int)))] [] (by kernel_rfl) trivial ?_
    rw [toL_yes (by omega) hR] at hJ4
    refine RX.yield 20 l #[(.int .i64 (↑k : Int))] [(0, (.func (.yield l) #[] #[])), (1, (.pointer (some ⟨bf, of_, none⟩))), (2, (.pointer (some ⟨bd, od, none⟩))), (4, (.int .i64 (↑k : Int))), (17, (.bool true)), (18, (.func (.yield l) #[] #[])), (19, (.int .i64 (↑k : Int)))] (by kernel_rfl) ?_
    refine Yield.mono (hy k _ w4 (mem_toL.2 ⟨by omega, by omega, hR⟩) hJ4 hE4) ?_
    rintro _ w5 ⟨hu5, ⟨rfl, hv⟩ | ⟨rfl, hv⟩⟩
    ·refine RX.q 2 [] [(0, (.func (.yield l) #[] #[])), (1, (.pointer (some ⟨bf, of_, none⟩))), (2, (.pointer (some ⟨bd, od, none⟩))), (4, (.int .i64 (↑k : Int))), (22, (.bool false))] [] (by kernel_rfl) trivial ?_
     refine RX.done [(0, (.func (.yield l) #[] #[])), (1, (.pointer (some ⟨bf, of_, none⟩))), (2, (.pointer (some ⟨bd, od, none⟩))), (4, (.int .i64 (↑k : Int))), (22, (.bool false))] (by kernel_rfl) (by kernel_rfl) ?_
     refine St.cond (k1 := K143_6) (k2 := K143_7) false (by kernel_rfl) (fun hc => ?_) (fun hc => ?_)
     ·cases hc
     ·clear hc
      refine St.weak (L' := [(0, (.func (.yield l) #[] #[])), (1, (.pointer (some ⟨bf, of_, none⟩))), (2, (.pointer (some ⟨bd, od, none⟩))), (4, (.int .i64 (↑k : Int)))]) (by kernel_rfl) ?_
      refine St.reg K143_1 [(0, true), (1, true), (2, true)] (by kernel_rfl) (by kernel_rfl) ?_
      refine RX.q 3 [(1, false, (.int .i64 ((↑k : Int) + 1)))] [(0, (.func (.yield l) #[] #[])), (1, (.pointer (some ⟨bf, of_, none⟩))), (2, (.pointer (some ⟨bd, od, none⟩))), (4, (.int .i64 ((↑k : Int) + 1)))] [.eq (.int .i64 (IntKind.i64.wrap ((↑k : Int) + 1))) (.int .i64 ((↑k : Int) + 1))] (by kernel_rfl) (int64 (by omega)) ?_
      refine RX.done [(0, (.func (.yield l) #[] #[])), (1, (.pointer (some ⟨bf, of_, none⟩))), (2, (.pointer (some ⟨bd, od, none⟩))), (4, (.int .i64 ((↑k : Int) + 1)))] (by kernel_rfl) (by kernel_rfl) ?_
      refine St.weak (by kernel_rfl) (ih4 _ ?_ (k + 1) w5 (by omega) hv (Upd.trans hE4 hu5) rfl)
      omega
    ·refine RX.q 2 [] [(0, (.func (.yield l) #[] #[])), (1, (.pointer (some ⟨bf, of_, none⟩))), (2, (.pointer (some ⟨bd, od, none⟩))), (4, (.int .i64 (↑k : Int))), (22, (.bool true))] [] (by kernel_rfl) trivial ?_
     refine RX.done [(0, (.func (.yield l) #[] #[])), (1, (.pointer (some ⟨bf, of_, none⟩))), (2, (.pointer (some ⟨bd, od, none⟩))), (4, (.int .i64 (↑k : Int))), (22, (.bool true))] (by kernel_rfl) (by kernel_rfl) ?_
     refine St.cond (k1 := K143_6) (k2 := K143_7) true (by kernel_rfl) (fun hc => ?_) (fun hc => ?_)
     ·clear hc
      refine St.weak (L' := []) (by kernel_rfl) ?_
      refine St.ret [] [] (by kernel_rfl) Tryz.func122 (by kernel_rfl) .nil ?_
      exact ⟨Upd.trans hE4 hu5, .inr hv⟩
     ·cases hc
   | false =>
    refine RX.q 3 [] [(0, (.func (.yield l) #[] #[])), (1, (.pointer (some ⟨bf, of_, none⟩))), (2, (.pointer (some ⟨bd, od, none⟩))), (4, (.int .i64 (↑k : Int))), (17, (.bool false)), (18, undef), (19, undef)] [] (by kernel_rfl) trivial ?_
    refine RX.skip [(0, (.func (.yield l) #[] #[])), (1, (.pointer (some ⟨bf, of_, none⟩))), (2, (.pointer (some ⟨bd, od, none⟩))), (4, (.int .i64 (↑k : Int))), (17, (.bool false)), (18, undef), (19, undef), (20, undef)] (by kernel_rfl) ?_
    refine RX.q 2 [] [(0, (.func (.yield l) #[] #[])), (1, (.pointer (some ⟨bf, of_, none⟩))), (2, (.pointer (some ⟨bd, od, none⟩))), (4, (.int .i64 (↑k : Int))), (22, (.bool false))] [] (by kernel_rfl) trivial ?_
    refine RX.done [(0, (.func (.yield l) #[] #[])), (1, (.pointer (some ⟨bf, of_, none⟩))), (2, (.pointer (some ⟨bd, od, none⟩))), (4, (.int .i64 (↑k : Int))), (22, (.bool false))] (by kernel_rfl) (by kernel_rfl) ?_
    refine St.cond (k1 := K143_6) (k2 := K143_7) false (by kernel_rfl) (fun hc => ?_) (fun hc => ?_)
    ·cases hc
    ·clear hc
     refine St.weak (L' := [(0, (.func (.yield l) #[] #[])), (1, (.pointer (some ⟨bf, of_, none⟩))), (2, (.pointer (some ⟨bd, od, none⟩))), (4, (.int .i64 (↑k : Int)))]) (by kernel_rfl) ?_
     refine St.reg K143_1 [(0, true), (1, true), (2, true)] (by kernel_rfl) (by kernel_rfl) ?_
     refine RX.q 3 [(1, false, (.int .i64 ((↑k : Int) + 1)))] [(0, (.func (.yield l) #[] #[])), (1, (.pointer (some ⟨bf, of_, none⟩))), (2, (.pointer (some ⟨bd, od, none⟩))), (4, (.int .i64 ((↑k : Int) + 1)))] [.eq (.int .i64 (IntKind.i64.wrap ((↑k : Int) + 1))) (.int .i64 ((↑k : Int) + 1))] (by kernel_rfl) (int64 (by omega)) ?_
     refine RX.done [(0, (.func (.yield l) #[] #[])), (1, (.pointer (some ⟨bf, of_, none⟩))), (2, (.pointer (some ⟨bd, od, none⟩))), (4, (.int .i64 ((↑k : Int) + 1)))] (by kernel_rfl) (by kernel_rfl) ?_
     refine St.weak (by kernel_rfl) (ih4 _ ?_ (k + 1) w4 (by omega) (by rw [← toL_no (by omega) hR]; exact hJ4) hE4 rfl)
     omega
  ·have hh52 : (↑m : Int) < (↑k : Int) := by simpa using hc7
   clear hc7
   refine St.weak (L' := []) (by kernel_rfl) ?_
   refine St.ret [] [] (by kernel_rfl) Tryz.func122 (by kernel_rfl) .nil ?_
   refine ⟨hE3, .inl ?_⟩
   rw [← toL_end (R := R) (m := m) (k := k) (by omega)]; exact hJ3
 exact St.weak (by kernel_rfl) (loop1 _ (fr + 1) w (by omega) hJ (Upd.refl (l :: S) w) rfl)

abbrev TextT : Ty := .pair (.sl (.pair (.int .i64) (.pair (.int .i64) .bool))) (.pair (.sl (.pair (.int .i64) (.pair (.int .i64) (.int .i64)))) (.int .i64))
def endsL (ws : List Wd) (ts : List Tn) (br_ : Int) (a : Nat) : List Nat := toL (rightR ws ts br_ a) ws.length (a + 1)
def breathsR (a : Int) (d : Tx) : Option (List (Int × Unit)) :=
 if (0 ≤ a ∧ a ≤ d.1.length) ∧ okW d.1 = true ∧ d.2.1.length ≤ 100 then some ((endsL d.1 d.2.1 d.2.2 a.toNat).map fun (j : Nat) => ((j : Int), ())) else none
abbrev is_breaths : ISpec := { f := 122, cap := [.fe (.int .i64), .fe (.ptr TextT)], elem := [.i .i64], run := fun p => breathsR p.1 p.2.1 }
theorem inR_small {n : Int} (h : -1000000 ≤ n ∧ n ≤ 1000000) : inR .i64 n := inR_i64.2 (by omega)
theorem is_breaths_ok : ISpecOK Tryz.prog is_breaths := by
 refine ⟨by rfl, fun _ => by kernel_rfl, fun p es hes g vs hvs l S J Q w hM hS hJ hxJ hxQ hy => ?_⟩
 obtain ⟨a, d, u⟩ := p
 simp only [breathsR] at hes
 split at hes
 rotate_left
 ·cases hes
 rename_i hc
 simp only [Option.some.injEq] at hes
 subst hes
 obtain ⟨⟨ha0, ha1⟩, hok, ht⟩ := hc
 obtain ⟨ws, ts, br_⟩ := d
 dsimp only at *
 obtain ⟨fr, rfl⟩ : ∃ n : Nat, a = n := ⟨a.toNat, (Int.toNat_of_nonneg ha0).symm⟩
 simp only [Int.toNat_natCast] at hJ ⊢
 have hlen := (okW_iff.1 hok).1
 simp only [encs, enc, RepVs, RepV] at hvs
 obtain ⟨v1, r1, rfl, ⟨bf, of_, wx, tx, ux, rfl, hbx, hsx, hcx⟩, v2, r2, rfl, ⟨bd, od, wd, td, ud, rfl, hbd, hsd, hcd⟩, rfl⟩ := hvs
 obtain ⟨rfl, hin⟩ := hcx
 obtain ⟨bo, oo, wo, to, uo, rfl, hbo, hso, hco⟩ := hcd
 have hmem : ∀ w', Upd (l :: S) w w' → ∀ b o, g.M b = some o → w'.heap[b]? = some o := fun w' hu b o hb => hu.blk (hM b o hb).2 (hM b o hb).1
 have hrd : RepV ⟨fun _ => none, g.M⟩ (.fe TextT (ws, ts, br_) 0) (.pointer (some ⟨bo, oo, none⟩)) := ⟨bo, oo, wo, to, uo, rfl, hbo, hso, hco⟩
 have hfn := breaths1_fn l bf bd of_ od ⟨bo, oo, none⟩ fr ws.length (rightR ws ts br_ fr) S (fun r => J (r.map fun (j : Nat) => ((j : Int), ()))) Q w
  (fun w' hu => Cl.of_seg (hmem w' hu _ _ hbx) hsx) (fun w' hu => Cl.of_seg (hmem w' hu _ _ hbd) hsd)
  (fun w' hu => Fn.mono (call_pure (sp_end__ok 200) rfl (p := (((ws, ts, br_), ()), ())) (r := (((ws.length : Int), ()), ())) rfl (hmem w' hu) ⟨_, _, rfl, hrd, rfl⟩) (fun v w2 ⟨h1, g', h2⟩ => ⟨h1, by
   simp only [altOf, encs, enc, resVal, RepV] at h2
   exact h2.1⟩))
  (fun k w' h1 h2 hu => Fn.mono (call_pure (sp_right_ok 200) rfl (p := (((ws, ts, br_), ((fr : Int), ((k : Int), ()))), ())) (r := ((rightR ws ts br_ fr k, ()), ())) (by
    show ((right_S 200 (ws, ts, br_) fr k).bind fun r => some ((r, ()), ())) = _
    rw [right_v (by omega) hok ht h1 h2]; rfl) (hmem w' hu) ⟨_, _, rfl, hrd, _, _, rfl, ⟨rfl, (show inR .i64 (fr : Int) from inR_small (by omega))⟩, _, _, rfl, ⟨rfl, (show inR .i64 (k : Int) from inR_small (by omega))⟩, rfl⟩) (fun v w2 ⟨h1, g', h2⟩ => ⟨h1, by
   simp only [altOf, encs, enc, resVal, RepV] at h2
   exact h2⟩))
  (by omega) hJ (fun r => hxJ _) (fun m r w1 hm hj hu => hy ((m : Int), ()) (r.map fun (j : Nat) => ((j : Int), ())) w1 [.int .i64 (m : Int)] hj hu ⟨_, _, rfl, ⟨rfl, inR_small (by have := mem_toL.1 hm; omega)⟩, rfl⟩)
 exact hfn
end Go.Proofs.YtfamlpbdhhikdaaGreat

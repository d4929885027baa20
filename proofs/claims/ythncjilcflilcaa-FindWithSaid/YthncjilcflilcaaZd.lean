/-
  Parts of a proof, put together: SvP, InB, F1, TG, Fm1, Fm2, FIt, FKa.
  Conditions: none.
-/
import Derived.Test.YthncjilcflilcaaChecked
import Derived.Test.YthncjilcflilcaaZa
import Derived.Test.YthncjilcflilcaaZc
namespace Go.Proofs.Ythncjilcflilcaa
set_option linter.all false
open Go
theorem mixed : Try.prog.follows .mixedOrders = true := by kernel_rfl
theorem bind_congr_ {α Y : Type} (o : Option α) (f g : α → Option Y) (h : ∀ e, f e = g e) : o.bind f = o.bind g := by rw [funext h]
theorem SpecOK.none {P : Program} {s : Spec} (h : ∀ (Z : Type) (p : s.ins.den) (κ : altD s.outs → Option Z), s.run p κ = Option.none) (hc : ∀ args w, (callFunc s.f args).run P w = .ok (.enter s.f args) w) : SpecOK P s :=
  ⟨fun Z p κ => by rw [h, h]; rfl, hc, fun p r hr => by rw [h] at hr; cases hr⟩
end Go.Proofs.Ythncjilcflilcaa

namespace Go.Proofs.Ythncjilcflilcaa
set_option linter.all false
open Go

/-- Numbers within their kind, lists no longer than may be. -/
def Ty.inB : (t : Ty) → t.den → Prop
  | .int k, n => inR k n
  | .bool, _ => True
  | .pair a b, x => a.inB x.1 ∧ b.inB x.2
  | .sl a, l => l.length ≤ 9223372036854775807 ∧ ∀ x ∈ (l : List a.den), a.inB x
  | .ptr a, x => a.inB x
theorem Ty.inB_of {M : Nat → Option Obj} : ∀ (t : Ty) (x : t.den) (vs : List Value), RepC M t x vs → t.inB x
  | .int k, n, vs, h => h.2
  | .bool, _, _, _ => trivial
  | .pair a b, x, vs, h => by
    obtain ⟨v1, v2, _, h1, h2⟩ := h
    exact ⟨Ty.inB_of a _ _ h1, Ty.inB_of b _ _ h2⟩
  | .sl a, l, vs, h => by
    obtain ⟨v, _, h1, ad, cap, _, _, h2⟩ := h
    refine ⟨h1, fun x hx => ?_⟩
    rcases h2 with rfl | ⟨b, o, us, ty, _, _, h3⟩
    · cases hx
    · obtain ⟨i, hi⟩ := List.getElem?_of_mem hx
      obtain ⟨us, _, h4⟩ := h3 i x hi
      exact Ty.inB_of a _ _ h4
  | .ptr a, x, vs, h => by
    obtain ⟨b, o, ws, ty, us, _, _, _, h4⟩ := h
    exact Ty.inB_of a _ _ h4
theorem Ty.inB_i64 {n : Int} (h : (Ty.int .i64).inB n) : -9223372036854775808 ≤ n ∧ n ≤ 9223372036854775807 := by
  have h1 : IntKind.i64.min = -9223372036854775808 := by decide
  have h2 : IntKind.i64.max = 9223372036854775807 := by decide
  unfold Ty.inB inR at h
  rw [h1, h2] at h
  exact h
end Go.Proofs.Ythncjilcflilcaa

namespace Go.Proofs.Ythncjilcflilcaa
set_option linter.all false
open Go
abbrev Li := List Int
abbrev Ll := List (List Int)
abbrev shI : Sh := .i .i64
abbrev shL : Sh := .sl (.int .i64)
abbrev shQ : Sh := .sl (.sl (.int .i64))
abbrev shD : Sh := .fz [.sl (.int .i64), .i .i64, .sl (.sl (.int .i64)), .sl (.sl (.int .i64)), .sl (.int .i64), .arr (.int .i64) 36, .arr (.int .i64) 36]
abbrev shG : Sh := .agg [.sl (.int .i64), .i .i64, .sl (.sl (.int .i64)), .sl (.sl (.int .i64)), .sl (.int .i64)]

/-- A desk at work. -/
abbrev Dk := Li × Int × Ll × Ll × Li × Li × Li × Unit
def in__S (N : Nat) (n : Int) (lo : Int) (hi : Int) : Option Bool :=
  br (decide (lo ≤ n))
    (some (decide (n ≤ hi)))
    (some false)
noncomputable def in__sp (N : Nat) : List Spec := []
theorem in__all (N : Nat) : AllP (SpecOK Try.prog) (in__sp N) := trivial
noncomputable def in__c : Code := (Try.f84.body).getD .skip
noncomputable abbrev in__B : Body := { c := in__c, n := 15, res := [.tmp 6], outs := [⟨[.b], []⟩], m0 := 0 }
abbrev in__rt : altD in__B.outs → Option Bool := fun r => some r.1.1
abbrev in__st : Sta := ⟨[0, 1, 2], ⟨[shI, shI, shI], []⟩⟩
theorem in__eq (N : Nat) (n : Int) (lo : Int) (hi : Int) : ev (Z := Bool) Try.prog (in__sp N) in__B [] [] (some in__rt) 400 false [.c [0], .c [1]] (stL in__st ((n, lo, hi, ()), ())) (stH in__st ((n, lo, hi, ()), ())) = in__S N n lo hi := by kernel_rfl
noncomputable def sp_in_ (N : Nat) : Spec := { f := 84, ins := ⟨[shI, shI, shI], []⟩, outs := [⟨[.b], []⟩], run := fun p k => (in__S N p.1.1 p.1.2.1 p.1.2.2.1).bind fun r => k ((r, ()), ()) }
theorem sp_in__ok (N : Nat) : SpecOK Try.prog (sp_in_ N) := fn_sound (B := in__B) (loops := []) (leaves := []) (fun p => in__S N p.1.1 p.1.2.1 p.1.2.2.1) (fun r => ((r, ()), ())) in__rt (fun _ _ _ => rfl) (fun r z h => by cases h; rfl) Try.func84 (by kernel_rfl) (by kernel_rfl) (by kernel_rfl) rfl rfl (by kernel_rfl) (fun args w => Sem.pv_run _ _ _ (by kernel_rfl) w) (in__all N) mixed trivial (fun z E Xc hE hX hret => trivial) (fun p => in__eq N p.1.1 p.1.2.1 p.1.2.2.1)

def sum_l1 (N : Nat) : Nat → Int → Li → Int → Int → Option Int
  | 0, _, _, _, _ => none
  | n_ + 1, n, u, u2, u3 =>
    br (decide (u3 < u2))
      (idx u u3 fun x_1 =>
      chk (n + x_1) <|
      chk (u3 + 1) <|
      sum_l1 N n_ (n + x_1) u u2 (u3 + 1))
      (some (n))
def sum_S (N : Nat) (l : Li) : Option Int :=
  (sum_l1 N N 0 l (l.length : Int) 0).bind fun n_2 =>
  some n_2
noncomputable def sum_sp (N : Nat) : List Spec := []
theorem sum_all (N : Nat) : AllP (SpecOK Try.prog) (sum_sp N) := trivial
noncomputable def sum_c : Code := (Try.f96.body).getD .skip
noncomputable abbrev sum_B : Body := { c := sum_c, n := 17, res := [.tmp 2], outs := [⟨[shI], []⟩], m0 := 0 }
abbrev sum_rt : altD sum_B.outs → Option Int := fun r => some r.1.1
abbrev sum_l1_at : List PI := [.c [1, 1, 0, 1, 0, 0, 0], .c [1, 1, 0, 1, 0, 0, 1], .l [1, 1, 0, 1, 0, 0], .b 0, .c [1, 1, 1]]
abbrev sum_l1_st : Sta := ⟨[3, 6, 7, 8], ⟨[shI, shL, shI, shI], []⟩⟩
abbrev sum_l1_h (rec : Int → Li → Int → Int → Option Int) : Leaf Int := ⟨sum_l1_at, sum_l1_st, fun p => rec p.1.1 p.1.2.1 p.1.2.2.1 p.1.2.2.2.1⟩
abbrev sum_l1_e0 : Leaf Int := ⟨[.c [1, 1, 1, 0], .c [1, 1, 1, 1]], ⟨[3], ⟨[shI], []⟩⟩, fun p => some (p.1.1)⟩
noncomputable def sum_l1_L (N : Nat) : LoopS := { at_ := sum_l1_at, sta := sum_l1_st, exits := [([.c [1, 1, 1, 0], .c [1, 1, 1, 1]], ⟨[3], ⟨[shI], []⟩⟩)], run := fun p k => (sum_l1 N N p.1.1 p.1.2.1 p.1.2.2.1 p.1.2.2.2.1).bind fun e => k (.inl ((e, ()), ())) }
theorem sum_l1_eq (N n_ : Nat) (n : Int) (u : Li) (u2 : Int) (u3 : Int) : ev (Z := Int) Try.prog (sum_sp N) sum_B [] [sum_l1_h (sum_l1 N n_), sum_l1_e0] none 400 true sum_l1_at (stL sum_l1_st ((n, u, u2, u3, ()), ())) (stH sum_l1_st ((n, u, u2, u3, ()), ())) = sum_l1 N (n_ + 1) n u u2 u3 := by kernel_rfl
theorem sum_l1_ok (N : Nat) {top : Bool} : LoopOK Try.prog sum_B.c sum_B.n sum_B.m0 top (sum_l1_L N) := loop_of_ev (Z := Int) (N := N) (fun m p => sum_l1 N m p.1.1 p.1.2.1 p.1.2.2.1 p.1.2.2.2.1) (fun e => .inl ((e, ()), ())) (fun _ _ _ => rfl) (fun _ => rfl) (fun m z E Xc hE hX hrec hx => leaf_of_ev (B := sum_B) (loops := []) (leaves := [sum_l1_h (sum_l1 N m), sum_l1_e0]) (sum_all N) mixed trivial hE hX ⟨hrec, (fun p hp => by obtain rfl := Option.some.inj hp; exact hx), trivial⟩ RetOK.no (fun p => sum_l1_eq N m p.1.1 p.1.2.1 p.1.2.2.1 p.1.2.2.2.1))
abbrev sum_st : Sta := ⟨[0], ⟨[shL], []⟩⟩
theorem sum_eq (N : Nat) (l : Li) : ev (Z := Int) Try.prog (sum_sp N) sum_B [sum_l1_L N] [] (some sum_rt) 400 false [.c [0], .c [1]] (stL sum_st ((l, ()), ())) (stH sum_st ((l, ()), ())) = sum_S N l := by kernel_rfl
noncomputable def sp_sum (N : Nat) : Spec := { f := 96, ins := ⟨[shL], []⟩, outs := [⟨[shI], []⟩], run := fun p k => (sum_S N p.1.1).bind fun r => k ((r, ()), ()) }
theorem sp_sum_ok (N : Nat) : SpecOK Try.prog (sp_sum N) := fn_sound (B := sum_B) (loops := [sum_l1_L N]) (leaves := []) (fun p => sum_S N p.1.1) (fun r => ((r, ()), ())) sum_rt (fun _ _ _ => rfl) (fun r z h => by cases h; rfl) Try.func96 (by kernel_rfl) (by kernel_rfl) (by kernel_rfl) rfl rfl (by kernel_rfl) (fun args w => Sem.pv_run _ _ _ (by kernel_rfl) w) (sum_all N) mixed ⟨sum_l1_ok N, trivial⟩ (fun z E Xc hE hX hret => trivial) (fun p => sum_eq N p.1.1)

def check1_S (N : Nat) (l : Li) (u : (Li × (Int × (Ll × (Ll × Li))))) : Option Bool :=
  some (decide ((l.length : Int) = (u.1.length : Int)))
noncomputable def check1_sp (N : Nat) : List Spec := []
theorem check1_all (N : Nat) : AllP (SpecOK Try.prog) (check1_sp N) := trivial
noncomputable def check1_c : Code := (Try.f102.body).getD .skip
noncomputable abbrev check1_B : Body := { c := check1_c, n := 10, res := [.tmp 3], outs := [⟨[.b], []⟩], m0 := 0 }
abbrev check1_rt : altD check1_B.outs → Option Bool := fun r => some r.1.1
abbrev check1_st : Sta := ⟨[0, 1], ⟨[shL, .fe (.pair (.sl (.int .i64)) (.pair (.int .i64) (.pair (.sl (.sl (.int .i64))) (.pair (.sl (.sl (.int .i64))) (.sl (.int .i64))))))], []⟩⟩
theorem check1_eq (N : Nat) (l : Li) (u : (Li × (Int × (Ll × (Ll × Li))))) : ev (Z := Bool) Try.prog (check1_sp N) check1_B [] [] (some check1_rt) 400 false [.c [0], .c [1]] (stL check1_st ((l, u, ()), ())) (stH check1_st ((l, u, ()), ())) = check1_S N l u := by kernel_rfl
noncomputable def sp_check1 (N : Nat) : Spec := { f := 102, ins := ⟨[shL, .fe (.pair (.sl (.int .i64)) (.pair (.int .i64) (.pair (.sl (.sl (.int .i64))) (.pair (.sl (.sl (.int .i64))) (.sl (.int .i64))))))], []⟩, outs := [⟨[.b], []⟩], run := fun p k => (check1_S N p.1.1 p.1.2.1).bind fun r => k ((r, ()), ()) }
theorem sp_check1_ok (N : Nat) : SpecOK Try.prog (sp_check1 N) := fn_sound (B := check1_B) (loops := []) (leaves := []) (fun p => check1_S N p.1.1 p.1.2.1) (fun r => ((r, ()), ())) check1_rt (fun _ _ _ => rfl) (fun r z h => by cases h; rfl) Try.func102 (by kernel_rfl) (by kernel_rfl) (by kernel_rfl) rfl rfl (by kernel_rfl) (fun args w => Sem.pv_run _ _ _ (by kernel_rfl) w) (check1_all N) mixed trivial (fun z E Xc hE hX hret => trivial) (fun p => check1_eq N p.1.1 p.1.2.1)

def check21_S (N : Nat) (n : Int) : Option Bool :=
  (in__S N n (-1) 5).bind fun x_1 =>
  some x_1
noncomputable def check21_sp (N : Nat) : List Spec := [sp_in_ N]
theorem check21_all (N : Nat) : AllP (SpecOK Try.prog) (check21_sp N) := ⟨sp_in__ok N, trivial⟩
noncomputable def check21_c : Code := (Try.f104.body).getD .skip
noncomputable abbrev check21_B : Body := { c := check21_c, n := 5, res := [.tmp 2], outs := [⟨[.b], []⟩], m0 := 0 }
abbrev check21_rt : altD check21_B.outs → Option Bool := fun r => some r.1.1
abbrev check21_st : Sta := ⟨[0], ⟨[shI], []⟩⟩
theorem check21_eq (N : Nat) (n : Int) : ev (Z := Bool) Try.prog (check21_sp N) check21_B [] [] (some check21_rt) 400 false [.c [0], .c [1]] (stL check21_st ((n, ()), ())) (stH check21_st ((n, ()), ())) = check21_S N n := by kernel_rfl
noncomputable def sp_check21 (N : Nat) : Spec := { f := 104, ins := ⟨[shI], []⟩, outs := [⟨[.b], []⟩], run := fun p k => (check21_S N p.1.1).bind fun r => k ((r, ()), ()) }
theorem sp_check21_ok (N : Nat) : SpecOK Try.prog (sp_check21 N) := fn_sound (B := check21_B) (loops := []) (leaves := []) (fun p => check21_S N p.1.1) (fun r => ((r, ()), ())) check21_rt (fun _ _ _ => rfl) (fun r z h => by cases h; rfl) Try.func104 (by kernel_rfl) (by kernel_rfl) (by kernel_rfl) rfl rfl (by kernel_rfl) (fun args w => Sem.pv_run _ _ _ (by kernel_rfl) w) (check21_all N) mixed trivial (fun z E Xc hE hX hret => trivial) (fun p => check21_eq N p.1.1)

def every1v_S (N : Nat) (x : Int) : Option Bool :=
  (check21_S N x).bind fun x_1 =>
  some (!x_1)
noncomputable def every1v_sp (N : Nat) : List Spec := [sp_check21 N]
theorem every1v_all (N : Nat) : AllP (SpecOK Try.prog) (every1v_sp N) := ⟨sp_check21_ok N, trivial⟩
noncomputable def every1v_c : Code := (Try.f122.body).getD .skip
noncomputable abbrev every1v_B : Body := { c := every1v_c, n := 8, res := [.tmp 3], outs := [⟨[.b], [.segs [.fn 104 [] []]]⟩], m0 := 1 }
abbrev every1v_rt : altD every1v_B.outs → Option Bool := fun r => some r.1.1
abbrev every1v_st : Sta := ⟨[0, 1], ⟨[shI, .own 0 0], [.segs [.fn 104 [] []]]⟩⟩
theorem every1v_eq (N : Nat) (x : Int) : ev (Z := Bool) Try.prog (every1v_sp N) every1v_B [] [] (some every1v_rt) 400 false [.c [0], .c [1]] (stL every1v_st ((x, (), ()), ((((), ()), ()), ()))) (stH every1v_st ((x, (), ()), ((((), ()), ()), ()))) = every1v_S N x := by kernel_rfl
noncomputable def sp_every1v (N : Nat) : Spec := { f := 122, ins := ⟨[shI, .own 0 0], [.segs [.fn 104 [] []]]⟩, outs := [⟨[.b], [.segs [.fn 104 [] []]]⟩], run := fun p k => (every1v_S N p.1.1).bind fun r => k ((r, ()), ((((), ()), ()), ())) }
theorem sp_every1v_ok (N : Nat) : SpecOK Try.prog (sp_every1v N) := fn_sound (B := every1v_B) (loops := []) (leaves := []) (fun p => every1v_S N p.1.1) (fun r => ((r, ()), ((((), ()), ()), ()))) every1v_rt (fun _ _ _ => rfl) (fun r z h => by cases h; rfl) Try.func122 (by kernel_rfl) (by kernel_rfl) (by kernel_rfl) rfl rfl (by kernel_rfl) (fun args w => Sem.pv_run _ _ _ (by kernel_rfl) w) (every1v_all N) mixed trivial (fun z E Xc hE hX hret => trivial) (fun p => every1v_eq N p.1.1)

def ixfv_l1 (N : Nat) : Nat → Li → Int → Int → Option ((Int) ⊕ (Unit))
  | 0, _, _, _ => none
  | n_ + 1, s, u, u2 =>
    br (decide (u2 < u))
      (idx s u2 fun x_1 =>
      (every1v_S N x_1).bind fun x_2 =>
      br x_2
        (some (.inl u2))
        (chk (u2 + 1) <|
        ixfv_l1 N n_ s u (u2 + 1)))
      (some (.inr ()))
def ixfv_S (N : Nat) (s : Li) : Option Int :=
  (ixfv_l1 N N s (s.length : Int) 0).bind fun e => match e with
  | .inl i_3 =>
    some i_3
  | .inr _ =>
    some (-1)
noncomputable def ixfv_sp (N : Nat) : List Spec := [sp_every1v N]
theorem ixfv_all (N : Nat) : AllP (SpecOK Try.prog) (ixfv_sp N) := ⟨sp_every1v_ok N, trivial⟩
noncomputable def ixfv_c : Code := (Try.f130.body).getD .skip
noncomputable abbrev ixfv_B : Body := { c := ixfv_c, n := 19, res := [.tmp 4], outs := [⟨[shI], [.segs [.fn 104 [] []]]⟩], m0 := 1 }
abbrev ixfv_rt : altD ixfv_B.outs → Option Int := fun r => some r.1.1
abbrev ixfv_l1_at : List PI := [.c [1, 0, 1, 0, 0, 0], .c [1, 0, 1, 0, 0, 1], .l [1, 0, 1, 0, 0], .b 0, .c [1, 1]]
abbrev ixfv_l1_st : Sta := ⟨[0, 1, 7, 8], ⟨[shL, .fn 122 [] [.own 0 0], shI, shI], [.segs [.fn 104 [] []]]⟩⟩
abbrev ixfv_l1_h (rec : Li → Int → Int → Option ((Int) ⊕ (Unit))) : Leaf ((Int) ⊕ (Unit)) := ⟨ixfv_l1_at, ixfv_l1_st, fun p => rec p.1.1 p.1.2.2.1 p.1.2.2.2.1⟩
abbrev ixfv_l1_e0 : Leaf ((Int) ⊕ (Unit)) := ⟨[.c [1, 0, 1, 0, 0, 1, 1, 0, 0, 1, 1, 0, 0], .c [1, 0, 1, 0, 0, 1, 1, 0, 0, 1, 1, 0, 1], .b 1, .c [1, 0, 1, 0, 0, 1, 1, 1], .l [1, 0, 1, 0, 0], .b 0, .c [1, 1]], ⟨[5], ⟨[shI], [.segs [.fn 104 [] []]]⟩⟩, fun p => some (.inl p.1.1)⟩
abbrev ixfv_l1_e1 : Leaf ((Int) ⊕ (Unit)) := ⟨[.c [1, 1, 0], .c [1, 1, 1]], ⟨[], ⟨[], [.segs [.fn 104 [] []]]⟩⟩, fun p => some (.inr ())⟩
noncomputable def ixfv_l1_L (N : Nat) : LoopS := { at_ := ixfv_l1_at, sta := ixfv_l1_st, exits := [([.c [1, 0, 1, 0, 0, 1, 1, 0, 0, 1, 1, 0, 0], .c [1, 0, 1, 0, 0, 1, 1, 0, 0, 1, 1, 0, 1], .b 1, .c [1, 0, 1, 0, 0, 1, 1, 1], .l [1, 0, 1, 0, 0], .b 0, .c [1, 1]], ⟨[5], ⟨[shI], [.segs [.fn 104 [] []]]⟩⟩), ([.c [1, 1, 0], .c [1, 1, 1]], ⟨[], ⟨[], [.segs [.fn 104 [] []]]⟩⟩)], run := fun p k => (ixfv_l1 N N p.1.1 p.1.2.2.1 p.1.2.2.2.1).bind fun e => match e with | .inl x => k (.inl ((x, ()), ((((), ()), ()), ()))) | .inr x => k (.inr (.inl ((), ((((), ()), ()), ())))) }
theorem ixfv_l1_eq (N n_ : Nat) (s : Li) (u : Int) (u2 : Int) : ev (Z := (Int) ⊕ (Unit)) Try.prog (ixfv_sp N) ixfv_B [] [ixfv_l1_h (ixfv_l1 N n_), ixfv_l1_e0, ixfv_l1_e1] none 400 true ixfv_l1_at (stL ixfv_l1_st ((s, ((), ((), ())), u, u2, ()), ((((), ()), ()), ()))) (stH ixfv_l1_st ((s, ((), ((), ())), u, u2, ()), ((((), ()), ()), ()))) = ixfv_l1 N (n_ + 1) s u u2 := by kernel_rfl
theorem ixfv_l1_ok (N : Nat) {top : Bool} : LoopOK Try.prog ixfv_B.c ixfv_B.n ixfv_B.m0 top (ixfv_l1_L N) := loop_of_ev (Z := (Int) ⊕ (Unit)) (N := N) (fun m p => ixfv_l1 N m p.1.1 p.1.2.2.1 p.1.2.2.2.1) (fun e => match e with | .inl x => .inl ((x, ()), ((((), ()), ()), ())) | .inr x => .inr (.inl ((), ((((), ()), ()), ())))) (fun _ p k => bind_congr_ (ixfv_l1 N N p.1.1 p.1.2.2.1 p.1.2.2.2.1) _ _ (fun e => by rcases e with x | x <;> rfl)) (fun _ => rfl) (fun m z E Xc hE hX hrec hx => leaf_of_ev (B := ixfv_B) (loops := []) (leaves := [ixfv_l1_h (ixfv_l1 N m), ixfv_l1_e0, ixfv_l1_e1]) (ixfv_all N) mixed trivial hE hX ⟨hrec, (fun p hp => by obtain rfl := Option.some.inj hp; exact hx), (fun p hp => by obtain rfl := Option.some.inj hp; exact hx), trivial⟩ RetOK.no (fun p => ixfv_l1_eq N m p.1.1 p.1.2.2.1 p.1.2.2.2.1))
abbrev ixfv_st : Sta := ⟨[0, 1], ⟨[shL, .fn 122 [] [.own 0 0]], [.segs [.fn 104 [] []]]⟩⟩
theorem ixfv_eq (N : Nat) (s : Li) : ev (Z := Int) Try.prog (ixfv_sp N) ixfv_B [ixfv_l1_L N] [] (some ixfv_rt) 400 false [.c [0], .c [1]] (stL ixfv_st ((s, ((), ((), ())), ()), ((((), ()), ()), ()))) (stH ixfv_st ((s, ((), ((), ())), ()), ((((), ()), ()), ()))) = ixfv_S N s := by kernel_rfl
noncomputable def sp_ixfv (N : Nat) : Spec := { f := 130, ins := ⟨[shL, .fn 122 [] [.own 0 0]], [.segs [.fn 104 [] []]]⟩, outs := [⟨[shI], [.segs [.fn 104 [] []]]⟩], run := fun p k => (ixfv_S N p.1.1).bind fun r => k ((r, ()), ((((), ()), ()), ())) }
theorem sp_ixfv_ok (N : Nat) : SpecOK Try.prog (sp_ixfv N) := fn_sound (B := ixfv_B) (loops := [ixfv_l1_L N]) (leaves := []) (fun p => ixfv_S N p.1.1) (fun r => ((r, ()), ((((), ()), ()), ()))) ixfv_rt (fun _ _ _ => rfl) (fun r z h => by cases h; rfl) Try.func130 (by kernel_rfl) (by kernel_rfl) (by kernel_rfl) rfl rfl (by kernel_rfl) (fun args w => Sem.pv_run _ _ _ (by kernel_rfl) w) (ixfv_all N) mixed ⟨ixfv_l1_ok N, trivial⟩ (fun z E Xc hE hX hret => trivial) (fun p => ixfv_eq N p.1.1)

def cofv_S (N : Nat) (s : Li) : Option Bool :=
  (ixfv_S N s).bind fun x_1 =>
  some (decide (0 ≤ x_1))
noncomputable def cofv_sp (N : Nat) : List Spec := [sp_ixfv N]
theorem cofv_all (N : Nat) : AllP (SpecOK Try.prog) (cofv_sp N) := ⟨sp_ixfv_ok N, trivial⟩
noncomputable def cofv_c : Code := (Try.f121.body).getD .skip
noncomputable abbrev cofv_B : Body := { c := cofv_c, n := 9, res := [.tmp 4], outs := [⟨[.b], [.segs [.fn 104 [] []]]⟩], m0 := 1 }
abbrev cofv_rt : altD cofv_B.outs → Option Bool := fun r => some r.1.1
abbrev cofv_st : Sta := ⟨[0, 1], ⟨[shL, .fn 122 [] [.own 0 0]], [.segs [.fn 104 [] []]]⟩⟩
theorem cofv_eq (N : Nat) (s : Li) : ev (Z := Bool) Try.prog (cofv_sp N) cofv_B [] [] (some cofv_rt) 400 false [.c [0], .c [1]] (stL cofv_st ((s, ((), ((), ())), ()), ((((), ()), ()), ()))) (stH cofv_st ((s, ((), ((), ())), ()), ((((), ()), ()), ()))) = cofv_S N s := by kernel_rfl
noncomputable def sp_cofv (N : Nat) : Spec := { f := 121, ins := ⟨[shL, .fn 122 [] [.own 0 0]], [.segs [.fn 104 [] []]]⟩, outs := [⟨[.b], [.segs [.fn 104 [] []]]⟩], run := fun p k => (cofv_S N p.1.1).bind fun r => k ((r, ()), ((((), ()), ()), ())) }
theorem sp_cofv_ok (N : Nat) : SpecOK Try.prog (sp_cofv N) := fn_sound (B := cofv_B) (loops := []) (leaves := []) (fun p => cofv_S N p.1.1) (fun r => ((r, ()), ((((), ()), ()), ()))) cofv_rt (fun _ _ _ => rfl) (fun r z h => by cases h; rfl) Try.func121 (by kernel_rfl) (by kernel_rfl) (by kernel_rfl) rfl rfl (by kernel_rfl) (fun args w => Sem.pv_run _ _ _ (by kernel_rfl) w) (cofv_all N) mixed trivial (fun z E Xc hE hX hret => trivial) (fun p => cofv_eq N p.1.1)

def everyv_S (N : Nat) (l : Li) : Option Bool :=
  (cofv_S N l).bind fun x_1 =>
  some (!x_1)
noncomputable def everyv_sp (N : Nat) : List Spec := [sp_cofv N]
theorem everyv_all (N : Nat) : AllP (SpecOK Try.prog) (everyv_sp N) := ⟨sp_cofv_ok N, trivial⟩
noncomputable def everyv_c : Code := (Try.f94.body).getD .skip
noncomputable abbrev everyv_B : Body := { c := everyv_c, n := 9, res := [.tmp 4], outs := [⟨[.b], []⟩], m0 := 0 }
abbrev everyv_rt : altD everyv_B.outs → Option Bool := fun r => some r.1.1
abbrev everyv_st : Sta := ⟨[0, 1], ⟨[shL, .fn 104 [] []], []⟩⟩
theorem everyv_eq (N : Nat) (l : Li) : ev (Z := Bool) Try.prog (everyv_sp N) everyv_B [] [] (some everyv_rt) 400 false [.c [0], .c [1]] (stL everyv_st ((l, ((), ()), ()), ())) (stH everyv_st ((l, ((), ()), ()), ())) = everyv_S N l := by kernel_rfl
noncomputable def sp_everyv (N : Nat) : Spec := { f := 94, ins := ⟨[shL, .fn 104 [] []], []⟩, outs := [⟨[.b], []⟩], run := fun p k => (everyv_S N p.1.1).bind fun r => k ((r, ()), ()) }
theorem sp_everyv_ok (N : Nat) : SpecOK Try.prog (sp_everyv N) := fn_sound (B := everyv_B) (loops := []) (leaves := []) (fun p => everyv_S N p.1.1) (fun r => ((r, ()), ())) everyv_rt (fun _ _ _ => rfl) (fun r z h => by cases h; rfl) Try.func94 (by kernel_rfl) (by kernel_rfl) (by kernel_rfl) rfl rfl (by kernel_rfl) (fun args w => Sem.pv_run _ _ _ (by kernel_rfl) w) (everyv_all N) mixed trivial (fun z E Xc hE hX hret => trivial) (fun p => everyv_eq N p.1.1)

def check2_S (N : Nat) (l : Li) : Option Bool :=
  (everyv_S N l).bind fun x_1 =>
  some x_1
noncomputable def check2_sp (N : Nat) : List Spec := [sp_everyv N]
theorem check2_all (N : Nat) : AllP (SpecOK Try.prog) (check2_sp N) := ⟨sp_everyv_ok N, trivial⟩
noncomputable def check2_c : Code := (Try.f103.body).getD .skip
noncomputable abbrev check2_B : Body := { c := check2_c, n := 5, res := [.tmp 2], outs := [⟨[.b], []⟩], m0 := 0 }
abbrev check2_rt : altD check2_B.outs → Option Bool := fun r => some r.1.1
abbrev check2_st : Sta := ⟨[0], ⟨[shL], []⟩⟩
theorem check2_eq (N : Nat) (l : Li) : ev (Z := Bool) Try.prog (check2_sp N) check2_B [] [] (some check2_rt) 400 false [.c [0], .c [1]] (stL check2_st ((l, ()), ())) (stH check2_st ((l, ()), ())) = check2_S N l := by kernel_rfl
noncomputable def sp_check2 (N : Nat) : Spec := { f := 103, ins := ⟨[shL], []⟩, outs := [⟨[.b], []⟩], run := fun p k => (check2_S N p.1.1).bind fun r => k ((r, ()), ()) }
theorem sp_check2_ok (N : Nat) : SpecOK Try.prog (sp_check2 N) := fn_sound (B := check2_B) (loops := []) (leaves := []) (fun p => check2_S N p.1.1) (fun r => ((r, ()), ())) check2_rt (fun _ _ _ => rfl) (fun r z h => by cases h; rfl) Try.func103 (by kernel_rfl) (by kernel_rfl) (by kernel_rfl) rfl rfl (by kernel_rfl) (fun args w => Sem.pv_run _ _ _ (by kernel_rfl) w) (check2_all N) mixed trivial (fun z E Xc hE hX hret => trivial) (fun p => check2_eq N p.1.1)

def every1lo_S (N : Nat) (x : Li) (g : (Li × (Int × (Ll × (Ll × Li))))) : Option (Bool × (Li × (Int × (Ll × (Ll × Li))))) :=
  (check1_S N x g).bind fun x_1 =>
  some ((!x_1), g)
noncomputable def every1lo_sp (N : Nat) : List Spec := [sp_check1 N]
theorem every1lo_all (N : Nat) : AllP (SpecOK Try.prog) (every1lo_sp N) := ⟨sp_check1_ok N, trivial⟩
noncomputable def every1lo_c : Code := (Try.f127.body).getD .skip
noncomputable abbrev every1lo_B : Body := { c := every1lo_c, n := 8, res := [.tmp 3], outs := [⟨[.b], [.segs [.fn 102 [] [.fe (.pair (.sl (.int .i64)) (.pair (.int .i64) (.pair (.sl (.sl (.int .i64))) (.pair (.sl (.sl (.int .i64))) (.sl (.int .i64))))))]]]⟩], m0 := 1 }
abbrev every1lo_rt : altD every1lo_B.outs → Option (Bool × (Li × (Int × (Ll × (Ll × Li))))) := fun r => some (r.1.1, r.2.1.1.2.1)
abbrev every1lo_st : Sta := ⟨[0, 1], ⟨[shL, .own 0 0], [.segs [.fn 102 [] [.fe (.pair (.sl (.int .i64)) (.pair (.int .i64) (.pair (.sl (.sl (.int .i64))) (.pair (.sl (.sl (.int .i64))) (.sl (.int .i64))))))]]]⟩⟩
theorem every1lo_eq (N : Nat) (x : Li) (g : (Li × (Int × (Ll × (Ll × Li))))) : ev (Z := Bool × (Li × (Int × (Ll × (Ll × Li))))) Try.prog (every1lo_sp N) every1lo_B [] [] (some every1lo_rt) 400 false [.c [0], .c [1]] (stL every1lo_st ((x, (), ()), ((((), (g, ())), ()), ()))) (stH every1lo_st ((x, (), ()), ((((), (g, ())), ()), ()))) = every1lo_S N x g := by kernel_rfl
noncomputable def sp_every1lo (N : Nat) : Spec := { f := 127, ins := ⟨[shL, .own 0 0], [.segs [.fn 102 [] [.fe (.pair (.sl (.int .i64)) (.pair (.int .i64) (.pair (.sl (.sl (.int .i64))) (.pair (.sl (.sl (.int .i64))) (.sl (.int .i64))))))]]]⟩, outs := [⟨[.b], [.segs [.fn 102 [] [.fe (.pair (.sl (.int .i64)) (.pair (.int .i64) (.pair (.sl (.sl (.int .i64))) (.pair (.sl (.sl (.int .i64))) (.sl (.int .i64))))))]]]⟩], run := fun p k => (every1lo_S N p.1.1 p.2.1.1.2.1).bind fun r => k ((r.1, ()), ((((), (r.2, ())), ()), ())) }
theorem sp_every1lo_ok (N : Nat) : SpecOK Try.prog (sp_every1lo N) := fn_sound (B := every1lo_B) (loops := []) (leaves := []) (fun p => every1lo_S N p.1.1 p.2.1.1.2.1) (fun r => ((r.1, ()), ((((), (r.2, ())), ()), ()))) every1lo_rt (fun _ _ _ => rfl) (fun r z h => by cases h; rfl) Try.func127 (by kernel_rfl) (by kernel_rfl) (by kernel_rfl) rfl rfl (by kernel_rfl) (fun args w => Sem.pv_run _ _ _ (by kernel_rfl) w) (every1lo_all N) mixed trivial (fun z E Xc hE hX hret => trivial) (fun p => every1lo_eq N p.1.1 p.2.1.1.2.1)

def ixflo_l1 (N : Nat) : Nat → Ll → Int → Int → ((Li × (Int × (Ll × (Ll × Li))))) → Option ((Int × (Li × (Int × (Ll × (Ll × Li))))) ⊕ ((Li × (Int × (Ll × (Ll × Li))))))
  | 0, _, _, _, _ => none
  | n_ + 1, s, u, u2, f =>
    br (decide (u2 < u))
      (idx s u2 fun x_1 =>
      (every1lo_S N x_1 f).bind fun (x_2, y_3) =>
      br x_2
        (some (.inl (u2, y_3)))
        (chk (u2 + 1) <|
        ixflo_l1 N n_ s u (u2 + 1) y_3))
      (some (.inr f))
def ixflo_S (N : Nat) (s : Ll) (f : (Li × (Int × (Ll × (Ll × Li))))) : Option (Int × (Li × (Int × (Ll × (Ll × Li))))) :=
  (ixflo_l1 N N s (s.length : Int) 0 f).bind fun e => match e with
  | .inl (i_4, g_5) =>
    some (i_4, g_5)
  | .inr g_6 =>
    some (-1, g_6)
noncomputable def ixflo_sp (N : Nat) : List Spec := [sp_every1lo N]
theorem ixflo_all (N : Nat) : AllP (SpecOK Try.prog) (ixflo_sp N) := ⟨sp_every1lo_ok N, trivial⟩
noncomputable def ixflo_c : Code := (Try.f131.body).getD .skip
noncomputable abbrev ixflo_B : Body := { c := ixflo_c, n := 19, res := [.tmp 4], outs := [⟨[shI], [.segs [.fn 102 [] [.fe (.pair (.sl (.int .i64)) (.pair (.int .i64) (.pair (.sl (.sl (.int .i64))) (.pair (.sl (.sl (.int .i64))) (.sl (.int .i64))))))]]]⟩], m0 := 1 }
abbrev ixflo_rt : altD ixflo_B.outs → Option (Int × (Li × (Int × (Ll × (Ll × Li))))) := fun r => some (r.1.1, r.2.1.1.2.1)
abbrev ixflo_l1_at : List PI := [.c [1, 0, 1, 0, 0, 0], .c [1, 0, 1, 0, 0, 1], .l [1, 0, 1, 0, 0], .b 0, .c [1, 1]]
abbrev ixflo_l1_st : Sta := ⟨[0, 1, 7, 8], ⟨[shQ, .fn 127 [] [.own 0 0], shI, shI], [.segs [.fn 102 [] [.fe (.pair (.sl (.int .i64)) (.pair (.int .i64) (.pair (.sl (.sl (.int .i64))) (.pair (.sl (.sl (.int .i64))) (.sl (.int .i64))))))]]]⟩⟩
abbrev ixflo_l1_h (rec : Ll → Int → Int → ((Li × (Int × (Ll × (Ll × Li))))) → Option ((Int × (Li × (Int × (Ll × (Ll × Li))))) ⊕ ((Li × (Int × (Ll × (Ll × Li))))))) : Leaf ((Int × (Li × (Int × (Ll × (Ll × Li))))) ⊕ ((Li × (Int × (Ll × (Ll × Li)))))) := ⟨ixflo_l1_at, ixflo_l1_st, fun p => rec p.1.1 p.1.2.2.1 p.1.2.2.2.1 p.2.1.1.2.1⟩
abbrev ixflo_l1_e0 : Leaf ((Int × (Li × (Int × (Ll × (Ll × Li))))) ⊕ ((Li × (Int × (Ll × (Ll × Li)))))) := ⟨[.c [1, 0, 1, 0, 0, 1, 1, 0, 0, 1, 1, 0, 0], .c [1, 0, 1, 0, 0, 1, 1, 0, 0, 1, 1, 0, 1], .b 1, .c [1, 0, 1, 0, 0, 1, 1, 1], .l [1, 0, 1, 0, 0], .b 0, .c [1, 1]], ⟨[5], ⟨[shI], [.segs [.fn 102 [] [.fe (.pair (.sl (.int .i64)) (.pair (.int .i64) (.pair (.sl (.sl (.int .i64))) (.pair (.sl (.sl (.int .i64))) (.sl (.int .i64))))))]]]⟩⟩, fun p => some (.inl (p.1.1, p.2.1.1.2.1))⟩
abbrev ixflo_l1_e1 : Leaf ((Int × (Li × (Int × (Ll × (Ll × Li))))) ⊕ ((Li × (Int × (Ll × (Ll × Li)))))) := ⟨[.c [1, 1, 0], .c [1, 1, 1]], ⟨[], ⟨[], [.segs [.fn 102 [] [.fe (.pair (.sl (.int .i64)) (.pair (.int .i64) (.pair (.sl (.sl (.int .i64))) (.pair (.sl (.sl (.int .i64))) (.sl (.int .i64))))))]]]⟩⟩, fun p => some (.inr p.2.1.1.2.1)⟩
noncomputable def ixflo_l1_L (N : Nat) : LoopS := { at_ := ixflo_l1_at, sta := ixflo_l1_st, exits := [([.c [1, 0, 1, 0, 0, 1, 1, 0, 0, 1, 1, 0, 0], .c [1, 0, 1, 0, 0, 1, 1, 0, 0, 1, 1, 0, 1], .b 1, .c [1, 0, 1, 0, 0, 1, 1, 1], .l [1, 0, 1, 0, 0], .b 0, .c [1, 1]], ⟨[5], ⟨[shI], [.segs [.fn 102 [] [.fe (.pair (.sl (.int .i64)) (.pair (.int .i64) (.pair (.sl (.sl (.int .i64))) (.pair (.sl (.sl (.int .i64))) (.sl (.int .i64))))))]]]⟩⟩), ([.c [1, 1, 0], .c [1, 1, 1]], ⟨[], ⟨[], [.segs [.fn 102 [] [.fe (.pair (.sl (.int .i64)) (.pair (.int .i64) (.pair (.sl (.sl (.int .i64))) (.pair (.sl (.sl (.int .i64))) (.sl (.int .i64))))))]]]⟩⟩)], run := fun p k => (ixflo_l1 N N p.1.1 p.1.2.2.1 p.1.2.2.2.1 p.2.1.1.2.1).bind fun e => match e with | .inl x => k (.inl ((x.1, ()), ((((), (x.2, ())), ()), ()))) | .inr x => k (.inr (.inl ((), ((((), (x, ())), ()), ())))) }
theorem ixflo_l1_eq (N n_ : Nat) (s : Ll) (u : Int) (u2 : Int) (f : (Li × (Int × (Ll × (Ll × Li))))) : ev (Z := (Int × (Li × (Int × (Ll × (Ll × Li))))) ⊕ ((Li × (Int × (Ll × (Ll × Li)))))) Try.prog (ixflo_sp N) ixflo_B [] [ixflo_l1_h (ixflo_l1 N n_), ixflo_l1_e0, ixflo_l1_e1] none 400 true ixflo_l1_at (stL ixflo_l1_st ((s, ((), ((), ())), u, u2, ()), ((((), (f, ())), ()), ()))) (stH ixflo_l1_st ((s, ((), ((), ())), u, u2, ()), ((((), (f, ())), ()), ()))) = ixflo_l1 N (n_ + 1) s u u2 f := by kernel_rfl
theorem ixflo_l1_ok (N : Nat) {top : Bool} : LoopOK Try.prog ixflo_B.c ixflo_B.n ixflo_B.m0 top (ixflo_l1_L N) := loop_of_ev (Z := (Int × (Li × (Int × (Ll × (Ll × Li))))) ⊕ ((Li × (Int × (Ll × (Ll × Li)))))) (N := N) (fun m p => ixflo_l1 N m p.1.1 p.1.2.2.1 p.1.2.2.2.1 p.2.1.1.2.1) (fun e => match e with | .inl x => .inl ((x.1, ()), ((((), (x.2, ())), ()), ())) | .inr x => .inr (.inl ((), ((((), (x, ())), ()), ())))) (fun _ p k => bind_congr_ (ixflo_l1 N N p.1.1 p.1.2.2.1 p.1.2.2.2.1 p.2.1.1.2.1) _ _ (fun e => by rcases e with x | x <;> rfl)) (fun _ => rfl) (fun m z E Xc hE hX hrec hx => leaf_of_ev (B := ixflo_B) (loops := []) (leaves := [ixflo_l1_h (ixflo_l1 N m), ixflo_l1_e0, ixflo_l1_e1]) (ixflo_all N) mixed trivial hE hX ⟨hrec, (fun p hp => by obtain rfl := Option.some.inj hp; exact hx), (fun p hp => by obtain rfl := Option.some.inj hp; exact hx), trivial⟩ RetOK.no (fun p => ixflo_l1_eq N m p.1.1 p.1.2.2.1 p.1.2.2.2.1 p.2.1.1.2.1))
abbrev ixflo_st : Sta := ⟨[0, 1], ⟨[shQ, .fn 127 [] [.own 0 0]], [.segs [.fn 102 [] [.fe (.pair (.sl (.int .i64)) (.pair (.int .i64) (.pair (.sl (.sl (.int .i64))) (.pair (.sl (.sl (.int .i64))) (.sl (.int .i64))))))]]]⟩⟩
theorem ixflo_eq (N : Nat) (s : Ll) (f : (Li × (Int × (Ll × (Ll × Li))))) : ev (Z := Int × (Li × (Int × (Ll × (Ll × Li))))) Try.prog (ixflo_sp N) ixflo_B [ixflo_l1_L N] [] (some ixflo_rt) 400 false [.c [0], .c [1]] (stL ixflo_st ((s, ((), ((), ())), ()), ((((), (f, ())), ()), ()))) (stH ixflo_st ((s, ((), ((), ())), ()), ((((), (f, ())), ()), ()))) = ixflo_S N s f := by kernel_rfl
noncomputable def sp_ixflo (N : Nat) : Spec := { f := 131, ins := ⟨[shQ, .fn 127 [] [.own 0 0]], [.segs [.fn 102 [] [.fe (.pair (.sl (.int .i64)) (.pair (.int .i64) (.pair (.sl (.sl (.int .i64))) (.pair (.sl (.sl (.int .i64))) (.sl (.int .i64))))))]]]⟩, outs := [⟨[shI], [.segs [.fn 102 [] [.fe (.pair (.sl (.int .i64)) (.pair (.int .i64) (.pair (.sl (.sl (.int .i64))) (.pair (.sl (.sl (.int .i64))) (.sl (.int .i64))))))]]]⟩], run := fun p k => (ixflo_S N p.1.1 p.2.1.1.2.1).bind fun r => k ((r.1, ()), ((((), (r.2, ())), ()), ())) }
theorem sp_ixflo_ok (N : Nat) : SpecOK Try.prog (sp_ixflo N) := fn_sound (B := ixflo_B) (loops := [ixflo_l1_L N]) (leaves := []) (fun p => ixflo_S N p.1.1 p.2.1.1.2.1) (fun r => ((r.1, ()), ((((), (r.2, ())), ()), ()))) ixflo_rt (fun _ _ _ => rfl) (fun r z h => by cases h; rfl) Try.func131 (by kernel_rfl) (by kernel_rfl) (by kernel_rfl) rfl rfl (by kernel_rfl) (fun args w => Sem.pv_run _ _ _ (by kernel_rfl) w) (ixflo_all N) mixed ⟨ixflo_l1_ok N, trivial⟩ (fun z E Xc hE hX hret => trivial) (fun p => ixflo_eq N p.1.1 p.2.1.1.2.1)

def coflo_S (N : Nat) (s : Ll) (f : (Li × (Int × (Ll × (Ll × Li))))) : Option (Bool × (Li × (Int × (Ll × (Ll × Li))))) :=
  (ixflo_S N s f).bind fun (x_1, y_2) =>
  some ((decide (0 ≤ x_1)), y_2)
noncomputable def coflo_sp (N : Nat) : List Spec := [sp_ixflo N]
theorem coflo_all (N : Nat) : AllP (SpecOK Try.prog) (coflo_sp N) := ⟨sp_ixflo_ok N, trivial⟩
noncomputable def coflo_c : Code := (Try.f126.body).getD .skip
noncomputable abbrev coflo_B : Body := { c := coflo_c, n := 9, res := [.tmp 4], outs := [⟨[.b], [.segs [.fn 102 [] [.fe (.pair (.sl (.int .i64)) (.pair (.int .i64) (.pair (.sl (.sl (.int .i64))) (.pair (.sl (.sl (.int .i64))) (.sl (.int .i64))))))]]]⟩], m0 := 1 }
abbrev coflo_rt : altD coflo_B.outs → Option (Bool × (Li × (Int × (Ll × (Ll × Li))))) := fun r => some (r.1.1, r.2.1.1.2.1)
abbrev coflo_st : Sta := ⟨[0, 1], ⟨[shQ, .fn 127 [] [.own 0 0]], [.segs [.fn 102 [] [.fe (.pair (.sl (.int .i64)) (.pair (.int .i64) (.pair (.sl (.sl (.int .i64))) (.pair (.sl (.sl (.int .i64))) (.sl (.int .i64))))))]]]⟩⟩
theorem coflo_eq (N : Nat) (s : Ll) (f : (Li × (Int × (Ll × (Ll × Li))))) : ev (Z := Bool × (Li × (Int × (Ll × (Ll × Li))))) Try.prog (coflo_sp N) coflo_B [] [] (some coflo_rt) 400 false [.c [0], .c [1]] (stL coflo_st ((s, ((), ((), ())), ()), ((((), (f, ())), ()), ()))) (stH coflo_st ((s, ((), ((), ())), ()), ((((), (f, ())), ()), ()))) = coflo_S N s f := by kernel_rfl
noncomputable def sp_coflo (N : Nat) : Spec := { f := 126, ins := ⟨[shQ, .fn 127 [] [.own 0 0]], [.segs [.fn 102 [] [.fe (.pair (.sl (.int .i64)) (.pair (.int .i64) (.pair (.sl (.sl (.int .i64))) (.pair (.sl (.sl (.int .i64))) (.sl (.int .i64))))))]]]⟩, outs := [⟨[.b], [.segs [.fn 102 [] [.fe (.pair (.sl (.int .i64)) (.pair (.int .i64) (.pair (.sl (.sl (.int .i64))) (.pair (.sl (.sl (.int .i64))) (.sl (.int .i64))))))]]]⟩], run := fun p k => (coflo_S N p.1.1 p.2.1.1.2.1).bind fun r => k ((r.1, ()), ((((), (r.2, ())), ()), ())) }
theorem sp_coflo_ok (N : Nat) : SpecOK Try.prog (sp_coflo N) := fn_sound (B := coflo_B) (loops := []) (leaves := []) (fun p => coflo_S N p.1.1 p.2.1.1.2.1) (fun r => ((r.1, ()), ((((), (r.2, ())), ()), ()))) coflo_rt (fun _ _ _ => rfl) (fun r z h => by cases h; rfl) Try.func126 (by kernel_rfl) (by kernel_rfl) (by kernel_rfl) rfl rfl (by kernel_rfl) (fun args w => Sem.pv_run _ _ _ (by kernel_rfl) w) (coflo_all N) mixed trivial (fun z E Xc hE hX hret => trivial) (fun p => coflo_eq N p.1.1 p.2.1.1.2.1)

def everylo_S (N : Nat) (l : Ll) (holds : (Li × (Int × (Ll × (Ll × Li))))) : Option Bool :=
  (coflo_S N l holds).bind fun (x_1, y_2) =>
  some (!x_1)
noncomputable def everylo_sp (N : Nat) : List Spec := [sp_coflo N]
theorem everylo_all (N : Nat) : AllP (SpecOK Try.prog) (everylo_sp N) := ⟨sp_coflo_ok N, trivial⟩
noncomputable def everylo_c : Code := (Try.f105.body).getD .skip
noncomputable abbrev everylo_B : Body := { c := everylo_c, n := 9, res := [.tmp 4], outs := [⟨[.b], []⟩], m0 := 0 }
abbrev everylo_rt : altD everylo_B.outs → Option Bool := fun r => some r.1.1
abbrev everylo_st : Sta := ⟨[0, 1], ⟨[shQ, .fn 102 [] [.fe (.pair (.sl (.int .i64)) (.pair (.int .i64) (.pair (.sl (.sl (.int .i64))) (.pair (.sl (.sl (.int .i64))) (.sl (.int .i64))))))]], []⟩⟩
theorem everylo_eq (N : Nat) (l : Ll) (holds : (Li × (Int × (Ll × (Ll × Li))))) : ev (Z := Bool) Try.prog (everylo_sp N) everylo_B [] [] (some everylo_rt) 400 false [.c [0], .c [1]] (stL everylo_st ((l, ((), (holds, ())), ()), ())) (stH everylo_st ((l, ((), (holds, ())), ()), ())) = everylo_S N l holds := by kernel_rfl
noncomputable def sp_everylo (N : Nat) : Spec := { f := 105, ins := ⟨[shQ, .fn 102 [] [.fe (.pair (.sl (.int .i64)) (.pair (.int .i64) (.pair (.sl (.sl (.int .i64))) (.pair (.sl (.sl (.int .i64))) (.sl (.int .i64))))))]], []⟩, outs := [⟨[.b], []⟩], run := fun p k => (everylo_S N p.1.1 p.1.2.1.2.1).bind fun r => k ((r, ()), ()) }
theorem sp_everylo_ok (N : Nat) : SpecOK Try.prog (sp_everylo N) := fn_sound (B := everylo_B) (loops := []) (leaves := []) (fun p => everylo_S N p.1.1 p.1.2.1.2.1) (fun r => ((r, ()), ())) everylo_rt (fun _ _ _ => rfl) (fun r z h => by cases h; rfl) Try.func105 (by kernel_rfl) (by kernel_rfl) (by kernel_rfl) rfl rfl (by kernel_rfl) (fun args w => Sem.pv_run _ _ _ (by kernel_rfl) w) (everylo_all N) mixed trivial (fun z E Xc hE hX hret => trivial) (fun p => everylo_eq N p.1.1 p.1.2.1.2.1)

def every1va_S (N : Nat) (x : Li) : Option Bool :=
  (check2_S N x).bind fun x_1 =>
  some (!x_1)
noncomputable def every1va_sp (N : Nat) : List Spec := [sp_check2 N]
theorem every1va_all (N : Nat) : AllP (SpecOK Try.prog) (every1va_sp N) := ⟨sp_check2_ok N, trivial⟩
noncomputable def every1va_c : Code := (Try.f127.body).getD .skip
noncomputable abbrev every1va_B : Body := { c := every1va_c, n := 8, res := [.tmp 3], outs := [⟨[.b], [.segs [.fn 103 [] []]]⟩], m0 := 1 }
abbrev every1va_rt : altD every1va_B.outs → Option Bool := fun r => some r.1.1
abbrev every1va_st : Sta := ⟨[0, 1], ⟨[shL, .own 0 0], [.segs [.fn 103 [] []]]⟩⟩
theorem every1va_eq (N : Nat) (x : Li) : ev (Z := Bool) Try.prog (every1va_sp N) every1va_B [] [] (some every1va_rt) 400 false [.c [0], .c [1]] (stL every1va_st ((x, (), ()), ((((), ()), ()), ()))) (stH every1va_st ((x, (), ()), ((((), ()), ()), ()))) = every1va_S N x := by kernel_rfl
noncomputable def sp_every1va (N : Nat) : Spec := { f := 127, ins := ⟨[shL, .own 0 0], [.segs [.fn 103 [] []]]⟩, outs := [⟨[.b], [.segs [.fn 103 [] []]]⟩], run := fun p k => (every1va_S N p.1.1).bind fun r => k ((r, ()), ((((), ()), ()), ())) }
theorem sp_every1va_ok (N : Nat) : SpecOK Try.prog (sp_every1va N) := fn_sound (B := every1va_B) (loops := []) (leaves := []) (fun p => every1va_S N p.1.1) (fun r => ((r, ()), ((((), ()), ()), ()))) every1va_rt (fun _ _ _ => rfl) (fun r z h => by cases h; rfl) Try.func127 (by kernel_rfl) (by kernel_rfl) (by kernel_rfl) rfl rfl (by kernel_rfl) (fun args w => Sem.pv_run _ _ _ (by kernel_rfl) w) (every1va_all N) mixed trivial (fun z E Xc hE hX hret => trivial) (fun p => every1va_eq N p.1.1)

def ixfva_l1 (N : Nat) : Nat → Ll → Int → Int → Option ((Int) ⊕ (Unit))
  | 0, _, _, _ => none
  | n_ + 1, s, u, u2 =>
    br (decide (u2 < u))
      (idx s u2 fun x_1 =>
      (every1va_S N x_1).bind fun x_2 =>
      br x_2
        (some (.inl u2))
        (chk (u2 + 1) <|
        ixfva_l1 N n_ s u (u2 + 1)))
      (some (.inr ()))
def ixfva_S (N : Nat) (s : Ll) : Option Int :=
  (ixfva_l1 N N s (s.length : Int) 0).bind fun e => match e with
  | .inl i_3 =>
    some i_3
  | .inr _ =>
    some (-1)
noncomputable def ixfva_sp (N : Nat) : List Spec := [sp_every1va N]
theorem ixfva_all (N : Nat) : AllP (SpecOK Try.prog) (ixfva_sp N) := ⟨sp_every1va_ok N, trivial⟩
noncomputable def ixfva_c : Code := (Try.f131.body).getD .skip
noncomputable abbrev ixfva_B : Body := { c := ixfva_c, n := 19, res := [.tmp 4], outs := [⟨[shI], [.segs [.fn 103 [] []]]⟩], m0 := 1 }
abbrev ixfva_rt : altD ixfva_B.outs → Option Int := fun r => some r.1.1
abbrev ixfva_l1_at : List PI := [.c [1, 0, 1, 0, 0, 0], .c [1, 0, 1, 0, 0, 1], .l [1, 0, 1, 0, 0], .b 0, .c [1, 1]]
abbrev ixfva_l1_st : Sta := ⟨[0, 1, 7, 8], ⟨[shQ, .fn 127 [] [.own 0 0], shI, shI], [.segs [.fn 103 [] []]]⟩⟩
abbrev ixfva_l1_h (rec : Ll → Int → Int → Option ((Int) ⊕ (Unit))) : Leaf ((Int) ⊕ (Unit)) := ⟨ixfva_l1_at, ixfva_l1_st, fun p => rec p.1.1 p.1.2.2.1 p.1.2.2.2.1⟩
abbrev ixfva_l1_e0 : Leaf ((Int) ⊕ (Unit)) := ⟨[.c [1, 0, 1, 0, 0, 1, 1, 0, 0, 1, 1, 0, 0], .c [1, 0, 1, 0, 0, 1, 1, 0, 0, 1, 1, 0, 1], .b 1, .c [1, 0, 1, 0, 0, 1, 1, 1], .l [1, 0, 1, 0, 0], .b 0, .c [1, 1]], ⟨[5], ⟨[shI], [.segs [.fn 103 [] []]]⟩⟩, fun p => some (.inl p.1.1)⟩
abbrev ixfva_l1_e1 : Leaf ((Int) ⊕ (Unit)) := ⟨[.c [1, 1, 0], .c [1, 1, 1]], ⟨[], ⟨[], [.segs [.fn 103 [] []]]⟩⟩, fun p => some (.inr ())⟩
noncomputable def ixfva_l1_L (N : Nat) : LoopS := { at_ := ixfva_l1_at, sta := ixfva_l1_st, exits := [([.c [1, 0, 1, 0, 0, 1, 1, 0, 0, 1, 1, 0, 0], .c [1, 0, 1, 0, 0, 1, 1, 0, 0, 1, 1, 0, 1], .b 1, .c [1, 0, 1, 0, 0, 1, 1, 1], .l [1, 0, 1, 0, 0], .b 0, .c [1, 1]], ⟨[5], ⟨[shI], [.segs [.fn 103 [] []]]⟩⟩), ([.c [1, 1, 0], .c [1, 1, 1]], ⟨[], ⟨[], [.segs [.fn 103 [] []]]⟩⟩)], run := fun p k => (ixfva_l1 N N p.1.1 p.1.2.2.1 p.1.2.2.2.1).bind fun e => match e with | .inl x => k (.inl ((x, ()), ((((), ()), ()), ()))) | .inr x => k (.inr (.inl ((), ((((), ()), ()), ())))) }
theorem ixfva_l1_eq (N n_ : Nat) (s : Ll) (u : Int) (u2 : Int) : ev (Z := (Int) ⊕ (Unit)) Try.prog (ixfva_sp N) ixfva_B [] [ixfva_l1_h (ixfva_l1 N n_), ixfva_l1_e0, ixfva_l1_e1] none 400 true ixfva_l1_at (stL ixfva_l1_st ((s, ((), ((), ())), u, u2, ()), ((((), ()), ()), ()))) (stH ixfva_l1_st ((s, ((), ((), ())), u, u2, ()), ((((), ()), ()), ()))) = ixfva_l1 N (n_ + 1) s u u2 := by kernel_rfl
theorem ixfva_l1_ok (N : Nat) {top : Bool} : LoopOK Try.prog ixfva_B.c ixfva_B.n ixfva_B.m0 top (ixfva_l1_L N) := loop_of_ev (Z := (Int) ⊕ (Unit)) (N := N) (fun m p => ixfva_l1 N m p.1.1 p.1.2.2.1 p.1.2.2.2.1) (fun e => match e with | .inl x => .inl ((x, ()), ((((), ()), ()), ())) | .inr x => .inr (.inl ((), ((((), ()), ()), ())))) (fun _ p k => bind_congr_ (ixfva_l1 N N p.1.1 p.1.2.2.1 p.1.2.2.2.1) _ _ (fun e => by rcases e with x | x <;> rfl)) (fun _ => rfl) (fun m z E Xc hE hX hrec hx => leaf_of_ev (B := ixfva_B) (loops := []) (leaves := [ixfva_l1_h (ixfva_l1 N m), ixfva_l1_e0, ixfva_l1_e1]) (ixfva_all N) mixed trivial hE hX ⟨hrec, (fun p hp => by obtain rfl := Option.some.inj hp; exact hx), (fun p hp => by obtain rfl := Option.some.inj hp; exact hx), trivial⟩ RetOK.no (fun p => ixfva_l1_eq N m p.1.1 p.1.2.2.1 p.1.2.2.2.1))
abbrev ixfva_st : Sta := ⟨[0, 1], ⟨[shQ, .fn 127 [] [.own 0 0]], [.segs [.fn 103 [] []]]⟩⟩
theorem ixfva_eq (N : Nat) (s : Ll) : ev (Z := Int) Try.prog (ixfva_sp N) ixfva_B [ixfva_l1_L N] [] (some ixfva_rt) 400 false [.c [0], .c [1]] (stL ixfva_st ((s, ((), ((), ())), ()), ((((), ()), ()), ()))) (stH ixfva_st ((s, ((), ((), ())), ()), ((((), ()), ()), ()))) = ixfva_S N s := by kernel_rfl
noncomputable def sp_ixfva (N : Nat) : Spec := { f := 131, ins := ⟨[shQ, .fn 127 [] [.own 0 0]], [.segs [.fn 103 [] []]]⟩, outs := [⟨[shI], [.segs [.fn 103 [] []]]⟩], run := fun p k => (ixfva_S N p.1.1).bind fun r => k ((r, ()), ((((), ()), ()), ())) }
theorem sp_ixfva_ok (N : Nat) : SpecOK Try.prog (sp_ixfva N) := fn_sound (B := ixfva_B) (loops := [ixfva_l1_L N]) (leaves := []) (fun p => ixfva_S N p.1.1) (fun r => ((r, ()), ((((), ()), ()), ()))) ixfva_rt (fun _ _ _ => rfl) (fun r z h => by cases h; rfl) Try.func131 (by kernel_rfl) (by kernel_rfl) (by kernel_rfl) rfl rfl (by kernel_rfl) (fun args w => Sem.pv_run _ _ _ (by kernel_rfl) w) (ixfva_all N) mixed ⟨ixfva_l1_ok N, trivial⟩ (fun z E Xc hE hX hret => trivial) (fun p => ixfva_eq N p.1.1)

def cofva_S (N : Nat) (s : Ll) : Option Bool :=
  (ixfva_S N s).bind fun x_1 =>
  some (decide (0 ≤ x_1))
noncomputable def cofva_sp (N : Nat) : List Spec := [sp_ixfva N]
theorem cofva_all (N : Nat) : AllP (SpecOK Try.prog) (cofva_sp N) := ⟨sp_ixfva_ok N, trivial⟩
noncomputable def cofva_c : Code := (Try.f126.body).getD .skip
noncomputable abbrev cofva_B : Body := { c := cofva_c, n := 9, res := [.tmp 4], outs := [⟨[.b], [.segs [.fn 103 [] []]]⟩], m0 := 1 }
abbrev cofva_rt : altD cofva_B.outs → Option Bool := fun r => some r.1.1
abbrev cofva_st : Sta := ⟨[0, 1], ⟨[shQ, .fn 127 [] [.own 0 0]], [.segs [.fn 103 [] []]]⟩⟩
theorem cofva_eq (N : Nat) (s : Ll) : ev (Z := Bool) Try.prog (cofva_sp N) cofva_B [] [] (some cofva_rt) 400 false [.c [0], .c [1]] (stL cofva_st ((s, ((), ((), ())), ()), ((((), ()), ()), ()))) (stH cofva_st ((s, ((), ((), ())), ()), ((((), ()), ()), ()))) = cofva_S N s := by kernel_rfl
noncomputable def sp_cofva (N : Nat) : Spec := { f := 126, ins := ⟨[shQ, .fn 127 [] [.own 0 0]], [.segs [.fn 103 [] []]]⟩, outs := [⟨[.b], [.segs [.fn 103 [] []]]⟩], run := fun p k => (cofva_S N p.1.1).bind fun r => k ((r, ()), ((((), ()), ()), ())) }
theorem sp_cofva_ok (N : Nat) : SpecOK Try.prog (sp_cofva N) := fn_sound (B := cofva_B) (loops := []) (leaves := []) (fun p => cofva_S N p.1.1) (fun r => ((r, ()), ((((), ()), ()), ()))) cofva_rt (fun _ _ _ => rfl) (fun r z h => by cases h; rfl) Try.func126 (by kernel_rfl) (by kernel_rfl) (by kernel_rfl) rfl rfl (by kernel_rfl) (fun args w => Sem.pv_run _ _ _ (by kernel_rfl) w) (cofva_all N) mixed trivial (fun z E Xc hE hX hret => trivial) (fun p => cofva_eq N p.1.1)

def everyva_S (N : Nat) (l : Ll) : Option Bool :=
  (cofva_S N l).bind fun x_1 =>
  some (!x_1)
noncomputable def everyva_sp (N : Nat) : List Spec := [sp_cofva N]
theorem everyva_all (N : Nat) : AllP (SpecOK Try.prog) (everyva_sp N) := ⟨sp_cofva_ok N, trivial⟩
noncomputable def everyva_c : Code := (Try.f105.body).getD .skip
noncomputable abbrev everyva_B : Body := { c := everyva_c, n := 9, res := [.tmp 4], outs := [⟨[.b], []⟩], m0 := 0 }
abbrev everyva_rt : altD everyva_B.outs → Option Bool := fun r => some r.1.1
abbrev everyva_st : Sta := ⟨[0, 1], ⟨[shQ, .fn 103 [] []], []⟩⟩
theorem everyva_eq (N : Nat) (l : Ll) : ev (Z := Bool) Try.prog (everyva_sp N) everyva_B [] [] (some everyva_rt) 400 false [.c [0], .c [1]] (stL everyva_st ((l, ((), ()), ()), ())) (stH everyva_st ((l, ((), ()), ()), ())) = everyva_S N l := by kernel_rfl
noncomputable def sp_everyva (N : Nat) : Spec := { f := 105, ins := ⟨[shQ, .fn 103 [] []], []⟩, outs := [⟨[.b], []⟩], run := fun p k => (everyva_S N p.1.1).bind fun r => k ((r, ()), ()) }
theorem sp_everyva_ok (N : Nat) : SpecOK Try.prog (sp_everyva N) := fn_sound (B := everyva_B) (loops := []) (leaves := []) (fun p => everyva_S N p.1.1) (fun r => ((r, ()), ())) everyva_rt (fun _ _ _ => rfl) (fun r z h => by cases h; rfl) Try.func105 (by kernel_rfl) (by kernel_rfl) (by kernel_rfl) rfl rfl (by kernel_rfl) (fun args w => Sem.pv_run _ _ _ (by kernel_rfl) w) (everyva_all N) mixed trivial (fun z E Xc hE hX hret => trivial) (fun p => everyva_eq N p.1.1)

def check3_S (N : Nat) (n : Int) : Option Bool :=
  (in__S N n 1 9).bind fun x_1 =>
  some x_1
noncomputable def check3_sp (N : Nat) : List Spec := [sp_in_ N]
theorem check3_all (N : Nat) : AllP (SpecOK Try.prog) (check3_sp N) := ⟨sp_in__ok N, trivial⟩
noncomputable def check3_c : Code := (Try.f106.body).getD .skip
noncomputable abbrev check3_B : Body := { c := check3_c, n := 5, res := [.tmp 2], outs := [⟨[.b], []⟩], m0 := 0 }
abbrev check3_rt : altD check3_B.outs → Option Bool := fun r => some r.1.1
abbrev check3_st : Sta := ⟨[0], ⟨[shI], []⟩⟩
theorem check3_eq (N : Nat) (n : Int) : ev (Z := Bool) Try.prog (check3_sp N) check3_B [] [] (some check3_rt) 400 false [.c [0], .c [1]] (stL check3_st ((n, ()), ())) (stH check3_st ((n, ()), ())) = check3_S N n := by kernel_rfl
noncomputable def sp_check3 (N : Nat) : Spec := { f := 106, ins := ⟨[shI], []⟩, outs := [⟨[.b], []⟩], run := fun p k => (check3_S N p.1.1).bind fun r => k ((r, ()), ()) }
theorem sp_check3_ok (N : Nat) : SpecOK Try.prog (sp_check3 N) := fn_sound (B := check3_B) (loops := []) (leaves := []) (fun p => check3_S N p.1.1) (fun r => ((r, ()), ())) check3_rt (fun _ _ _ => rfl) (fun r z h => by cases h; rfl) Try.func106 (by kernel_rfl) (by kernel_rfl) (by kernel_rfl) rfl rfl (by kernel_rfl) (fun args w => Sem.pv_run _ _ _ (by kernel_rfl) w) (check3_all N) mixed trivial (fun z E Xc hE hX hret => trivial) (fun p => check3_eq N p.1.1)

def check4_S (N : Nat) (n : Int) : Option Bool :=
  (in__S N n 0 99).bind fun x_1 =>
  some x_1
noncomputable def check4_sp (N : Nat) : List Spec := [sp_in_ N]
theorem check4_all (N : Nat) : AllP (SpecOK Try.prog) (check4_sp N) := ⟨sp_in__ok N, trivial⟩
noncomputable def check4_c : Code := (Try.f107.body).getD .skip
noncomputable abbrev check4_B : Body := { c := check4_c, n := 5, res := [.tmp 2], outs := [⟨[.b], []⟩], m0 := 0 }
abbrev check4_rt : altD check4_B.outs → Option Bool := fun r => some r.1.1
abbrev check4_st : Sta := ⟨[0], ⟨[shI], []⟩⟩
theorem check4_eq (N : Nat) (n : Int) : ev (Z := Bool) Try.prog (check4_sp N) check4_B [] [] (some check4_rt) 400 false [.c [0], .c [1]] (stL check4_st ((n, ()), ())) (stH check4_st ((n, ()), ())) = check4_S N n := by kernel_rfl
noncomputable def sp_check4 (N : Nat) : Spec := { f := 107, ins := ⟨[shI], []⟩, outs := [⟨[.b], []⟩], run := fun p k => (check4_S N p.1.1).bind fun r => k ((r, ()), ()) }
theorem sp_check4_ok (N : Nat) : SpecOK Try.prog (sp_check4 N) := fn_sound (B := check4_B) (loops := []) (leaves := []) (fun p => check4_S N p.1.1) (fun r => ((r, ()), ())) check4_rt (fun _ _ _ => rfl) (fun r z h => by cases h; rfl) Try.func107 (by kernel_rfl) (by kernel_rfl) (by kernel_rfl) rfl rfl (by kernel_rfl) (fun args w => Sem.pv_run _ _ _ (by kernel_rfl) w) (check4_all N) mixed trivial (fun z E Xc hE hX hret => trivial) (fun p => check4_eq N p.1.1)

def every1w_S (N : Nat) (x : Int) : Option Bool :=
  (check3_S N x).bind fun x_1 =>
  some (!x_1)
noncomputable def every1w_sp (N : Nat) : List Spec := [sp_check3 N]
theorem every1w_all (N : Nat) : AllP (SpecOK Try.prog) (every1w_sp N) := ⟨sp_check3_ok N, trivial⟩
noncomputable def every1w_c : Code := (Try.f122.body).getD .skip
noncomputable abbrev every1w_B : Body := { c := every1w_c, n := 8, res := [.tmp 3], outs := [⟨[.b], [.segs [.fn 106 [] []]]⟩], m0 := 1 }
abbrev every1w_rt : altD every1w_B.outs → Option Bool := fun r => some r.1.1
abbrev every1w_st : Sta := ⟨[0, 1], ⟨[shI, .own 0 0], [.segs [.fn 106 [] []]]⟩⟩
theorem every1w_eq (N : Nat) (x : Int) : ev (Z := Bool) Try.prog (every1w_sp N) every1w_B [] [] (some every1w_rt) 400 false [.c [0], .c [1]] (stL every1w_st ((x, (), ()), ((((), ()), ()), ()))) (stH every1w_st ((x, (), ()), ((((), ()), ()), ()))) = every1w_S N x := by kernel_rfl
noncomputable def sp_every1w (N : Nat) : Spec := { f := 122, ins := ⟨[shI, .own 0 0], [.segs [.fn 106 [] []]]⟩, outs := [⟨[.b], [.segs [.fn 106 [] []]]⟩], run := fun p k => (every1w_S N p.1.1).bind fun r => k ((r, ()), ((((), ()), ()), ())) }
theorem sp_every1w_ok (N : Nat) : SpecOK Try.prog (sp_every1w N) := fn_sound (B := every1w_B) (loops := []) (leaves := []) (fun p => every1w_S N p.1.1) (fun r => ((r, ()), ((((), ()), ()), ()))) every1w_rt (fun _ _ _ => rfl) (fun r z h => by cases h; rfl) Try.func122 (by kernel_rfl) (by kernel_rfl) (by kernel_rfl) rfl rfl (by kernel_rfl) (fun args w => Sem.pv_run _ _ _ (by kernel_rfl) w) (every1w_all N) mixed trivial (fun z E Xc hE hX hret => trivial) (fun p => every1w_eq N p.1.1)

def ixfw_l1 (N : Nat) : Nat → Li → Int → Int → Option ((Int) ⊕ (Unit))
  | 0, _, _, _ => none
  | n_ + 1, s, u, u2 =>
    br (decide (u2 < u))
      (idx s u2 fun x_1 =>
      (every1w_S N x_1).bind fun x_2 =>
      br x_2
        (some (.inl u2))
        (chk (u2 + 1) <|
        ixfw_l1 N n_ s u (u2 + 1)))
      (some (.inr ()))
def ixfw_S (N : Nat) (s : Li) : Option Int :=
  (ixfw_l1 N N s (s.length : Int) 0).bind fun e => match e with
  | .inl i_3 =>
    some i_3
  | .inr _ =>
    some (-1)
noncomputable def ixfw_sp (N : Nat) : List Spec := [sp_every1w N]
theorem ixfw_all (N : Nat) : AllP (SpecOK Try.prog) (ixfw_sp N) := ⟨sp_every1w_ok N, trivial⟩
noncomputable def ixfw_c : Code := (Try.f130.body).getD .skip
noncomputable abbrev ixfw_B : Body := { c := ixfw_c, n := 19, res := [.tmp 4], outs := [⟨[shI], [.segs [.fn 106 [] []]]⟩], m0 := 1 }
abbrev ixfw_rt : altD ixfw_B.outs → Option Int := fun r => some r.1.1
abbrev ixfw_l1_at : List PI := [.c [1, 0, 1, 0, 0, 0], .c [1, 0, 1, 0, 0, 1], .l [1, 0, 1, 0, 0], .b 0, .c [1, 1]]
abbrev ixfw_l1_st : Sta := ⟨[0, 1, 7, 8], ⟨[shL, .fn 122 [] [.own 0 0], shI, shI], [.segs [.fn 106 [] []]]⟩⟩
abbrev ixfw_l1_h (rec : Li → Int → Int → Option ((Int) ⊕ (Unit))) : Leaf ((Int) ⊕ (Unit)) := ⟨ixfw_l1_at, ixfw_l1_st, fun p => rec p.1.1 p.1.2.2.1 p.1.2.2.2.1⟩
abbrev ixfw_l1_e0 : Leaf ((Int) ⊕ (Unit)) := ⟨[.c [1, 0, 1, 0, 0, 1, 1, 0, 0, 1, 1, 0, 0], .c [1, 0, 1, 0, 0, 1, 1, 0, 0, 1, 1, 0, 1], .b 1, .c [1, 0, 1, 0, 0, 1, 1, 1], .l [1, 0, 1, 0, 0], .b 0, .c [1, 1]], ⟨[5], ⟨[shI], [.segs [.fn 106 [] []]]⟩⟩, fun p => some (.inl p.1.1)⟩
abbrev ixfw_l1_e1 : Leaf ((Int) ⊕ (Unit)) := ⟨[.c [1, 1, 0], .c [1, 1, 1]], ⟨[], ⟨[], [.segs [.fn 106 [] []]]⟩⟩, fun p => some (.inr ())⟩
noncomputable def ixfw_l1_L (N : Nat) : LoopS := { at_ := ixfw_l1_at, sta := ixfw_l1_st, exits := [([.c [1, 0, 1, 0, 0, 1, 1, 0, 0, 1, 1, 0, 0], .c [1, 0, 1, 0, 0, 1, 1, 0, 0, 1, 1, 0, 1], .b 1, .c [1, 0, 1, 0, 0, 1, 1, 1], .l [1, 0, 1, 0, 0], .b 0, .c [1, 1]], ⟨[5], ⟨[shI], [.segs [.fn 106 [] []]]⟩⟩), ([.c [1, 1, 0], .c [1, 1, 1]], ⟨[], ⟨[], [.segs [.fn 106 [] []]]⟩⟩)], run := fun p k => (ixfw_l1 N N p.1.1 p.1.2.2.1 p.1.2.2.2.1).bind fun e => match e with | .inl x => k (.inl ((x, ()), ((((), ()), ()), ()))) | .inr x => k (.inr (.inl ((), ((((), ()), ()), ())))) }
theorem ixfw_l1_eq (N n_ : Nat) (s : Li) (u : Int) (u2 : Int) : ev (Z := (Int) ⊕ (Unit)) Try.prog (ixfw_sp N) ixfw_B [] [ixfw_l1_h (ixfw_l1 N n_), ixfw_l1_e0, ixfw_l1_e1] none 400 true ixfw_l1_at (stL ixfw_l1_st ((s, ((), ((), ())), u, u2, ()), ((((), ()), ()), ()))) (stH ixfw_l1_st ((s, ((), ((), ())), u, u2, ()), ((((), ()), ()), ()))) = ixfw_l1 N (n_ + 1) s u u2 := by kernel_rfl
theorem ixfw_l1_ok (N : Nat) {top : Bool} : LoopOK Try.prog ixfw_B.c ixfw_B.n ixfw_B.m0 top (ixfw_l1_L N) := loop_of_ev (Z := (Int) ⊕ (Unit)) (N := N) (fun m p => ixfw_l1 N m p.1.1 p.1.2.2.1 p.1.2.2.2.1) (fun e => match e with | .inl x => .inl ((x, ()), ((((), ()), ()), ())) | .inr x => .inr (.inl ((), ((((), ()), ()), ())))) (fun _ p k => bind_congr_ (ixfw_l1 N N p.1.1 p.1.2.2.1 p.1.2.2.2.1) _ _ (fun e => by rcases e with x | x <;> rfl)) (fun _ => rfl) (fun m z E Xc hE hX hrec hx => leaf_of_ev (B := ixfw_B) (loops := []) (leaves := [ixfw_l1_h (ixfw_l1 N m), ixfw_l1_e0, ixfw_l1_e1]) (ixfw_all N) mixed trivial hE hX ⟨hrec, (fun p hp => by obtain rfl := Option.some.inj hp; exact hx), (fun p hp => by obtain rfl := Option.some.inj hp; exact hx), trivial⟩ RetOK.no (fun p => ixfw_l1_eq N m p.1.1 p.1.2.2.1 p.1.2.2.2.1))
abbrev ixfw_st : Sta := ⟨[0, 1], ⟨[shL, .fn 122 [] [.own 0 0]], [.segs [.fn 106 [] []]]⟩⟩
theorem ixfw_eq (N : Nat) (s : Li) : ev (Z := Int) Try.prog (ixfw_sp N) ixfw_B [ixfw_l1_L N] [] (some ixfw_rt) 400 false [.c [0], .c [1]] (stL ixfw_st ((s, ((), ((), ())), ()), ((((), ()), ()), ()))) (stH ixfw_st ((s, ((), ((), ())), ()), ((((), ()), ()), ()))) = ixfw_S N s := by kernel_rfl
noncomputable def sp_ixfw (N : Nat) : Spec := { f := 130, ins := ⟨[shL, .fn 122 [] [.own 0 0]], [.segs [.fn 106 [] []]]⟩, outs := [⟨[shI], [.segs [.fn 106 [] []]]⟩], run := fun p k => (ixfw_S N p.1.1).bind fun r => k ((r, ()), ((((), ()), ()), ())) }
theorem sp_ixfw_ok (N : Nat) : SpecOK Try.prog (sp_ixfw N) := fn_sound (B := ixfw_B) (loops := [ixfw_l1_L N]) (leaves := []) (fun p => ixfw_S N p.1.1) (fun r => ((r, ()), ((((), ()), ()), ()))) ixfw_rt (fun _ _ _ => rfl) (fun r z h => by cases h; rfl) Try.func130 (by kernel_rfl) (by kernel_rfl) (by kernel_rfl) rfl rfl (by kernel_rfl) (fun args w => Sem.pv_run _ _ _ (by kernel_rfl) w) (ixfw_all N) mixed ⟨ixfw_l1_ok N, trivial⟩ (fun z E Xc hE hX hret => trivial) (fun p => ixfw_eq N p.1.1)

def cofw_S (N : Nat) (s : Li) : Option Bool :=
  (ixfw_S N s).bind fun x_1 =>
  some (decide (0 ≤ x_1))
noncomputable def cofw_sp (N : Nat) : List Spec := [sp_ixfw N]
theorem cofw_all (N : Nat) : AllP (SpecOK Try.prog) (cofw_sp N) := ⟨sp_ixfw_ok N, trivial⟩
noncomputable def cofw_c : Code := (Try.f121.body).getD .skip
noncomputable abbrev cofw_B : Body := { c := cofw_c, n := 9, res := [.tmp 4], outs := [⟨[.b], [.segs [.fn 106 [] []]]⟩], m0 := 1 }
abbrev cofw_rt : altD cofw_B.outs → Option Bool := fun r => some r.1.1
abbrev cofw_st : Sta := ⟨[0, 1], ⟨[shL, .fn 122 [] [.own 0 0]], [.segs [.fn 106 [] []]]⟩⟩
theorem cofw_eq (N : Nat) (s : Li) : ev (Z := Bool) Try.prog (cofw_sp N) cofw_B [] [] (some cofw_rt) 400 false [.c [0], .c [1]] (stL cofw_st ((s, ((), ((), ())), ()), ((((), ()), ()), ()))) (stH cofw_st ((s, ((), ((), ())), ()), ((((), ()), ()), ()))) = cofw_S N s := by kernel_rfl
noncomputable def sp_cofw (N : Nat) : Spec := { f := 121, ins := ⟨[shL, .fn 122 [] [.own 0 0]], [.segs [.fn 106 [] []]]⟩, outs := [⟨[.b], [.segs [.fn 106 [] []]]⟩], run := fun p k => (cofw_S N p.1.1).bind fun r => k ((r, ()), ((((), ()), ()), ())) }
theorem sp_cofw_ok (N : Nat) : SpecOK Try.prog (sp_cofw N) := fn_sound (B := cofw_B) (loops := []) (leaves := []) (fun p => cofw_S N p.1.1) (fun r => ((r, ()), ((((), ()), ()), ()))) cofw_rt (fun _ _ _ => rfl) (fun r z h => by cases h; rfl) Try.func121 (by kernel_rfl) (by kernel_rfl) (by kernel_rfl) rfl rfl (by kernel_rfl) (fun args w => Sem.pv_run _ _ _ (by kernel_rfl) w) (cofw_all N) mixed trivial (fun z E Xc hE hX hret => trivial) (fun p => cofw_eq N p.1.1)

def everyw_S (N : Nat) (l : Li) : Option Bool :=
  (cofw_S N l).bind fun x_1 =>
  some (!x_1)
noncomputable def everyw_sp (N : Nat) : List Spec := [sp_cofw N]
theorem everyw_all (N : Nat) : AllP (SpecOK Try.prog) (everyw_sp N) := ⟨sp_cofw_ok N, trivial⟩
noncomputable def everyw_c : Code := (Try.f94.body).getD .skip
noncomputable abbrev everyw_B : Body := { c := everyw_c, n := 9, res := [.tmp 4], outs := [⟨[.b], []⟩], m0 := 0 }
abbrev everyw_rt : altD everyw_B.outs → Option Bool := fun r => some r.1.1
abbrev everyw_st : Sta := ⟨[0, 1], ⟨[shL, .fn 106 [] []], []⟩⟩
theorem everyw_eq (N : Nat) (l : Li) : ev (Z := Bool) Try.prog (everyw_sp N) everyw_B [] [] (some everyw_rt) 400 false [.c [0], .c [1]] (stL everyw_st ((l, ((), ()), ()), ())) (stH everyw_st ((l, ((), ()), ()), ())) = everyw_S N l := by kernel_rfl
noncomputable def sp_everyw (N : Nat) : Spec := { f := 94, ins := ⟨[shL, .fn 106 [] []], []⟩, outs := [⟨[.b], []⟩], run := fun p k => (everyw_S N p.1.1).bind fun r => k ((r, ()), ()) }
theorem sp_everyw_ok (N : Nat) : SpecOK Try.prog (sp_everyw N) := fn_sound (B := everyw_B) (loops := []) (leaves := []) (fun p => everyw_S N p.1.1) (fun r => ((r, ()), ())) everyw_rt (fun _ _ _ => rfl) (fun r z h => by cases h; rfl) Try.func94 (by kernel_rfl) (by kernel_rfl) (by kernel_rfl) rfl rfl (by kernel_rfl) (fun args w => Sem.pv_run _ _ _ (by kernel_rfl) w) (everyw_all N) mixed trivial (fun z E Xc hE hX hret => trivial) (fun p => everyw_eq N p.1.1)

def every1r_S (N : Nat) (x : Int) : Option Bool :=
  (check4_S N x).bind fun x_1 =>
  some (!x_1)
noncomputable def every1r_sp (N : Nat) : List Spec := [sp_check4 N]
theorem every1r_all (N : Nat) : AllP (SpecOK Try.prog) (every1r_sp N) := ⟨sp_check4_ok N, trivial⟩
noncomputable def every1r_c : Code := (Try.f122.body).getD .skip
noncomputable abbrev every1r_B : Body := { c := every1r_c, n := 8, res := [.tmp 3], outs := [⟨[.b], [.segs [.fn 107 [] []]]⟩], m0 := 1 }
abbrev every1r_rt : altD every1r_B.outs → Option Bool := fun r => some r.1.1
abbrev every1r_st : Sta := ⟨[0, 1], ⟨[shI, .own 0 0], [.segs [.fn 107 [] []]]⟩⟩
theorem every1r_eq (N : Nat) (x : Int) : ev (Z := Bool) Try.prog (every1r_sp N) every1r_B [] [] (some every1r_rt) 400 false [.c [0], .c [1]] (stL every1r_st ((x, (), ()), ((((), ()), ()), ()))) (stH every1r_st ((x, (), ()), ((((), ()), ()), ()))) = every1r_S N x := by kernel_rfl
noncomputable def sp_every1r (N : Nat) : Spec := { f := 122, ins := ⟨[shI, .own 0 0], [.segs [.fn 107 [] []]]⟩, outs := [⟨[.b], [.segs [.fn 107 [] []]]⟩], run := fun p k => (every1r_S N p.1.1).bind fun r => k ((r, ()), ((((), ()), ()), ())) }
theorem sp_every1r_ok (N : Nat) : SpecOK Try.prog (sp_every1r N) := fn_sound (B := every1r_B) (loops := []) (leaves := []) (fun p => every1r_S N p.1.1) (fun r => ((r, ()), ((((), ()), ()), ()))) every1r_rt (fun _ _ _ => rfl) (fun r z h => by cases h; rfl) Try.func122 (by kernel_rfl) (by kernel_rfl) (by kernel_rfl) rfl rfl (by kernel_rfl) (fun args w => Sem.pv_run _ _ _ (by kernel_rfl) w) (every1r_all N) mixed trivial (fun z E Xc hE hX hret => trivial) (fun p => every1r_eq N p.1.1)

def ixfr_l1 (N : Nat) : Nat → Li → Int → Int → Option ((Int) ⊕ (Unit))
  | 0, _, _, _ => none
  | n_ + 1, s, u, u2 =>
    br (decide (u2 < u))
      (idx s u2 fun x_1 =>
      (every1r_S N x_1).bind fun x_2 =>
      br x_2
        (some (.inl u2))
        (chk (u2 + 1) <|
        ixfr_l1 N n_ s u (u2 + 1)))
      (some (.inr ()))
def ixfr_S (N : Nat) (s : Li) : Option Int :=
  (ixfr_l1 N N s (s.length : Int) 0).bind fun e => match e with
  | .inl i_3 =>
    some i_3
  | .inr _ =>
    some (-1)
noncomputable def ixfr_sp (N : Nat) : List Spec := [sp_every1r N]
theorem ixfr_all (N : Nat) : AllP (SpecOK Try.prog) (ixfr_sp N) := ⟨sp_every1r_ok N, trivial⟩
noncomputable def ixfr_c : Code := (Try.f130.body).getD .skip
noncomputable abbrev ixfr_B : Body := { c := ixfr_c, n := 19, res := [.tmp 4], outs := [⟨[shI], [.segs [.fn 107 [] []]]⟩], m0 := 1 }
abbrev ixfr_rt : altD ixfr_B.outs → Option Int := fun r => some r.1.1
abbrev ixfr_l1_at : List PI := [.c [1, 0, 1, 0, 0, 0], .c [1, 0, 1, 0, 0, 1], .l [1, 0, 1, 0, 0], .b 0, .c [1, 1]]
abbrev ixfr_l1_st : Sta := ⟨[0, 1, 7, 8], ⟨[shL, .fn 122 [] [.own 0 0], shI, shI], [.segs [.fn 107 [] []]]⟩⟩
abbrev ixfr_l1_h (rec : Li → Int → Int → Option ((Int) ⊕ (Unit))) : Leaf ((Int) ⊕ (Unit)) := ⟨ixfr_l1_at, ixfr_l1_st, fun p => rec p.1.1 p.1.2.2.1 p.1.2.2.2.1⟩
abbrev ixfr_l1_e0 : Leaf ((Int) ⊕ (Unit)) := ⟨[.c [1, 0, 1, 0, 0, 1, 1, 0, 0, 1, 1, 0, 0], .c [1, 0, 1, 0, 0, 1, 1, 0, 0, 1, 1, 0, 1], .b 1, .c [1, 0, 1, 0, 0, 1, 1, 1], .l [1, 0, 1, 0, 0], .b 0, .c [1, 1]], ⟨[5], ⟨[shI], [.segs [.fn 107 [] []]]⟩⟩, fun p => some (.inl p.1.1)⟩
abbrev ixfr_l1_e1 : Leaf ((Int) ⊕ (Unit)) := ⟨[.c [1, 1, 0], .c [1, 1, 1]], ⟨[], ⟨[], [.segs [.fn 107 [] []]]⟩⟩, fun p => some (.inr ())⟩
noncomputable def ixfr_l1_L (N : Nat) : LoopS := { at_ := ixfr_l1_at, sta := ixfr_l1_st, exits := [([.c [1, 0, 1, 0, 0, 1, 1, 0, 0, 1, 1, 0, 0], .c [1, 0, 1, 0, 0, 1, 1, 0, 0, 1, 1, 0, 1], .b 1, .c [1, 0, 1, 0, 0, 1, 1, 1], .l [1, 0, 1, 0, 0], .b 0, .c [1, 1]], ⟨[5], ⟨[shI], [.segs [.fn 107 [] []]]⟩⟩), ([.c [1, 1, 0], .c [1, 1, 1]], ⟨[], ⟨[], [.segs [.fn 107 [] []]]⟩⟩)], run := fun p k => (ixfr_l1 N N p.1.1 p.1.2.2.1 p.1.2.2.2.1).bind fun e => match e with | .inl x => k (.inl ((x, ()), ((((), ()), ()), ()))) | .inr x => k (.inr (.inl ((), ((((), ()), ()), ())))) }
theorem ixfr_l1_eq (N n_ : Nat) (s : Li) (u : Int) (u2 : Int) : ev (Z := (Int) ⊕ (Unit)) Try.prog (ixfr_sp N) ixfr_B [] [ixfr_l1_h (ixfr_l1 N n_), ixfr_l1_e0, ixfr_l1_e1] none 400 true ixfr_l1_at (stL ixfr_l1_st ((s, ((), ((), ())), u, u2, ()), ((((), ()), ()), ()))) (stH ixfr_l1_st ((s, ((), ((), ())), u, u2, ()), ((((), ()), ()), ()))) = ixfr_l1 N (n_ + 1) s u u2 := by kernel_rfl
theorem ixfr_l1_ok (N : Nat) {top : Bool} : LoopOK Try.prog ixfr_B.c ixfr_B.n ixfr_B.m0 top (ixfr_l1_L N) := loop_of_ev (Z := (Int) ⊕ (Unit)) (N := N) (fun m p => ixfr_l1 N m p.1.1 p.1.2.2.1 p.1.2.2.2.1) (fun e => match e with | .inl x => .inl ((x, ()), ((((), ()), ()), ())) | .inr x => .inr (.inl ((), ((((), ()), ()), ())))) (fun _ p k => bind_congr_ (ixfr_l1 N N p.1.1 p.1.2.2.1 p.1.2.2.2.1) _ _ (fun e => by rcases e with x | x <;> rfl)) (fun _ => rfl) (fun m z E Xc hE hX hrec hx => leaf_of_ev (B := ixfr_B) (loops := []) (leaves := [ixfr_l1_h (ixfr_l1 N m), ixfr_l1_e0, ixfr_l1_e1]) (ixfr_all N) mixed trivial hE hX ⟨hrec, (fun p hp => by obtain rfl := Option.some.inj hp; exact hx), (fun p hp => by obtain rfl := Option.some.inj hp; exact hx), trivial⟩ RetOK.no (fun p => ixfr_l1_eq N m p.1.1 p.1.2.2.1 p.1.2.2.2.1))
abbrev ixfr_st : Sta := ⟨[0, 1], ⟨[shL, .fn 122 [] [.own 0 0]], [.segs [.fn 107 [] []]]⟩⟩
theorem ixfr_eq (N : Nat) (s : Li) : ev (Z := Int) Try.prog (ixfr_sp N) ixfr_B [ixfr_l1_L N] [] (some ixfr_rt) 400 false [.c [0], .c [1]] (stL ixfr_st ((s, ((), ((), ())), ()), ((((), ()), ()), ()))) (stH ixfr_st ((s, ((), ((), ())), ()), ((((), ()), ()), ()))) = ixfr_S N s := by kernel_rfl
noncomputable def sp_ixfr (N : Nat) : Spec := { f := 130, ins := ⟨[shL, .fn 122 [] [.own 0 0]], [.segs [.fn 107 [] []]]⟩, outs := [⟨[shI], [.segs [.fn 107 [] []]]⟩], run := fun p k => (ixfr_S N p.1.1).bind fun r => k ((r, ()), ((((), ()), ()), ())) }
theorem sp_ixfr_ok (N : Nat) : SpecOK Try.prog (sp_ixfr N) := fn_sound (B := ixfr_B) (loops := [ixfr_l1_L N]) (leaves := []) (fun p => ixfr_S N p.1.1) (fun r => ((r, ()), ((((), ()), ()), ()))) ixfr_rt (fun _ _ _ => rfl) (fun r z h => by cases h; rfl) Try.func130 (by kernel_rfl) (by kernel_rfl) (by kernel_rfl) rfl rfl (by kernel_rfl) (fun args w => Sem.pv_run _ _ _ (by kernel_rfl) w) (ixfr_all N) mixed ⟨ixfr_l1_ok N, trivial⟩ (fun z E Xc hE hX hret => trivial) (fun p => ixfr_eq N p.1.1)

def cofr_S (N : Nat) (s : Li) : Option Bool :=
  (ixfr_S N s).bind fun x_1 =>
  some (decide (0 ≤ x_1))
noncomputable def cofr_sp (N : Nat) : List Spec := [sp_ixfr N]
theorem cofr_all (N : Nat) : AllP (SpecOK Try.prog) (cofr_sp N) := ⟨sp_ixfr_ok N, trivial⟩
noncomputable def cofr_c : Code := (Try.f121.body).getD .skip
noncomputable abbrev cofr_B : Body := { c := cofr_c, n := 9, res := [.tmp 4], outs := [⟨[.b], [.segs [.fn 107 [] []]]⟩], m0 := 1 }
abbrev cofr_rt : altD cofr_B.outs → Option Bool := fun r => some r.1.1
abbrev cofr_st : Sta := ⟨[0, 1], ⟨[shL, .fn 122 [] [.own 0 0]], [.segs [.fn 107 [] []]]⟩⟩
theorem cofr_eq (N : Nat) (s : Li) : ev (Z := Bool) Try.prog (cofr_sp N) cofr_B [] [] (some cofr_rt) 400 false [.c [0], .c [1]] (stL cofr_st ((s, ((), ((), ())), ()), ((((), ()), ()), ()))) (stH cofr_st ((s, ((), ((), ())), ()), ((((), ()), ()), ()))) = cofr_S N s := by kernel_rfl
noncomputable def sp_cofr (N : Nat) : Spec := { f := 121, ins := ⟨[shL, .fn 122 [] [.own 0 0]], [.segs [.fn 107 [] []]]⟩, outs := [⟨[.b], [.segs [.fn 107 [] []]]⟩], run := fun p k => (cofr_S N p.1.1).bind fun r => k ((r, ()), ((((), ()), ()), ())) }
theorem sp_cofr_ok (N : Nat) : SpecOK Try.prog (sp_cofr N) := fn_sound (B := cofr_B) (loops := []) (leaves := []) (fun p => cofr_S N p.1.1) (fun r => ((r, ()), ((((), ()), ()), ()))) cofr_rt (fun _ _ _ => rfl) (fun r z h => by cases h; rfl) Try.func121 (by kernel_rfl) (by kernel_rfl) (by kernel_rfl) rfl rfl (by kernel_rfl) (fun args w => Sem.pv_run _ _ _ (by kernel_rfl) w) (cofr_all N) mixed trivial (fun z E Xc hE hX hret => trivial) (fun p => cofr_eq N p.1.1)

def everyr_S (N : Nat) (l : Li) : Option Bool :=
  (cofr_S N l).bind fun x_1 =>
  some (!x_1)
noncomputable def everyr_sp (N : Nat) : List Spec := [sp_cofr N]
theorem everyr_all (N : Nat) : AllP (SpecOK Try.prog) (everyr_sp N) := ⟨sp_cofr_ok N, trivial⟩
noncomputable def everyr_c : Code := (Try.f94.body).getD .skip
noncomputable abbrev everyr_B : Body := { c := everyr_c, n := 9, res := [.tmp 4], outs := [⟨[.b], []⟩], m0 := 0 }
abbrev everyr_rt : altD everyr_B.outs → Option Bool := fun r => some r.1.1
abbrev everyr_st : Sta := ⟨[0, 1], ⟨[shL, .fn 107 [] []], []⟩⟩
theorem everyr_eq (N : Nat) (l : Li) : ev (Z := Bool) Try.prog (everyr_sp N) everyr_B [] [] (some everyr_rt) 400 false [.c [0], .c [1]] (stL everyr_st ((l, ((), ()), ()), ())) (stH everyr_st ((l, ((), ()), ()), ())) = everyr_S N l := by kernel_rfl
noncomputable def sp_everyr (N : Nat) : Spec := { f := 94, ins := ⟨[shL, .fn 107 [] []], []⟩, outs := [⟨[.b], []⟩], run := fun p k => (everyr_S N p.1.1).bind fun r => k ((r, ()), ()) }
theorem sp_everyr_ok (N : Nat) : SpecOK Try.prog (sp_everyr N) := fn_sound (B := everyr_B) (loops := []) (leaves := []) (fun p => everyr_S N p.1.1) (fun r => ((r, ()), ())) everyr_rt (fun _ _ _ => rfl) (fun r z h => by cases h; rfl) Try.func94 (by kernel_rfl) (by kernel_rfl) (by kernel_rfl) rfl rfl (by kernel_rfl) (fun args w => Sem.pv_run _ _ _ (by kernel_rfl) w) (everyr_all N) mixed trivial (fun z E Xc hE hX hret => trivial) (fun p => everyr_eq N p.1.1)

def check_S (N : Nat) (d : Li) (d2 : Int) (d3 : Ll) (d4 : Ll) (d5 : Li) : Option Int :=
  (in__S N (d.length : Int) 1 5).bind fun x_1 =>
  br (!x_1)
    (some 2)
    (br (decide (6 < (d3.length : Int)))
      (some 2)
      (br (decide (6 < (d4.length : Int)))
        (some 2)
        ((everylo_S N d3 (d, d2, d3, d4, d5)).bind fun x_2 =>
        br (!x_2)
          (some 2)
          ((everylo_S N d4 (d, d2, d3, d4, d5)).bind fun x_3 =>
          br (!x_3)
            (some 2)
            (br (!decide ((d5.length : Int) = (d3.length : Int)))
              (some 2)
              ((everyw_S N d).bind fun x_4 =>
              br (!x_4)
                (some 3)
                ((in__S N d2 0 3).bind fun x_5 =>
                br (!x_5)
                  (some 3)
                  ((everyr_S N d5).bind fun x_6 =>
                  br (!x_6)
                    (some 3)
                    ((everyva_S N d3).bind fun x_7 =>
                    br (!x_7)
                      (some 3)
                      ((everyva_S N d4).bind fun x_8 =>
                      br (!x_8)
                        (some 3)
                        (some 0)))))))))))
noncomputable def check_sp (N : Nat) : List Spec := [sp_in_ N, sp_everylo N, sp_everyva N, sp_everyw N, sp_everyr N]
theorem check_all (N : Nat) : AllP (SpecOK Try.prog) (check_sp N) := ⟨sp_in__ok N, sp_everylo_ok N, sp_everyva_ok N, sp_everyw_ok N, sp_everyr_ok N, trivial⟩
noncomputable def check_c : Code := (Try.f59.body).getD .skip
noncomputable abbrev check_B : Body := { c := check_c, n := 75, res := [.tmp 2], outs := [⟨[shI], []⟩], m0 := 0 }
abbrev check_rt : altD check_B.outs → Option Int := fun r => some r.1.1
abbrev check_st : Sta := ⟨[0], ⟨[shG], []⟩⟩
theorem check_eq (N : Nat) (d : Li) (d2 : Int) (d3 : Ll) (d4 : Ll) (d5 : Li) : ev (Z := Int) Try.prog (check_sp N) check_B [] [] (some check_rt) 400 false [.c [0], .c [1]] (stL check_st (((d, d2, d3, d4, d5, ()), ()), ())) (stH check_st (((d, d2, d3, d4, d5, ()), ()), ())) = check_S N d d2 d3 d4 d5 := by kernel_rfl
noncomputable def sp_check (N : Nat) : Spec := { f := 59, ins := ⟨[shG], []⟩, outs := [⟨[shI], []⟩], run := fun p k => (check_S N p.1.1.1 p.1.1.2.1 p.1.1.2.2.1 p.1.1.2.2.2.1 p.1.1.2.2.2.2.1).bind fun r => k ((r, ()), ()) }
theorem sp_check_ok (N : Nat) : SpecOK Try.prog (sp_check N) := fn_sound (B := check_B) (loops := []) (leaves := []) (fun p => check_S N p.1.1.1 p.1.1.2.1 p.1.1.2.2.1 p.1.1.2.2.2.1 p.1.1.2.2.2.2.1) (fun r => ((r, ()), ())) check_rt (fun _ _ _ => rfl) (fun r z h => by cases h; rfl) Try.func59 (by kernel_rfl) (by kernel_rfl) (by kernel_rfl) rfl rfl (by kernel_rfl) (fun args w => Sem.pv_run _ _ _ (by kernel_rfl) w) (check_all N) mixed trivial (fun z E Xc hE hX hret => trivial) (fun p => check_eq N p.1.1.1 p.1.1.2.1 p.1.1.2.2.1 p.1.1.2.2.2.1 p.1.1.2.2.2.2.1)

def opened_j1 (N : Nat) (rec : Int → Li → Int → Li → Ll → Int → Int → Ll → Int → Int → Li → Int → Int → Li → Int → Ll → Ll → Li → Li → Int → Ll → Ll → Li → Li → Li → Option (Int × Li × Ll × Int × Int × Ll × Int × Int × Li × Int × Ll × Ll × Li × Li × Int × Ll × Ll × Li × Li × Li)) (i : Int) (a : Li) (k : Int) (b : Li) (u : Ll) (u2 : Int) (u3 : Int) (u4 : Ll) (u5 : Int) (u6 : Int) (u7 : Li) (u8 : Int) (u9 : Int) (d : Li) (d2 : Int) (d3 : Ll) (d4 : Ll) (d5 : Li) (out : Li) (out2 : Int) (out3 : Ll) (out4 : Ll) (out5 : Li) (out6 : Li) (out7 : Li) : Option (Int × Li × Ll × Int × Int × Ll × Int × Int × Li × Int × Ll × Ll × Li × Li × Int × Ll × Ll × Li × Li × Li) :=
  chk (u9 + 1) <|
  rec i a k b u u2 u3 u4 u5 u6 u7 u8 (u9 + 1) d d2 d3 d4 d5 out out2 out3 out4 out5 out6 out7
def opened_l3 (N : Nat) : Nat → Int → Li → Int → Li → Ll → Int → Int → Ll → Int → Int → Li → Int → Int → Li → Int → Ll → Ll → Li → Li → Int → Ll → Ll → Li → Li → Li → Option (Int × Li × Ll × Int × Int × Ll × Int × Int × Li × Int × Ll × Ll × Li × Li × Int × Ll × Ll × Li × Li × Li)
  | 0, _, _, _, _, _, _, _, _, _, _, _, _, _, _, _, _, _, _, _, _, _, _, _, _, _ => none
  | n_ + 1, i, a, k, b, u, u2, u3, u4, u5, u6, u7, u8, u9, d, d2, d3, d4, d5, out, out2, out3, out4, out5, out6, out7 =>
    br (decide (u9 < u8))
      (idx u7 u9 fun x_4 =>
      br (decide (x_4 = -1))
        (opened_j1 N (opened_l3 N n_) i a k b u u2 u3 u4 u5 u6 u7 u8 u9 d d2 d3 d4 d5 out out2 out3 out4 out5 out6 out7)
        (idx b u9 fun x_5 =>
        br (decide (x_5 = -1))
          (opened_j1 N (opened_l3 N n_) i a k b u u2 u3 u4 u5 u6 u7 u8 u9 d d2 d3 d4 d5 out out2 out3 out4 out5 out6 out7)
          (idx b u9 fun x_6 =>
          br (decide (x_4 = x_6))
            (rng i 6 <|
            rng k 6 <|
            get out6 ((i.toNat * 6) + k.toNat) fun x_7 =>
            idx d u9 fun x_8 =>
            chk (x_7 + x_8) <|
            rng i 6 <|
            rng k 6 <|
            get out6 ((i.toNat * 6) + k.toNat) fun _ =>
            opened_j1 N (opened_l3 N n_) i a k b u u2 u3 u4 u5 u6 u7 u8 u9 d d2 d3 d4 d5 out out2 out3 out4 out5 (out6.set ((i.toNat * 6) + k.toNat) (x_7 + x_8)) out7)
            (rng i 6 <|
            rng k 6 <|
            get out7 ((i.toNat * 6) + k.toNat) fun x_10 =>
            chk (x_10 + 1) <|
            rng i 6 <|
            rng k 6 <|
            get out7 ((i.toNat * 6) + k.toNat) fun _ =>
            opened_j1 N (opened_l3 N n_) i a k b u u2 u3 u4 u5 u6 u7 u8 u9 d d2 d3 d4 d5 out out2 out3 out4 out5 out6 (out7.set ((i.toNat * 6) + k.toNat) (x_10 + 1))))))
      (some ((i, a, u, u2, u3, u4, u5, u6, d, d2, d3, d4, d5, out, out2, out3, out4, out5, out6, out7)))
def opened_l2 (N : Nat) : Nat → Int → Li → Ll → Int → Int → Ll → Int → Int → Li → Int → Ll → Ll → Li → Li → Int → Ll → Ll → Li → Li → Li → Option (Ll × Int × Int × Li × Int × Ll × Ll × Li × Li × Int × Ll × Ll × Li × Li × Li)
  | 0, _, _, _, _, _, _, _, _, _, _, _, _, _, _, _, _, _, _, _, _ => none
  | n_ + 1, i, a, u, u2, u3, u4, u5, u6, d, d2, d3, d4, d5, out, out2, out3, out4, out5, out6, out7 =>
    br (decide (u6 < u5))
      (idx u4 u6 fun x_3 =>
      (opened_l3 N N i a u6 x_3 u u2 u3 u4 u5 u6 a (a.length : Int) 0 d d2 d3 d4 d5 out out2 out3 out4 out5 out6 out7).bind fun (i_12, a_13, u_14, u2_15, u3_16, u4_17, u5_18, u6_19, d_20, d2_21, d3_22, d4_23, d5_24, out_25, out2_26, out3_27, out4_28, out5_29, out6_30, out7_31) =>
      chk (u6_19 + 1) <|
      opened_l2 N n_ i_12 a_13 u_14 u2_15 u3_16 u4_17 u5_18 (u6_19 + 1) d_20 d2_21 d3_22 d4_23 d5_24 out_25 out2_26 out3_27 out4_28 out5_29 out6_30 out7_31)
      (some ((u, u2, u3, d, d2, d3, d4, d5, out, out2, out3, out4, out5, out6, out7)))
def opened_l1 (N : Nat) : Nat → Ll → Int → Int → Li → Int → Ll → Ll → Li → Li → Int → Ll → Ll → Li → Li → Li → Option (Li × Int × Ll × Ll × Li × Li × Li)
  | 0, _, _, _, _, _, _, _, _, _, _, _, _, _, _, _ => none
  | n_ + 1, u, u2, u3, d, d2, d3, d4, d5, out, out2, out3, out4, out5, out6, out7 =>
    br (decide (u3 < u2))
      (idx u u3 fun x_2 =>
      (opened_l2 N N u3 x_2 u u2 u3 d4 (d4.length : Int) 0 d d2 d3 d4 d5 out out2 out3 out4 out5 out6 out7).bind fun (u_32, u2_33, u3_34, d_35, d2_36, d3_37, d4_38, d5_39, out_40, out2_41, out3_42, out4_43, out5_44, out6_45, out7_46) =>
      chk (u3_34 + 1) <|
      opened_l1 N n_ u_32 u2_33 (u3_34 + 1) d_35 d2_36 d3_37 d4_38 d5_39 out_40 out2_41 out3_42 out4_43 out5_44 out6_45 out7_46)
      (some ((out, out2, out3, out4, out5, out6, out7)))
def opened_S (N : Nat) (d : Li) (d2 : Int) (d3 : Ll) (d4 : Ll) (d5 : Li) : Option ((Dk × Int) ⊕ (Int)) :=
  (check_S N d d2 d3 d4 d5).bind fun x_1 =>
  br (!decide (x_1 = 0))
    (some (.inr x_1))
    ((opened_l1 N N d3 (d3.length : Int) 0 d d2 d3 d4 d5 d d2 d3 d4 d5 (List.replicate 36 (0 : Int)) (List.replicate 36 (0 : Int))).bind fun (out_47, out2_48, out3_49, out4_50, out5_51, out6_52, out7_53) =>
    some (.inl ((out_47, out2_48, out3_49, out4_50, out5_51, out6_52, out7_53, ()), 0)))
noncomputable def opened_sp (N : Nat) : List Spec := [sp_check N]
theorem opened_all (N : Nat) : AllP (SpecOK Try.prog) (opened_sp N) := ⟨sp_check_ok N, trivial⟩
noncomputable def opened_c : Code := (Try.f72.body).getD .skip
noncomputable abbrev opened_B : Body := { c := opened_c, n := 95, res := [.tmp 2, .tmp 3], outs := [⟨[shD, shI], []⟩, ⟨[.nilp, shI], []⟩], m0 := 0 }
abbrev opened_rt : altD opened_B.outs → Option ((Dk × Int) ⊕ (Int)) := fun r => match r with | .inl r => some (.inl (r.1.1, r.1.2.1)) | .inr r => some (.inr r.1.2.1)
abbrev opened_l3_at : List PI := [.c [1, 1, 1, 0, 1, 0, 0, 1, 1, 0, 0, 1, 1, 0, 0, 1, 1, 0, 0, 1, 1, 0, 0, 0], .c [1, 1, 1, 0, 1, 0, 0, 1, 1, 0, 0, 1, 1, 0, 0, 1, 1, 0, 0, 1, 1, 0, 0, 1], .l [1, 1, 1, 0, 1, 0, 0, 1, 1, 0, 0, 1, 1, 0, 0, 1, 1, 0, 0, 1, 1, 0, 0], .b 4, .b 3, .c [1, 1, 1, 0, 1, 0, 0, 1, 1, 0, 0, 1, 1, 0, 0, 1, 1, 1], .l [1, 1, 1, 0, 1, 0, 0, 1, 1, 0, 0, 1, 1, 0, 0], .b 2, .b 1, .c [1, 1, 1, 0, 1, 0, 0, 1, 1, 1], .l [1, 1, 1, 0, 1, 0, 0], .b 0, .c [1, 1, 1, 1]]
abbrev opened_l3_st : Sta := ⟨[1, 5, 6, 7, 8, 9, 21, 22, 23, 29, 30, 31, 36, 37, 38], ⟨[.own 0 0, .own 1 0, shI, shL, shI, shL, shQ, shI, shI, shQ, shI, shI, shL, shI, shI], [.segs [shL, shI, shQ, shQ, shL], .segs [shL, shI, shQ, shQ, shL, .arr (.int .i64) 36, .arr (.int .i64) 36]]⟩⟩
abbrev opened_l3_h (rec : Int → Li → Int → Li → Ll → Int → Int → Ll → Int → Int → Li → Int → Int → Li → Int → Ll → Ll → Li → Li → Int → Ll → Ll → Li → Li → Li → Option (Int × Li × Ll × Int × Int × Ll × Int × Int × Li × Int × Ll × Ll × Li × Li × Int × Ll × Ll × Li × Li × Li)) : Leaf (Int × Li × Ll × Int × Int × Ll × Int × Int × Li × Int × Ll × Ll × Li × Li × Int × Ll × Ll × Li × Li × Li) := ⟨opened_l3_at, opened_l3_st, fun p => rec p.1.2.2.1 p.1.2.2.2.1 p.1.2.2.2.2.1 p.1.2.2.2.2.2.1 p.1.2.2.2.2.2.2.1 p.1.2.2.2.2.2.2.2.1 p.1.2.2.2.2.2.2.2.2.1 p.1.2.2.2.2.2.2.2.2.2.1 p.1.2.2.2.2.2.2.2.2.2.2.1 p.1.2.2.2.2.2.2.2.2.2.2.2.1 p.1.2.2.2.2.2.2.2.2.2.2.2.2.1 p.1.2.2.2.2.2.2.2.2.2.2.2.2.2.1 p.1.2.2.2.2.2.2.2.2.2.2.2.2.2.2.1 p.2.1.1 p.2.1.2.1 p.2.1.2.2.1 p.2.1.2.2.2.1 p.2.1.2.2.2.2.1 p.2.2.1.1 p.2.2.1.2.1 p.2.2.1.2.2.1 p.2.2.1.2.2.2.1 p.2.2.1.2.2.2.2.1 p.2.2.1.2.2.2.2.2.1 p.2.2.1.2.2.2.2.2.2.1⟩
abbrev opened_l3_e0 : Leaf (Int × Li × Ll × Int × Int × Ll × Int × Int × Li × Int × Ll × Ll × Li × Li × Int × Ll × Ll × Li × Li × Li) := ⟨[.c [1, 1, 1, 0, 1, 0, 0, 1, 1, 0, 0, 1, 1, 0, 0, 1, 1, 1], .l [1, 1, 1, 0, 1, 0, 0, 1, 1, 0, 0, 1, 1, 0, 0], .b 2, .b 1, .c [1, 1, 1, 0, 1, 0, 0, 1, 1, 1], .l [1, 1, 1, 0, 1, 0, 0], .b 0, .c [1, 1, 1, 1]], ⟨[1, 5, 6, 7, 21, 22, 23, 29, 30, 31], ⟨[.own 0 0, .own 1 0, shI, shL, shQ, shI, shI, shQ, shI, shI], [.segs [shL, shI, shQ, shQ, shL], .segs [shL, shI, shQ, shQ, shL, .arr (.int .i64) 36, .arr (.int .i64) 36]]⟩⟩, fun p => some ((p.1.2.2.1, p.1.2.2.2.1, p.1.2.2.2.2.1, p.1.2.2.2.2.2.1, p.1.2.2.2.2.2.2.1, p.1.2.2.2.2.2.2.2.1, p.1.2.2.2.2.2.2.2.2.1, p.1.2.2.2.2.2.2.2.2.2.1, p.2.1.1, p.2.1.2.1, p.2.1.2.2.1, p.2.1.2.2.2.1, p.2.1.2.2.2.2.1, p.2.2.1.1, p.2.2.1.2.1, p.2.2.1.2.2.1, p.2.2.1.2.2.2.1, p.2.2.1.2.2.2.2.1, p.2.2.1.2.2.2.2.2.1, p.2.2.1.2.2.2.2.2.2.1))⟩
abbrev opened_j1_at : List PI := [.c [1, 1, 1, 0, 1, 0, 0, 1, 1, 0, 0, 1, 1, 0, 0, 1, 1, 0, 0, 1, 1, 0, 0, 1, 1, 1], .l [1, 1, 1, 0, 1, 0, 0, 1, 1, 0, 0, 1, 1, 0, 0, 1, 1, 0, 0, 1, 1, 0, 0], .b 4, .b 3, .c [1, 1, 1, 0, 1, 0, 0, 1, 1, 0, 0, 1, 1, 0, 0, 1, 1, 1], .l [1, 1, 1, 0, 1, 0, 0, 1, 1, 0, 0, 1, 1, 0, 0], .b 2, .b 1, .c [1, 1, 1, 0, 1, 0, 0, 1, 1, 1], .l [1, 1, 1, 0, 1, 0, 0], .b 0, .c [1, 1, 1, 1]]
abbrev opened_j1_st : Sta := ⟨[1, 5, 6, 7, 8, 9, 21, 22, 23, 29, 30, 31, 36, 37, 38], ⟨[.own 0 0, .own 1 0, shI, shL, shI, shL, shQ, shI, shI, shQ, shI, shI, shL, shI, shI], [.segs [shL, shI, shQ, shQ, shL], .segs [shL, shI, shQ, shQ, shL, .arr (.int .i64) 36, .arr (.int .i64) 36]]⟩⟩
abbrev opened_j1_k (N : Nat) (rec : Int → Li → Int → Li → Ll → Int → Int → Ll → Int → Int → Li → Int → Int → Li → Int → Ll → Ll → Li → Li → Int → Ll → Ll → Li → Li → Li → Option (Int × Li × Ll × Int × Int × Ll × Int × Int × Li × Int × Ll × Ll × Li × Li × Int × Ll × Ll × Li × Li × Li)) : Leaf (Int × Li × Ll × Int × Int × Ll × Int × Int × Li × Int × Ll × Ll × Li × Li × Int × Ll × Ll × Li × Li × Li) := ⟨opened_j1_at, opened_j1_st, fun p => opened_j1 N rec p.1.2.2.1 p.1.2.2.2.1 p.1.2.2.2.2.1 p.1.2.2.2.2.2.1 p.1.2.2.2.2.2.2.1 p.1.2.2.2.2.2.2.2.1 p.1.2.2.2.2.2.2.2.2.1 p.1.2.2.2.2.2.2.2.2.2.1 p.1.2.2.2.2.2.2.2.2.2.2.1 p.1.2.2.2.2.2.2.2.2.2.2.2.1 p.1.2.2.2.2.2.2.2.2.2.2.2.2.1 p.1.2.2.2.2.2.2.2.2.2.2.2.2.2.1 p.1.2.2.2.2.2.2.2.2.2.2.2.2.2.2.1 p.2.1.1 p.2.1.2.1 p.2.1.2.2.1 p.2.1.2.2.2.1 p.2.1.2.2.2.2.1 p.2.2.1.1 p.2.2.1.2.1 p.2.2.1.2.2.1 p.2.2.1.2.2.2.1 p.2.2.1.2.2.2.2.1 p.2.2.1.2.2.2.2.2.1 p.2.2.1.2.2.2.2.2.2.1⟩
theorem opened_j1_eq (N : Nat) (rec : Int → Li → Int → Li → Ll → Int → Int → Ll → Int → Int → Li → Int → Int → Li → Int → Ll → Ll → Li → Li → Int → Ll → Ll → Li → Li → Li → Option (Int × Li × Ll × Int × Int × Ll × Int × Int × Li × Int × Ll × Ll × Li × Li × Int × Ll × Ll × Li × Li × Li)) (i : Int) (a : Li) (k : Int) (b : Li) (u : Ll) (u2 : Int) (u3 : Int) (u4 : Ll) (u5 : Int) (u6 : Int) (u7 : Li) (u8 : Int) (u9 : Int) (d : Li) (d2 : Int) (d3 : Ll) (d4 : Ll) (d5 : Li) (out : Li) (out2 : Int) (out3 : Ll) (out4 : Ll) (out5 : Li) (out6 : Li) (out7 : Li) : ev (Z := Int × Li × Ll × Int × Int × Ll × Int × Int × Li × Int × Ll × Ll × Li × Li × Int × Ll × Ll × Li × Li × Li) Try.prog (opened_sp N) opened_B [] [opened_l3_h rec, opened_l3_e0] none 400 true opened_j1_at (stL opened_j1_st (((), (), i, a, k, b, u, u2, u3, u4, u5, u6, u7, u8, u9, ()), ((d, d2, d3, d4, d5, ()), (out, out2, out3, out4, out5, out6, out7, ()), ()))) (stH opened_j1_st (((), (), i, a, k, b, u, u2, u3, u4, u5, u6, u7, u8, u9, ()), ((d, d2, d3, d4, d5, ()), (out, out2, out3, out4, out5, out6, out7, ()), ()))) = opened_j1 N rec i a k b u u2 u3 u4 u5 u6 u7 u8 u9 d d2 d3 d4 d5 out out2 out3 out4 out5 out6 out7 := by kernel_rfl
theorem opened_j1_lf (N : Nat) (rec : Int → Li → Int → Li → Ll → Int → Int → Ll → Int → Int → Li → Int → Int → Li → Int → Ll → Ll → Li → Li → Int → Ll → Ll → Li → Li → Li → Option (Int × Li × Ll × Int × Int × Ll × Int × Int × Li × Int × Ll × Ll × Li × Li × Int × Ll × Ll × Li × Li × Li)) {z : Int × Li × Ll × Int × Int × Ll × Int × Int × Li × Int × Ll × Ll × Li × Li × Int × Ll × Ll × Li × Li × Li} {top : Bool} {E : EE} {Xc : Ctx} (hE : EOK opened_B.m0 E) (hX : CxOK top Xc) (hrec : LeafOK Try.prog opened_B.c opened_B.n opened_B.m0 E Xc z (opened_l3_h rec)) (h0 : LeafOK Try.prog opened_B.c opened_B.n opened_B.m0 E Xc z opened_l3_e0) : LeafOK Try.prog opened_B.c opened_B.n opened_B.m0 E Xc z (opened_j1_k N rec) := leaf_of_ev (B := opened_B) (loops := []) (leaves := [opened_l3_h rec, opened_l3_e0]) (opened_all N) mixed trivial hE hX ⟨hrec, h0, trivial⟩ RetOK.no (fun p => opened_j1_eq N rec p.1.2.2.1 p.1.2.2.2.1 p.1.2.2.2.2.1 p.1.2.2.2.2.2.1 p.1.2.2.2.2.2.2.1 p.1.2.2.2.2.2.2.2.1 p.1.2.2.2.2.2.2.2.2.1 p.1.2.2.2.2.2.2.2.2.2.1 p.1.2.2.2.2.2.2.2.2.2.2.1 p.1.2.2.2.2.2.2.2.2.2.2.2.1 p.1.2.2.2.2.2.2.2.2.2.2.2.2.1 p.1.2.2.2.2.2.2.2.2.2.2.2.2.2.1 p.1.2.2.2.2.2.2.2.2.2.2.2.2.2.2.1 p.2.1.1 p.2.1.2.1 p.2.1.2.2.1 p.2.1.2.2.2.1 p.2.1.2.2.2.2.1 p.2.2.1.1 p.2.2.1.2.1 p.2.2.1.2.2.1 p.2.2.1.2.2.2.1 p.2.2.1.2.2.2.2.1 p.2.2.1.2.2.2.2.2.1 p.2.2.1.2.2.2.2.2.2.1)
noncomputable def opened_l3_L (N : Nat) : LoopS := { at_ := opened_l3_at, sta := opened_l3_st, exits := [([.c [1, 1, 1, 0, 1, 0, 0, 1, 1, 0, 0, 1, 1, 0, 0, 1, 1, 1], .l [1, 1, 1, 0, 1, 0, 0, 1, 1, 0, 0, 1, 1, 0, 0], .b 2, .b 1, .c [1, 1, 1, 0, 1, 0, 0, 1, 1, 1], .l [1, 1, 1, 0, 1, 0, 0], .b 0, .c [1, 1, 1, 1]], ⟨[1, 5, 6, 7, 21, 22, 23, 29, 30, 31], ⟨[.own 0 0, .own 1 0, shI, shL, shQ, shI, shI, shQ, shI, shI], [.segs [shL, shI, shQ, shQ, shL], .segs [shL, shI, shQ, shQ, shL, .arr (.int .i64) 36, .arr (.int .i64) 36]]⟩⟩)], run := fun p k => (opened_l3 N N p.1.2.2.1 p.1.2.2.2.1 p.1.2.2.2.2.1 p.1.2.2.2.2.2.1 p.1.2.2.2.2.2.2.1 p.1.2.2.2.2.2.2.2.1 p.1.2.2.2.2.2.2.2.2.1 p.1.2.2.2.2.2.2.2.2.2.1 p.1.2.2.2.2.2.2.2.2.2.2.1 p.1.2.2.2.2.2.2.2.2.2.2.2.1 p.1.2.2.2.2.2.2.2.2.2.2.2.2.1 p.1.2.2.2.2.2.2.2.2.2.2.2.2.2.1 p.1.2.2.2.2.2.2.2.2.2.2.2.2.2.2.1 p.2.1.1 p.2.1.2.1 p.2.1.2.2.1 p.2.1.2.2.2.1 p.2.1.2.2.2.2.1 p.2.2.1.1 p.2.2.1.2.1 p.2.2.1.2.2.1 p.2.2.1.2.2.2.1 p.2.2.1.2.2.2.2.1 p.2.2.1.2.2.2.2.2.1 p.2.2.1.2.2.2.2.2.2.1).bind fun e => k (.inl (((), (), e.1, e.2.1, e.2.2.1, e.2.2.2.1, e.2.2.2.2.1, e.2.2.2.2.2.1, e.2.2.2.2.2.2.1, e.2.2.2.2.2.2.2.1, ()), ((e.2.2.2.2.2.2.2.2.1, e.2.2.2.2.2.2.2.2.2.1, e.2.2.2.2.2.2.2.2.2.2.1, e.2.2.2.2.2.2.2.2.2.2.2.1, e.2.2.2.2.2.2.2.2.2.2.2.2.1, ()), (e.2.2.2.2.2.2.2.2.2.2.2.2.2.1, e.2.2.2.2.2.2.2.2.2.2.2.2.2.2.1, e.2.2.2.2.2.2.2.2.2.2.2.2.2.2.2.1, e.2.2.2.2.2.2.2.2.2.2.2.2.2.2.2.2.1, e.2.2.2.2.2.2.2.2.2.2.2.2.2.2.2.2.2.1, e.2.2.2.2.2.2.2.2.2.2.2.2.2.2.2.2.2.2.1, e.2.2.2.2.2.2.2.2.2.2.2.2.2.2.2.2.2.2.2, ()), ()))) }
theorem opened_l3_eq (N n_ : Nat) (i : Int) (a : Li) (k : Int) (b : Li) (u : Ll) (u2 : Int) (u3 : Int) (u4 : Ll) (u5 : Int) (u6 : Int) (u7 : Li) (u8 : Int) (u9 : Int) (d : Li) (d2 : Int) (d3 : Ll) (d4 : Ll) (d5 : Li) (out : Li) (out2 : Int) (out3 : Ll) (out4 : Ll) (out5 : Li) (out6 : Li) (out7 : Li) : ev (Z := Int × Li × Ll × Int × Int × Ll × Int × Int × Li × Int × Ll × Ll × Li × Li × Int × Ll × Ll × Li × Li × Li) Try.prog (opened_sp N) opened_B [] [opened_l3_h (opened_l3 N n_), opened_l3_e0, opened_j1_k N (opened_l3 N n_)] none 400 true opened_l3_at (stL opened_l3_st (((), (), i, a, k, b, u, u2, u3, u4, u5, u6, u7, u8, u9, ()), ((d, d2, d3, d4, d5, ()), (out, out2, out3, out4, out5, out6, out7, ()), ()))) (stH opened_l3_st (((), (), i, a, k, b, u, u2, u3, u4, u5, u6, u7, u8, u9, ()), ((d, d2, d3, d4, d5, ()), (out, out2, out3, out4, out5, out6, out7, ()), ()))) = opened_l3 N (n_ + 1) i a k b u u2 u3 u4 u5 u6 u7 u8 u9 d d2 d3 d4 d5 out out2 out3 out4 out5 out6 out7 := by kernel_rfl
theorem opened_l3_ok (N : Nat) {top : Bool} : LoopOK Try.prog opened_B.c opened_B.n opened_B.m0 top (opened_l3_L N) := loop_of_ev (Z := Int × Li × Ll × Int × Int × Ll × Int × Int × Li × Int × Ll × Ll × Li × Li × Int × Ll × Ll × Li × Li × Li) (N := N) (fun m p => opened_l3 N m p.1.2.2.1 p.1.2.2.2.1 p.1.2.2.2.2.1 p.1.2.2.2.2.2.1 p.1.2.2.2.2.2.2.1 p.1.2.2.2.2.2.2.2.1 p.1.2.2.2.2.2.2.2.2.1 p.1.2.2.2.2.2.2.2.2.2.1 p.1.2.2.2.2.2.2.2.2.2.2.1 p.1.2.2.2.2.2.2.2.2.2.2.2.1 p.1.2.2.2.2.2.2.2.2.2.2.2.2.1 p.1.2.2.2.2.2.2.2.2.2.2.2.2.2.1 p.1.2.2.2.2.2.2.2.2.2.2.2.2.2.2.1 p.2.1.1 p.2.1.2.1 p.2.1.2.2.1 p.2.1.2.2.2.1 p.2.1.2.2.2.2.1 p.2.2.1.1 p.2.2.1.2.1 p.2.2.1.2.2.1 p.2.2.1.2.2.2.1 p.2.2.1.2.2.2.2.1 p.2.2.1.2.2.2.2.2.1 p.2.2.1.2.2.2.2.2.2.1) (fun e => .inl (((), (), e.1, e.2.1, e.2.2.1, e.2.2.2.1, e.2.2.2.2.1, e.2.2.2.2.2.1, e.2.2.2.2.2.2.1, e.2.2.2.2.2.2.2.1, ()), ((e.2.2.2.2.2.2.2.2.1, e.2.2.2.2.2.2.2.2.2.1, e.2.2.2.2.2.2.2.2.2.2.1, e.2.2.2.2.2.2.2.2.2.2.2.1, e.2.2.2.2.2.2.2.2.2.2.2.2.1, ()), (e.2.2.2.2.2.2.2.2.2.2.2.2.2.1, e.2.2.2.2.2.2.2.2.2.2.2.2.2.2.1, e.2.2.2.2.2.2.2.2.2.2.2.2.2.2.2.1, e.2.2.2.2.2.2.2.2.2.2.2.2.2.2.2.2.1, e.2.2.2.2.2.2.2.2.2.2.2.2.2.2.2.2.2.1, e.2.2.2.2.2.2.2.2.2.2.2.2.2.2.2.2.2.2.1, e.2.2.2.2.2.2.2.2.2.2.2.2.2.2.2.2.2.2.2, ()), ()))) (fun _ _ _ => rfl) (fun _ => rfl) (fun m z E Xc hE hX hrec hx => leaf_of_ev (B := opened_B) (loops := []) (leaves := [opened_l3_h (opened_l3 N m), opened_l3_e0, opened_j1_k N (opened_l3 N m)]) (opened_all N) mixed trivial hE hX ⟨hrec, (fun p hp => by obtain rfl := Option.some.inj hp; exact hx), opened_j1_lf N _ hE hX hrec (fun p hp => by obtain rfl := Option.some.inj hp; exact hx), trivial⟩ RetOK.no (fun p => opened_l3_eq N m p.1.2.2.1 p.1.2.2.2.1 p.1.2.2.2.2.1 p.1.2.2.2.2.2.1 p.1.2.2.2.2.2.2.1 p.1.2.2.2.2.2.2.2.1 p.1.2.2.2.2.2.2.2.2.1 p.1.2.2.2.2.2.2.2.2.2.1 p.1.2.2.2.2.2.2.2.2.2.2.1 p.1.2.2.2.2.2.2.2.2.2.2.2.1 p.1.2.2.2.2.2.2.2.2.2.2.2.2.1 p.1.2.2.2.2.2.2.2.2.2.2.2.2.2.1 p.1.2.2.2.2.2.2.2.2.2.2.2.2.2.2.1 p.2.1.1 p.2.1.2.1 p.2.1.2.2.1 p.2.1.2.2.2.1 p.2.1.2.2.2.2.1 p.2.2.1.1 p.2.2.1.2.1 p.2.2.1.2.2.1 p.2.2.1.2.2.2.1 p.2.2.1.2.2.2.2.1 p.2.2.1.2.2.2.2.2.1 p.2.2.1.2.2.2.2.2.2.1))
abbrev opened_l2_at : List PI := [.c [1, 1, 1, 0, 1, 0, 0, 1, 1, 0, 0, 1, 1, 0, 0, 0], .c [1, 1, 1, 0, 1, 0, 0, 1, 1, 0, 0, 1, 1, 0, 0, 1], .l [1, 1, 1, 0, 1, 0, 0, 1, 1, 0, 0, 1, 1, 0, 0], .b 2, .b 1, .c [1, 1, 1, 0, 1, 0, 0, 1, 1, 1], .l [1, 1, 1, 0, 1, 0, 0], .b 0, .c [1, 1, 1, 1]]
abbrev opened_l2_st : Sta := ⟨[1, 5, 6, 7, 21, 22, 23, 29, 30, 31], ⟨[.own 0 0, .own 1 0, shI, shL, shQ, shI, shI, shQ, shI, shI], [.segs [shL, shI, shQ, shQ, shL], .segs [shL, shI, shQ, shQ, shL, .arr (.int .i64) 36, .arr (.int .i64) 36]]⟩⟩
abbrev opened_l2_h (rec : Int → Li → Ll → Int → Int → Ll → Int → Int → Li → Int → Ll → Ll → Li → Li → Int → Ll → Ll → Li → Li → Li → Option (Ll × Int × Int × Li × Int × Ll × Ll × Li × Li × Int × Ll × Ll × Li × Li × Li)) : Leaf (Ll × Int × Int × Li × Int × Ll × Ll × Li × Li × Int × Ll × Ll × Li × Li × Li) := ⟨opened_l2_at, opened_l2_st, fun p => rec p.1.2.2.1 p.1.2.2.2.1 p.1.2.2.2.2.1 p.1.2.2.2.2.2.1 p.1.2.2.2.2.2.2.1 p.1.2.2.2.2.2.2.2.1 p.1.2.2.2.2.2.2.2.2.1 p.1.2.2.2.2.2.2.2.2.2.1 p.2.1.1 p.2.1.2.1 p.2.1.2.2.1 p.2.1.2.2.2.1 p.2.1.2.2.2.2.1 p.2.2.1.1 p.2.2.1.2.1 p.2.2.1.2.2.1 p.2.2.1.2.2.2.1 p.2.2.1.2.2.2.2.1 p.2.2.1.2.2.2.2.2.1 p.2.2.1.2.2.2.2.2.2.1⟩
abbrev opened_l2_e0 : Leaf (Ll × Int × Int × Li × Int × Ll × Ll × Li × Li × Int × Ll × Ll × Li × Li × Li) := ⟨[.c [1, 1, 1, 0, 1, 0, 0, 1, 1, 1], .l [1, 1, 1, 0, 1, 0, 0], .b 0, .c [1, 1, 1, 1]], ⟨[1, 5, 21, 22, 23], ⟨[.own 0 0, .own 1 0, shQ, shI, shI], [.segs [shL, shI, shQ, shQ, shL], .segs [shL, shI, shQ, shQ, shL, .arr (.int .i64) 36, .arr (.int .i64) 36]]⟩⟩, fun p => some ((p.1.2.2.1, p.1.2.2.2.1, p.1.2.2.2.2.1, p.2.1.1, p.2.1.2.1, p.2.1.2.2.1, p.2.1.2.2.2.1, p.2.1.2.2.2.2.1, p.2.2.1.1, p.2.2.1.2.1, p.2.2.1.2.2.1, p.2.2.1.2.2.2.1, p.2.2.1.2.2.2.2.1, p.2.2.1.2.2.2.2.2.1, p.2.2.1.2.2.2.2.2.2.1))⟩
noncomputable def opened_l2_L (N : Nat) : LoopS := { at_ := opened_l2_at, sta := opened_l2_st, exits := [([.c [1, 1, 1, 0, 1, 0, 0, 1, 1, 1], .l [1, 1, 1, 0, 1, 0, 0], .b 0, .c [1, 1, 1, 1]], ⟨[1, 5, 21, 22, 23], ⟨[.own 0 0, .own 1 0, shQ, shI, shI], [.segs [shL, shI, shQ, shQ, shL], .segs [shL, shI, shQ, shQ, shL, .arr (.int .i64) 36, .arr (.int .i64) 36]]⟩⟩)], run := fun p k => (opened_l2 N N p.1.2.2.1 p.1.2.2.2.1 p.1.2.2.2.2.1 p.1.2.2.2.2.2.1 p.1.2.2.2.2.2.2.1 p.1.2.2.2.2.2.2.2.1 p.1.2.2.2.2.2.2.2.2.1 p.1.2.2.2.2.2.2.2.2.2.1 p.2.1.1 p.2.1.2.1 p.2.1.2.2.1 p.2.1.2.2.2.1 p.2.1.2.2.2.2.1 p.2.2.1.1 p.2.2.1.2.1 p.2.2.1.2.2.1 p.2.2.1.2.2.2.1 p.2.2.1.2.2.2.2.1 p.2.2.1.2.2.2.2.2.1 p.2.2.1.2.2.2.2.2.2.1).bind fun e => k (.inl (((), (), e.1, e.2.1, e.2.2.1, ()), ((e.2.2.2.1, e.2.2.2.2.1, e.2.2.2.2.2.1, e.2.2.2.2.2.2.1, e.2.2.2.2.2.2.2.1, ()), (e.2.2.2.2.2.2.2.2.1, e.2.2.2.2.2.2.2.2.2.1, e.2.2.2.2.2.2.2.2.2.2.1, e.2.2.2.2.2.2.2.2.2.2.2.1, e.2.2.2.2.2.2.2.2.2.2.2.2.1, e.2.2.2.2.2.2.2.2.2.2.2.2.2.1, e.2.2.2.2.2.2.2.2.2.2.2.2.2.2, ()), ()))) }
theorem opened_l2_eq (N n_ : Nat) (i : Int) (a : Li) (u : Ll) (u2 : Int) (u3 : Int) (u4 : Ll) (u5 : Int) (u6 : Int) (d : Li) (d2 : Int) (d3 : Ll) (d4 : Ll) (d5 : Li) (out : Li) (out2 : Int) (out3 : Ll) (out4 : Ll) (out5 : Li) (out6 : Li) (out7 : Li) : ev (Z := Ll × Int × Int × Li × Int × Ll × Ll × Li × Li × Int × Ll × Ll × Li × Li × Li) Try.prog (opened_sp N) opened_B [opened_l3_L N] [opened_l2_h (opened_l2 N n_), opened_l2_e0] none 400 true opened_l2_at (stL opened_l2_st (((), (), i, a, u, u2, u3, u4, u5, u6, ()), ((d, d2, d3, d4, d5, ()), (out, out2, out3, out4, out5, out6, out7, ()), ()))) (stH opened_l2_st (((), (), i, a, u, u2, u3, u4, u5, u6, ()), ((d, d2, d3, d4, d5, ()), (out, out2, out3, out4, out5, out6, out7, ()), ()))) = opened_l2 N (n_ + 1) i a u u2 u3 u4 u5 u6 d d2 d3 d4 d5 out out2 out3 out4 out5 out6 out7 := by kernel_rfl
theorem opened_l2_ok (N : Nat) {top : Bool} : LoopOK Try.prog opened_B.c opened_B.n opened_B.m0 top (opened_l2_L N) := loop_of_ev (Z := Ll × Int × Int × Li × Int × Ll × Ll × Li × Li × Int × Ll × Ll × Li × Li × Li) (N := N) (fun m p => opened_l2 N m p.1.2.2.1 p.1.2.2.2.1 p.1.2.2.2.2.1 p.1.2.2.2.2.2.1 p.1.2.2.2.2.2.2.1 p.1.2.2.2.2.2.2.2.1 p.1.2.2.2.2.2.2.2.2.1 p.1.2.2.2.2.2.2.2.2.2.1 p.2.1.1 p.2.1.2.1 p.2.1.2.2.1 p.2.1.2.2.2.1 p.2.1.2.2.2.2.1 p.2.2.1.1 p.2.2.1.2.1 p.2.2.1.2.2.1 p.2.2.1.2.2.2.1 p.2.2.1.2.2.2.2.1 p.2.2.1.2.2.2.2.2.1 p.2.2.1.2.2.2.2.2.2.1) (fun e => .inl (((), (), e.1, e.2.1, e.2.2.1, ()), ((e.2.2.2.1, e.2.2.2.2.1, e.2.2.2.2.2.1, e.2.2.2.2.2.2.1, e.2.2.2.2.2.2.2.1, ()), (e.2.2.2.2.2.2.2.2.1, e.2.2.2.2.2.2.2.2.2.1, e.2.2.2.2.2.2.2.2.2.2.1, e.2.2.2.2.2.2.2.2.2.2.2.1, e.2.2.2.2.2.2.2.2.2.2.2.2.1, e.2.2.2.2.2.2.2.2.2.2.2.2.2.1, e.2.2.2.2.2.2.2.2.2.2.2.2.2.2, ()), ()))) (fun _ _ _ => rfl) (fun _ => rfl) (fun m z E Xc hE hX hrec hx => leaf_of_ev (B := opened_B) (loops := [opened_l3_L N]) (leaves := [opened_l2_h (opened_l2 N m), opened_l2_e0]) (opened_all N) mixed ⟨opened_l3_ok N, trivial⟩ hE hX ⟨hrec, (fun p hp => by obtain rfl := Option.some.inj hp; exact hx), trivial⟩ RetOK.no (fun p => opened_l2_eq N m p.1.2.2.1 p.1.2.2.2.1 p.1.2.2.2.2.1 p.1.2.2.2.2.2.1 p.1.2.2.2.2.2.2.1 p.1.2.2.2.2.2.2.2.1 p.1.2.2.2.2.2.2.2.2.1 p.1.2.2.2.2.2.2.2.2.2.1 p.2.1.1 p.2.1.2.1 p.2.1.2.2.1 p.2.1.2.2.2.1 p.2.1.2.2.2.2.1 p.2.2.1.1 p.2.2.1.2.1 p.2.2.1.2.2.1 p.2.2.1.2.2.2.1 p.2.2.1.2.2.2.2.1 p.2.2.1.2.2.2.2.2.1 p.2.2.1.2.2.2.2.2.2.1))
abbrev opened_l1_at : List PI := [.c [1, 1, 1, 0, 1, 0, 0, 0], .c [1, 1, 1, 0, 1, 0, 0, 1], .l [1, 1, 1, 0, 1, 0, 0], .b 0, .c [1, 1, 1, 1]]
abbrev opened_l1_st : Sta := ⟨[1, 5, 21, 22, 23], ⟨[.own 0 0, .own 1 0, shQ, shI, shI], [.segs [shL, shI, shQ, shQ, shL], .segs [shL, shI, shQ, shQ, shL, .arr (.int .i64) 36, .arr (.int .i64) 36]]⟩⟩
abbrev opened_l1_h (rec : Ll → Int → Int → Li → Int → Ll → Ll → Li → Li → Int → Ll → Ll → Li → Li → Li → Option (Li × Int × Ll × Ll × Li × Li × Li)) : Leaf (Li × Int × Ll × Ll × Li × Li × Li) := ⟨opened_l1_at, opened_l1_st, fun p => rec p.1.2.2.1 p.1.2.2.2.1 p.1.2.2.2.2.1 p.2.1.1 p.2.1.2.1 p.2.1.2.2.1 p.2.1.2.2.2.1 p.2.1.2.2.2.2.1 p.2.2.1.1 p.2.2.1.2.1 p.2.2.1.2.2.1 p.2.2.1.2.2.2.1 p.2.2.1.2.2.2.2.1 p.2.2.1.2.2.2.2.2.1 p.2.2.1.2.2.2.2.2.2.1⟩
abbrev opened_l1_e0 : Leaf (Li × Int × Ll × Ll × Li × Li × Li) := ⟨[.c [1, 1, 1, 1, 0], .c [1, 1, 1, 1, 1]], ⟨[5], ⟨[.own 0 0], [.segs [shL, shI, shQ, shQ, shL, .arr (.int .i64) 36, .arr (.int .i64) 36]]⟩⟩, fun p => some ((p.2.1.1, p.2.1.2.1, p.2.1.2.2.1, p.2.1.2.2.2.1, p.2.1.2.2.2.2.1, p.2.1.2.2.2.2.2.1, p.2.1.2.2.2.2.2.2.1))⟩
noncomputable def opened_l1_L (N : Nat) : LoopS := { at_ := opened_l1_at, sta := opened_l1_st, exits := [([.c [1, 1, 1, 1, 0], .c [1, 1, 1, 1, 1]], ⟨[5], ⟨[.own 0 0], [.segs [shL, shI, shQ, shQ, shL, .arr (.int .i64) 36, .arr (.int .i64) 36]]⟩⟩)], run := fun p k => (opened_l1 N N p.1.2.2.1 p.1.2.2.2.1 p.1.2.2.2.2.1 p.2.1.1 p.2.1.2.1 p.2.1.2.2.1 p.2.1.2.2.2.1 p.2.1.2.2.2.2.1 p.2.2.1.1 p.2.2.1.2.1 p.2.2.1.2.2.1 p.2.2.1.2.2.2.1 p.2.2.1.2.2.2.2.1 p.2.2.1.2.2.2.2.2.1 p.2.2.1.2.2.2.2.2.2.1).bind fun e => k (.inl (((), ()), ((e.1, e.2.1, e.2.2.1, e.2.2.2.1, e.2.2.2.2.1, e.2.2.2.2.2.1, e.2.2.2.2.2.2, ()), ()))) }
theorem opened_l1_eq (N n_ : Nat) (u : Ll) (u2 : Int) (u3 : Int) (d : Li) (d2 : Int) (d3 : Ll) (d4 : Ll) (d5 : Li) (out : Li) (out2 : Int) (out3 : Ll) (out4 : Ll) (out5 : Li) (out6 : Li) (out7 : Li) : ev (Z := Li × Int × Ll × Ll × Li × Li × Li) Try.prog (opened_sp N) opened_B [opened_l3_L N, opened_l2_L N] [opened_l1_h (opened_l1 N n_), opened_l1_e0] none 400 true opened_l1_at (stL opened_l1_st (((), (), u, u2, u3, ()), ((d, d2, d3, d4, d5, ()), (out, out2, out3, out4, out5, out6, out7, ()), ()))) (stH opened_l1_st (((), (), u, u2, u3, ()), ((d, d2, d3, d4, d5, ()), (out, out2, out3, out4, out5, out6, out7, ()), ()))) = opened_l1 N (n_ + 1) u u2 u3 d d2 d3 d4 d5 out out2 out3 out4 out5 out6 out7 := by kernel_rfl
theorem opened_l1_ok (N : Nat) {top : Bool} : LoopOK Try.prog opened_B.c opened_B.n opened_B.m0 top (opened_l1_L N) := loop_of_ev (Z := Li × Int × Ll × Ll × Li × Li × Li) (N := N) (fun m p => opened_l1 N m p.1.2.2.1 p.1.2.2.2.1 p.1.2.2.2.2.1 p.2.1.1 p.2.1.2.1 p.2.1.2.2.1 p.2.1.2.2.2.1 p.2.1.2.2.2.2.1 p.2.2.1.1 p.2.2.1.2.1 p.2.2.1.2.2.1 p.2.2.1.2.2.2.1 p.2.2.1.2.2.2.2.1 p.2.2.1.2.2.2.2.2.1 p.2.2.1.2.2.2.2.2.2.1) (fun e => .inl (((), ()), ((e.1, e.2.1, e.2.2.1, e.2.2.2.1, e.2.2.2.2.1, e.2.2.2.2.2.1, e.2.2.2.2.2.2, ()), ()))) (fun _ _ _ => rfl) (fun _ => rfl) (fun m z E Xc hE hX hrec hx => leaf_of_ev (B := opened_B) (loops := [opened_l3_L N, opened_l2_L N]) (leaves := [opened_l1_h (opened_l1 N m), opened_l1_e0]) (opened_all N) mixed ⟨opened_l3_ok N, opened_l2_ok N, trivial⟩ hE hX ⟨hrec, (fun p hp => by obtain rfl := Option.some.inj hp; exact hx), trivial⟩ RetOK.no (fun p => opened_l1_eq N m p.1.2.2.1 p.1.2.2.2.1 p.1.2.2.2.2.1 p.2.1.1 p.2.1.2.1 p.2.1.2.2.1 p.2.1.2.2.2.1 p.2.1.2.2.2.2.1 p.2.2.1.1 p.2.2.1.2.1 p.2.2.1.2.2.1 p.2.2.1.2.2.2.1 p.2.2.1.2.2.2.2.1 p.2.2.1.2.2.2.2.2.1 p.2.2.1.2.2.2.2.2.2.1))
abbrev opened_st : Sta := ⟨[0], ⟨[shG], []⟩⟩
theorem opened_eq (N : Nat) (d : Li) (d2 : Int) (d3 : Ll) (d4 : Ll) (d5 : Li) : ev (Z := (Dk × Int) ⊕ (Int)) Try.prog (opened_sp N) opened_B [opened_l3_L N, opened_l2_L N, opened_l1_L N] [] (some opened_rt) 400 false [.c [0], .c [1]] (stL opened_st (((d, d2, d3, d4, d5, ()), ()), ())) (stH opened_st (((d, d2, d3, d4, d5, ()), ()), ())) = opened_S N d d2 d3 d4 d5 := by kernel_rfl
noncomputable def sp_opened (N : Nat) : Spec := { f := 72, ins := ⟨[shG], []⟩, outs := [⟨[shD, shI], []⟩, ⟨[.nilp, shI], []⟩], run := fun p k => (opened_S N p.1.1.1 p.1.1.2.1 p.1.1.2.2.1 p.1.1.2.2.2.1 p.1.1.2.2.2.2.1).bind fun r => match r with | .inl r => k (.inl ((r.1, r.2, ()), ())) | .inr r => k (.inr (((), r, ()), ())) }
theorem sp_opened_ok (N : Nat) : SpecOK Try.prog (sp_opened N) := fn_sound (B := opened_B) (loops := [opened_l3_L N, opened_l2_L N, opened_l1_L N]) (leaves := []) (fun p => opened_S N p.1.1.1 p.1.1.2.1 p.1.1.2.2.1 p.1.1.2.2.2.1 p.1.1.2.2.2.2.1) (fun r => match r with | .inl r => (.inl ((r.1, r.2, ()), ())) | .inr r => (.inr (((), r, ()), ()))) opened_rt (fun _ p k => bind_congr_ (opened_S N p.1.1.1 p.1.1.2.1 p.1.1.2.2.1 p.1.1.2.2.2.1 p.1.1.2.2.2.2.1) _ _ (fun e => by rcases e with x | x <;> rfl)) (fun r z h => by rcases r with x | x <;> (cases h; rfl)) Try.func72 (by kernel_rfl) (by kernel_rfl) (by kernel_rfl) rfl rfl (by kernel_rfl) (fun args w => Sem.pv_run _ _ _ (by kernel_rfl) w) (opened_all N) mixed ⟨opened_l3_ok N, opened_l2_ok N, opened_l1_ok N, trivial⟩ (fun z E Xc hE hX hret => trivial) (fun p => opened_eq N p.1.1.1 p.1.1.2.1 p.1.1.2.2.1 p.1.1.2.2.2.1 p.1.1.2.2.2.2.1)

def dlost_S (N : Nat) (d : Dk) (n : Int) : Option Bool :=
  chk ((d.2.2.1.length : Int) - 1) <|
  (in__S N n 0 ((d.2.2.1.length : Int) - 1)).bind fun x_1 =>
  some x_1
noncomputable def dlost_sp (N : Nat) : List Spec := [sp_in_ N]
theorem dlost_all (N : Nat) : AllP (SpecOK Try.prog) (dlost_sp N) := ⟨sp_in__ok N, trivial⟩
noncomputable def dlost_c : Code := (Try.f88.body).getD .skip
noncomputable abbrev dlost_B : Body := { c := dlost_c, n := 14, res := [.tmp 4], outs := [⟨[.b], []⟩], m0 := 0 }
abbrev dlost_rt : altD dlost_B.outs → Option Bool := fun r => some r.1.1
abbrev dlost_st : Sta := ⟨[0, 1], ⟨[shD, shI], []⟩⟩
theorem dlost_eq (N : Nat) (d : Dk) (n : Int) : ev (Z := Bool) Try.prog (dlost_sp N) dlost_B [] [] (some dlost_rt) 400 false [.c [0], .c [1]] (stL dlost_st ((d, n, ()), ())) (stH dlost_st ((d, n, ()), ())) = dlost_S N d n := by kernel_rfl
noncomputable def sp_dlost (N : Nat) : Spec := { f := 88, ins := ⟨[shD, shI], []⟩, outs := [⟨[.b], []⟩], run := fun p k => (dlost_S N p.1.1 p.1.2.1).bind fun r => k ((r, ()), ()) }
theorem sp_dlost_ok (N : Nat) : SpecOK Try.prog (sp_dlost N) := fn_sound (B := dlost_B) (loops := []) (leaves := []) (fun p => dlost_S N p.1.1 p.1.2.1) (fun r => ((r, ()), ())) dlost_rt (fun _ _ _ => rfl) (fun r z h => by cases h; rfl) Try.func88 (by kernel_rfl) (by kernel_rfl) (by kernel_rfl) rfl rfl (by kernel_rfl) (fun args w => Sem.pv_run _ _ _ (by kernel_rfl) w) (dlost_all N) mixed trivial (fun z E Xc hE hX hret => trivial) (fun p => dlost_eq N p.1.1 p.1.2.1)

def dfound_S (N : Nat) (d : Dk) (n : Int) : Option Bool :=
  chk ((d.2.2.2.1.length : Int) - 1) <|
  (in__S N n 0 ((d.2.2.2.1.length : Int) - 1)).bind fun x_1 =>
  some x_1
noncomputable def dfound_sp (N : Nat) : List Spec := [sp_in_ N]
theorem dfound_all (N : Nat) : AllP (SpecOK Try.prog) (dfound_sp N) := ⟨sp_in__ok N, trivial⟩
noncomputable def dfound_c : Code := (Try.f83.body).getD .skip
noncomputable abbrev dfound_B : Body := { c := dfound_c, n := 14, res := [.tmp 4], outs := [⟨[.b], []⟩], m0 := 0 }
abbrev dfound_rt : altD dfound_B.outs → Option Bool := fun r => some r.1.1
abbrev dfound_st : Sta := ⟨[0, 1], ⟨[shD, shI], []⟩⟩
theorem dfound_eq (N : Nat) (d : Dk) (n : Int) : ev (Z := Bool) Try.prog (dfound_sp N) dfound_B [] [] (some dfound_rt) 400 false [.c [0], .c [1]] (stL dfound_st ((d, n, ()), ())) (stH dfound_st ((d, n, ()), ())) = dfound_S N d n := by kernel_rfl
noncomputable def sp_dfound (N : Nat) : Spec := { f := 83, ins := ⟨[shD, shI], []⟩, outs := [⟨[.b], []⟩], run := fun p k => (dfound_S N p.1.1 p.1.2.1).bind fun r => k ((r, ()), ()) }
theorem sp_dfound_ok (N : Nat) : SpecOK Try.prog (sp_dfound N) := fn_sound (B := dfound_B) (loops := []) (leaves := []) (fun p => dfound_S N p.1.1 p.1.2.1) (fun r => ((r, ()), ())) dfound_rt (fun _ _ _ => rfl) (fun r z h => by cases h; rfl) Try.func83 (by kernel_rfl) (by kernel_rfl) (by kernel_rfl) rfl rfl (by kernel_rfl) (fun args w => Sem.pv_run _ _ _ (by kernel_rfl) w) (dfound_all N) mixed trivial (fun z E Xc hE hX hret => trivial) (fun p => dfound_eq N p.1.1 p.1.2.1)

def can_S (N : Nat) (d : Dk) (lost : Int) (found : Int) : Option Bool :=
  rng lost 6 <|
  rng found 6 <|
  get d.2.2.2.2.2.1 ((lost.toNat * 6) + found.toNat) fun x_1 =>
  br (decide (0 < x_1))
    (rng lost 6 <|
    rng found 6 <|
    get d.2.2.2.2.2.2.1 ((lost.toNat * 6) + found.toNat) fun x_2 =>
    some (decide (x_2 ≤ d.2.1)))
    (some false)
noncomputable def can_sp (N : Nat) : List Spec := []
theorem can_all (N : Nat) : AllP (SpecOK Try.prog) (can_sp N) := trivial
noncomputable def can_c : Code := (Try.f111.body).getD .skip
noncomputable abbrev can_B : Body := { c := can_c, n := 32, res := [.tmp 6], outs := [⟨[.b], []⟩], m0 := 0 }
abbrev can_rt : altD can_B.outs → Option Bool := fun r => some r.1.1
abbrev can_st : Sta := ⟨[0, 1, 2], ⟨[shD, shI, shI], []⟩⟩
theorem can_eq (N : Nat) (d : Dk) (lost : Int) (found : Int) : ev (Z := Bool) Try.prog (can_sp N) can_B [] [] (some can_rt) 400 false [.c [0], .c [1]] (stL can_st ((d, lost, found, ()), ())) (stH can_st ((d, lost, found, ()), ())) = can_S N d lost found := by kernel_rfl
noncomputable def sp_can (N : Nat) : Spec := { f := 111, ins := ⟨[shD, shI, shI], []⟩, outs := [⟨[.b], []⟩], run := fun p k => (can_S N p.1.1 p.1.2.1 p.1.2.2.1).bind fun r => k ((r, ()), ()) }
theorem sp_can_ok (N : Nat) : SpecOK Try.prog (sp_can N) := fn_sound (B := can_B) (loops := []) (leaves := []) (fun p => can_S N p.1.1 p.1.2.1 p.1.2.2.1) (fun r => ((r, ()), ())) can_rt (fun _ _ _ => rfl) (fun r z h => by cases h; rfl) Try.func111 (by kernel_rfl) (by kernel_rfl) (by kernel_rfl) rfl rfl (by kernel_rfl) (fun args w => Sem.pv_run _ _ _ (by kernel_rfl) w) (can_all N) mixed trivial (fun z E Xc hE hX hret => trivial) (fun p => can_eq N p.1.1 p.1.2.1 p.1.2.2.1)

def indexi_l1 (N : Nat) : Nat → Li → Int → Int → Int → Option ((Int) ⊕ (Unit))
  | 0, _, _, _, _ => none
  | n_ + 1, s, v, u, u2 =>
    br (decide (u2 < u))
      (idx s u2 fun x_1 =>
      br (decide (v = x_1))
        (some (.inl u2))
        (chk (u2 + 1) <|
        indexi_l1 N n_ s v u (u2 + 1)))
      (some (.inr ()))
def indexi_S (N : Nat) (s : Li) (v : Int) : Option Int :=
  (indexi_l1 N N s v (s.length : Int) 0).bind fun e => match e with
  | .inl i_2 =>
    some i_2
  | .inr _ =>
    some (-1)
noncomputable def indexi_sp (N : Nat) : List Spec := []
theorem indexi_all (N : Nat) : AllP (SpecOK Try.prog) (indexi_sp N) := trivial
noncomputable def indexi_c : Code := (Try.f91.body).getD .skip
noncomputable abbrev indexi_B : Body := { c := indexi_c, n := 19, res := [.tmp 4], outs := [⟨[shI], []⟩], m0 := 0 }
abbrev indexi_rt : altD indexi_B.outs → Option Int := fun r => some r.1.1
abbrev indexi_l1_at : List PI := [.c [1, 0, 1, 0, 0, 0], .c [1, 0, 1, 0, 0, 1], .l [1, 0, 1, 0, 0], .b 0, .c [1, 1]]
abbrev indexi_l1_st : Sta := ⟨[0, 1, 7, 8], ⟨[shL, shI, shI, shI], []⟩⟩
abbrev indexi_l1_h (rec : Li → Int → Int → Int → Option ((Int) ⊕ (Unit))) : Leaf ((Int) ⊕ (Unit)) := ⟨indexi_l1_at, indexi_l1_st, fun p => rec p.1.1 p.1.2.1 p.1.2.2.1 p.1.2.2.2.1⟩
abbrev indexi_l1_e0 : Leaf ((Int) ⊕ (Unit)) := ⟨[.c [1, 0, 1, 0, 0, 1, 1, 0, 0, 1, 1, 0, 0], .c [1, 0, 1, 0, 0, 1, 1, 0, 0, 1, 1, 0, 1], .b 1, .c [1, 0, 1, 0, 0, 1, 1, 1], .l [1, 0, 1, 0, 0], .b 0, .c [1, 1]], ⟨[5], ⟨[shI], []⟩⟩, fun p => some (.inl p.1.1)⟩
abbrev indexi_l1_e1 : Leaf ((Int) ⊕ (Unit)) := ⟨[.c [1, 1, 0], .c [1, 1, 1]], ⟨[], ⟨[], []⟩⟩, fun p => some (.inr ())⟩
noncomputable def indexi_l1_L (N : Nat) : LoopS := { at_ := indexi_l1_at, sta := indexi_l1_st, exits := [([.c [1, 0, 1, 0, 0, 1, 1, 0, 0, 1, 1, 0, 0], .c [1, 0, 1, 0, 0, 1, 1, 0, 0, 1, 1, 0, 1], .b 1, .c [1, 0, 1, 0, 0, 1, 1, 1], .l [1, 0, 1, 0, 0], .b 0, .c [1, 1]], ⟨[5], ⟨[shI], []⟩⟩), ([.c [1, 1, 0], .c [1, 1, 1]], ⟨[], ⟨[], []⟩⟩)], run := fun p k => (indexi_l1 N N p.1.1 p.1.2.1 p.1.2.2.1 p.1.2.2.2.1).bind fun e => match e with | .inl x => k (.inl ((x, ()), ())) | .inr x => k (.inr (.inl ((), ()))) }
theorem indexi_l1_eq (N n_ : Nat) (s : Li) (v : Int) (u : Int) (u2 : Int) : ev (Z := (Int) ⊕ (Unit)) Try.prog (indexi_sp N) indexi_B [] [indexi_l1_h (indexi_l1 N n_), indexi_l1_e0, indexi_l1_e1] none 400 true indexi_l1_at (stL indexi_l1_st ((s, v, u, u2, ()), ())) (stH indexi_l1_st ((s, v, u, u2, ()), ())) = indexi_l1 N (n_ + 1) s v u u2 := by kernel_rfl
theorem indexi_l1_ok (N : Nat) {top : Bool} : LoopOK Try.prog indexi_B.c indexi_B.n indexi_B.m0 top (indexi_l1_L N) := loop_of_ev (Z := (Int) ⊕ (Unit)) (N := N) (fun m p => indexi_l1 N m p.1.1 p.1.2.1 p.1.2.2.1 p.1.2.2.2.1) (fun e => match e with | .inl x => .inl ((x, ()), ()) | .inr x => .inr (.inl ((), ()))) (fun _ p k => bind_congr_ (indexi_l1 N N p.1.1 p.1.2.1 p.1.2.2.1 p.1.2.2.2.1) _ _ (fun e => by rcases e with x | x <;> rfl)) (fun _ => rfl) (fun m z E Xc hE hX hrec hx => leaf_of_ev (B := indexi_B) (loops := []) (leaves := [indexi_l1_h (indexi_l1 N m), indexi_l1_e0, indexi_l1_e1]) (indexi_all N) mixed trivial hE hX ⟨hrec, (fun p hp => by obtain rfl := Option.some.inj hp; exact hx), (fun p hp => by obtain rfl := Option.some.inj hp; exact hx), trivial⟩ RetOK.no (fun p => indexi_l1_eq N m p.1.1 p.1.2.1 p.1.2.2.1 p.1.2.2.2.1))
abbrev indexi_st : Sta := ⟨[0, 1], ⟨[shL, shI], []⟩⟩
theorem indexi_eq (N : Nat) (s : Li) (v : Int) : ev (Z := Int) Try.prog (indexi_sp N) indexi_B [indexi_l1_L N] [] (some indexi_rt) 400 false [.c [0], .c [1]] (stL indexi_st ((s, v, ()), ())) (stH indexi_st ((s, v, ()), ())) = indexi_S N s v := by kernel_rfl
noncomputable def sp_indexi (N : Nat) : Spec := { f := 91, ins := ⟨[shL, shI], []⟩, outs := [⟨[shI], []⟩], run := fun p k => (indexi_S N p.1.1 p.1.2.1).bind fun r => k ((r, ()), ()) }
theorem sp_indexi_ok (N : Nat) : SpecOK Try.prog (sp_indexi N) := fn_sound (B := indexi_B) (loops := [indexi_l1_L N]) (leaves := []) (fun p => indexi_S N p.1.1 p.1.2.1) (fun r => ((r, ()), ())) indexi_rt (fun _ _ _ => rfl) (fun r z h => by cases h; rfl) Try.func91 (by kernel_rfl) (by kernel_rfl) (by kernel_rfl) rfl rfl (by kernel_rfl) (fun args w => Sem.pv_run _ _ _ (by kernel_rfl) w) (indexi_all N) mixed ⟨indexi_l1_ok N, trivial⟩ (fun z E Xc hE hX hret => trivial) (fun p => indexi_eq N p.1.1 p.1.2.1)

def containsi_S (N : Nat) (s : Li) (v : Int) : Option Bool :=
  (indexi_S N s v).bind fun x_1 =>
  some (decide (0 ≤ x_1))
noncomputable def containsi_sp (N : Nat) : List Spec := [sp_indexi N]
theorem containsi_all (N : Nat) : AllP (SpecOK Try.prog) (containsi_sp N) := ⟨sp_indexi_ok N, trivial⟩
noncomputable def containsi_c : Code := (Try.f41.body).getD .skip
noncomputable abbrev containsi_B : Body := { c := containsi_c, n := 9, res := [.tmp 4], outs := [⟨[.b], []⟩], m0 := 0 }
abbrev containsi_rt : altD containsi_B.outs → Option Bool := fun r => some r.1.1
abbrev containsi_st : Sta := ⟨[0, 1], ⟨[shL, shI], []⟩⟩
theorem containsi_eq (N : Nat) (s : Li) (v : Int) : ev (Z := Bool) Try.prog (containsi_sp N) containsi_B [] [] (some containsi_rt) 400 false [.c [0], .c [1]] (stL containsi_st ((s, v, ()), ())) (stH containsi_st ((s, v, ()), ())) = containsi_S N s v := by kernel_rfl
noncomputable def sp_containsi (N : Nat) : Spec := { f := 41, ins := ⟨[shL, shI], []⟩, outs := [⟨[.b], []⟩], run := fun p k => (containsi_S N p.1.1 p.1.2.1).bind fun r => k ((r, ()), ()) }
theorem sp_containsi_ok (N : Nat) : SpecOK Try.prog (sp_containsi N) := fn_sound (B := containsi_B) (loops := []) (leaves := []) (fun p => containsi_S N p.1.1 p.1.2.1) (fun r => ((r, ()), ())) containsi_rt (fun _ _ _ => rfl) (fun r z h => by cases h; rfl) Try.func41 (by kernel_rfl) (by kernel_rfl) (by kernel_rfl) rfl rfl (by kernel_rfl) (fun args w => Sem.pv_run _ _ _ (by kernel_rfl) w) (containsi_all N) mixed trivial (fun z E Xc hE hX hret => trivial) (fun p => containsi_eq N p.1.1 p.1.2.1)

def dworth_j1 (N : Nat) (rec : Dk → Li → Int → Int → Li → Option Li) (d : Dk) (u : Li) (u2 : Int) (u3 : Int) (l : Li) : Option Li :=
  chk (u3 + 1) <|
  rec d u u2 (u3 + 1) l
def dworth_l1 (N : Nat) : Nat → Dk → Li → Int → Int → Li → Option Li
  | 0, _, _, _, _, _ => none
  | n_ + 1, d, u, u2, u3, l =>
    br (decide (u3 < u2))
      (idx u u3 fun x_1 =>
      br (!decide (x_1 = -1))
        (rng u3 6 <|
        rng x_1 6 <|
        get d.2.2.2.2.2.1 ((u3.toNat * 6) + x_1.toNat) fun x_2 =>
        lim (l.length + [x_2].length) <|
        dworth_j1 N (dworth_l1 N n_) d u u2 u3 (l ++ [x_2]))
        (dworth_j1 N (dworth_l1 N n_) d u u2 u3 l))
      (some (l))
def dworth_S (N : Nat) (d : Dk) (joins : Li) : Option Int :=
  (dworth_l1 N N d joins (joins.length : Int) 0 []).bind fun l_3 =>
  (sum_S N l_3).bind fun x_4 =>
  some x_4
noncomputable def dworth_sp (N : Nat) : List Spec := [sp_sum N]
theorem dworth_all (N : Nat) : AllP (SpecOK Try.prog) (dworth_sp N) := ⟨sp_sum_ok N, trivial⟩
noncomputable def dworth_c : Code := (Try.f75.body).getD .skip
noncomputable abbrev dworth_B : Body := { c := dworth_c, n := 31, res := [.tmp 4], outs := [⟨[shI], []⟩], m0 := 0 }
abbrev dworth_rt : altD dworth_B.outs → Option Int := fun r => some r.1.1
abbrev dworth_l1_at : List PI := [.c [1, 1, 0, 1, 0, 0, 0], .c [1, 1, 0, 1, 0, 0, 1], .l [1, 1, 0, 1, 0, 0], .b 0, .c [1, 1, 1]]
abbrev dworth_l1_st : Sta := ⟨[0, 5, 8, 9, 10], ⟨[shD, .ols 0, shL, shI, shI], [.lst (.int .i64)]⟩⟩
abbrev dworth_l1_h (rec : Dk → Li → Int → Int → Li → Option Li) : Leaf Li := ⟨dworth_l1_at, dworth_l1_st, fun p => rec p.1.1 p.1.2.2.1 p.1.2.2.2.1 p.1.2.2.2.2.1 p.2.1⟩
abbrev dworth_l1_e0 : Leaf Li := ⟨[.c [1, 1, 1, 0], .c [1, 1, 1, 1]], ⟨[5], ⟨[.ols 0], [.lst (.int .i64)]⟩⟩, fun p => some (p.2.1)⟩
abbrev dworth_j1_at : List PI := [.c [1, 1, 0, 1, 0, 0, 1, 1, 1], .l [1, 1, 0, 1, 0, 0], .b 0, .c [1, 1, 1]]
abbrev dworth_j1_st : Sta := ⟨[0, 5, 8, 9, 10], ⟨[shD, .ols 0, shL, shI, shI], [.lst (.int .i64)]⟩⟩
abbrev dworth_j1_k (N : Nat) (rec : Dk → Li → Int → Int → Li → Option Li) : Leaf Li := ⟨dworth_j1_at, dworth_j1_st, fun p => dworth_j1 N rec p.1.1 p.1.2.2.1 p.1.2.2.2.1 p.1.2.2.2.2.1 p.2.1⟩
theorem dworth_j1_eq (N : Nat) (rec : Dk → Li → Int → Int → Li → Option Li) (d : Dk) (u : Li) (u2 : Int) (u3 : Int) (l : Li) : ev (Z := Li) Try.prog (dworth_sp N) dworth_B [] [dworth_l1_h rec, dworth_l1_e0] none 400 true dworth_j1_at (stL dworth_j1_st ((d, (), u, u2, u3, ()), (l, ()))) (stH dworth_j1_st ((d, (), u, u2, u3, ()), (l, ()))) = dworth_j1 N rec d u u2 u3 l := by kernel_rfl
theorem dworth_j1_lf (N : Nat) (rec : Dk → Li → Int → Int → Li → Option Li) {z : Li} {top : Bool} {E : EE} {Xc : Ctx} (hE : EOK dworth_B.m0 E) (hX : CxOK top Xc) (hrec : LeafOK Try.prog dworth_B.c dworth_B.n dworth_B.m0 E Xc z (dworth_l1_h rec)) (h0 : LeafOK Try.prog dworth_B.c dworth_B.n dworth_B.m0 E Xc z dworth_l1_e0) : LeafOK Try.prog dworth_B.c dworth_B.n dworth_B.m0 E Xc z (dworth_j1_k N rec) := leaf_of_ev (B := dworth_B) (loops := []) (leaves := [dworth_l1_h rec, dworth_l1_e0]) (dworth_all N) mixed trivial hE hX ⟨hrec, h0, trivial⟩ RetOK.no (fun p => dworth_j1_eq N rec p.1.1 p.1.2.2.1 p.1.2.2.2.1 p.1.2.2.2.2.1 p.2.1)
noncomputable def dworth_l1_L (N : Nat) : LoopS := { at_ := dworth_l1_at, sta := dworth_l1_st, exits := [([.c [1, 1, 1, 0], .c [1, 1, 1, 1]], ⟨[5], ⟨[.ols 0], [.lst (.int .i64)]⟩⟩)], run := fun p k => (dworth_l1 N N p.1.1 p.1.2.2.1 p.1.2.2.2.1 p.1.2.2.2.2.1 p.2.1).bind fun e => k (.inl (((), ()), (e, ()))) }
theorem dworth_l1_eq (N n_ : Nat) (d : Dk) (u : Li) (u2 : Int) (u3 : Int) (l : Li) : ev (Z := Li) Try.prog (dworth_sp N) dworth_B [] [dworth_l1_h (dworth_l1 N n_), dworth_l1_e0, dworth_j1_k N (dworth_l1 N n_)] none 400 true dworth_l1_at (stL dworth_l1_st ((d, (), u, u2, u3, ()), (l, ()))) (stH dworth_l1_st ((d, (), u, u2, u3, ()), (l, ()))) = dworth_l1 N (n_ + 1) d u u2 u3 l := by kernel_rfl
theorem dworth_l1_ok (N : Nat) {top : Bool} : LoopOK Try.prog dworth_B.c dworth_B.n dworth_B.m0 top (dworth_l1_L N) := loop_of_ev (Z := Li) (N := N) (fun m p => dworth_l1 N m p.1.1 p.1.2.2.1 p.1.2.2.2.1 p.1.2.2.2.2.1 p.2.1) (fun e => .inl (((), ()), (e, ()))) (fun _ _ _ => rfl) (fun _ => rfl) (fun m z E Xc hE hX hrec hx => leaf_of_ev (B := dworth_B) (loops := []) (leaves := [dworth_l1_h (dworth_l1 N m), dworth_l1_e0, dworth_j1_k N (dworth_l1 N m)]) (dworth_all N) mixed trivial hE hX ⟨hrec, (fun p hp => by obtain rfl := Option.some.inj hp; exact hx), dworth_j1_lf N _ hE hX hrec (fun p hp => by obtain rfl := Option.some.inj hp; exact hx), trivial⟩ RetOK.no (fun p => dworth_l1_eq N m p.1.1 p.1.2.2.1 p.1.2.2.2.1 p.1.2.2.2.2.1 p.2.1))
abbrev dworth_st : Sta := ⟨[0, 1], ⟨[shD, shL], []⟩⟩
theorem dworth_eq (N : Nat) (d : Dk) (joins : Li) : ev (Z := Int) Try.prog (dworth_sp N) dworth_B [dworth_l1_L N] [] (some dworth_rt) 400 false [.c [0], .c [1]] (stL dworth_st ((d, joins, ()), ())) (stH dworth_st ((d, joins, ()), ())) = dworth_S N d joins := by kernel_rfl
noncomputable def sp_dworth (N : Nat) : Spec := { f := 75, ins := ⟨[shD, shL], []⟩, outs := [⟨[shI], []⟩], run := fun p k => (dworth_S N p.1.1 p.1.2.1).bind fun r => k ((r, ()), ()) }
theorem sp_dworth_ok (N : Nat) : SpecOK Try.prog (sp_dworth N) := fn_sound (B := dworth_B) (loops := [dworth_l1_L N]) (leaves := []) (fun p => dworth_S N p.1.1 p.1.2.1) (fun r => ((r, ()), ())) dworth_rt (fun _ _ _ => rfl) (fun r z h => by cases h; rfl) Try.func75 (by kernel_rfl) (by kernel_rfl) (by kernel_rfl) rfl rfl (by kernel_rfl) (fun args w => Sem.pv_run _ _ _ (by kernel_rfl) w) (dworth_all N) mixed ⟨dworth_l1_ok N, trivial⟩ (fun z E Xc hE hX hret => trivial) (fun p => dworth_eq N p.1.1 p.1.2.1)

def joined1_S (N : Nat) (k : Int) (u : Dk) : Option Bool :=
  br (decide (k = -1))
    (some true)
    ((dfound_S N u k).bind fun x_1 =>
    some x_1)
noncomputable def joined1_sp (N : Nat) : List Spec := [sp_dfound N]
theorem joined1_all (N : Nat) : AllP (SpecOK Try.prog) (joined1_sp N) := ⟨sp_dfound_ok N, trivial⟩
noncomputable def joined1_c : Code := (Try.f116.body).getD .skip
noncomputable abbrev joined1_B : Body := { c := joined1_c, n := 11, res := [.tmp 3], outs := [⟨[.b], []⟩], m0 := 0 }
abbrev joined1_rt : altD joined1_B.outs → Option Bool := fun r => some r.1.1
abbrev joined1_st : Sta := ⟨[0, 1], ⟨[shI, .fz [shD]], []⟩⟩
theorem joined1_eq (N : Nat) (k : Int) (u : Dk) : ev (Z := Bool) Try.prog (joined1_sp N) joined1_B [] [] (some joined1_rt) 400 false [.c [0], .c [1]] (stL joined1_st ((k, (u, ()), ()), ())) (stH joined1_st ((k, (u, ()), ()), ())) = joined1_S N k u := by kernel_rfl
noncomputable def sp_joined1 (N : Nat) : Spec := { f := 116, ins := ⟨[shI, .fz [shD]], []⟩, outs := [⟨[.b], []⟩], run := fun p k => (joined1_S N p.1.1 p.1.2.1.1).bind fun r => k ((r, ()), ()) }
theorem sp_joined1_ok (N : Nat) : SpecOK Try.prog (sp_joined1 N) := fn_sound (B := joined1_B) (loops := []) (leaves := []) (fun p => joined1_S N p.1.1 p.1.2.1.1) (fun r => ((r, ()), ())) joined1_rt (fun _ _ _ => rfl) (fun r z h => by cases h; rfl) Try.func116 (by kernel_rfl) (by kernel_rfl) (by kernel_rfl) rfl rfl (by kernel_rfl) (fun args w => Sem.pv_run _ _ _ (by kernel_rfl) w) (joined1_all N) mixed trivial (fun z E Xc hE hX hret => trivial) (fun p => joined1_eq N p.1.1 p.1.2.1.1)

def every1j_S (N : Nat) (x : Int) (g : Dk) : Option (Bool × Dk) :=
  (joined1_S N x g).bind fun x_1 =>
  some ((!x_1), g)
noncomputable def every1j_sp (N : Nat) : List Spec := [sp_joined1 N]
theorem every1j_all (N : Nat) : AllP (SpecOK Try.prog) (every1j_sp N) := ⟨sp_joined1_ok N, trivial⟩
noncomputable def every1j_c : Code := (Try.f122.body).getD .skip
noncomputable abbrev every1j_B : Body := { c := every1j_c, n := 8, res := [.tmp 3], outs := [⟨[.b], [.segs [.fn 116 [] [.fz [shD]]]]⟩], m0 := 1 }
abbrev every1j_rt : altD every1j_B.outs → Option (Bool × Dk) := fun r => some (r.1.1, r.2.1.1.2.1.1)
abbrev every1j_st : Sta := ⟨[0, 1], ⟨[shI, .own 0 0], [.segs [.fn 116 [] [.fz [shD]]]]⟩⟩
theorem every1j_eq (N : Nat) (x : Int) (g : Dk) : ev (Z := Bool × Dk) Try.prog (every1j_sp N) every1j_B [] [] (some every1j_rt) 400 false [.c [0], .c [1]] (stL every1j_st ((x, (), ()), ((((), ((g, ()), ())), ()), ()))) (stH every1j_st ((x, (), ()), ((((), ((g, ()), ())), ()), ()))) = every1j_S N x g := by kernel_rfl
noncomputable def sp_every1j (N : Nat) : Spec := { f := 122, ins := ⟨[shI, .own 0 0], [.segs [.fn 116 [] [.fz [shD]]]]⟩, outs := [⟨[.b], [.segs [.fn 116 [] [.fz [shD]]]]⟩], run := fun p k => (every1j_S N p.1.1 p.2.1.1.2.1.1).bind fun r => k ((r.1, ()), ((((), ((r.2, ()), ())), ()), ())) }
theorem sp_every1j_ok (N : Nat) : SpecOK Try.prog (sp_every1j N) := fn_sound (B := every1j_B) (loops := []) (leaves := []) (fun p => every1j_S N p.1.1 p.2.1.1.2.1.1) (fun r => ((r.1, ()), ((((), ((r.2, ()), ())), ()), ()))) every1j_rt (fun _ _ _ => rfl) (fun r z h => by cases h; rfl) Try.func122 (by kernel_rfl) (by kernel_rfl) (by kernel_rfl) rfl rfl (by kernel_rfl) (fun args w => Sem.pv_run _ _ _ (by kernel_rfl) w) (every1j_all N) mixed trivial (fun z E Xc hE hX hret => trivial) (fun p => every1j_eq N p.1.1 p.2.1.1.2.1.1)

def ixfj_l1 (N : Nat) : Nat → Li → Int → Int → Dk → Option ((Int × Dk) ⊕ (Dk))
  | 0, _, _, _, _ => none
  | n_ + 1, s, u, u2, f =>
    br (decide (u2 < u))
      (idx s u2 fun x_1 =>
      (every1j_S N x_1 f).bind fun (x_2, y_3) =>
      br x_2
        (some (.inl (u2, y_3)))
        (chk (u2 + 1) <|
        ixfj_l1 N n_ s u (u2 + 1) y_3))
      (some (.inr f))
def ixfj_S (N : Nat) (s : Li) (f : Dk) : Option (Int × Dk) :=
  (ixfj_l1 N N s (s.length : Int) 0 f).bind fun e => match e with
  | .inl (i_4, g_5) =>
    some (i_4, g_5)
  | .inr g_6 =>
    some (-1, g_6)
noncomputable def ixfj_sp (N : Nat) : List Spec := [sp_every1j N]
theorem ixfj_all (N : Nat) : AllP (SpecOK Try.prog) (ixfj_sp N) := ⟨sp_every1j_ok N, trivial⟩
noncomputable def ixfj_c : Code := (Try.f130.body).getD .skip
noncomputable abbrev ixfj_B : Body := { c := ixfj_c, n := 19, res := [.tmp 4], outs := [⟨[shI], [.segs [.fn 116 [] [.fz [shD]]]]⟩], m0 := 1 }
abbrev ixfj_rt : altD ixfj_B.outs → Option (Int × Dk) := fun r => some (r.1.1, r.2.1.1.2.1.1)
abbrev ixfj_l1_at : List PI := [.c [1, 0, 1, 0, 0, 0], .c [1, 0, 1, 0, 0, 1], .l [1, 0, 1, 0, 0], .b 0, .c [1, 1]]
abbrev ixfj_l1_st : Sta := ⟨[0, 1, 7, 8], ⟨[shL, .fn 122 [] [.own 0 0], shI, shI], [.segs [.fn 116 [] [.fz [shD]]]]⟩⟩
abbrev ixfj_l1_h (rec : Li → Int → Int → Dk → Option ((Int × Dk) ⊕ (Dk))) : Leaf ((Int × Dk) ⊕ (Dk)) := ⟨ixfj_l1_at, ixfj_l1_st, fun p => rec p.1.1 p.1.2.2.1 p.1.2.2.2.1 p.2.1.1.2.1.1⟩
abbrev ixfj_l1_e0 : Leaf ((Int × Dk) ⊕ (Dk)) := ⟨[.c [1, 0, 1, 0, 0, 1, 1, 0, 0, 1, 1, 0, 0], .c [1, 0, 1, 0, 0, 1, 1, 0, 0, 1, 1, 0, 1], .b 1, .c [1, 0, 1, 0, 0, 1, 1, 1], .l [1, 0, 1, 0, 0], .b 0, .c [1, 1]], ⟨[5], ⟨[shI], [.segs [.fn 116 [] [.fz [shD]]]]⟩⟩, fun p => some (.inl (p.1.1, p.2.1.1.2.1.1))⟩
abbrev ixfj_l1_e1 : Leaf ((Int × Dk) ⊕ (Dk)) := ⟨[.c [1, 1, 0], .c [1, 1, 1]], ⟨[], ⟨[], [.segs [.fn 116 [] [.fz [shD]]]]⟩⟩, fun p => some (.inr p.2.1.1.2.1.1)⟩
noncomputable def ixfj_l1_L (N : Nat) : LoopS := { at_ := ixfj_l1_at, sta := ixfj_l1_st, exits := [([.c [1, 0, 1, 0, 0, 1, 1, 0, 0, 1, 1, 0, 0], .c [1, 0, 1, 0, 0, 1, 1, 0, 0, 1, 1, 0, 1], .b 1, .c [1, 0, 1, 0, 0, 1, 1, 1], .l [1, 0, 1, 0, 0], .b 0, .c [1, 1]], ⟨[5], ⟨[shI], [.segs [.fn 116 [] [.fz [shD]]]]⟩⟩), ([.c [1, 1, 0], .c [1, 1, 1]], ⟨[], ⟨[], [.segs [.fn 116 [] [.fz [shD]]]]⟩⟩)], run := fun p k => (ixfj_l1 N N p.1.1 p.1.2.2.1 p.1.2.2.2.1 p.2.1.1.2.1.1).bind fun e => match e with | .inl x => k (.inl ((x.1, ()), ((((), ((x.2, ()), ())), ()), ()))) | .inr x => k (.inr (.inl ((), ((((), ((x, ()), ())), ()), ())))) }
theorem ixfj_l1_eq (N n_ : Nat) (s : Li) (u : Int) (u2 : Int) (f : Dk) : ev (Z := (Int × Dk) ⊕ (Dk)) Try.prog (ixfj_sp N) ixfj_B [] [ixfj_l1_h (ixfj_l1 N n_), ixfj_l1_e0, ixfj_l1_e1] none 400 true ixfj_l1_at (stL ixfj_l1_st ((s, ((), ((), ())), u, u2, ()), ((((), ((f, ()), ())), ()), ()))) (stH ixfj_l1_st ((s, ((), ((), ())), u, u2, ()), ((((), ((f, ()), ())), ()), ()))) = ixfj_l1 N (n_ + 1) s u u2 f := by kernel_rfl
theorem ixfj_l1_ok (N : Nat) {top : Bool} : LoopOK Try.prog ixfj_B.c ixfj_B.n ixfj_B.m0 top (ixfj_l1_L N) := loop_of_ev (Z := (Int × Dk) ⊕ (Dk)) (N := N) (fun m p => ixfj_l1 N m p.1.1 p.1.2.2.1 p.1.2.2.2.1 p.2.1.1.2.1.1) (fun e => match e with | .inl x => .inl ((x.1, ()), ((((), ((x.2, ()), ())), ()), ())) | .inr x => .inr (.inl ((), ((((), ((x, ()), ())), ()), ())))) (fun _ p k => bind_congr_ (ixfj_l1 N N p.1.1 p.1.2.2.1 p.1.2.2.2.1 p.2.1.1.2.1.1) _ _ (fun e => by rcases e with x | x <;> rfl)) (fun _ => rfl) (fun m z E Xc hE hX hrec hx => leaf_of_ev (B := ixfj_B) (loops := []) (leaves := [ixfj_l1_h (ixfj_l1 N m), ixfj_l1_e0, ixfj_l1_e1]) (ixfj_all N) mixed trivial hE hX ⟨hrec, (fun p hp => by obtain rfl := Option.some.inj hp; exact hx), (fun p hp => by obtain rfl := Option.some.inj hp; exact hx), trivial⟩ RetOK.no (fun p => ixfj_l1_eq N m p.1.1 p.1.2.2.1 p.1.2.2.2.1 p.2.1.1.2.1.1))
abbrev ixfj_st : Sta := ⟨[0, 1], ⟨[shL, .fn 122 [] [.own 0 0]], [.segs [.fn 116 [] [.fz [shD]]]]⟩⟩
theorem ixfj_eq (N : Nat) (s : Li) (f : Dk) : ev (Z := Int × Dk) Try.prog (ixfj_sp N) ixfj_B [ixfj_l1_L N] [] (some ixfj_rt) 400 false [.c [0], .c [1]] (stL ixfj_st ((s, ((), ((), ())), ()), ((((), ((f, ()), ())), ()), ()))) (stH ixfj_st ((s, ((), ((), ())), ()), ((((), ((f, ()), ())), ()), ()))) = ixfj_S N s f := by kernel_rfl
noncomputable def sp_ixfj (N : Nat) : Spec := { f := 130, ins := ⟨[shL, .fn 122 [] [.own 0 0]], [.segs [.fn 116 [] [.fz [shD]]]]⟩, outs := [⟨[shI], [.segs [.fn 116 [] [.fz [shD]]]]⟩], run := fun p k => (ixfj_S N p.1.1 p.2.1.1.2.1.1).bind fun r => k ((r.1, ()), ((((), ((r.2, ()), ())), ()), ())) }
theorem sp_ixfj_ok (N : Nat) : SpecOK Try.prog (sp_ixfj N) := fn_sound (B := ixfj_B) (loops := [ixfj_l1_L N]) (leaves := []) (fun p => ixfj_S N p.1.1 p.2.1.1.2.1.1) (fun r => ((r.1, ()), ((((), ((r.2, ()), ())), ()), ()))) ixfj_rt (fun _ _ _ => rfl) (fun r z h => by cases h; rfl) Try.func130 (by kernel_rfl) (by kernel_rfl) (by kernel_rfl) rfl rfl (by kernel_rfl) (fun args w => Sem.pv_run _ _ _ (by kernel_rfl) w) (ixfj_all N) mixed ⟨ixfj_l1_ok N, trivial⟩ (fun z E Xc hE hX hret => trivial) (fun p => ixfj_eq N p.1.1 p.2.1.1.2.1.1)

def cofj_S (N : Nat) (s : Li) (f : Dk) : Option (Bool × Dk) :=
  (ixfj_S N s f).bind fun (x_1, y_2) =>
  some ((decide (0 ≤ x_1)), y_2)
noncomputable def cofj_sp (N : Nat) : List Spec := [sp_ixfj N]
theorem cofj_all (N : Nat) : AllP (SpecOK Try.prog) (cofj_sp N) := ⟨sp_ixfj_ok N, trivial⟩
noncomputable def cofj_c : Code := (Try.f121.body).getD .skip
noncomputable abbrev cofj_B : Body := { c := cofj_c, n := 9, res := [.tmp 4], outs := [⟨[.b], [.segs [.fn 116 [] [.fz [shD]]]]⟩], m0 := 1 }
abbrev cofj_rt : altD cofj_B.outs → Option (Bool × Dk) := fun r => some (r.1.1, r.2.1.1.2.1.1)
abbrev cofj_st : Sta := ⟨[0, 1], ⟨[shL, .fn 122 [] [.own 0 0]], [.segs [.fn 116 [] [.fz [shD]]]]⟩⟩
theorem cofj_eq (N : Nat) (s : Li) (f : Dk) : ev (Z := Bool × Dk) Try.prog (cofj_sp N) cofj_B [] [] (some cofj_rt) 400 false [.c [0], .c [1]] (stL cofj_st ((s, ((), ((), ())), ()), ((((), ((f, ()), ())), ()), ()))) (stH cofj_st ((s, ((), ((), ())), ()), ((((), ((f, ()), ())), ()), ()))) = cofj_S N s f := by kernel_rfl
noncomputable def sp_cofj (N : Nat) : Spec := { f := 121, ins := ⟨[shL, .fn 122 [] [.own 0 0]], [.segs [.fn 116 [] [.fz [shD]]]]⟩, outs := [⟨[.b], [.segs [.fn 116 [] [.fz [shD]]]]⟩], run := fun p k => (cofj_S N p.1.1 p.2.1.1.2.1.1).bind fun r => k ((r.1, ()), ((((), ((r.2, ()), ())), ()), ())) }
theorem sp_cofj_ok (N : Nat) : SpecOK Try.prog (sp_cofj N) := fn_sound (B := cofj_B) (loops := []) (leaves := []) (fun p => cofj_S N p.1.1 p.2.1.1.2.1.1) (fun r => ((r.1, ()), ((((), ((r.2, ()), ())), ()), ()))) cofj_rt (fun _ _ _ => rfl) (fun r z h => by cases h; rfl) Try.func121 (by kernel_rfl) (by kernel_rfl) (by kernel_rfl) rfl rfl (by kernel_rfl) (fun args w => Sem.pv_run _ _ _ (by kernel_rfl) w) (cofj_all N) mixed trivial (fun z E Xc hE hX hret => trivial) (fun p => cofj_eq N p.1.1 p.2.1.1.2.1.1)

def everyj_S (N : Nat) (l : Li) (holds : Dk) : Option Bool :=
  (cofj_S N l holds).bind fun (x_1, y_2) =>
  some (!x_1)
noncomputable def everyj_sp (N : Nat) : List Spec := [sp_cofj N]
theorem everyj_all (N : Nat) : AllP (SpecOK Try.prog) (everyj_sp N) := ⟨sp_cofj_ok N, trivial⟩
noncomputable def everyj_c : Code := (Try.f94.body).getD .skip
noncomputable abbrev everyj_B : Body := { c := everyj_c, n := 9, res := [.tmp 4], outs := [⟨[.b], []⟩], m0 := 0 }
abbrev everyj_rt : altD everyj_B.outs → Option Bool := fun r => some r.1.1
abbrev everyj_st : Sta := ⟨[0, 1], ⟨[shL, .fn 116 [] [.fz [shD]]], []⟩⟩
theorem everyj_eq (N : Nat) (l : Li) (holds : Dk) : ev (Z := Bool) Try.prog (everyj_sp N) everyj_B [] [] (some everyj_rt) 400 false [.c [0], .c [1]] (stL everyj_st ((l, ((), ((holds, ()), ())), ()), ())) (stH everyj_st ((l, ((), ((holds, ()), ())), ()), ())) = everyj_S N l holds := by kernel_rfl
noncomputable def sp_everyj (N : Nat) : Spec := { f := 94, ins := ⟨[shL, .fn 116 [] [.fz [shD]]], []⟩, outs := [⟨[.b], []⟩], run := fun p k => (everyj_S N p.1.1 p.1.2.1.2.1.1).bind fun r => k ((r, ()), ()) }
theorem sp_everyj_ok (N : Nat) : SpecOK Try.prog (sp_everyj N) := fn_sound (B := everyj_B) (loops := []) (leaves := []) (fun p => everyj_S N p.1.1 p.1.2.1.2.1.1) (fun r => ((r, ()), ())) everyj_rt (fun _ _ _ => rfl) (fun r z h => by cases h; rfl) Try.func94 (by kernel_rfl) (by kernel_rfl) (by kernel_rfl) rfl rfl (by kernel_rfl) (fun args w => Sem.pv_run _ _ _ (by kernel_rfl) w) (everyj_all N) mixed trivial (fun z E Xc hE hX hret => trivial) (fun p => everyj_eq N p.1.1 p.1.2.1.2.1.1)

def joined_l1 (N : Nat) : Nat → Li → Li → Int → Int → Dk → Option ((Unit) ⊕ (Li × Dk))
  | 0, _, _, _, _, _ => none
  | n_ + 1, joins, u, u2, u3, x =>
    br (decide (u3 < u2))
      (idx u u3 fun x_4 =>
      br (!decide (x_4 = -1))
        (grd (decide ((0 : Int) ≤ u3 ∧ u3 ≤ (joins.length : Int))) <|
        (containsi_S N (joins.take u3.toNat) x_4).bind fun x_5 =>
        br x_5
          (some (.inl ()))
          (chk (u3 + 1) <|
          joined_l1 N n_ joins u u2 (u3 + 1) x))
        (chk (u3 + 1) <|
        joined_l1 N n_ joins u u2 (u3 + 1) x))
      (some (.inr (joins, x)))
def joined_l2 (N : Nat) : Nat → Li → Int → Int → Dk → Option ((Unit) ⊕ (Dk))
  | 0, _, _, _, _ => none
  | n_ + 1, u, u2, u3, x =>
    br (decide (u3 < u2))
      (idx u u3 fun x_8 =>
      br (!decide (x_8 = -1))
        ((can_S N x u3 x_8).bind fun x_9 =>
        br (!x_9)
          (some (.inl ()))
          (chk (u3 + 1) <|
          joined_l2 N n_ u u2 (u3 + 1) x))
        (chk (u3 + 1) <|
        joined_l2 N n_ u u2 (u3 + 1) x))
      (some (.inr x))
def joined_S (N : Nat) (d : Li) (d2 : Int) (d3 : Ll) (d4 : Ll) (d5 : Li) (joins : Li) : Option ((Dk × Int) ⊕ (Int)) :=
  ((opened_S N d d2 d3 d4 d5).bind fun e => match e with
  | .inl (x_1, y_2) =>
    (br (!decide (y_2 = 0))
      (some (.inr y_2))
      (br (!decide ((joins.length : Int) = (d3.length : Int)))
        (some (.inr 2))
        ((everyj_S N joins x_1).bind fun x_3 =>
        br (!x_3)
          (some (.inr 1))
          ((joined_l1 N N joins joins (joins.length : Int) 0 x_1).bind fun e => match e with
          | .inl _ =>
            some (.inr 5)
          | .inr (joins_6, x_7) =>
            (joined_l2 N N joins_6 (joins_6.length : Int) 0 x_7).bind fun e => match e with
            | .inl _ =>
              some (.inr 8)
            | .inr x_10 =>
              some (.inl (x_10, 0))))))
  | .inr x_11 =>
    (br (!decide (x_11 = 0))
      (some (.inr x_11))
      (br (!decide ((joins.length : Int) = (d3.length : Int)))
        (some (.inr 2))
        (none))))
noncomputable def joined_sp (N : Nat) : List Spec := [sp_opened N, sp_can N, sp_containsi N, sp_everyj N]
theorem joined_all (N : Nat) : AllP (SpecOK Try.prog) (joined_sp N) := ⟨sp_opened_ok N, sp_can_ok N, sp_containsi_ok N, sp_everyj_ok N, trivial⟩
noncomputable def joined_c : Code := (Try.f76.body).getD .skip
noncomputable abbrev joined_B : Body := { c := joined_c, n := 68, res := [.tmp 4, .tmp 5], outs := [⟨[shD, shI], []⟩, ⟨[.nilp, shI], []⟩], m0 := 0 }
abbrev joined_rt : altD joined_B.outs → Option ((Dk × Int) ⊕ (Int)) := fun r => match r with | .inl r => some (.inl (r.1.1, r.1.2.1)) | .inr r => some (.inr r.1.2.1)
abbrev joined_l1_at : List PI := [.c [1, 1, 1, 0, 1, 0, 0, 0], .c [1, 1, 1, 0, 1, 0, 0, 1], .l [1, 1, 1, 0, 1, 0, 0], .b 1, .c [1, 1, 1, 1]]
abbrev joined_l1_st : Sta := ⟨[1, 6, 33, 34, 35], ⟨[shL, .own 0 0, shL, shI, shI], [.segs [shD]]⟩⟩
abbrev joined_l1_h (rec : Li → Li → Int → Int → Dk → Option ((Unit) ⊕ (Li × Dk))) : Leaf ((Unit) ⊕ (Li × Dk)) := ⟨joined_l1_at, joined_l1_st, fun p => rec p.1.1 p.1.2.2.1 p.1.2.2.2.1 p.1.2.2.2.2.1 p.2.1.1⟩
abbrev joined_l1_e0 : Leaf ((Unit) ⊕ (Li × Dk)) := ⟨[.c [1, 1, 1, 0, 1, 0, 0, 1, 1, 0, 0, 1, 1, 0, 0], .c [1, 1, 1, 0, 1, 0, 0, 1, 1, 0, 0, 1, 1, 0, 1], .b 2, .c [1, 1, 1, 0, 1, 0, 0, 1, 1, 1], .l [1, 1, 1, 0, 1, 0, 0], .b 1, .c [1, 1, 1, 1]], ⟨[], ⟨[], []⟩⟩, fun p => some (.inl ())⟩
abbrev joined_l1_e1 : Leaf ((Unit) ⊕ (Li × Dk)) := ⟨[.c [1, 1, 1, 1, 0, 0], .c [1, 1, 1, 1, 0, 1], .c [1, 1, 1, 1, 1]], ⟨[1, 6], ⟨[shL, .own 0 0], [.segs [shD]]⟩⟩, fun p => some (.inr (p.1.1, p.2.1.1))⟩
noncomputable def joined_l1_L (N : Nat) : LoopS := { at_ := joined_l1_at, sta := joined_l1_st, exits := [([.c [1, 1, 1, 0, 1, 0, 0, 1, 1, 0, 0, 1, 1, 0, 0], .c [1, 1, 1, 0, 1, 0, 0, 1, 1, 0, 0, 1, 1, 0, 1], .b 2, .c [1, 1, 1, 0, 1, 0, 0, 1, 1, 1], .l [1, 1, 1, 0, 1, 0, 0], .b 1, .c [1, 1, 1, 1]], ⟨[], ⟨[], []⟩⟩), ([.c [1, 1, 1, 1, 0, 0], .c [1, 1, 1, 1, 0, 1], .c [1, 1, 1, 1, 1]], ⟨[1, 6], ⟨[shL, .own 0 0], [.segs [shD]]⟩⟩)], run := fun p k => (joined_l1 N N p.1.1 p.1.2.2.1 p.1.2.2.2.1 p.1.2.2.2.2.1 p.2.1.1).bind fun e => match e with | .inl x => k (.inl ((), ())) | .inr x => k (.inr (.inl ((x.1, (), ()), ((x.2, ()), ())))) }
theorem joined_l1_eq (N n_ : Nat) (joins : Li) (u : Li) (u2 : Int) (u3 : Int) (x : Dk) : ev (Z := (Unit) ⊕ (Li × Dk)) Try.prog (joined_sp N) joined_B [] [joined_l1_h (joined_l1 N n_), joined_l1_e0, joined_l1_e1] none 400 true joined_l1_at (stL joined_l1_st ((joins, (), u, u2, u3, ()), ((x, ()), ()))) (stH joined_l1_st ((joins, (), u, u2, u3, ()), ((x, ()), ()))) = joined_l1 N (n_ + 1) joins u u2 u3 x := by kernel_rfl
theorem joined_l1_ok (N : Nat) {top : Bool} : LoopOK Try.prog joined_B.c joined_B.n joined_B.m0 top (joined_l1_L N) := loop_of_ev (Z := (Unit) ⊕ (Li × Dk)) (N := N) (fun m p => joined_l1 N m p.1.1 p.1.2.2.1 p.1.2.2.2.1 p.1.2.2.2.2.1 p.2.1.1) (fun e => match e with | .inl x => .inl ((), ()) | .inr x => .inr (.inl ((x.1, (), ()), ((x.2, ()), ())))) (fun _ p k => bind_congr_ (joined_l1 N N p.1.1 p.1.2.2.1 p.1.2.2.2.1 p.1.2.2.2.2.1 p.2.1.1) _ _ (fun e => by rcases e with x | x <;> rfl)) (fun _ => rfl) (fun m z E Xc hE hX hrec hx => leaf_of_ev (B := joined_B) (loops := []) (leaves := [joined_l1_h (joined_l1 N m), joined_l1_e0, joined_l1_e1]) (joined_all N) mixed trivial hE hX ⟨hrec, (fun p hp => by obtain rfl := Option.some.inj hp; exact hx), (fun p hp => by obtain rfl := Option.some.inj hp; exact hx), trivial⟩ RetOK.no (fun p => joined_l1_eq N m p.1.1 p.1.2.2.1 p.1.2.2.2.1 p.1.2.2.2.2.1 p.2.1.1))
abbrev joined_l2_at : List PI := [.c [1, 1, 1, 1, 0, 1, 0, 0, 0], .c [1, 1, 1, 1, 0, 1, 0, 0, 1], .l [1, 1, 1, 1, 0, 1, 0, 0], .b 3, .c [1, 1, 1, 1, 1]]
abbrev joined_l2_st : Sta := ⟨[6, 50, 51, 52], ⟨[.own 0 0, shL, shI, shI], [.segs [shD]]⟩⟩
abbrev joined_l2_h (rec : Li → Int → Int → Dk → Option ((Unit) ⊕ (Dk))) : Leaf ((Unit) ⊕ (Dk)) := ⟨joined_l2_at, joined_l2_st, fun p => rec p.1.2.1 p.1.2.2.1 p.1.2.2.2.1 p.2.1.1⟩
abbrev joined_l2_e0 : Leaf ((Unit) ⊕ (Dk)) := ⟨[.c [1, 1, 1, 1, 0, 1, 0, 0, 1, 1, 0, 0, 1, 1, 0, 0], .c [1, 1, 1, 1, 0, 1, 0, 0, 1, 1, 0, 0, 1, 1, 0, 1], .b 4, .c [1, 1, 1, 1, 0, 1, 0, 0, 1, 1, 1], .l [1, 1, 1, 1, 0, 1, 0, 0], .b 3, .c [1, 1, 1, 1, 1]], ⟨[], ⟨[], []⟩⟩, fun p => some (.inl ())⟩
abbrev joined_l2_e1 : Leaf ((Unit) ⊕ (Dk)) := ⟨[.c [1, 1, 1, 1, 1, 0], .c [1, 1, 1, 1, 1, 1]], ⟨[6], ⟨[.own 0 0], [.segs [shD]]⟩⟩, fun p => some (.inr p.2.1.1)⟩
noncomputable def joined_l2_L (N : Nat) : LoopS := { at_ := joined_l2_at, sta := joined_l2_st, exits := [([.c [1, 1, 1, 1, 0, 1, 0, 0, 1, 1, 0, 0, 1, 1, 0, 0], .c [1, 1, 1, 1, 0, 1, 0, 0, 1, 1, 0, 0, 1, 1, 0, 1], .b 4, .c [1, 1, 1, 1, 0, 1, 0, 0, 1, 1, 1], .l [1, 1, 1, 1, 0, 1, 0, 0], .b 3, .c [1, 1, 1, 1, 1]], ⟨[], ⟨[], []⟩⟩), ([.c [1, 1, 1, 1, 1, 0], .c [1, 1, 1, 1, 1, 1]], ⟨[6], ⟨[.own 0 0], [.segs [shD]]⟩⟩)], run := fun p k => (joined_l2 N N p.1.2.1 p.1.2.2.1 p.1.2.2.2.1 p.2.1.1).bind fun e => match e with | .inl x => k (.inl ((), ())) | .inr x => k (.inr (.inl (((), ()), ((x, ()), ())))) }
theorem joined_l2_eq (N n_ : Nat) (u : Li) (u2 : Int) (u3 : Int) (x : Dk) : ev (Z := (Unit) ⊕ (Dk)) Try.prog (joined_sp N) joined_B [joined_l1_L N] [joined_l2_h (joined_l2 N n_), joined_l2_e0, joined_l2_e1] none 400 true joined_l2_at (stL joined_l2_st (((), u, u2, u3, ()), ((x, ()), ()))) (stH joined_l2_st (((), u, u2, u3, ()), ((x, ()), ()))) = joined_l2 N (n_ + 1) u u2 u3 x := by kernel_rfl
theorem joined_l2_ok (N : Nat) {top : Bool} : LoopOK Try.prog joined_B.c joined_B.n joined_B.m0 top (joined_l2_L N) := loop_of_ev (Z := (Unit) ⊕ (Dk)) (N := N) (fun m p => joined_l2 N m p.1.2.1 p.1.2.2.1 p.1.2.2.2.1 p.2.1.1) (fun e => match e with | .inl x => .inl ((), ()) | .inr x => .inr (.inl (((), ()), ((x, ()), ())))) (fun _ p k => bind_congr_ (joined_l2 N N p.1.2.1 p.1.2.2.1 p.1.2.2.2.1 p.2.1.1) _ _ (fun e => by rcases e with x | x <;> rfl)) (fun _ => rfl) (fun m z E Xc hE hX hrec hx => leaf_of_ev (B := joined_B) (loops := [joined_l1_L N]) (leaves := [joined_l2_h (joined_l2 N m), joined_l2_e0, joined_l2_e1]) (joined_all N) mixed ⟨joined_l1_ok N, trivial⟩ hE hX ⟨hrec, (fun p hp => by obtain rfl := Option.some.inj hp; exact hx), (fun p hp => by obtain rfl := Option.some.inj hp; exact hx), trivial⟩ RetOK.no (fun p => joined_l2_eq N m p.1.2.1 p.1.2.2.1 p.1.2.2.2.1 p.2.1.1))
abbrev joined_st : Sta := ⟨[0, 1], ⟨[shG, shL], []⟩⟩
theorem joined_eq (N : Nat) (d : Li) (d2 : Int) (d3 : Ll) (d4 : Ll) (d5 : Li) (joins : Li) : ev (Z := (Dk × Int) ⊕ (Int)) Try.prog (joined_sp N) joined_B [joined_l1_L N, joined_l2_L N] [] (some joined_rt) 400 false [.c [0], .c [1]] (stL joined_st (((d, d2, d3, d4, d5, ()), joins, ()), ())) (stH joined_st (((d, d2, d3, d4, d5, ()), joins, ()), ())) = joined_S N d d2 d3 d4 d5 joins := by kernel_rfl
noncomputable def sp_joined (N : Nat) : Spec := { f := 76, ins := ⟨[shG, shL], []⟩, outs := [⟨[shD, shI], []⟩, ⟨[.nilp, shI], []⟩], run := fun p k => (joined_S N p.1.1.1 p.1.1.2.1 p.1.1.2.2.1 p.1.1.2.2.2.1 p.1.1.2.2.2.2.1 p.1.2.1).bind fun r => match r with | .inl r => k (.inl ((r.1, r.2, ()), ())) | .inr r => k (.inr (((), r, ()), ())) }
theorem sp_joined_ok (N : Nat) : SpecOK Try.prog (sp_joined N) := fn_sound (B := joined_B) (loops := [joined_l1_L N, joined_l2_L N]) (leaves := []) (fun p => joined_S N p.1.1.1 p.1.1.2.1 p.1.1.2.2.1 p.1.1.2.2.2.1 p.1.1.2.2.2.2.1 p.1.2.1) (fun r => match r with | .inl r => (.inl ((r.1, r.2, ()), ())) | .inr r => (.inr (((), r, ()), ()))) joined_rt (fun _ p k => bind_congr_ (joined_S N p.1.1.1 p.1.1.2.1 p.1.1.2.2.1 p.1.1.2.2.2.1 p.1.1.2.2.2.2.1 p.1.2.1) _ _ (fun e => by rcases e with x | x <;> rfl)) (fun r z h => by rcases r with x | x <;> (cases h; rfl)) Try.func76 (by kernel_rfl) (by kernel_rfl) (by kernel_rfl) rfl rfl (by kernel_rfl) (fun args w => Sem.pv_run _ _ _ (by kernel_rfl) w) (joined_all N) mixed ⟨joined_l1_ok N, joined_l2_ok N, trivial⟩ (fun z E Xc hE hX hret => trivial) (fun p => joined_eq N p.1.1.1 p.1.1.2.1 p.1.1.2.2.1 p.1.1.2.2.2.1 p.1.1.2.2.2.2.1 p.1.2.1)

def agree__S (N : Nat) (d : Li) (d2 : Int) (d3 : Ll) (d4 : Ll) (d5 : Li) (lost : Int) (found : Int) : Option (Int × Int × Bool × Int) :=
  ((opened_S N d d2 d3 d4 d5).bind fun e => match e with
  | .inl (x_1, y_2) =>
    (br (!decide (y_2 = 0))
      (some (0, 0, false, y_2))
      ((dlost_S N x_1 lost).bind fun x_3 =>
      br (!x_3)
        (some (0, 0, false, 1))
        ((dfound_S N x_1 found).bind fun x_4 =>
        br (!x_4)
          (some (0, 0, false, 1))
          (rng lost 6 <|
          rng found 6 <|
          get x_1.2.2.2.2.2.1 ((lost.toNat * 6) + found.toNat) fun x_5 =>
          rng lost 6 <|
          rng found 6 <|
          get x_1.2.2.2.2.2.2.1 ((lost.toNat * 6) + found.toNat) fun x_6 =>
          (can_S N x_1 lost found).bind fun x_7 =>
          some (x_5, x_6, x_7, 0)))))
  | .inr x_8 =>
    (br (!decide (x_8 = 0))
      (some (0, 0, false, x_8))
      (none)))
noncomputable def agree__sp (N : Nat) : List Spec := [sp_opened N, sp_dlost N, sp_dfound N, sp_can N]
theorem agree__all (N : Nat) : AllP (SpecOK Try.prog) (agree__sp N) := ⟨sp_opened_ok N, sp_dlost_ok N, sp_dfound_ok N, sp_can_ok N, trivial⟩
noncomputable def agree__c : Code := (Try.f64.body).getD .skip
noncomputable abbrev agree__B : Body := { c := agree__c, n := 51, res := [.tmp 6, .tmp 7, .tmp 8, .tmp 9], outs := [⟨[shI, shI, .b, shI], []⟩], m0 := 0 }
abbrev agree__rt : altD agree__B.outs → Option (Int × Int × Bool × Int) := fun r => some (r.1.1, r.1.2.1, r.1.2.2.1, r.1.2.2.2.1)
abbrev agree__st : Sta := ⟨[0, 1, 2], ⟨[shG, shI, shI], []⟩⟩
theorem agree__eq (N : Nat) (d : Li) (d2 : Int) (d3 : Ll) (d4 : Ll) (d5 : Li) (lost : Int) (found : Int) : ev (Z := Int × Int × Bool × Int) Try.prog (agree__sp N) agree__B [] [] (some agree__rt) 400 false [.c [0], .c [1]] (stL agree__st (((d, d2, d3, d4, d5, ()), lost, found, ()), ())) (stH agree__st (((d, d2, d3, d4, d5, ()), lost, found, ()), ())) = agree__S N d d2 d3 d4 d5 lost found := by kernel_rfl
noncomputable def sp_agree_ (N : Nat) : Spec := { f := 64, ins := ⟨[shG, shI, shI], []⟩, outs := [⟨[shI, shI, .b, shI], []⟩], run := fun p k => (agree__S N p.1.1.1 p.1.1.2.1 p.1.1.2.2.1 p.1.1.2.2.2.1 p.1.1.2.2.2.2.1 p.1.2.1 p.1.2.2.1).bind fun r => k ((r.1, r.2.1, r.2.2.1, r.2.2.2, ()), ()) }
theorem sp_agree__ok (N : Nat) : SpecOK Try.prog (sp_agree_ N) := fn_sound (B := agree__B) (loops := []) (leaves := []) (fun p => agree__S N p.1.1.1 p.1.1.2.1 p.1.1.2.2.1 p.1.1.2.2.2.1 p.1.1.2.2.2.2.1 p.1.2.1 p.1.2.2.1) (fun r => ((r.1, r.2.1, r.2.2.1, r.2.2.2, ()), ())) agree__rt (fun _ _ _ => rfl) (fun r z h => by cases h; rfl) Try.func64 (by kernel_rfl) (by kernel_rfl) (by kernel_rfl) rfl rfl (by kernel_rfl) (fun args w => Sem.pv_run _ _ _ (by kernel_rfl) w) (agree__all N) mixed trivial (fun z E Xc hE hX hret => trivial) (fun p => agree__eq N p.1.1.1 p.1.1.2.1 p.1.1.2.2.1 p.1.1.2.2.2.1 p.1.1.2.2.2.2.1 p.1.2.1 p.1.2.2.1)

def clonee_S (N : Nat) (s : Li) : Option Li :=
  grd (!s.isEmpty) <|
  lim (([] : Li).length + s.length) <|
  some (([] : Li) ++ s)
noncomputable def clonee_sp (N : Nat) : List Spec := []
theorem clonee_all (N : Nat) : AllP (SpecOK Try.prog) (clonee_sp N) := trivial
noncomputable def clonee_c : Code := (Try.f118.body).getD .skip
noncomputable abbrev clonee_B : Body := { c := clonee_c, n := 8, res := [.tmp 2], outs := [⟨[shL], []⟩], m0 := 0 }
abbrev clonee_rt : altD clonee_B.outs → Option Li := fun r => some r.1.1
abbrev clonee_st : Sta := ⟨[0], ⟨[shL], []⟩⟩
theorem clonee_eq (N : Nat) (s : Li) : ev (Z := Li) Try.prog (clonee_sp N) clonee_B [] [] (some clonee_rt) 400 false [.c [0], .c [1]] (stL clonee_st ((s, ()), ())) (stH clonee_st ((s, ()), ())) = clonee_S N s := by kernel_rfl
noncomputable def sp_clonee (N : Nat) : Spec := { f := 118, ins := ⟨[shL], []⟩, outs := [⟨[shL], []⟩], run := fun p k => (clonee_S N p.1.1).bind fun r => k ((r, ()), ()) }
theorem sp_clonee_ok (N : Nat) : SpecOK Try.prog (sp_clonee N) := fn_sound (B := clonee_B) (loops := []) (leaves := []) (fun p => clonee_S N p.1.1) (fun r => ((r, ()), ())) clonee_rt (fun _ _ _ => rfl) (fun r z h => by cases h; rfl) Try.func118 (by kernel_rfl) (by kernel_rfl) (by kernel_rfl) rfl rfl (by kernel_rfl) (fun args w => Sem.pv_run _ _ _ (by kernel_rfl) w) (clonee_all N) mixed trivial (fun z E Xc hE hX hret => trivial) (fun p => clonee_eq N p.1.1)

def cloneo_S (N : Nat) (s : Li) : Option Li :=
  grd (!s.isEmpty) <|
  lim (([] : Li).length + s.length) <|
  some (([] : Li) ++ s)
noncomputable def cloneo_sp (N : Nat) : List Spec := []
theorem cloneo_all (N : Nat) : AllP (SpecOK Try.prog) (cloneo_sp N) := trivial
noncomputable def cloneo_c : Code := (Try.f118.body).getD .skip
noncomputable abbrev cloneo_B : Body := { c := cloneo_c, n := 8, res := [.tmp 2], outs := [⟨[.ols 0], [.lst (.int .i64)]⟩], m0 := 0 }
abbrev cloneo_rt : altD cloneo_B.outs → Option Li := fun r => some r.2.1
abbrev cloneo_st : Sta := ⟨[0], ⟨[shL], []⟩⟩
theorem cloneo_eq (N : Nat) (s : Li) : ev (Z := Li) Try.prog (cloneo_sp N) cloneo_B [] [] (some cloneo_rt) 400 false [.c [0], .c [1]] (stL cloneo_st ((s, ()), ())) (stH cloneo_st ((s, ()), ())) = cloneo_S N s := by kernel_rfl
noncomputable def sp_cloneo (N : Nat) : Spec := { f := 118, ins := ⟨[shL], []⟩, outs := [⟨[.ols 0], [.lst (.int .i64)]⟩], run := fun p k => (cloneo_S N p.1.1).bind fun r => k (((), ()), (r, ())) }
theorem sp_cloneo_ok (N : Nat) : SpecOK Try.prog (sp_cloneo N) := fn_sound (B := cloneo_B) (loops := []) (leaves := []) (fun p => cloneo_S N p.1.1) (fun r => (((), ()), (r, ()))) cloneo_rt (fun _ _ _ => rfl) (fun r z h => by cases h; rfl) Try.func118 (by kernel_rfl) (by kernel_rfl) (by kernel_rfl) rfl rfl (by kernel_rfl) (fun args w => Sem.pv_run _ _ _ (by kernel_rfl) w) (cloneo_all N) mixed trivial (fun z E Xc hE hX hret => trivial) (fun p => cloneo_eq N p.1.1)

def clonen_S (N : Nat)  : Option Unit :=
  some ()
noncomputable def clonen_sp (N : Nat) : List Spec := []
theorem clonen_all (N : Nat) : AllP (SpecOK Try.prog) (clonen_sp N) := trivial
noncomputable def clonen_c : Code := (Try.f118.body).getD .skip
noncomputable abbrev clonen_B : Body := { c := clonen_c, n := 8, res := [.tmp 2], outs := [⟨[.nils], []⟩], m0 := 0 }
abbrev clonen_rt : altD clonen_B.outs → Option Unit := fun r => some ()
abbrev clonen_st : Sta := ⟨[0], ⟨[.nils], []⟩⟩
theorem clonen_eq (N : Nat)  : ev (Z := Unit) Try.prog (clonen_sp N) clonen_B [] [] (some clonen_rt) 400 false [.c [0], .c [1]] (stL clonen_st (((), ()), ())) (stH clonen_st (((), ()), ())) = clonen_S N := by kernel_rfl
noncomputable def sp_clonen (N : Nat) : Spec := { f := 118, ins := ⟨[.nils], []⟩, outs := [⟨[.nils], []⟩], run := fun p k => (clonen_S N).bind fun r => k (((), ()), ()) }
theorem sp_clonen_ok (N : Nat) : SpecOK Try.prog (sp_clonen N) := fn_sound (B := clonen_B) (loops := []) (leaves := []) (fun p => clonen_S N ) (fun r => (((), ()), ())) clonen_rt (fun _ _ _ => rfl) (fun r z h => by cases h; rfl) Try.func118 (by kernel_rfl) (by kernel_rfl) (by kernel_rfl) rfl rfl (by kernel_rfl) (fun args w => Sem.pv_run _ _ _ (by kernel_rfl) w) (clonen_all N) mixed trivial (fun z E Xc hE hX hret => trivial) (fun p => clonen_eq N )

end Go.Proofs.Ythncjilcflilcaa

namespace Go.Proofs.Ythncjilcflilcaa
set_option linter.all false
open Go

/-- A run ends well, with a result of which Q speaks. -/
def Ok {α : Type} (o : Option α) (Q : α → Prop) : Prop := ∃ x, o = some x ∧ Q x
section
variable {α β Z : Type} {Q : Z → Prop} {x y : Option Z}
theorem Ok.some {z : Z} (h : Q z) : Ok (some z) Q := ⟨z, rfl, h⟩
theorem Ok.bind {o : Option α} {P : α → Prop} {f : α → Option Z} (h : Ok o P) (k : ∀ a, P a → Ok (f a) Q) : Ok (o.bind f) Q := by
  obtain ⟨a, rfl, ha⟩ := h
  exact k a ha
theorem Ok.eqb {o : Option α} {a : α} {f : α → Option Z} (h : o = Option.some a) (k : Ok (f a) Q) : Ok (o.bind f) Q := by subst h; exact k
theorem Ok.mono {P : Z → Prop} (h : Ok x P) (k : ∀ a, P a → Q a) : Ok x Q := let ⟨a, e, p⟩ := h; ⟨a, e, k a p⟩
theorem Ok.br {c : Bool} (h1 : c = true → Ok x Q) (h2 : c = false → Ok y Q) : Ok (br c x y) Q := by
  cases c
  · exact h2 rfl
  · exact h1 rfl
theorem Ok.brd {p : Prop} [Decidable p] (h1 : p → Ok x Q) (h2 : ¬ p → Ok y Q) : Ok (Proofs.Ythncjilcflilcaa.br (decide p) x y) Q := by
  by_cases h : p
  · simpa [h, Proofs.Ythncjilcflilcaa.br] using h1 h
  · simpa [h, Proofs.Ythncjilcflilcaa.br] using h2 h
theorem chk_eq {n : Int} (hn : -9223372036854775808 ≤ n ∧ n ≤ 9223372036854775807) : chk n x = x := by unfold chk; rw [okI_iff.2 hn]
theorem Ok.chk {n : Int} (hn : -9223372036854775808 ≤ n ∧ n ≤ 9223372036854775807) (h : Ok x Q) : Ok (chk n x) Q := by rw [chk_eq hn]; exact h
theorem grd_eq {c : Bool} (hc : c = true) : grd c x = x := by subst hc; rfl
theorem Ok.grd {c : Bool} (hc : c = true) (h : Ok x Q) : Ok (grd c x) Q := by subst hc; exact h
theorem rng_eq {i : Int} {n : Nat} (hi : 0 ≤ i ∧ i < n) : rng i n x = x := by unfold rng; rw [if_pos hi]
theorem Ok.rng {i : Int} {n : Nat} (hi : 0 ≤ i ∧ i < n) (h : Ok x Q) : Ok (rng i n x) Q := by rw [rng_eq hi]; exact h
theorem lim_eq {n : Nat} (hn : n ≤ 1000000) : lim n x = x := by unfold lim; rw [if_pos hn]
theorem Ok.lim {n : Nat} (hn : n ≤ 1000000) (h : Ok x Q) : Ok (lim n x) Q := by rw [lim_eq hn]; exact h
theorem idx_eq {l : List α} {i : Int} {f : α → Option Z} {a : α} (h0 : 0 ≤ i) (h : l[i.toNat]? = Option.some a) : idx l i f = f a := by unfold idx; rw [if_pos h0, h]
theorem Ok.idx {l : List α} {i : Int} {f : α → Option Z} (h0 : 0 ≤ i) (h : i < l.length) (k : ∀ a, l[i.toNat]? = Option.some a → a ∈ l → Ok (f a) Q) : Ok (idx l i f) Q := by
  have hlt : i.toNat < l.length := by omega
  have e : l[i.toNat]? = Option.some l[i.toNat] := List.getElem?_eq_getElem hlt
  rw [idx_eq h0 e]
  exact k _ e (List.getElem_mem hlt)
theorem get_eq {l : List α} {k : Nat} {f : α → Option Z} {a : α} (h : l[k]? = Option.some a) : get l k f = f a := by unfold get; rw [h]
theorem get_get {l : List α} {k : Nat} {f : α → Option Z} (d : α) (h : k < l.length) : get l k f = f (l.getD k d) := get_eq (by simp [List.getD, h])
theorem Ok.get {l : List α} {k : Nat} {f : α → Option Z} (h : k < l.length) (c : ∀ a, l[k]? = Option.some a → a ∈ l → Ok (f a) Q) : Ok (get l k f) Q := by
  have e : l[k]? = Option.some l[k] := List.getElem?_eq_getElem h
  rw [get_eq e]
  exact c _ e (List.getElem_mem h)
theorem br_true : br true x y = x := rfl
theorem br_false : br false x y = y := rfl
theorem br_dec {p : Prop} [Decidable p] (h : p) : br (decide p) x y = x := by simp [h, br]
theorem br_ndec {p : Prop} [Decidable p] (h : ¬ p) : br (decide p) x y = y := by simp [h, br]
theorem br_nd {p : Prop} [Decidable p] (h : p) : br (!decide p) x y = y := by simp [h, br]
theorem br_nnd {p : Prop} [Decidable p] (h : ¬ p) : br (!decide p) x y = x := by simp [h, br]
end
/-- A list of numbers from lo to hi. -/
def InR (lo hi : Int) (l : List Int) : Prop := ∀ x ∈ l, lo ≤ x ∧ x ≤ hi
theorem InR.append {lo hi : Int} {l : List Int} (h : InR lo hi l) {x : Int} (hx : lo ≤ x ∧ x ≤ hi) : InR lo hi (l ++ [x]) := by
  intro y hy
  rcases List.mem_append.1 hy with hy | hy
  · exact h y hy
  · simp at hy; subst hy; exact hx
theorem InR.drop {lo hi : Int} {l : List Int} (h : InR lo hi l) (n : Nat) : InR lo hi (l.drop n) := fun x hx => h x (List.mem_of_mem_drop hx)
theorem InR.nil {lo hi : Int} : InR lo hi [] := fun _ h => by cases h
theorem InR.mono {lo hi lo' hi' : Int} {l : List Int} (h : InR lo hi l) (h1 : lo' ≤ lo) (h2 : hi ≤ hi') : InR lo' hi' l := fun x hx => by have := h x hx; omega

/-! ### The first element that is so -/
def ixL {α : Type} (f : α → Option Bool) : Nat → List α → Int → Int → Option (Int ⊕ Unit)
  | 0, _, _, _ => none
  | n + 1, s, u, u2 => br (decide (u2 < u)) (idx s u2 fun x => (f x).bind fun c => br c (some (.inl u2)) (chk (u2 + 1) <| ixL f n s u (u2 + 1))) (some (.inr ()))
def ixS {α : Type} (f : α → Option Bool) (N : Nat) (s : List α) : Option Int := (ixL f N s (s.length : Int) 0).bind fun e => match e with
  | .inl i => some i
  | .inr _ => some (-1)
theorem ixL_ok {α : Type} {f : α → Option Bool} {p : α → Bool} {s : List α} (hf : ∀ x ∈ s, f x = some (p x)) (hs : s.length ≤ 1000000) : ∀ (n k : Nat), s.length < n + k → k ≤ s.length →
    Ok (ixL f n s (s.length : Int) (k : Int)) fun r => match r with | .inl i => (0 ≤ i ∧ i < s.length) ∧ (s.drop k).any p = true | .inr _ => (s.drop k).any p = false
  | 0, k, h, hk => by omega
  | n + 1, k, h, hk => by
    unfold ixL
    refine Ok.brd (fun h1 => ?_) (fun h1 => Ok.some ?_)
    · have hlt : k < s.length := by omega
      refine Ok.idx (by omega) h1 (fun a ha hm => ?_)
      have hd : s.drop k = a :: s.drop (k + 1) := by
        rw [List.drop_eq_getElem_cons hlt]
        have : s[k]? = some a := by simpa using ha
        rw [List.getElem?_eq_getElem hlt] at this
        simp only [Option.some.injEq] at this
        rw [this]
      refine Ok.eqb (hf a hm) (Ok.br (fun hp => Ok.some ?_) (fun hp => Ok.chk (by omega) ?_))
      · exact ⟨⟨by omega, by omega⟩, by rw [hd]; simp [hp]⟩
      · have := ixL_ok hf hs n (k + 1) (by omega) (by omega)
        rw [show ((k + 1 : Nat) : Int) = (k : Int) + 1 by omega] at this
        refine this.mono (fun r hr => ?_)
        rw [hd]
        cases r <;> simpa [hp] using hr
    · have : s.drop k = [] := List.drop_of_length_le (by omega)
      simp [this]
theorem ixS_any {α : Type} {f : α → Option Bool} {p : α → Bool} {s : List α} {N : Nat} (hf : ∀ x ∈ s, f x = some (p x)) (hs : s.length ≤ 1000000) (hN : s.length < N) : ((ixS f N s).bind fun x => some (decide (0 ≤ x))) = some (s.any p) := by
  obtain ⟨r, h1, h2⟩ := ixL_ok hf hs N 0 (by omega) (by omega)
  unfold ixS
  rw [show ((0 : Nat) : Int) = 0 from rfl] at h1
  rw [h1]
  cases r with
  | inl i => simp only [List.drop_zero] at h2; simp [h2.1.1, h2.2]
  | inr u => simp only [List.drop_zero] at h2; simp [h2]
theorem any_not {α : Type} (p : α → Bool) (s : List α) : (!(s.any fun x => !p x)) = s.all p := by
  induction s with
  | nil => rfl
  | cons a s ih => simp only [List.any_cons, List.all_cons, Bool.not_or, Bool.not_not, ih]
end Go.Proofs.Ythncjilcflilcaa

namespace Go.Proofs.Ythncjilcflilcaa
set_option linter.all false
open Go

/-! ### Sums -/
def sumN (f : Nat → Int) : Nat → Int
  | 0 => 0
  | n + 1 => sumN f n + f n
def upd {α : Type} (J : Nat → α) (i : Nat) (v : α) : Nat → α := fun x => if x = i then v else J x
theorem upd_self {α : Type} (J : Nat → α) (i : Nat) (v : α) : upd J i v i = v := if_pos rfl
theorem upd_ne {α : Type} {J : Nat → α} {i x : Nat} {v : α} (h : x ≠ i) : upd J i v x = J x := if_neg h
/-! ### Joins -/
/-- What each lost thing is joined to: a found one, or -1. -/
structure Mt (n m : Nat) (can : Nat → Nat → Bool) (J : Nat → Int) : Prop where
  ok : ∀ i, i < n → J i = -1 ∨ ∃ k : Nat, J i = k ∧ k < m ∧ can i k = true
  inj : ∀ i j, i < n → j < n → i ≠ j → J i = J j → J i = -1
def pv (w : Nat → Nat → Int) (i : Nat) (x : Int) : Int := if x = -1 then 0 else w i x.toNat
def wt (w : Nat → Nat → Int) (n : Nat) (J : Nat → Int) : Int := sumN (fun i => pv w i (J i)) n
def Usd (n : Nat) (J : Nat → Int) (k : Nat) : Prop := ∃ i, i < n ∧ J i = k
section
variable {n m : Nat} {can : Nat → Nat → Bool} {w : Nat → Nat → Int}
theorem pv_none (i : Nat) : pv w i (-1) = 0 := if_pos rfl
theorem pv_some (i k : Nat) : pv w i (k : Int) = w i k := by
  unfold pv
  rw [if_neg (by omega), Int.toNat_natCast]
theorem Mt.drop {J : Nat → Int} (h : Mt n m can J) (i : Nat) : Mt n m can (upd J i (-1)) := by
  refine ⟨fun x hx => ?_, fun x y hx hy hxy he => ?_⟩
  · by_cases e : x = i
    · subst e; exact .inl (upd_self _ _ _)
    · rw [upd_ne e]; exact h.ok x hx
  · by_cases e : x = i
    · subst e; exact upd_self _ _ _
    · by_cases e2 : y = i
      · subst e2
        rw [upd_self] at he
        exact he
      · rw [upd_ne e] at he ⊢
        rw [upd_ne e2] at he
        exact h.inj x y hx hy hxy he
theorem Mt.add {J : Nat → Int} (h : Mt n m can J) {i k : Nat} (hk : k < m) (hc : can i k = true) (hu : ¬ Usd n J k) : Mt n m can (upd J i k) := by
  refine ⟨fun x hx => ?_, fun x y hx hy hxy he => ?_⟩
  · by_cases e : x = i
    · subst e; exact .inr ⟨k, upd_self _ _ _, hk, hc⟩
    · rw [upd_ne e]; exact h.ok x hx
  · by_cases e : x = i
    · subst e
      rw [upd_self, upd_ne (fun h => hxy h.symm)] at he
      exact absurd ⟨y, hy, he.symm⟩ hu
    · by_cases e2 : y = i
      · subst e2
        rw [upd_self, upd_ne e] at he
        exact absurd ⟨x, hx, he⟩ hu
      · rw [upd_ne e] at he ⊢
        rw [upd_ne e2] at he
        exact h.inj x y hx hy hxy he
theorem Usd.upd_ne {J : Nat → Int} {i k : Nat} {v : Int} (hv : v ≠ k) (h : Usd n (upd J i v) k) : Usd n J k := by
  obtain ⟨x, hx, e⟩ := h
  by_cases c : x = i
  · subst c; rw [upd_self] at e; exact absurd e hv
  · rw [Proofs.Ythncjilcflilcaa.upd_ne c] at e; exact ⟨x, hx, e⟩
/-- What is worth most of all joins that leave some found things. -/
structure IsMax (n m : Nat) (can : Nat → Nat → Bool) (w : Nat → Nat → Int) (fr : Nat → Prop) (v : Int) : Prop where
  ex : ∃ J, Mt n m can J ∧ (∀ k, fr k → ¬ Usd n J k) ∧ wt w n J = v
  le : ∀ J, Mt n m can J → (∀ k, fr k → ¬ Usd n J k) → wt w n J ≤ v
end
end Go.Proofs.Ythncjilcflilcaa

namespace Go.Proofs.Ythncjilcflilcaa
set_option linter.all false
open Go

/-- The found things with which a lost one can be joined. -/
def mayL (can : Nat → Nat → Bool) (m i : Nat) : List Nat := (List.range m).filter (can i)
theorem mem_mayL {can : Nat → Nat → Bool} {m i k : Nat} : k ∈ mayL can m i ↔ k < m ∧ can i k = true := by
  unfold mayL
  rw [List.mem_filter, List.mem_range]
theorem mayL_asc (can : Nat → Nat → Bool) (m i : Nat) : (mayL can m i).Pairwise (· < ·) := List.Pairwise.filter _ List.pairwise_lt_range
/-- All joins of the lost things from one on, which leave some found things. -/
def joinsL (can : Nat → Nat → Bool) (m : Nat) : Nat → Nat → Nat → List (List Int)
  | 0, _, _ => [[]]
  | d + 1, i, u => (joinsL can m d (i + 1) u).map ((-1) :: ·) ++ (mayL can m i).flatMap fun k => if u.testBit k then [] else (joinsL can m d (i + 1) (u ||| 2 ^ k)).map ((k : Int) :: ·)
/-- What joins count. -/
def valJ (t : Nat → Nat → Int) : Nat → List Int → Int
  | _, [] => 0
  | i, x :: l => pv t i x + valJ t (i + 1) l
/-- Joins of the lost things from one on. -/
def okJ (can : Nat → Nat → Bool) (m : Nat) : Nat → Nat → List Int → Prop
  | _, _, [] => True
  | i, u, x :: l => (x = -1 ∧ okJ can m (i + 1) u l) ∨ ∃ k : Nat, x = k ∧ k < m ∧ can i k = true ∧ u.testBit k = false ∧ okJ can m (i + 1) (u ||| 2 ^ k) l
section
variable {can : Nat → Nat → Bool} {m : Nat} {t : Nat → Nat → Int}
theorem mem_joinsL : ∀ {d i u : Nat} {l : List Int}, l ∈ joinsL can m d i u ↔ l.length = d ∧ okJ can m i u l
  | 0, i, u, l => by
    simp only [joinsL, List.mem_singleton]
    constructor
    · rintro rfl; exact ⟨rfl, trivial⟩
    · rintro ⟨h, _⟩; exact List.eq_nil_of_length_eq_zero h
  | d + 1, i, u, l => by
    simp only [joinsL, List.mem_append, List.mem_map, List.mem_flatMap]
    constructor
    · rintro (⟨a, ha, rfl⟩ | ⟨k, hk, hl⟩)
      · obtain ⟨h1, h2⟩ := mem_joinsL.1 ha
        exact ⟨by simp [h1], .inl ⟨rfl, h2⟩⟩
      · obtain ⟨k1, k2⟩ := mem_mayL.1 hk
        cases hb : u.testBit k
        · rw [hb] at hl
          simp only [Bool.false_eq_true, if_false, List.mem_map] at hl
          obtain ⟨a, ha, rfl⟩ := hl
          obtain ⟨h1, h2⟩ := mem_joinsL.1 ha
          exact ⟨by simp [h1], .inr ⟨k, rfl, k1, k2, hb, h2⟩⟩
        · rw [hb] at hl
          simp at hl
    · rintro ⟨h, ho⟩
      cases l with
      | nil => simp at h
      | cons x l =>
        have hl : l.length = d := by simpa using h
        rcases ho with ⟨rfl, h2⟩ | ⟨k, rfl, k1, k2, hb, h2⟩
        · exact .inl ⟨l, mem_joinsL.2 ⟨hl, h2⟩, rfl⟩
        · refine .inr ⟨k, mem_mayL.2 ⟨k1, k2⟩, ?_⟩
          rw [hb]
          simp only [Bool.false_eq_true, if_false, List.mem_map]
          exact ⟨l, mem_joinsL.2 ⟨hl, h2⟩, rfl⟩
theorem nodup_cons {x : Int} {L : List (List Int)} (h : L.Nodup) : (L.map (x :: ·)).Nodup := by
  unfold List.Nodup at h ⊢
  rw [List.pairwise_map]
  exact h.imp (fun hab e => hab (by simpa using e))
theorem nodup_joinsL : ∀ (d i u : Nat), (joinsL can m d i u).Nodup
  | 0, _, _ => by simp [joinsL]
  | d + 1, i, u => by
    unfold joinsL
    rw [List.nodup_append]
    refine ⟨nodup_cons (nodup_joinsL d _ _), ?_, ?_⟩
    · unfold List.Nodup
      rw [List.pairwise_flatMap]
      refine ⟨fun k hk => ?_, ?_⟩
      · split
        · exact .nil
        · exact nodup_cons (nodup_joinsL d _ _)
      · refine (mayL_asc can m i).imp fun {a b} hab x hx y hy e => ?_
        subst e
        split at hx
        · simp at hx
        split at hy
        · simp at hy
        simp only [List.mem_map] at hx hy
        obtain ⟨p, _, rfl⟩ := hx
        obtain ⟨q, _, e⟩ := hy
        simp only [List.cons.injEq] at e
        omega
    · intro x hx y hy e
      subst e
      simp only [List.mem_map, List.mem_flatMap] at hx hy
      obtain ⟨p, _, rfl⟩ := hx
      obtain ⟨k, _, hy⟩ := hy
      split at hy
      · simp at hy
      simp only [List.mem_map] at hy
      obtain ⟨q, _, e⟩ := hy
      simp only [List.cons.injEq] at e
      omega
/-! ### The recursion over lost things -/
/-- One found thing more is looked at. -/
def rsS (t : Nat → Nat → Int) (rec : Nat → Int × Int × Int) (i u : Nat) (b : Int × Int × Int) (k : Nat) : Int × Int × Int :=
  if u.testBit k then b else if b.2.1 < (rec (u ||| 2 ^ k)).2.1 + t i k then ((k : Int), (rec (u ||| 2 ^ k)).2.1 + t i k, (rec (u ||| 2 ^ k)).2.2)
    else if (rec (u ||| 2 ^ k)).2.1 + t i k = b.2.1 then (b.1, b.2.1, b.2.2 + (rec (u ||| 2 ^ k)).2.2) else b
/-- The found thing of the first lost one, what all counts, in how many ways. -/
def rsR (can : Nat → Nat → Bool) (t : Nat → Nat → Int) (m : Nat) : Nat → Nat → Nat → Int × Int × Int
  | 0, _, _ => (-1, 0, 1)
  | d + 1, i, u => (mayL can m i).foldl (rsS t (rsR can t m d (i + 1)) i u) (-1, (rsR can t m d (i + 1) u).2.1, (rsR can t m d (i + 1) u).2.2)
/-- The joins that are read off. -/
def blR (can : Nat → Nat → Bool) (t : Nat → Nat → Int) (m : Nat) : Nat → Nat → Nat → List Int
  | 0, _, _ => []
  | d + 1, i, u => (rsR can t m (d + 1) i u).1 :: blR can t m d (i + 1) (if (rsR can t m (d + 1) i u).1 = -1 then u else u ||| 2 ^ (rsR can t m (d + 1) i u).1.toNat)
/-- What is known of the best of some joins. -/
structure Bst (t : Nat → Nat → Int) (i : Nat) (C : List (List Int)) (c w : Int) : Prop where
  le : ∀ l ∈ C, valJ t i l ≤ c
  ways : (C.countP (fun l => decide (valJ t i l = c)) : Int) = w
theorem countP_zero {α : Type} {p : α → Bool} {l : List α} (h : ∀ x ∈ l, p x = false) : l.countP p = 0 := by
  rw [List.countP_eq_zero]
  intro x hx
  rw [h x hx]; simp
theorem Bst.group {i : Nat} {x : Int} {C : List (List Int)} {c w : Int} (h : Bst t (i + 1) C c w) : Bst t i (C.map (x :: ·)) (c + pv t i x) w := by
  refine ⟨fun l hl => ?_, ?_⟩
  · rw [List.mem_map] at hl
    obtain ⟨a, ha, rfl⟩ := hl
    have := h.le a ha
    rw [valJ]; omega
  · rw [List.countP_map, ← h.ways]
    congr 1
    refine List.countP_congr fun a _ => ?_
    simp only [Function.comp, decide_eq_true_eq]
    rw [valJ]
    constructor <;> intro h <;> omega
theorem Bst.gt {i : Nat} {C G : List (List Int)} {c w c' w' : Int} (h : Bst t i C c w) (h' : Bst t i G c' w') (hlt : c < c') : Bst t i (C ++ G) c' w' := by
  refine ⟨fun l hl => ?_, ?_⟩
  · rcases List.mem_append.1 hl with hl | hl
    · have := h.le l hl; omega
    · exact h'.le l hl
  · rw [List.countP_append, countP_zero (l := C) (fun l hl => by
      have := h.le l hl
      rw [decide_eq_false_iff_not]; omega), Nat.zero_add]
    exact h'.ways
theorem Bst.same {i : Nat} {C G : List (List Int)} {c w w' : Int} (h : Bst t i C c w) (h' : Bst t i G c w') : Bst t i (C ++ G) c (w + w') := by
  refine ⟨fun l hl => ?_, ?_⟩
  · rcases List.mem_append.1 hl with hl | hl
    · exact h.le l hl
    · exact h'.le l hl
  · rw [List.countP_append]
    have := h.ways
    have := h'.ways
    omega
theorem Bst.lt {i : Nat} {C G : List (List Int)} {c w c' w' : Int} (h : Bst t i C c w) (h' : Bst t i G c' w') (hlt : c' < c) : Bst t i (C ++ G) c w := by
  refine ⟨fun l hl => ?_, ?_⟩
  · rcases List.mem_append.1 hl with hl | hl
    · exact h.le l hl
    · have := h'.le l hl; omega
  · rw [List.countP_append, countP_zero (l := G) (fun l hl => by
      have := h'.le l hl
      rw [decide_eq_false_iff_not]; omega), Nat.add_zero]
    exact h.ways
/-- The found thing that is told leads to what is counted. -/
def Fnd (can : Nat → Nat → Bool) (t : Nat → Nat → Int) (m : Nat) (rec : Nat → Int × Int × Int) (i u : Nat) (b : Int × Int × Int) : Prop :=
  b.1 = -1 ∧ b.2.1 = (rec u).2.1 ∨ ∃ k : Nat, b.1 = k ∧ k ∈ mayL can m i ∧ u.testBit k = false ∧ b.2.1 = (rec (u ||| 2 ^ k)).2.1 + t i k
theorem rs_fold {d i u : Nat} (ih : ∀ u, Bst t (i + 1) (joinsL can m d (i + 1) u) (rsR can t m d (i + 1) u).2.1 (rsR can t m d (i + 1) u).2.2) :
    ∀ (ks : List Nat) (C : List (List Int)) (b : Int × Int × Int), (∀ k ∈ ks, k ∈ mayL can m i) → Bst t i C b.2.1 b.2.2 → Fnd can t m (rsR can t m d (i + 1)) i u b →
      Bst t i (C ++ ks.flatMap fun k => if u.testBit k then [] else (joinsL can m d (i + 1) (u ||| 2 ^ k)).map ((k : Int) :: ·)) (ks.foldl (rsS t (rsR can t m d (i + 1)) i u) b).2.1 (ks.foldl (rsS t (rsR can t m d (i + 1)) i u) b).2.2 ∧
      Fnd can t m (rsR can t m d (i + 1)) i u (ks.foldl (rsS t (rsR can t m d (i + 1)) i u) b)
  | [], C, b, _, h, hf => by simpa using ⟨h, hf⟩
  | k :: ks, C, b, hk, h, hf => by
    rw [List.foldl_cons, List.flatMap_cons, ← List.append_assoc]
    have hm := hk k (by simp)
    have hks : ∀ k ∈ ks, k ∈ mayL can m i := fun x hx => hk x (by simp [hx])
    cases hb : u.testBit k
    · have hg := (ih (u ||| 2 ^ k)).group (x := (k : Int))
      rw [pv_some] at hg
      simp only [Bool.false_eq_true, if_false]
      have key : Bst t i (C ++ (joinsL can m d (i + 1) (u ||| 2 ^ k)).map ((k : Int) :: ·)) (rsS t (rsR can t m d (i + 1)) i u b k).2.1 (rsS t (rsR can t m d (i + 1)) i u b k).2.2 ∧ Fnd can t m (rsR can t m d (i + 1)) i u (rsS t (rsR can t m d (i + 1)) i u b k) := by
        unfold rsS
        rw [hb]
        simp only [Bool.false_eq_true, if_false]
        by_cases c1 : b.2.1 < (rsR can t m d (i + 1) (u ||| 2 ^ k)).2.1 + t i k
        · rw [if_pos c1]
          exact ⟨h.gt hg c1, .inr ⟨k, rfl, hm, hb, rfl⟩⟩
        · rw [if_neg c1]
          by_cases c2 : (rsR can t m d (i + 1) (u ||| 2 ^ k)).2.1 + t i k = b.2.1
          · rw [if_pos c2]
            rw [c2] at hg
            exact ⟨h.same hg, hf⟩
          · rw [if_neg c2]
            exact ⟨h.lt hg (by omega), hf⟩
      exact rs_fold ih ks _ _ hks key.1 key.2
    · simp only [if_true, List.append_nil]
      have : rsS t (rsR can t m d (i + 1)) i u b k = b := by unfold rsS; rw [hb]; rfl
      rw [this]
      exact rs_fold ih ks _ _ hks h hf
theorem rs_both : ∀ (d i u : Nat), Bst t i (joinsL can m d i u) (rsR can t m d i u).2.1 (rsR can t m d i u).2.2 ∧ (0 < d → Fnd can t m (rsR can t m (d - 1) (i + 1)) i u (rsR can t m d i u))
  | 0, i, u => ⟨⟨fun l hl => by simp only [joinsL, List.mem_singleton] at hl; subst hl; exact Int.le_refl _, by simp [joinsL, rsR, valJ]⟩, fun h => by omega⟩
  | d + 1, i, u => by
    have ih : ∀ u, Bst t (i + 1) (joinsL can m d (i + 1) u) (rsR can t m d (i + 1) u).2.1 (rsR can t m d (i + 1) u).2.2 := fun u => (rs_both d (i + 1) u).1
    have h0 := (ih u).group (x := -1)
    rw [pv_none, Int.add_zero] at h0
    have := rs_fold (u := u) ih (mayL can m i) _ (-1, (rsR can t m d (i + 1) u).2.1, (rsR can t m d (i + 1) u).2.2) (fun k hk => hk) h0 (.inl ⟨rfl, rfl⟩)
    exact ⟨this.1, fun _ => this.2⟩
theorem rs_bst (d i u : Nat) : Bst t i (joinsL can m d i u) (rsR can t m d i u).2.1 (rsR can t m d i u).2.2 := (rs_both d i u).1
theorem rs_fnd {d i u : Nat} : Fnd can t m (rsR can t m d (i + 1)) i u (rsR can t m (d + 1) i u) := (rs_both (d + 1) i u).2 (by omega)
theorem bl_best : ∀ (d i u : Nat), okJ can m i u (blR can t m d i u) ∧ (blR can t m d i u).length = d ∧ valJ t i (blR can t m d i u) = (rsR can t m d i u).2.1
  | 0, i, u => ⟨trivial, rfl, rfl⟩
  | d + 1, i, u => by
    have hf := rs_fnd (can := can) (t := t) (m := m) (d := d) (i := i) (u := u)
    unfold blR
    rcases hf with ⟨h1, h2⟩ | ⟨k, h1, h2, h3, h4⟩
    · obtain ⟨q1, q2, q3⟩ := bl_best d (i + 1) u
      rw [h1, if_pos rfl]
      exact ⟨.inl ⟨rfl, q1⟩, by simp [q2], by rw [valJ, pv_none, q3, h2]; omega⟩
    · obtain ⟨q1, q2, q3⟩ := bl_best d (i + 1) (u ||| 2 ^ k)
      obtain ⟨k1, k2⟩ := mem_mayL.1 h2
      rw [h1, if_neg (by omega), Int.toNat_natCast]
      exact ⟨.inr ⟨k, rfl, k1, k2, h3, q1⟩, by simp [q2], by rw [valJ, pv_some, q3, h4]; omega⟩
/-! ### Lists of joins as joins -/
theorem bit_or {u k j : Nat} : (u ||| 2 ^ k).testBit j = (u.testBit j || decide (k = j)) := by rw [Nat.testBit_or, Nat.testBit_two_pow]
theorem okJ_iff : ∀ {l : List Int} {i u : Nat}, okJ can m i u l ↔ (∀ j, j < l.length → l.getD j (-1) = -1 ∨ ∃ k : Nat, l.getD j (-1) = k ∧ k < m ∧ can (i + j) k = true ∧ u.testBit k = false) ∧ ∀ a b, a < b → b < l.length → l.getD a (-1) = l.getD b (-1) → l.getD a (-1) = -1
  | [], i, u => by
    constructor
    · exact fun _ => ⟨fun j h => by simp at h, fun a b _ h => by simp at h⟩
    · exact fun _ => trivial
  | x :: l, i, u => by
    have e0 : (x :: l).getD 0 (-1) = x := rfl
    have es : ∀ j, (x :: l).getD (j + 1) (-1) = l.getD j (-1) := fun j => rfl
    unfold okJ
    constructor
    · rintro (⟨rfl, h⟩ | ⟨k, rfl, k1, k2, k3, h⟩)
      · obtain ⟨h1, h2⟩ := okJ_iff.1 h
        refine ⟨fun j hj => ?_, fun a b hab hb he => ?_⟩
        · cases j with
          | zero => exact .inl rfl
          | succ j =>
            rw [es, show i + (j + 1) = i + 1 + j by omega]
            exact h1 j (by simpa using hj)
        · cases a with
          | zero => rfl
          | succ a =>
            cases b with
            | zero => omega
            | succ b => rw [es] at he ⊢; rw [es] at he; exact h2 a b (by omega) (by simpa using hb) he
      · obtain ⟨h1, h2⟩ := okJ_iff.1 h
        refine ⟨fun j hj => ?_, fun a b hab hb he => ?_⟩
        · cases j with
          | zero => exact .inr ⟨k, rfl, k1, by simpa using k2, k3⟩
          | succ j =>
            rw [es, show i + (j + 1) = i + 1 + j by omega]
            rcases h1 j (by simpa using hj) with h | ⟨q, a, b, c, d⟩
            · exact .inl h
            · rw [bit_or, Bool.or_eq_false_iff] at d
              exact .inr ⟨q, a, b, c, d.1⟩
        · cases b with
          | zero => omega
          | succ b =>
            cases a with
            | zero =>
              rw [e0, es] at he
              rcases h1 b (by simpa using hb) with h | ⟨q, a, _, _, d⟩
              · omega
              · rw [bit_or, Bool.or_eq_false_iff] at d
                have : k = q := by omega
                simp [this] at d
            | succ a => rw [es] at he ⊢; rw [es] at he; exact h2 a b (by omega) (by simpa using hb) he
    · rintro ⟨h1, h2⟩
      have g2 : ∀ a b, a < b → b < l.length → l.getD a (-1) = l.getD b (-1) → l.getD a (-1) = -1 := fun a b hab hb he => h2 (a + 1) (b + 1) (by omega) (by simpa using hb) he
      rcases h1 0 (by simp) with h | ⟨k, ha, hb, hc, hd⟩
      · refine .inl ⟨h, okJ_iff.2 ⟨fun j hj => ?_, g2⟩⟩
        have := h1 (j + 1) (by simpa using hj)
        rw [es, show i + (j + 1) = i + 1 + j by omega] at this
        exact this
      · rw [e0] at ha
        refine .inr ⟨k, ha, hb, by simpa using hc, hd, okJ_iff.2 ⟨fun j hj => ?_, g2⟩⟩
        have := h1 (j + 1) (by simpa using hj)
        rw [es, show i + (j + 1) = i + 1 + j by omega] at this
        rcases this with h | ⟨q, q1, q2, q3, q4⟩
        · exact .inl h
        · refine .inr ⟨q, q1, q2, q3, ?_⟩
          rw [bit_or, q4, Bool.false_or, decide_eq_false_iff_not]
          intro e
          have := h2 0 (j + 1) (by omega) (by simpa using hj) (by rw [e0, es, ha, q1, e])
          rw [e0] at this
          omega
def fnJ (l : List Int) : Nat → Int := fun j => l.getD j (-1)
theorem okJ_mt {l : List Int} {u : Nat} : okJ can m 0 u l ↔ Mt l.length m can (fnJ l) ∧ ∀ k, u.testBit k = true → ¬ Usd l.length (fnJ l) k := by
  rw [okJ_iff]
  unfold fnJ
  constructor
  · rintro ⟨h1, h2⟩
    refine ⟨⟨fun i hi => ?_, fun i j hi hj hij he => ?_⟩, fun k hk => ?_⟩
    · rcases h1 i hi with h | ⟨k, a, b, c, d⟩
      · exact .inl h
      · exact .inr ⟨k, a, b, by simpa using c⟩
    · rcases Nat.lt_or_gt_of_ne hij with h | h
      · exact h2 i j h hj he
      · have := h2 j i h hi he.symm
        rw [he]; exact this
    · rintro ⟨i, hi, e⟩
      dsimp only at e
      rcases h1 i hi with h | ⟨q, a, b, c, d⟩
      · omega
      · have : q = k := by omega
        subst this
        rw [hk] at d; cases d
  · rintro ⟨h1, h2⟩
    refine ⟨fun j hj => ?_, fun a b hab hb he => h1.inj a b (by omega) hb (by omega) he⟩
    rcases h1.ok j hj with h | ⟨k, a, b, c⟩
    · exact .inl h
    · refine .inr ⟨k, a, b, by simpa using c, ?_⟩
      cases hk : u.testBit k
      · rfl
      · exact absurd ⟨j, hj, a⟩ (h2 k hk)
/-- As many are so of two lists that have the same elements, each once. -/
theorem countP_same {α : Type} {p q : α → Bool} {a b : List α} (ha : a.Nodup) (hb : b.Nodup) (h : ∀ x, x ∈ a ↔ x ∈ b) (hpq : ∀ x ∈ a, p x = q x) : a.countP p = b.countP q := by
  rw [((List.perm_ext_iff_of_nodup ha hb).2 h).countP_eq p]
  refine List.countP_congr fun x hx => ?_
  rw [hpq x ((h x).2 hx)]
end
end Go.Proofs.Ythncjilcflilcaa

namespace Go.Proofs.Ythncjilcflilcaa
set_option linter.all false
open Go

theorem call_pure {P : Program} {s : Spec} (hok : SpecOK P s) (hb : s.ins.blks = []) {p : s.ins.den} {r : altD s.outs} (hr : s.run p some = some r) {M : Nat → Option Obj} {w : World} (hM : ∀ b o, M b = some o → w.heap[b]? = some o)
    {vs : List Value} (hv : RepVs ⟨fun _ => none, M⟩ (encs id s.ins.avs p.1) vs) : Fn P s.f vs.toArray w (fun v w' => Ext w w' ∧ ∃ g', RepV g' (resVal (encs id (altOf s.outs r).1.avs (altOf s.outs r).2.1)) v) := by
  have hh : ∀ i, hOf p.2 i = Option.none := fun i => by
    unfold hOf
    rw [List.getElem?_eq_none]
    rw [encBs_len, hb]; exact Nat.zero_le _
  have hs : Sim ⟨fun _ => none, M⟩ (hOf p.2) w := ⟨fun b o h => hM b o h, fun i k hk => (by rw [hh i] at hk; cases hk), fun i j ki kj b ci ni cj nj h1 => (by rw [hh i] at h1; cases h1)⟩
  refine Fn.mono (hok.fn p r hr ⟨fun _ => none, M⟩ w vs hv hs (fun _ _ => rfl)) ?_
  rintro v w' ⟨g', st, _, hv'⟩
  refine ⟨⟨st.os, st.tape, st.output, st.size, fun k hk _ => st.same k hk ?_⟩, g', hv'⟩
  rintro ⟨i, hi, _⟩
  rw [hb] at hi; simp at hi

/-- Some cells from one on. -/
def Cl (w : World) (b o : Nat) (vs : List Value) : Prop := ∀ (i : Nat) (v : Value), vs[i]? = some v → w.cell? ⟨b, o + i, none⟩ = some v
theorem Cl.cell {w : World} {b o i : Nat} {vs : List Value} {v : Value} (h : Cl w b o vs) (hi : vs[i]? = some v) : w.cell? ⟨b, o + i, none⟩ = some v := h i v hi
theorem Cl.of_seg {w : World} {b o : Nat} {ws us : List Value} {ty : TypeId} {z : Nat × Nat} (hb : w.heap[b]? = some (.cells ws.toArray ty z)) (h : Seg ws o us) : Cl w b o us := fun i v hi => by
  have := Seg.row hb h i v hi
  rwa [addr_add] at this

/-- Of numbers from one on those that are so. -/
def mayF (R : Nat → Bool) (m k : Nat) : List Nat := (List.range' k (m - k)).filter R
theorem mayF_yes {R : Nat → Bool} {m k : Nat} (h : k < m) (e : R k = true) : mayF R m k = k :: mayF R m (k + 1) := by
  unfold mayF
  rw [show m - k = (m - (k + 1)) + 1 by omega, List.range'_succ, List.filter_cons, if_pos e]
theorem mayF_no {R : Nat → Bool} {m k : Nat} (h : k < m) (e : R k = false) : mayF R m k = mayF R m (k + 1) := by
  unfold mayF
  rw [show m - k = (m - (k + 1)) + 1 by omega, List.range'_succ, List.filter_cons, if_neg (by simp [e])]
theorem mayF_end {R : Nat → Bool} {m k : Nat} (h : m ≤ k) : mayF R m k = [] := by
  unfold mayF
  rw [show m - k = 0 by omega]; rfl
theorem mem_mayF {R : Nat → Bool} {m k j : Nat} : j ∈ mayF R m k ↔ k ≤ j ∧ j < m ∧ R j = true := by
  unfold mayF
  rw [List.mem_filter, List.mem_range'_1]
  constructor
  · rintro ⟨⟨h1, h2⟩, h3⟩; exact ⟨h1, by omega, h3⟩
  · rintro ⟨h1, h2, h3⟩; exact ⟨⟨h1, by omega⟩, h3⟩
noncomputable def c123 : Code := (Try.f123.body).getD .skip
noncomputable def K123_0 : List Item := [.code (sub c123 [0]), .code (sub c123 [1])]
noncomputable def K123_1 : List Item := [.code (sub c123 [1, 0, 0, 0]), .code (sub c123 [1, 0, 0, 1]), .inLoop (sub c123 [1, 0, 0]), .inBlock 0]
noncomputable def K123_2 : List Item := [.code (sub c123 [1, 0, 0, 1, 0]), .code (sub c123 [1, 0, 0, 1, 1]), .inLoop (sub c123 [1, 0, 0]), .inBlock 0]
noncomputable def K123_3 : List Item := [.code (sub c123 [1, 0, 0, 1, 1, 0, 0, 0]), .code (sub c123 [1, 0, 0, 1, 1, 0, 0, 1]), .inBlock 1, .code (sub c123 [1, 0, 0, 1, 1, 1]), .inLoop (sub c123 [1, 0, 0]), .inBlock 0]
noncomputable def K123_4 : List Item := []
noncomputable def K123_5 : List Item := [.code (sub c123 [1, 0, 0, 1, 1, 0, 0, 1, 0]), .code (sub c123 [1, 0, 0, 1, 1, 0, 0, 1, 1]), .inBlock 1, .code (sub c123 [1, 0, 0, 1, 1, 1]), .inLoop (sub c123 [1, 0, 0]), .inBlock 0]
noncomputable def K123_6 : List Item := [.code (sub c123 [1, 0, 0, 1, 1, 0, 0, 1, 1]), .inBlock 1, .code (sub c123 [1, 0, 0, 1, 1, 1]), .inLoop (sub c123 [1, 0, 0]), .inBlock 0]
noncomputable def K123_7 : List Item := [.code (sub c123 [1, 0, 0, 1, 1, 0, 0, 1, 1, 0]), .inBlock 1, .code (sub c123 [1, 0, 0, 1, 1, 1]), .inLoop (sub c123 [1, 0, 0]), .inBlock 0]
noncomputable def K123_8 : List Item := [.code (sub c123 [1, 0, 0, 1, 1, 1]), .inLoop (sub c123 [1, 0, 0]), .inBlock 0]
set_option maxHeartbeats 400000 in
theorem may1_fn (l bd od bc oc bl ol : Nat) (vd vd2 : Addr) (lost : Int) (m : Nat) (fs : Option Addr) (fc : Nat) (R : Nat → Bool) (S : List Nat) (J : List Nat → World → Prop) (Q : World → Prop) (w : World)
    (hbd : ∀ w', Upd (l :: S) w w' → Cl w' bd od [.pointer (some vd)]) (hbc : ∀ w', Upd (l :: S) w w' → Cl w' bc oc [(.func (.func 111) #[.pointer (some vd2)] #[])]) (hbl : ∀ w', Upd (l :: S) w w' → Cl w' bl ol [.int .i64 lost])
    (hfo : ∀ w', Upd (l :: S) w w' → w'.cell? (vd.add 3) = some (.slice fs m fc))
    (hcan : ∀ (k : Nat) w', k < m → Upd (l :: S) w w' → Fn Try.prog 111 #[.pointer (some vd2), .int .i64 lost, .int .i64 (↑k : Int)] w' (fun v w2 => Ext w' w2 ∧ v = .bool (R k)))
    (hm : m ≤ 1000000) (hJ : J (mayF R m 0) w) (hxJ : ∀ r, Stays w.heap.size (J r))
    (hy : ∀ k r w1, k ∈ mayF R m 0 → J (k :: r) w1 → Upd (l :: S) w w1 → Yield Try.prog l #[.int .i64 ↑k] w1 (fun v w2 => Upd (l :: S) w1 w2 ∧ ((v = .bool true ∧ J r w2) ∨ (v = .bool false ∧ Q w2)))) :
    Fn Try.prog 123 #[(.func (.yield l) #[] #[]), (.pointer (some ⟨bd, od, none⟩)), (.pointer (some ⟨bc, oc, none⟩)), (.pointer (some ⟨bl, ol, none⟩))] w (fun _ w' => Upd (l :: S) w w' ∧ (J [] w' ∨ Q w')) := by
  refine Fn.ofSt (c := c123) 26 K123_0 [(0, (.func (.yield l) #[] #[])), (1, (.pointer (some ⟨bd, od, none⟩))), (2, (.pointer (some ⟨bc, oc, none⟩))), (3, (.pointer (some ⟨bl, ol, none⟩)))] Try.func123 (by kernel_rfl) ⟨⟨rfl, by kernel_rfl⟩, by kernel_rfl⟩ (by kernel_rfl) ?_
  intro cs
  refine St.reg K123_1 [(0, true), (1, true), (2, true), (3, true), (4, true), (5, true), (6, true)] (by kernel_rfl) (by kernel_rfl) ?_
  refine RX.q 7 [(0, true, (.pointer (some vd))), (4, true, (.slice fs m fc))] [(0, (.func (.yield l) #[] #[])), (1, (.pointer (some ⟨bd, od, none⟩))), (2, (.pointer (some ⟨bc, oc, none⟩))), (3, (.pointer (some ⟨bl, ol, none⟩))), (11, (.int .i64 (↑m : Int))), (12, (.int .i64 0))] [.cell ⟨bd, od + 0, none⟩ (.pointer (some vd)), .cell (vd.add 3) (.slice fs m fc)] (by kernel_rfl) ⟨Cl.cell (hbd w (Upd.refl _ w)) rfl, hfo w (Upd.refl _ w)⟩ ?_
  refine RX.done [(0, (.func (.yield l) #[] #[])), (1, (.pointer (some ⟨bd, od, none⟩))), (2, (.pointer (some ⟨bc, oc, none⟩))), (3, (.pointer (some ⟨bl, ol, none⟩))), (11, (.int .i64 (↑m : Int))), (12, (.int .i64 0))] (by kernel_rfl) (by kernel_rfl) ?_
  have loop1 : ∀ (N : Nat) (k : Nat) (w2 : World), k ≤ m → (J (mayF R m k) w2) → (Upd (l :: S) w w2) → N = m - k → St Try.prog (fctx Try.prog 123 (fun _ w' => Upd (l :: S) w w' ∧ (J [] w' ∨ Q w')) cs) 26 K123_1 [(12, (.int .i64 (↑k : Int))), (11, (.int .i64 (↑m : Int))), (0, (.func (.yield l) #[] #[])), (1, (.pointer (some ⟨bd, od, none⟩))), (2, (.pointer (some ⟨bc, oc, none⟩))), (3, (.pointer (some ⟨bl, ol, none⟩)))] [] w2 := by
    intro N3
    induction N3 using Nat.strongRecOn with
    | ind N3 ih4 => ?_
    intro k w2 hk hJk hE hN5
    refine St.reg K123_2 [(0, true)] (by kernel_rfl) (by kernel_rfl) ?_
    refine RX.q 1 [] [(0, (.func (.yield l) #[] #[])), (1, (.pointer (some ⟨bd, od, none⟩))), (2, (.pointer (some ⟨bc, oc, none⟩))), (3, (.pointer (some ⟨bl, ol, none⟩))), (11, (.int .i64 (↑m : Int))), (12, (.int .i64 (↑k : Int))), (13, (.bool (decide ((↑k : Int) < (↑m : Int)))))] [] (by kernel_rfl) trivial ?_
    refine RX.done [(0, (.func (.yield l) #[] #[])), (1, (.pointer (some ⟨bd, od, none⟩))), (2, (.pointer (some ⟨bc, oc, none⟩))), (3, (.pointer (some ⟨bl, ol, none⟩))), (11, (.int .i64 (↑m : Int))), (12, (.int .i64 (↑k : Int))), (13, (.bool (decide ((↑k : Int) < (↑m : Int)))))] (by kernel_rfl) (by kernel_rfl) ?_
    refine St.cond (k1 := K123_3) (k2 := K123_4) (decide ((↑k : Int) < (↑m : Int))) (by kernel_rfl) (fun hc7 => ?_) (fun hc7 => ?_)
    · have hh8 : (↑k : Int) < (↑m : Int) := by simpa using hc7
      clear hc7
      refine St.weak (L' := [(12, (.int .i64 (↑k : Int))), (11, (.int .i64 (↑m : Int))), (0, (.func (.yield l) #[] #[])), (1, (.pointer (some ⟨bd, od, none⟩))), (2, (.pointer (some ⟨bc, oc, none⟩))), (3, (.pointer (some ⟨bl, ol, none⟩)))]) (by kernel_rfl) ?_
      refine St.reg K123_5 [(0, true), (1, true)] (by kernel_rfl) (by kernel_rfl) ?_
      refine RX.q 2 [] [(0, (.func (.yield l) #[] #[])), (1, (.pointer (some ⟨bd, od, none⟩))), (2, (.pointer (some ⟨bc, oc, none⟩))), (3, (.pointer (some ⟨bl, ol, none⟩))), (11, (.int .i64 (↑m : Int))), (12, (.int .i64 (↑k : Int))), (5, (.int .i64 (↑k : Int)))] [] (by kernel_rfl) trivial ?_
      refine RX.done [(0, (.func (.yield l) #[] #[])), (1, (.pointer (some ⟨bd, od, none⟩))), (2, (.pointer (some ⟨bc, oc, none⟩))), (3, (.pointer (some ⟨bl, ol, none⟩))), (11, (.int .i64 (↑m : Int))), (12, (.int .i64 (↑k : Int))), (5, (.int .i64 (↑k : Int)))] (by kernel_rfl) (by kernel_rfl) ?_
      refine St.reg K123_6 [(0, true), (1, true), (2, true), (3, false), (4, true), (5, true), (6, true), (7, false), (8, true), (9, true)] (by kernel_rfl) (by kernel_rfl) ?_
      refine RX.q 3 [(0, true, (.func (.func 111) #[.pointer (some vd2)] #[])), (1, true, (.int .i64 lost))] [(0, (.func (.yield l) #[] #[])), (1, (.pointer (some ⟨bd, od, none⟩))), (2, (.pointer (some ⟨bc, oc, none⟩))), (3, (.pointer (some ⟨bl, ol, none⟩))), (11, (.int .i64 (↑m : Int))), (12, (.int .i64 (↑k : Int))), (5, (.int .i64 (↑k : Int))), (15, (.func (.func 111) #[.pointer (some vd2)] #[])), (16, (.int .i64 lost)), (17, (.int .i64 (↑k : Int)))] [.cell ⟨bc, oc + 0, none⟩ (.func (.func 111) #[.pointer (some vd2)] #[]), .cell ⟨bl, ol + 0, none⟩ (.int .i64 lost)] (by kernel_rfl) ⟨Cl.cell (hbc w2 hE) rfl, Cl.cell (hbl w2 hE) rfl⟩ ?_
      refine RX.call 18 111 #[.pointer (some vd2), (.int .i64 lost), (.int .i64 (↑k : Int))] [(0, (.func (.yield l) #[] #[])), (1, (.pointer (some ⟨bd, od, none⟩))), (2, (.pointer (some ⟨bc, oc, none⟩))), (3, (.pointer (some ⟨bl, ol, none⟩))), (11, (.int .i64 (↑m : Int))), (12, (.int .i64 (↑k : Int))), (5, (.int .i64 (↑k : Int))), (15, (.func (.func 111) #[.pointer (some vd2)] #[])), (16, (.int .i64 lost)), (17, (.int .i64 (↑k : Int)))] (fun _ => by kernel_rfl) (by kernel_rfl) ?_
      refine Fn.mono (hcan k w2 (by omega) hE) ?_
      rintro _ w4 ⟨hx4, rfl⟩
      have hE4 : Upd (l :: S) w w4 := Upd.ext hE hx4
      have hJ4 : J (mayF R m k) w4 := Stays.ext (hxJ _) hJk hx4
      cases hR : R k with
      | true =>
        refine RX.q 3 [] [(0, (.func (.yield l) #[] #[])), (1, (.pointer (some ⟨bd, od, none⟩))), (2, (.pointer (some ⟨bc, oc, none⟩))), (3, (.pointer (some ⟨bl, ol, none⟩))), (11, (.int .i64 (↑m : Int))), (12, (.int .i64 (↑k : Int))), (19, (.bool true)), (20, (.func (.yield l) #[] #[])), (21, (.int .i64 (↑k : Int)))] [] (by kernel_rfl) trivial ?_
        rw [mayF_yes (by omega) hR] at hJ4
        refine RX.yield 22 l #[(.int .i64 (↑k : Int))] [(0, (.func (.yield l) #[] #[])), (1, (.pointer (some ⟨bd, od, none⟩))), (2, (.pointer (some ⟨bc, oc, none⟩))), (3, (.pointer (some ⟨bl, ol, none⟩))), (11, (.int .i64 (↑m : Int))), (12, (.int .i64 (↑k : Int))), (19, (.bool true)), (20, (.func (.yield l) #[] #[])), (21, (.int .i64 (↑k : Int)))] (by kernel_rfl) ?_
        refine Yield.mono (hy k _ w4 (mem_mayF.2 ⟨by omega, by omega, hR⟩) hJ4 hE4) ?_
        rintro _ w5 ⟨hu5, ⟨rfl, hv⟩ | ⟨rfl, hv⟩⟩
        · refine RX.q 2 [] [(0, (.func (.yield l) #[] #[])), (1, (.pointer (some ⟨bd, od, none⟩))), (2, (.pointer (some ⟨bc, oc, none⟩))), (3, (.pointer (some ⟨bl, ol, none⟩))), (11, (.int .i64 (↑m : Int))), (12, (.int .i64 (↑k : Int))), (24, (.bool false))] [] (by kernel_rfl) trivial ?_
          refine RX.done [(0, (.func (.yield l) #[] #[])), (1, (.pointer (some ⟨bd, od, none⟩))), (2, (.pointer (some ⟨bc, oc, none⟩))), (3, (.pointer (some ⟨bl, ol, none⟩))), (11, (.int .i64 (↑m : Int))), (12, (.int .i64 (↑k : Int))), (24, (.bool false))] (by kernel_rfl) (by kernel_rfl) ?_
          refine St.cond (k1 := K123_7) (k2 := K123_8) false (by kernel_rfl) (fun hc => ?_) (fun hc => ?_)
          · cases hc
          · clear hc
            refine St.weak (L' := [(12, (.int .i64 (↑k : Int))), (11, (.int .i64 (↑m : Int))), (0, (.func (.yield l) #[] #[])), (1, (.pointer (some ⟨bd, od, none⟩))), (2, (.pointer (some ⟨bc, oc, none⟩))), (3, (.pointer (some ⟨bl, ol, none⟩)))]) (by kernel_rfl) ?_
            refine St.reg K123_1 [(0, true), (1, true)] (by kernel_rfl) (by kernel_rfl) ?_
            refine RX.q 2 [(0, false, (.int .i64 ((↑k : Int) + 1)))] [(0, (.func (.yield l) #[] #[])), (1, (.pointer (some ⟨bd, od, none⟩))), (2, (.pointer (some ⟨bc, oc, none⟩))), (3, (.pointer (some ⟨bl, ol, none⟩))), (11, (.int .i64 (↑m : Int))), (12, (.int .i64 ((↑k : Int) + 1)))] [.eq (.int .i64 (IntKind.i64.wrap ((↑k : Int) + 1))) (.int .i64 ((↑k : Int) + 1))] (by kernel_rfl) (int64 (by omega)) ?_
            refine RX.done [(0, (.func (.yield l) #[] #[])), (1, (.pointer (some ⟨bd, od, none⟩))), (2, (.pointer (some ⟨bc, oc, none⟩))), (3, (.pointer (some ⟨bl, ol, none⟩))), (11, (.int .i64 (↑m : Int))), (12, (.int .i64 ((↑k : Int) + 1)))] (by kernel_rfl) (by kernel_rfl) ?_
            refine St.weak (by kernel_rfl) (ih4 _ ?_ (k + 1) w5 (by omega) hv (Upd.trans hE4 hu5) rfl)
            omega
        · refine RX.q 2 [] [(0, (.func (.yield l) #[] #[])), (1, (.pointer (some ⟨bd, od, none⟩))), (2, (.pointer (some ⟨bc, oc, none⟩))), (3, (.pointer (some ⟨bl, ol, none⟩))), (11, (.int .i64 (↑m : Int))), (12, (.int .i64 (↑k : Int))), (24, (.bool true))] [] (by kernel_rfl) trivial ?_
          refine RX.done [(0, (.func (.yield l) #[] #[])), (1, (.pointer (some ⟨bd, od, none⟩))), (2, (.pointer (some ⟨bc, oc, none⟩))), (3, (.pointer (some ⟨bl, ol, none⟩))), (11, (.int .i64 (↑m : Int))), (12, (.int .i64 (↑k : Int))), (24, (.bool true))] (by kernel_rfl) (by kernel_rfl) ?_
          refine St.cond (k1 := K123_7) (k2 := K123_8) true (by kernel_rfl) (fun hc => ?_) (fun hc => ?_)
          · clear hc
            refine St.weak (L' := []) (by kernel_rfl) ?_
            refine St.ret [] [] (by kernel_rfl) Try.func123 (by kernel_rfl) .nil ?_
            exact ⟨Upd.trans hE4 hu5, .inr hv⟩
          · cases hc
      | false =>
        refine RX.q 3 [] [(0, (.func (.yield l) #[] #[])), (1, (.pointer (some ⟨bd, od, none⟩))), (2, (.pointer (some ⟨bc, oc, none⟩))), (3, (.pointer (some ⟨bl, ol, none⟩))), (11, (.int .i64 (↑m : Int))), (12, (.int .i64 (↑k : Int))), (19, (.bool false)), (20, undef), (21, undef)] [] (by kernel_rfl) trivial ?_
        refine RX.skip [(0, (.func (.yield l) #[] #[])), (1, (.pointer (some ⟨bd, od, none⟩))), (2, (.pointer (some ⟨bc, oc, none⟩))), (3, (.pointer (some ⟨bl, ol, none⟩))), (11, (.int .i64 (↑m : Int))), (12, (.int .i64 (↑k : Int))), (19, (.bool false)), (20, undef), (21, undef), (22, undef)] (by kernel_rfl) ?_
        refine RX.q 2 [] [(0, (.func (.yield l) #[] #[])), (1, (.pointer (some ⟨bd, od, none⟩))), (2, (.pointer (some ⟨bc, oc, none⟩))), (3, (.pointer (some ⟨bl, ol, none⟩))), (11, (.int .i64 (↑m : Int))), (12, (.int .i64 (↑k : Int))), (24, (.bool false))] [] (by kernel_rfl) trivial ?_
        refine RX.done [(0, (.func (.yield l) #[] #[])), (1, (.pointer (some ⟨bd, od, none⟩))), (2, (.pointer (some ⟨bc, oc, none⟩))), (3, (.pointer (some ⟨bl, ol, none⟩))), (11, (.int .i64 (↑m : Int))), (12, (.int .i64 (↑k : Int))), (24, (.bool false))] (by kernel_rfl) (by kernel_rfl) ?_
        refine St.cond (k1 := K123_7) (k2 := K123_8) false (by kernel_rfl) (fun hc => ?_) (fun hc => ?_)
        · cases hc
        · clear hc
          refine St.weak (L' := [(12, (.int .i64 (↑k : Int))), (11, (.int .i64 (↑m : Int))), (0, (.func (.yield l) #[] #[])), (1, (.pointer (some ⟨bd, od, none⟩))), (2, (.pointer (some ⟨bc, oc, none⟩))), (3, (.pointer (some ⟨bl, ol, none⟩)))]) (by kernel_rfl) ?_
          refine St.reg K123_1 [(0, true), (1, true)] (by kernel_rfl) (by kernel_rfl) ?_
          refine RX.q 2 [(0, false, (.int .i64 ((↑k : Int) + 1)))] [(0, (.func (.yield l) #[] #[])), (1, (.pointer (some ⟨bd, od, none⟩))), (2, (.pointer (some ⟨bc, oc, none⟩))), (3, (.pointer (some ⟨bl, ol, none⟩))), (11, (.int .i64 (↑m : Int))), (12, (.int .i64 ((↑k : Int) + 1)))] [.eq (.int .i64 (IntKind.i64.wrap ((↑k : Int) + 1))) (.int .i64 ((↑k : Int) + 1))] (by kernel_rfl) (int64 (by omega)) ?_
          refine RX.done [(0, (.func (.yield l) #[] #[])), (1, (.pointer (some ⟨bd, od, none⟩))), (2, (.pointer (some ⟨bc, oc, none⟩))), (3, (.pointer (some ⟨bl, ol, none⟩))), (11, (.int .i64 (↑m : Int))), (12, (.int .i64 ((↑k : Int) + 1)))] (by kernel_rfl) (by kernel_rfl) ?_
          refine St.weak (by kernel_rfl) (ih4 _ ?_ (k + 1) w4 (by omega) (by rw [← mayF_no (by omega) hR]; exact hJ4) hE4 rfl)
          omega
    · have hh52 : (↑m : Int) ≤ (↑k : Int) := by simpa using hc7
      clear hc7
      refine St.weak (L' := []) (by kernel_rfl) ?_
      refine St.ret [] [] (by kernel_rfl) Try.func123 (by kernel_rfl) .nil ?_
      refine ⟨hE, .inl ?_⟩
      rw [← mayF_end (R := R) (m := m) (k := k) (by omega)]; exact hJk
  exact St.weak (by kernel_rfl) (loop1 _ 0 w (by omega) hJ (Upd.refl (l :: S) w) rfl)

/-- Whether two things can be joined. -/
def agD (d : Dk) (i k : Nat) : Int := d.2.2.2.2.2.1.getD (i * 6 + k) 0
def slD (d : Dk) (i k : Nat) : Int := d.2.2.2.2.2.2.1.getD (i * 6 + k) 0
def canD (d : Dk) (i k : Nat) : Bool := decide (0 < agD d i k) && decide (slD d i k ≤ d.2.1)
theorem can_v {N : Nat} {d : Dk} (hA : d.2.2.2.2.2.1.length = 36) (hS : d.2.2.2.2.2.2.1.length = 36) {i k : Nat} (hi : i < 6) (hk : k < 6) : can_S N d i k = some (canD d i k) := by
  unfold can_S canD agD slD
  rw [rng_eq (by omega), rng_eq (by omega)]
  simp only [Int.toNat_natCast]
  rw [get_get 0 (by omega)]
  by_cases c : 0 < d.2.2.2.2.2.1.getD (i * 6 + k) 0
  · rw [br_dec c, rng_eq (by omega), rng_eq (by omega), get_get 0 (by omega), decide_eq_true c]; rfl
  · rw [br_ndec c, decide_eq_false c]; rfl
def mayR (d d' : Dk) (lost : Int) : Option (List (Int × Unit)) :=
  if (0 ≤ lost ∧ lost < 6) ∧ d.2.2.2.1.length ≤ 6 ∧ d'.2.2.2.2.2.1.length = 36 ∧ d'.2.2.2.2.2.2.1.length = 36 then some ((mayF (canD d' lost.toNat) d.2.2.2.1.length 0).map fun (j : Nat) => ((j : Int), ())) else none
abbrev is_may : ISpec := { f := 123, cap := [.fz [shD], .fz [.fn 111 [shD] []], .fe (.int .i64)], elem := [.i .i64], run := fun p => mayR p.1.1 p.2.1.1.1.1 p.2.2.1 }
theorem inR_small {n : Int} (h : -1000000 ≤ n ∧ n ≤ 1000000) : inR .i64 n := inR_i64.2 (by omega)
theorem is_may_ok : ISpecOK Try.prog is_may := by
  refine ⟨by rfl, fun _ => by kernel_rfl, fun p es hes g vs hvs l S J Q w hM hS hJ hxJ hxQ hy => ?_⟩
  obtain ⟨⟨d, ⟨⟩⟩, ⟨⟨⟨d', ⟨⟩⟩, ⟨⟩⟩, ⟨⟩⟩, lost, ⟨⟩⟩ := p
  simp only [mayR] at hes
  split at hes
  rotate_left
  · cases hes
  rename_i hc
  simp only [Option.some.injEq] at hes
  subst hes
  obtain ⟨⟨ha0, ha1⟩, hf, hA, hS'⟩ := hc
  obtain ⟨i, rfl⟩ : ∃ n : Nat, lost = n := ⟨lost.toNat, (Int.toNat_of_nonneg ha0).symm⟩
  simp only [Int.toNat_natCast] at hJ ⊢
  simp only [encs, enc, RepVs, RepV] at hvs
  obtain ⟨v1, r1, rfl, ⟨bd, od, wd, td, ud, rfl, hbd, hsd, hcd⟩, v2, r2, rfl, ⟨bc, oc, wc, tc, uc, rfl, hbc, hsc, hcc⟩, v3, r3, rfl, ⟨bl, ol, wl, tl, ul, rfl, hbl, hsl, hcl⟩, rfl⟩ := hvs
  obtain ⟨rfl, hin⟩ := hcl
  obtain ⟨x1, x2, rfl, ⟨x3, rfl, hx⟩, rfl⟩ := hcd
  simp only [RepV] at hx
  obtain ⟨bo, oo, wo, to, uo, rfl, hbo, hso, hco⟩ := hx
  obtain ⟨y1, y2, rfl, ⟨y3, rfl, hy'⟩, rfl⟩ := hcc
  simp only [RepV, RepVs] at hy'
  obtain ⟨va, vc, rfl, ⟨z1, z2, rfl, ⟨be, oe, we, te, ue, rfl, hbe, hse, hce⟩, rfl⟩, rfl⟩ := hy'
  simp only [RepPs, PartOf, RepV] at hco
  obtain ⟨p1, q1, rfl, ⟨e1, rfl, h1⟩, p2, q2, rfl, ⟨e2, rfl, h2⟩, p3, q3, rfl, ⟨e3, rfl, h3⟩, p4, q4, rfl, ⟨e4, rfl, h4⟩, hrest⟩ := hco
  obtain ⟨hl4, fa, fc, rfl, hfc, hf4⟩ := h4
  have hmem : ∀ w', Upd (l :: S) w w' → ∀ b o, g.M b = some o → w'.heap[b]? = some o := fun w' hu b o hb => hu.blk (hM b o hb).2 (hM b o hb).1
  have hrd : RepV ⟨fun _ => none, g.M⟩ (enc id shD d') (.pointer (some ⟨be, oe, none⟩)) := ⟨be, oe, we, te, ue, rfl, hbe, hse, hce⟩
  have hfn := may1_fn l bd od bc oc bl ol ⟨bo, oo, none⟩ ⟨be, oe, none⟩ (i : Int) d.2.2.2.1.length fa fc (canD d' i) S (fun r => J (r.map fun (j : Nat) => ((j : Int), ()))) Q w
    (fun w' hu => Cl.of_seg (hmem w' hu _ _ hbd) hsd) (fun w' hu => Cl.of_seg (hmem w' hu _ _ hbc) hsc) (fun w' hu => Cl.of_seg (hmem w' hu _ _ hbl) hsl)
    (fun w' hu => Cl.cell (Cl.of_seg (hmem w' hu _ _ hbo) hso) (i := 3) rfl)
    (fun k w' h1 hu => Fn.mono (call_pure (sp_can_ok 200) rfl (p := ((d', ((i : Int), ((k : Int), ()))), ())) (r := ((canD d' i k, ()), ())) (by
        show ((can_S 200 d' i k).bind fun r => some ((r, ()), ())) = _
        rw [can_v hA hS' (by omega) (by omega)]; rfl) (hmem w' hu) ⟨_, _, rfl, hrd, _, _, rfl, ⟨rfl, (show inR .i64 (i : Int) from inR_small (by omega))⟩, _, _, rfl, ⟨rfl, (show inR .i64 (k : Int) from inR_small (by omega))⟩, rfl⟩) (fun v w2 ⟨h1, g', h2⟩ => ⟨h1, by
      simp only [altOf, encs, enc, resVal, RepV] at h2
      exact h2⟩))
    (by omega) hJ (fun r => hxJ _) (fun m r w1 hm hj hu => hy ((m : Int), ()) (r.map fun (j : Nat) => ((j : Int), ())) w1 [.int .i64 (m : Int)] hj hu ⟨_, _, rfl, ⟨rfl, inR_small (by have := (mem_mayF.1 hm).2.1; omega)⟩, rfl⟩)
  exact hfn
end Go.Proofs.Ythncjilcflilcaa

namespace Go.Proofs.Ythncjilcflilcaa
set_option linter.all false
open Go

/-- A row of our own. -/
def CR (w : World) (lo : Nat) (r : List Int) (v : Value) : Prop := ∃ b c rest ty, v = .slice (some ⟨b, 0, none⟩) r.length c ∧ r.length ≤ c ∧ lo ≤ b ∧ r.length ≤ 1000000 ∧ (∀ x ∈ r, inR .i64 x) ∧ Blk w b (r.map (.int .i64) ++ rest) ty
def blkN : Value → Nat
  | .slice (some p) _ _ => p.block
  | _ => 0
theorem CR.upd {w w' : World} {lo : Nat} {r : List Int} {v : Value} {S : List Nat} (h : CR w lo r v) (hu : Upd S w w') (hb : blkN v ∉ S) : CR w' lo r v := by
  obtain ⟨b, c, rest, ty, rfl, h1, h2, h3, h4, h5⟩ := h
  exact ⟨b, c, rest, ty, rfl, h1, h2, h3, h4, hu.blk h5 hb⟩
theorem CR.lo {w : World} {lo lo' : Nat} {r : List Int} {v : Value} (h : CR w lo r v) (hl : lo' ≤ lo) : CR w lo' r v := by
  obtain ⟨b, c, rest, ty, rfl, h1, h2, h3⟩ := h
  exact ⟨b, c, rest, ty, rfl, h1, by omega, h3⟩
theorem CR.lt {w : World} {lo : Nat} {r : List Int} {v : Value} (h : CR w lo r v) : lo ≤ blkN v ∧ blkN v < w.heap.size := by
  obtain ⟨b, c, rest, ty, rfl, h1, h2, h3, h4, h5⟩ := h
  exact ⟨h2, lt_of_blk h5⟩
theorem repL_i2 {M : Nat → Option Obj} : ∀ (l : List Int) (vs : List Value), RepL M (.int .i64) l vs ↔ vs = l.map (.int .i64) ∧ ∀ x ∈ l, inR .i64 x
  | [], vs => by simp [RepL]
  | x :: l, vs => by
    simp only [RepL, RepC, List.map_cons, List.mem_cons, forall_eq_or_imp]
    constructor
    · rintro ⟨v1, v2, rfl, ⟨rfl, h1⟩, h2⟩
      obtain ⟨rfl, h3⟩ := (repL_i2 l v2).1 h2
      exact ⟨rfl, h1, h3⟩
    · rintro ⟨rfl, h1, h3⟩
      exact ⟨_, _, rfl, ⟨rfl, h1⟩, (repL_i2 l _).2 ⟨rfl, h3⟩⟩
theorem clone_fn {M : Nat → Option Obj} {w : World} {r : List Int} {v : Value} (hM : ∀ b o, M b = some o → w.heap[b]? = some o) (hr : RepS M 1 (RepC M (.int .i64)) r v) (hn : r ≠ []) (hl : r.length ≤ 1000000) :
    Fn Try.prog 118 #[v] w (fun v' w' => Ext w w' ∧ CR w' w.heap.size r v') := by
  have hrun : (sp_cloneo 0).run ((r, ()), ()) some = some (((), ()), (r, ())) := by
    show ((cloneo_S 0 r).bind fun r => some (((), ()), (r, ()))) = _
    unfold cloneo_S
    rw [grd_eq (by simp [hn]), lim_eq (by simpa using hl)]
    simp
  have hs : Sim ⟨fun _ => none, M⟩ (hOf (ss := (sp_cloneo 0).ins.blks) ()) w := ⟨fun b o h => hM b o h, fun i k hk => (by have h : ([] : List Blk')[i]? = some k := hk; simp at h), fun i j ki kj b ci ni cj nj h1 => (by have h : ([] : List Blk')[i]? = some ki := h1; simp at h)⟩
  have h := (sp_cloneo_ok 0).fn ((r, ()), ()) _ hrun ⟨fun _ => none, M⟩ w [v] ⟨_, _, rfl, hr, rfl⟩ hs (fun _ _ => rfl)
  refine Fn.mono h ?_
  rintro v' w' ⟨g', st, hs', hv'⟩
  have he : Ext w w' := ⟨st.os, st.tape, st.output, st.size, fun k hk _ => st.same k hk (by rintro ⟨i, hi, _⟩; have h : i ∈ ([] : List Nat) := hi; simp at h)⟩
  refine ⟨he, ?_⟩
  have hb := hs'.blk 0 (.lst (.int .i64) r) rfl
  simp only [RepBlk] at hb
  simp only [altOf, encs, enc, resVal, RepV] at hv'
  obtain ⟨h1, ⟨_, h2⟩ | ⟨b, c, vs, rest, ty, h2, h3, h4, ⟨h5, h6⟩, h7, h8⟩⟩ := hb
  · exact absurd h2 hn
  · rcases hv' with ⟨h9, _⟩ | ⟨b', c', n', h9, rfl⟩
    · rw [show (id 0 : Nat) = 0 from rfl, h2] at h9; cases h9
    · rw [show (id 0 : Nat) = 0 from rfl, h2] at h9
      cases h9
      obtain ⟨rfl, h10⟩ := (repL_i2 r vs).1 h4
      refine ⟨b, c, rest, ty, rfl, h5, ?_, h1, h10, h3⟩
      rcases st.ρb 0 b c r.length rfl h2 with h | ⟨i, hi, _⟩
      · exact h
      · have h : i ∈ ([] : List Nat) := hi; simp at h
/-- The rows' values. -/
theorem rows_at {M : Nat → Option Obj} {l : List (List Int)} {vs : List Value} (h : RepL M (.sl (.int .i64)) l vs) : vs.length = l.length ∧ ∀ i, i < l.length → ∃ a c, vs[i]? = some (.slice a (l.getD i []).length c) ∧ RepS M 1 (RepC M (.int .i64)) (l.getD i []) (.slice a (l.getD i []).length c) := by
  refine ⟨by have := (RepL.len _ _ h).1; simpa [Ty.cells] using this, fun i hi => ?_⟩
  have hx : l[i]? = some (l.getD i []) := by simp [List.getD_eq_getElem?_getD, List.getElem?_eq_getElem hi]
  obtain ⟨us, h1, v, rfl, h2⟩ := RepL.get _ _ i _ h hx
  have h3 := h2.2
  obtain ⟨a, c, rfl, _⟩ := h3
  refine ⟨a, c, ?_, h2⟩
  have := h1
  simp only [Ty.cells, Nat.mul_one] at this
  exact (show vs[i + 0]? = _ from this 0 _ rfl)
end Go.Proofs.Ythncjilcflilcaa

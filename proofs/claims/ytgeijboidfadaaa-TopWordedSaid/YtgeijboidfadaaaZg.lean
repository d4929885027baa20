/-
  Parts of a proof, put together: PF1, PTG, PFIt, PUp, PFCl, PFCo, PF2.
  Conditions: none.
-/
import Derived.Test.YtgeijboidfadaaaZe
namespace Go.Proofs.Ytgeijboidfadaaa.Fd
set_option linter.all false
open Go

/-- A desk at work. -/
abbrev Dk := List Int × Int × List Qa × List Qa × List Int × List Int × List Int × Unit
abbrev Li := List Int
abbrev shD : Sh := .fz [.sl (.int .i64), .i .i64, .sl Qb, .sl Qb, .sl (.int .i64), .arr (.int .i64) 36, .arr (.int .i64) 36]
def in__S (N : Nat) (n : Int) (lo : Int) (hi : Int) : Option Bool :=
  br (decide (lo ≤ n))
    (some (decide (n ≤ hi)))
    (some false)
noncomputable def in__sp (N : Nat) : List Spec := []
theorem in__all (N : Nat) : AllP (SpecOK Try.prog) (in__sp N) := trivial
noncomputable def in__c : Code := (Try.f69.body).getD .skip
noncomputable abbrev in__B : Body := { c := in__c, n := 15, res := [.tmp 6], outs := [⟨[.b], []⟩], m0 := 0 }
abbrev in__rt : altD in__B.outs → Option Bool := fun r => some r.1.1
abbrev in__st : Sta := ⟨[0, 1, 2], ⟨[.i .i64, .i .i64, .i .i64], []⟩⟩
theorem in__eq (N : Nat) (n : Int) (lo : Int) (hi : Int) : ev (Z := Bool) Try.prog (in__sp N) in__B [] [] (some in__rt) 400 false [.c [0], .c [1]] (stL in__st ((n, lo, hi, ()), ())) (stH in__st ((n, lo, hi, ()), ())) = in__S N n lo hi := by kernel_rfl
noncomputable def sp_in_ (N : Nat) : Spec := { f := 69, ins := ⟨[.i .i64, .i .i64, .i .i64], []⟩, outs := [⟨[.b], []⟩], run := fun p k => (in__S N p.1.1 p.1.2.1 p.1.2.2.1).bind fun r => k ((r, ()), ()) }
theorem sp_in__ok (N : Nat) : SpecOK Try.prog (sp_in_ N) := fn_sound (B := in__B) (loops := []) (leaves := []) (fun p => in__S N p.1.1 p.1.2.1 p.1.2.2.1) (fun r => ((r, ()), ())) in__rt (fun _ _ _ => rfl) (fun r z h => by cases h; rfl) Try.func69 (by kernel_rfl) (by kernel_rfl) (by kernel_rfl) rfl rfl (by kernel_rfl) (fun args w => Sem.pv_run _ _ _ (by kernel_rfl) w) (in__all N) mixed trivial (fun z E Xc hE hX hret => trivial) (fun p => in__eq N p.1.1 p.1.2.1 p.1.2.2.1)

def check1_S (N : Nat) (l : List Int) (u : Qf) : Option Bool :=
  some (decide ((l.length : Int) = (u.1.length : Int)))
noncomputable def check1_sp (N : Nat) : List Spec := []
theorem check1_all (N : Nat) : AllP (SpecOK Try.prog) (check1_sp N) := trivial
noncomputable def check1_c : Code := (Try.f99.body).getD .skip
noncomputable abbrev check1_B : Body := { c := check1_c, n := 10, res := [.tmp 3], outs := [⟨[.b], []⟩], m0 := 0 }
abbrev check1_rt : altD check1_B.outs → Option Bool := fun r => some r.1.1
abbrev check1_st : Sta := ⟨[0, 1], ⟨[.sl (.int .i64), .fe Qg], []⟩⟩
theorem check1_eq (N : Nat) (l : List Int) (u : Qf) : ev (Z := Bool) Try.prog (check1_sp N) check1_B [] [] (some check1_rt) 400 false [.c [0], .c [1]] (stL check1_st ((l, u, ()), ())) (stH check1_st ((l, u, ()), ())) = check1_S N l u := by kernel_rfl
noncomputable def sp_check1 (N : Nat) : Spec := { f := 99, ins := ⟨[.sl (.int .i64), .fe Qg], []⟩, outs := [⟨[.b], []⟩], run := fun p k => (check1_S N p.1.1 p.1.2.1).bind fun r => k ((r, ()), ()) }
theorem sp_check1_ok (N : Nat) : SpecOK Try.prog (sp_check1 N) := fn_sound (B := check1_B) (loops := []) (leaves := []) (fun p => check1_S N p.1.1 p.1.2.1) (fun r => ((r, ()), ())) check1_rt (fun _ _ _ => rfl) (fun r z h => by cases h; rfl) Try.func99 (by kernel_rfl) (by kernel_rfl) (by kernel_rfl) rfl rfl (by kernel_rfl) (fun args w => Sem.pv_run _ _ _ (by kernel_rfl) w) (check1_all N) mixed trivial (fun z E Xc hE hX hret => trivial) (fun p => check1_eq N p.1.1 p.1.2.1)

def check21_S (N : Nat) (n : Int) : Option Bool :=
  (in__S N n (-1) 5).bind fun x_1 =>
  some x_1
noncomputable def check21_sp (N : Nat) : List Spec := [sp_in_ N]
theorem check21_all (N : Nat) : AllP (SpecOK Try.prog) (check21_sp N) := ⟨sp_in__ok N, trivial⟩
noncomputable def check21_c : Code := (Try.f102.body).getD .skip
noncomputable abbrev check21_B : Body := { c := check21_c, n := 5, res := [.tmp 2], outs := [⟨[.b], []⟩], m0 := 0 }
abbrev check21_rt : altD check21_B.outs → Option Bool := fun r => some r.1.1
abbrev check21_st : Sta := ⟨[0], ⟨[.i .i64], []⟩⟩
theorem check21_eq (N : Nat) (n : Int) : ev (Z := Bool) Try.prog (check21_sp N) check21_B [] [] (some check21_rt) 400 false [.c [0], .c [1]] (stL check21_st ((n, ()), ())) (stH check21_st ((n, ()), ())) = check21_S N n := by kernel_rfl
noncomputable def sp_check21 (N : Nat) : Spec := { f := 102, ins := ⟨[.i .i64], []⟩, outs := [⟨[.b], []⟩], run := fun p k => (check21_S N p.1.1).bind fun r => k ((r, ()), ()) }
theorem sp_check21_ok (N : Nat) : SpecOK Try.prog (sp_check21 N) := fn_sound (B := check21_B) (loops := []) (leaves := []) (fun p => check21_S N p.1.1) (fun r => ((r, ()), ())) check21_rt (fun _ _ _ => rfl) (fun r z h => by cases h; rfl) Try.func102 (by kernel_rfl) (by kernel_rfl) (by kernel_rfl) rfl rfl (by kernel_rfl) (fun args w => Sem.pv_run _ _ _ (by kernel_rfl) w) (check21_all N) mixed trivial (fun z E Xc hE hX hret => trivial) (fun p => check21_eq N p.1.1)

def every1v_S (N : Nat) (x : Int) : Option Bool :=
  (check21_S N x).bind fun x_1 =>
  some (!x_1)
noncomputable def every1v_sp (N : Nat) : List Spec := [sp_check21 N]
theorem every1v_all (N : Nat) : AllP (SpecOK Try.prog) (every1v_sp N) := ⟨sp_check21_ok N, trivial⟩
noncomputable def every1v_c : Code := (Try.f130.body).getD .skip
noncomputable abbrev every1v_B : Body := { c := every1v_c, n := 8, res := [.tmp 3], outs := [⟨[.b], [.segs [.fn 102 [] []]]⟩], m0 := 1 }
abbrev every1v_rt : altD every1v_B.outs → Option Bool := fun r => some r.1.1
abbrev every1v_st : Sta := ⟨[0, 1], ⟨[.i .i64, .own 0 0], [.segs [.fn 102 [] []]]⟩⟩
theorem every1v_eq (N : Nat) (x : Int) : ev (Z := Bool) Try.prog (every1v_sp N) every1v_B [] [] (some every1v_rt) 400 false [.c [0], .c [1]] (stL every1v_st ((x, (), ()), ((((), ()), ()), ()))) (stH every1v_st ((x, (), ()), ((((), ()), ()), ()))) = every1v_S N x := by kernel_rfl
noncomputable def sp_every1v (N : Nat) : Spec := { f := 130, ins := ⟨[.i .i64, .own 0 0], [.segs [.fn 102 [] []]]⟩, outs := [⟨[.b], [.segs [.fn 102 [] []]]⟩], run := fun p k => (every1v_S N p.1.1).bind fun r => k ((r, ()), ((((), ()), ()), ())) }
theorem sp_every1v_ok (N : Nat) : SpecOK Try.prog (sp_every1v N) := fn_sound (B := every1v_B) (loops := []) (leaves := []) (fun p => every1v_S N p.1.1) (fun r => ((r, ()), ((((), ()), ()), ()))) every1v_rt (fun _ _ _ => rfl) (fun r z h => by cases h; rfl) Try.func130 (by kernel_rfl) (by kernel_rfl) (by kernel_rfl) rfl rfl (by kernel_rfl) (fun args w => Sem.pv_run _ _ _ (by kernel_rfl) w) (every1v_all N) mixed trivial (fun z E Xc hE hX hret => trivial) (fun p => every1v_eq N p.1.1)

def ixfv_l1 (N : Nat) : Nat → Qa → Int → Int → Option ((Int) ⊕ (Unit))
  | 0, _, _, _ => none
  | n_ + 1, s, u, u2 =>
    br (decide (u2 < u))
      (idx s u2 fun x_1 =>
      (every1v_S N x_1).bind fun x_2 =>
      br x_2
        (some (.inl u2))
        (chk (u2 + 1) <|
        ixfv_l1 N n_ s u (u2 + 1)))
      (some (.inr ()))
def ixfv_S (N : Nat) (s : List Int) : Option Int :=
  (ixfv_l1 N N s (s.length : Int) 0).bind fun e => match e with
  | .inl i_3 =>
    some i_3
  | .inr _ =>
    some (-1)
noncomputable def ixfv_sp (N : Nat) : List Spec := [sp_every1v N]
theorem ixfv_all (N : Nat) : AllP (SpecOK Try.prog) (ixfv_sp N) := ⟨sp_every1v_ok N, trivial⟩
noncomputable def ixfv_c : Code := (Try.f80.body).getD .skip
noncomputable abbrev ixfv_B : Body := { c := ixfv_c, n := 19, res := [.tmp 4], outs := [⟨[.i .i64], [.segs [.fn 102 [] []]]⟩], m0 := 1 }
abbrev ixfv_rt : altD ixfv_B.outs → Option Int := fun r => some r.1.1
abbrev ixfv_l1_at : List PI := [.c [1, 0, 1, 0, 0, 0], .c [1, 0, 1, 0, 0, 1], .l [1, 0, 1, 0, 0], .b 0, .c [1, 1]]
abbrev ixfv_l1_st : Sta := ⟨[0, 1, 7, 8], ⟨[.sl (.int .i64), .fn 130 [] [.own 0 0], .i .i64, .i .i64], [.segs [.fn 102 [] []]]⟩⟩
abbrev ixfv_l1_h (rec : Qa → Int → Int → Option ((Int) ⊕ (Unit))) : Leaf ((Int) ⊕ (Unit)) := ⟨ixfv_l1_at, ixfv_l1_st, fun p => rec p.1.1 p.1.2.2.1 p.1.2.2.2.1⟩
abbrev ixfv_l1_e0 : Leaf ((Int) ⊕ (Unit)) := ⟨[.c [1, 0, 1, 0, 0, 1, 1, 0, 0, 1, 1, 0, 0], .c [1, 0, 1, 0, 0, 1, 1, 0, 0, 1, 1, 0, 1], .b 1, .c [1, 0, 1, 0, 0, 1, 1, 1], .l [1, 0, 1, 0, 0], .b 0, .c [1, 1]], ⟨[5], ⟨[.i .i64], [.segs [.fn 102 [] []]]⟩⟩, fun p => some (.inl p.1.1)⟩
abbrev ixfv_l1_e1 : Leaf ((Int) ⊕ (Unit)) := ⟨[.c [1, 1, 0], .c [1, 1, 1]], ⟨[], ⟨[], [.segs [.fn 102 [] []]]⟩⟩, fun p => some (.inr ())⟩
noncomputable def ixfv_l1_L (N : Nat) : LoopS := { at_ := ixfv_l1_at, sta := ixfv_l1_st, exits := [([.c [1, 0, 1, 0, 0, 1, 1, 0, 0, 1, 1, 0, 0], .c [1, 0, 1, 0, 0, 1, 1, 0, 0, 1, 1, 0, 1], .b 1, .c [1, 0, 1, 0, 0, 1, 1, 1], .l [1, 0, 1, 0, 0], .b 0, .c [1, 1]], ⟨[5], ⟨[.i .i64], [.segs [.fn 102 [] []]]⟩⟩), ([.c [1, 1, 0], .c [1, 1, 1]], ⟨[], ⟨[], [.segs [.fn 102 [] []]]⟩⟩)], run := fun p k => (ixfv_l1 N N p.1.1 p.1.2.2.1 p.1.2.2.2.1).bind fun e => match e with | .inl x => k (.inl ((x, ()), ((((), ()), ()), ()))) | .inr x => k (.inr (.inl ((), ((((), ()), ()), ())))) }
theorem ixfv_l1_eq (N n_ : Nat) (s : List Int) (u : Int) (u2 : Int) : ev (Z := (Int) ⊕ (Unit)) Try.prog (ixfv_sp N) ixfv_B [] [ixfv_l1_h (ixfv_l1 N n_), ixfv_l1_e0, ixfv_l1_e1] none 400 true ixfv_l1_at (stL ixfv_l1_st ((s, ((), ((), ())), u, u2, ()), ((((), ()), ()), ()))) (stH ixfv_l1_st ((s, ((), ((), ())), u, u2, ()), ((((), ()), ()), ()))) = ixfv_l1 N (n_ + 1) s u u2 := by kernel_rfl
theorem ixfv_l1_ok (N : Nat) {top : Bool} : LoopOK Try.prog ixfv_B.c ixfv_B.n ixfv_B.m0 top (ixfv_l1_L N) := loop_of_ev (Z := (Int) ⊕ (Unit)) (N := N) (fun m p => ixfv_l1 N m p.1.1 p.1.2.2.1 p.1.2.2.2.1) (fun e => match e with | .inl x => .inl ((x, ()), ((((), ()), ()), ())) | .inr x => .inr (.inl ((), ((((), ()), ()), ())))) (fun _ p k => bind_congr_ (ixfv_l1 N N p.1.1 p.1.2.2.1 p.1.2.2.2.1) _ _ (fun e => by rcases e with x | x <;> rfl)) (fun _ => rfl) (fun m z E Xc hE hX hrec hx => leaf_of_ev (B := ixfv_B) (loops := []) (leaves := [ixfv_l1_h (ixfv_l1 N m), ixfv_l1_e0, ixfv_l1_e1]) (ixfv_all N) mixed trivial hE hX ⟨hrec, (fun p hp => by obtain rfl := Option.some.inj hp; exact hx), (fun p hp => by obtain rfl := Option.some.inj hp; exact hx), trivial⟩ RetOK.no (fun p => ixfv_l1_eq N m p.1.1 p.1.2.2.1 p.1.2.2.2.1))
abbrev ixfv_st : Sta := ⟨[0, 1], ⟨[.sl (.int .i64), .fn 130 [] [.own 0 0]], [.segs [.fn 102 [] []]]⟩⟩
theorem ixfv_eq (N : Nat) (s : List Int) : ev (Z := Int) Try.prog (ixfv_sp N) ixfv_B [ixfv_l1_L N] [] (some ixfv_rt) 400 false [.c [0], .c [1]] (stL ixfv_st ((s, ((), ((), ())), ()), ((((), ()), ()), ()))) (stH ixfv_st ((s, ((), ((), ())), ()), ((((), ()), ()), ()))) = ixfv_S N s := by kernel_rfl
noncomputable def sp_ixfv (N : Nat) : Spec := { f := 80, ins := ⟨[.sl (.int .i64), .fn 130 [] [.own 0 0]], [.segs [.fn 102 [] []]]⟩, outs := [⟨[.i .i64], [.segs [.fn 102 [] []]]⟩], run := fun p k => (ixfv_S N p.1.1).bind fun r => k ((r, ()), ((((), ()), ()), ())) }
theorem sp_ixfv_ok (N : Nat) : SpecOK Try.prog (sp_ixfv N) := fn_sound (B := ixfv_B) (loops := [ixfv_l1_L N]) (leaves := []) (fun p => ixfv_S N p.1.1) (fun r => ((r, ()), ((((), ()), ()), ()))) ixfv_rt (fun _ _ _ => rfl) (fun r z h => by cases h; rfl) Try.func80 (by kernel_rfl) (by kernel_rfl) (by kernel_rfl) rfl rfl (by kernel_rfl) (fun args w => Sem.pv_run _ _ _ (by kernel_rfl) w) (ixfv_all N) mixed ⟨ixfv_l1_ok N, trivial⟩ (fun z E Xc hE hX hret => trivial) (fun p => ixfv_eq N p.1.1)

def cofv_S (N : Nat) (s : List Int) : Option Bool :=
  (ixfv_S N s).bind fun x_1 =>
  some (decide (0 ≤ x_1))
noncomputable def cofv_sp (N : Nat) : List Spec := [sp_ixfv N]
theorem cofv_all (N : Nat) : AllP (SpecOK Try.prog) (cofv_sp N) := ⟨sp_ixfv_ok N, trivial⟩
noncomputable def cofv_c : Code := (Try.f93.body).getD .skip
noncomputable abbrev cofv_B : Body := { c := cofv_c, n := 9, res := [.tmp 4], outs := [⟨[.b], [.segs [.fn 102 [] []]]⟩], m0 := 1 }
abbrev cofv_rt : altD cofv_B.outs → Option Bool := fun r => some r.1.1
abbrev cofv_st : Sta := ⟨[0, 1], ⟨[.sl (.int .i64), .fn 130 [] [.own 0 0]], [.segs [.fn 102 [] []]]⟩⟩
theorem cofv_eq (N : Nat) (s : List Int) : ev (Z := Bool) Try.prog (cofv_sp N) cofv_B [] [] (some cofv_rt) 400 false [.c [0], .c [1]] (stL cofv_st ((s, ((), ((), ())), ()), ((((), ()), ()), ()))) (stH cofv_st ((s, ((), ((), ())), ()), ((((), ()), ()), ()))) = cofv_S N s := by kernel_rfl
noncomputable def sp_cofv (N : Nat) : Spec := { f := 93, ins := ⟨[.sl (.int .i64), .fn 130 [] [.own 0 0]], [.segs [.fn 102 [] []]]⟩, outs := [⟨[.b], [.segs [.fn 102 [] []]]⟩], run := fun p k => (cofv_S N p.1.1).bind fun r => k ((r, ()), ((((), ()), ()), ())) }
theorem sp_cofv_ok (N : Nat) : SpecOK Try.prog (sp_cofv N) := fn_sound (B := cofv_B) (loops := []) (leaves := []) (fun p => cofv_S N p.1.1) (fun r => ((r, ()), ((((), ()), ()), ()))) cofv_rt (fun _ _ _ => rfl) (fun r z h => by cases h; rfl) Try.func93 (by kernel_rfl) (by kernel_rfl) (by kernel_rfl) rfl rfl (by kernel_rfl) (fun args w => Sem.pv_run _ _ _ (by kernel_rfl) w) (cofv_all N) mixed trivial (fun z E Xc hE hX hret => trivial) (fun p => cofv_eq N p.1.1)

def everyv_S (N : Nat) (l : List Int) : Option Bool :=
  (cofv_S N l).bind fun x_1 =>
  some (!x_1)
noncomputable def everyv_sp (N : Nat) : List Spec := [sp_cofv N]
theorem everyv_all (N : Nat) : AllP (SpecOK Try.prog) (everyv_sp N) := ⟨sp_cofv_ok N, trivial⟩
noncomputable def everyv_c : Code := (Try.f101.body).getD .skip
noncomputable abbrev everyv_B : Body := { c := everyv_c, n := 9, res := [.tmp 4], outs := [⟨[.b], []⟩], m0 := 0 }
abbrev everyv_rt : altD everyv_B.outs → Option Bool := fun r => some r.1.1
abbrev everyv_st : Sta := ⟨[0, 1], ⟨[.sl (.int .i64), .fn 102 [] []], []⟩⟩
theorem everyv_eq (N : Nat) (l : List Int) : ev (Z := Bool) Try.prog (everyv_sp N) everyv_B [] [] (some everyv_rt) 400 false [.c [0], .c [1]] (stL everyv_st ((l, ((), ()), ()), ())) (stH everyv_st ((l, ((), ()), ()), ())) = everyv_S N l := by kernel_rfl
noncomputable def sp_everyv (N : Nat) : Spec := { f := 101, ins := ⟨[.sl (.int .i64), .fn 102 [] []], []⟩, outs := [⟨[.b], []⟩], run := fun p k => (everyv_S N p.1.1).bind fun r => k ((r, ()), ()) }
theorem sp_everyv_ok (N : Nat) : SpecOK Try.prog (sp_everyv N) := fn_sound (B := everyv_B) (loops := []) (leaves := []) (fun p => everyv_S N p.1.1) (fun r => ((r, ()), ())) everyv_rt (fun _ _ _ => rfl) (fun r z h => by cases h; rfl) Try.func101 (by kernel_rfl) (by kernel_rfl) (by kernel_rfl) rfl rfl (by kernel_rfl) (fun args w => Sem.pv_run _ _ _ (by kernel_rfl) w) (everyv_all N) mixed trivial (fun z E Xc hE hX hret => trivial) (fun p => everyv_eq N p.1.1)

def check2_S (N : Nat) (l : List Int) : Option Bool :=
  (everyv_S N l).bind fun x_1 =>
  some x_1
noncomputable def check2_sp (N : Nat) : List Spec := [sp_everyv N]
theorem check2_all (N : Nat) : AllP (SpecOK Try.prog) (check2_sp N) := ⟨sp_everyv_ok N, trivial⟩
noncomputable def check2_c : Code := (Try.f100.body).getD .skip
noncomputable abbrev check2_B : Body := { c := check2_c, n := 5, res := [.tmp 2], outs := [⟨[.b], []⟩], m0 := 0 }
abbrev check2_rt : altD check2_B.outs → Option Bool := fun r => some r.1.1
abbrev check2_st : Sta := ⟨[0], ⟨[.sl (.int .i64)], []⟩⟩
theorem check2_eq (N : Nat) (l : List Int) : ev (Z := Bool) Try.prog (check2_sp N) check2_B [] [] (some check2_rt) 400 false [.c [0], .c [1]] (stL check2_st ((l, ()), ())) (stH check2_st ((l, ()), ())) = check2_S N l := by kernel_rfl
noncomputable def sp_check2 (N : Nat) : Spec := { f := 100, ins := ⟨[.sl (.int .i64)], []⟩, outs := [⟨[.b], []⟩], run := fun p k => (check2_S N p.1.1).bind fun r => k ((r, ()), ()) }
theorem sp_check2_ok (N : Nat) : SpecOK Try.prog (sp_check2 N) := fn_sound (B := check2_B) (loops := []) (leaves := []) (fun p => check2_S N p.1.1) (fun r => ((r, ()), ())) check2_rt (fun _ _ _ => rfl) (fun r z h => by cases h; rfl) Try.func100 (by kernel_rfl) (by kernel_rfl) (by kernel_rfl) rfl rfl (by kernel_rfl) (fun args w => Sem.pv_run _ _ _ (by kernel_rfl) w) (check2_all N) mixed trivial (fun z E Xc hE hX hret => trivial) (fun p => check2_eq N p.1.1)

def every1lo_S (N : Nat) (x : List Int) (g : Qf) : Option (Bool × Qf) :=
  (check1_S N x g).bind fun x_1 =>
  some ((!x_1), g)
noncomputable def every1lo_sp (N : Nat) : List Spec := [sp_check1 N]
theorem every1lo_all (N : Nat) : AllP (SpecOK Try.prog) (every1lo_sp N) := ⟨sp_check1_ok N, trivial⟩
noncomputable def every1lo_c : Code := (Try.f131.body).getD .skip
noncomputable abbrev every1lo_B : Body := { c := every1lo_c, n := 8, res := [.tmp 3], outs := [⟨[.b], [.segs [.fn 99 [] [.fe Qg]]]⟩], m0 := 1 }
abbrev every1lo_rt : altD every1lo_B.outs → Option (Bool × Qf) := fun r => some (r.1.1, r.2.1.1.2.1)
abbrev every1lo_st : Sta := ⟨[0, 1], ⟨[.sl (.int .i64), .own 0 0], [.segs [.fn 99 [] [.fe Qg]]]⟩⟩
theorem every1lo_eq (N : Nat) (x : List Int) (g : Qf) : ev (Z := Bool × Qf) Try.prog (every1lo_sp N) every1lo_B [] [] (some every1lo_rt) 400 false [.c [0], .c [1]] (stL every1lo_st ((x, (), ()), ((((), (g, ())), ()), ()))) (stH every1lo_st ((x, (), ()), ((((), (g, ())), ()), ()))) = every1lo_S N x g := by kernel_rfl
noncomputable def sp_every1lo (N : Nat) : Spec := { f := 131, ins := ⟨[.sl (.int .i64), .own 0 0], [.segs [.fn 99 [] [.fe Qg]]]⟩, outs := [⟨[.b], [.segs [.fn 99 [] [.fe Qg]]]⟩], run := fun p k => (every1lo_S N p.1.1 p.2.1.1.2.1).bind fun r => k ((r.1, ()), ((((), (r.2, ())), ()), ())) }
theorem sp_every1lo_ok (N : Nat) : SpecOK Try.prog (sp_every1lo N) := fn_sound (B := every1lo_B) (loops := []) (leaves := []) (fun p => every1lo_S N p.1.1 p.2.1.1.2.1) (fun r => ((r.1, ()), ((((), (r.2, ())), ()), ()))) every1lo_rt (fun _ _ _ => rfl) (fun r z h => by cases h; rfl) Try.func131 (by kernel_rfl) (by kernel_rfl) (by kernel_rfl) rfl rfl (by kernel_rfl) (fun args w => Sem.pv_run _ _ _ (by kernel_rfl) w) (every1lo_all N) mixed trivial (fun z E Xc hE hX hret => trivial) (fun p => every1lo_eq N p.1.1 p.2.1.1.2.1)

def ixflo_l1 (N : Nat) : Nat → Qk → Int → Int → (Qf) → Option ((Int × Qf) ⊕ (Qf))
  | 0, _, _, _, _ => none
  | n_ + 1, s, u, u2, f =>
    br (decide (u2 < u))
      (idx s u2 fun x_1 =>
      (every1lo_S N x_1 f).bind fun (x_2, y_3) =>
      br x_2
        (some (.inl (u2, y_3)))
        (chk (u2 + 1) <|
        ixflo_l1 N n_ s u (u2 + 1) y_3))
      (some (.inr f))
def ixflo_S (N : Nat) (s : List Qa) (f : Qf) : Option (Int × Qf) :=
  (ixflo_l1 N N s (s.length : Int) 0 f).bind fun e => match e with
  | .inl (i_4, g_5) =>
    some (i_4, g_5)
  | .inr g_6 =>
    some (-1, g_6)
noncomputable def ixflo_sp (N : Nat) : List Spec := [sp_every1lo N]
theorem ixflo_all (N : Nat) : AllP (SpecOK Try.prog) (ixflo_sp N) := ⟨sp_every1lo_ok N, trivial⟩
noncomputable def ixflo_c : Code := (Try.f141.body).getD .skip
noncomputable abbrev ixflo_B : Body := { c := ixflo_c, n := 19, res := [.tmp 4], outs := [⟨[.i .i64], [.segs [.fn 99 [] [.fe Qg]]]⟩], m0 := 1 }
abbrev ixflo_rt : altD ixflo_B.outs → Option (Int × Qf) := fun r => some (r.1.1, r.2.1.1.2.1)
abbrev ixflo_l1_at : List PI := [.c [1, 0, 1, 0, 0, 0], .c [1, 0, 1, 0, 0, 1], .l [1, 0, 1, 0, 0], .b 0, .c [1, 1]]
abbrev ixflo_l1_st : Sta := ⟨[0, 1, 7, 8], ⟨[.sl Qb, .fn 131 [] [.own 0 0], .i .i64, .i .i64], [.segs [.fn 99 [] [.fe Qg]]]⟩⟩
abbrev ixflo_l1_h (rec : Qk → Int → Int → (Qf) → Option ((Int × Qf) ⊕ (Qf))) : Leaf ((Int × Qf) ⊕ (Qf)) := ⟨ixflo_l1_at, ixflo_l1_st, fun p => rec p.1.1 p.1.2.2.1 p.1.2.2.2.1 p.2.1.1.2.1⟩
abbrev ixflo_l1_e0 : Leaf ((Int × Qf) ⊕ (Qf)) := ⟨[.c [1, 0, 1, 0, 0, 1, 1, 0, 0, 1, 1, 0, 0], .c [1, 0, 1, 0, 0, 1, 1, 0, 0, 1, 1, 0, 1], .b 1, .c [1, 0, 1, 0, 0, 1, 1, 1], .l [1, 0, 1, 0, 0], .b 0, .c [1, 1]], ⟨[5], ⟨[.i .i64], [.segs [.fn 99 [] [.fe Qg]]]⟩⟩, fun p => some (.inl (p.1.1, p.2.1.1.2.1))⟩
abbrev ixflo_l1_e1 : Leaf ((Int × Qf) ⊕ (Qf)) := ⟨[.c [1, 1, 0], .c [1, 1, 1]], ⟨[], ⟨[], [.segs [.fn 99 [] [.fe Qg]]]⟩⟩, fun p => some (.inr p.2.1.1.2.1)⟩
noncomputable def ixflo_l1_L (N : Nat) : LoopS := { at_ := ixflo_l1_at, sta := ixflo_l1_st, exits := [([.c [1, 0, 1, 0, 0, 1, 1, 0, 0, 1, 1, 0, 0], .c [1, 0, 1, 0, 0, 1, 1, 0, 0, 1, 1, 0, 1], .b 1, .c [1, 0, 1, 0, 0, 1, 1, 1], .l [1, 0, 1, 0, 0], .b 0, .c [1, 1]], ⟨[5], ⟨[.i .i64], [.segs [.fn 99 [] [.fe Qg]]]⟩⟩), ([.c [1, 1, 0], .c [1, 1, 1]], ⟨[], ⟨[], [.segs [.fn 99 [] [.fe Qg]]]⟩⟩)], run := fun p k => (ixflo_l1 N N p.1.1 p.1.2.2.1 p.1.2.2.2.1 p.2.1.1.2.1).bind fun e => match e with | .inl x => k (.inl ((x.1, ()), ((((), (x.2, ())), ()), ()))) | .inr x => k (.inr (.inl ((), ((((), (x, ())), ()), ())))) }
theorem ixflo_l1_eq (N n_ : Nat) (s : List Qa) (u : Int) (u2 : Int) (f : Qf) : ev (Z := (Int × Qf) ⊕ (Qf)) Try.prog (ixflo_sp N) ixflo_B [] [ixflo_l1_h (ixflo_l1 N n_), ixflo_l1_e0, ixflo_l1_e1] none 400 true ixflo_l1_at (stL ixflo_l1_st ((s, ((), ((), ())), u, u2, ()), ((((), (f, ())), ()), ()))) (stH ixflo_l1_st ((s, ((), ((), ())), u, u2, ()), ((((), (f, ())), ()), ()))) = ixflo_l1 N (n_ + 1) s u u2 f := by kernel_rfl
theorem ixflo_l1_ok (N : Nat) {top : Bool} : LoopOK Try.prog ixflo_B.c ixflo_B.n ixflo_B.m0 top (ixflo_l1_L N) := loop_of_ev (Z := (Int × Qf) ⊕ (Qf)) (N := N) (fun m p => ixflo_l1 N m p.1.1 p.1.2.2.1 p.1.2.2.2.1 p.2.1.1.2.1) (fun e => match e with | .inl x => .inl ((x.1, ()), ((((), (x.2, ())), ()), ())) | .inr x => .inr (.inl ((), ((((), (x, ())), ()), ())))) (fun _ p k => bind_congr_ (ixflo_l1 N N p.1.1 p.1.2.2.1 p.1.2.2.2.1 p.2.1.1.2.1) _ _ (fun e => by rcases e with x | x <;> rfl)) (fun _ => rfl) (fun m z E Xc hE hX hrec hx => leaf_of_ev (B := ixflo_B) (loops := []) (leaves := [ixflo_l1_h (ixflo_l1 N m), ixflo_l1_e0, ixflo_l1_e1]) (ixflo_all N) mixed trivial hE hX ⟨hrec, (fun p hp => by obtain rfl := Option.some.inj hp; exact hx), (fun p hp => by obtain rfl := Option.some.inj hp; exact hx), trivial⟩ RetOK.no (fun p => ixflo_l1_eq N m p.1.1 p.1.2.2.1 p.1.2.2.2.1 p.2.1.1.2.1))
abbrev ixflo_st : Sta := ⟨[0, 1], ⟨[.sl Qb, .fn 131 [] [.own 0 0]], [.segs [.fn 99 [] [.fe Qg]]]⟩⟩
theorem ixflo_eq (N : Nat) (s : List Qa) (f : Qf) : ev (Z := Int × Qf) Try.prog (ixflo_sp N) ixflo_B [ixflo_l1_L N] [] (some ixflo_rt) 400 false [.c [0], .c [1]] (stL ixflo_st ((s, ((), ((), ())), ()), ((((), (f, ())), ()), ()))) (stH ixflo_st ((s, ((), ((), ())), ()), ((((), (f, ())), ()), ()))) = ixflo_S N s f := by kernel_rfl
noncomputable def sp_ixflo (N : Nat) : Spec := { f := 141, ins := ⟨[.sl Qb, .fn 131 [] [.own 0 0]], [.segs [.fn 99 [] [.fe Qg]]]⟩, outs := [⟨[.i .i64], [.segs [.fn 99 [] [.fe Qg]]]⟩], run := fun p k => (ixflo_S N p.1.1 p.2.1.1.2.1).bind fun r => k ((r.1, ()), ((((), (r.2, ())), ()), ())) }
theorem sp_ixflo_ok (N : Nat) : SpecOK Try.prog (sp_ixflo N) := fn_sound (B := ixflo_B) (loops := [ixflo_l1_L N]) (leaves := []) (fun p => ixflo_S N p.1.1 p.2.1.1.2.1) (fun r => ((r.1, ()), ((((), (r.2, ())), ()), ()))) ixflo_rt (fun _ _ _ => rfl) (fun r z h => by cases h; rfl) Try.func141 (by kernel_rfl) (by kernel_rfl) (by kernel_rfl) rfl rfl (by kernel_rfl) (fun args w => Sem.pv_run _ _ _ (by kernel_rfl) w) (ixflo_all N) mixed ⟨ixflo_l1_ok N, trivial⟩ (fun z E Xc hE hX hret => trivial) (fun p => ixflo_eq N p.1.1 p.2.1.1.2.1)

def coflo_S (N : Nat) (s : List Qa) (f : Qf) : Option (Bool × Qf) :=
  (ixflo_S N s f).bind fun (x_1, y_2) =>
  some ((decide (0 ≤ x_1)), y_2)
noncomputable def coflo_sp (N : Nat) : List Spec := [sp_ixflo N]
theorem coflo_all (N : Nat) : AllP (SpecOK Try.prog) (coflo_sp N) := ⟨sp_ixflo_ok N, trivial⟩
noncomputable def coflo_c : Code := (Try.f125.body).getD .skip
noncomputable abbrev coflo_B : Body := { c := coflo_c, n := 9, res := [.tmp 4], outs := [⟨[.b], [.segs [.fn 99 [] [.fe Qg]]]⟩], m0 := 1 }
abbrev coflo_rt : altD coflo_B.outs → Option (Bool × Qf) := fun r => some (r.1.1, r.2.1.1.2.1)
abbrev coflo_st : Sta := ⟨[0, 1], ⟨[.sl Qb, .fn 131 [] [.own 0 0]], [.segs [.fn 99 [] [.fe Qg]]]⟩⟩
theorem coflo_eq (N : Nat) (s : List Qa) (f : Qf) : ev (Z := Bool × Qf) Try.prog (coflo_sp N) coflo_B [] [] (some coflo_rt) 400 false [.c [0], .c [1]] (stL coflo_st ((s, ((), ((), ())), ()), ((((), (f, ())), ()), ()))) (stH coflo_st ((s, ((), ((), ())), ()), ((((), (f, ())), ()), ()))) = coflo_S N s f := by kernel_rfl
noncomputable def sp_coflo (N : Nat) : Spec := { f := 125, ins := ⟨[.sl Qb, .fn 131 [] [.own 0 0]], [.segs [.fn 99 [] [.fe Qg]]]⟩, outs := [⟨[.b], [.segs [.fn 99 [] [.fe Qg]]]⟩], run := fun p k => (coflo_S N p.1.1 p.2.1.1.2.1).bind fun r => k ((r.1, ()), ((((), (r.2, ())), ()), ())) }
theorem sp_coflo_ok (N : Nat) : SpecOK Try.prog (sp_coflo N) := fn_sound (B := coflo_B) (loops := []) (leaves := []) (fun p => coflo_S N p.1.1 p.2.1.1.2.1) (fun r => ((r.1, ()), ((((), (r.2, ())), ()), ()))) coflo_rt (fun _ _ _ => rfl) (fun r z h => by cases h; rfl) Try.func125 (by kernel_rfl) (by kernel_rfl) (by kernel_rfl) rfl rfl (by kernel_rfl) (fun args w => Sem.pv_run _ _ _ (by kernel_rfl) w) (coflo_all N) mixed trivial (fun z E Xc hE hX hret => trivial) (fun p => coflo_eq N p.1.1 p.2.1.1.2.1)

def everylo_S (N : Nat) (l : List Qa) (holds : Qf) : Option Bool :=
  (coflo_S N l holds).bind fun (x_1, y_2) =>
  some (!x_1)
noncomputable def everylo_sp (N : Nat) : List Spec := [sp_coflo N]
theorem everylo_all (N : Nat) : AllP (SpecOK Try.prog) (everylo_sp N) := ⟨sp_coflo_ok N, trivial⟩
noncomputable def everylo_c : Code := (Try.f103.body).getD .skip
noncomputable abbrev everylo_B : Body := { c := everylo_c, n := 9, res := [.tmp 4], outs := [⟨[.b], []⟩], m0 := 0 }
abbrev everylo_rt : altD everylo_B.outs → Option Bool := fun r => some r.1.1
abbrev everylo_st : Sta := ⟨[0, 1], ⟨[.sl Qb, .fn 99 [] [.fe Qg]], []⟩⟩
theorem everylo_eq (N : Nat) (l : List Qa) (holds : Qf) : ev (Z := Bool) Try.prog (everylo_sp N) everylo_B [] [] (some everylo_rt) 400 false [.c [0], .c [1]] (stL everylo_st ((l, ((), (holds, ())), ()), ())) (stH everylo_st ((l, ((), (holds, ())), ()), ())) = everylo_S N l holds := by kernel_rfl
noncomputable def sp_everylo (N : Nat) : Spec := { f := 103, ins := ⟨[.sl Qb, .fn 99 [] [.fe Qg]], []⟩, outs := [⟨[.b], []⟩], run := fun p k => (everylo_S N p.1.1 p.1.2.1.2.1).bind fun r => k ((r, ()), ()) }
theorem sp_everylo_ok (N : Nat) : SpecOK Try.prog (sp_everylo N) := fn_sound (B := everylo_B) (loops := []) (leaves := []) (fun p => everylo_S N p.1.1 p.1.2.1.2.1) (fun r => ((r, ()), ())) everylo_rt (fun _ _ _ => rfl) (fun r z h => by cases h; rfl) Try.func103 (by kernel_rfl) (by kernel_rfl) (by kernel_rfl) rfl rfl (by kernel_rfl) (fun args w => Sem.pv_run _ _ _ (by kernel_rfl) w) (everylo_all N) mixed trivial (fun z E Xc hE hX hret => trivial) (fun p => everylo_eq N p.1.1 p.1.2.1.2.1)

def every1va_S (N : Nat) (x : List Int) : Option Bool :=
  (check2_S N x).bind fun x_1 =>
  some (!x_1)
noncomputable def every1va_sp (N : Nat) : List Spec := [sp_check2 N]
theorem every1va_all (N : Nat) : AllP (SpecOK Try.prog) (every1va_sp N) := ⟨sp_check2_ok N, trivial⟩
noncomputable def every1va_c : Code := (Try.f131.body).getD .skip
noncomputable abbrev every1va_B : Body := { c := every1va_c, n := 8, res := [.tmp 3], outs := [⟨[.b], [.segs [.fn 100 [] []]]⟩], m0 := 1 }
abbrev every1va_rt : altD every1va_B.outs → Option Bool := fun r => some r.1.1
abbrev every1va_st : Sta := ⟨[0, 1], ⟨[.sl (.int .i64), .own 0 0], [.segs [.fn 100 [] []]]⟩⟩
theorem every1va_eq (N : Nat) (x : List Int) : ev (Z := Bool) Try.prog (every1va_sp N) every1va_B [] [] (some every1va_rt) 400 false [.c [0], .c [1]] (stL every1va_st ((x, (), ()), ((((), ()), ()), ()))) (stH every1va_st ((x, (), ()), ((((), ()), ()), ()))) = every1va_S N x := by kernel_rfl
noncomputable def sp_every1va (N : Nat) : Spec := { f := 131, ins := ⟨[.sl (.int .i64), .own 0 0], [.segs [.fn 100 [] []]]⟩, outs := [⟨[.b], [.segs [.fn 100 [] []]]⟩], run := fun p k => (every1va_S N p.1.1).bind fun r => k ((r, ()), ((((), ()), ()), ())) }
theorem sp_every1va_ok (N : Nat) : SpecOK Try.prog (sp_every1va N) := fn_sound (B := every1va_B) (loops := []) (leaves := []) (fun p => every1va_S N p.1.1) (fun r => ((r, ()), ((((), ()), ()), ()))) every1va_rt (fun _ _ _ => rfl) (fun r z h => by cases h; rfl) Try.func131 (by kernel_rfl) (by kernel_rfl) (by kernel_rfl) rfl rfl (by kernel_rfl) (fun args w => Sem.pv_run _ _ _ (by kernel_rfl) w) (every1va_all N) mixed trivial (fun z E Xc hE hX hret => trivial) (fun p => every1va_eq N p.1.1)

def ixfva_l1 (N : Nat) : Nat → Qk → Int → Int → Option ((Int) ⊕ (Unit))
  | 0, _, _, _ => none
  | n_ + 1, s, u, u2 =>
    br (decide (u2 < u))
      (idx s u2 fun x_1 =>
      (every1va_S N x_1).bind fun x_2 =>
      br x_2
        (some (.inl u2))
        (chk (u2 + 1) <|
        ixfva_l1 N n_ s u (u2 + 1)))
      (some (.inr ()))
def ixfva_S (N : Nat) (s : List Qa) : Option Int :=
  (ixfva_l1 N N s (s.length : Int) 0).bind fun e => match e with
  | .inl i_3 =>
    some i_3
  | .inr _ =>
    some (-1)
noncomputable def ixfva_sp (N : Nat) : List Spec := [sp_every1va N]
theorem ixfva_all (N : Nat) : AllP (SpecOK Try.prog) (ixfva_sp N) := ⟨sp_every1va_ok N, trivial⟩
noncomputable def ixfva_c : Code := (Try.f141.body).getD .skip
noncomputable abbrev ixfva_B : Body := { c := ixfva_c, n := 19, res := [.tmp 4], outs := [⟨[.i .i64], [.segs [.fn 100 [] []]]⟩], m0 := 1 }
abbrev ixfva_rt : altD ixfva_B.outs → Option Int := fun r => some r.1.1
abbrev ixfva_l1_at : List PI := [.c [1, 0, 1, 0, 0, 0], .c [1, 0, 1, 0, 0, 1], .l [1, 0, 1, 0, 0], .b 0, .c [1, 1]]
abbrev ixfva_l1_st : Sta := ⟨[0, 1, 7, 8], ⟨[.sl Qb, .fn 131 [] [.own 0 0], .i .i64, .i .i64], [.segs [.fn 100 [] []]]⟩⟩
abbrev ixfva_l1_h (rec : Qk → Int → Int → Option ((Int) ⊕ (Unit))) : Leaf ((Int) ⊕ (Unit)) := ⟨ixfva_l1_at, ixfva_l1_st, fun p => rec p.1.1 p.1.2.2.1 p.1.2.2.2.1⟩
abbrev ixfva_l1_e0 : Leaf ((Int) ⊕ (Unit)) := ⟨[.c [1, 0, 1, 0, 0, 1, 1, 0, 0, 1, 1, 0, 0], .c [1, 0, 1, 0, 0, 1, 1, 0, 0, 1, 1, 0, 1], .b 1, .c [1, 0, 1, 0, 0, 1, 1, 1], .l [1, 0, 1, 0, 0], .b 0, .c [1, 1]], ⟨[5], ⟨[.i .i64], [.segs [.fn 100 [] []]]⟩⟩, fun p => some (.inl p.1.1)⟩
abbrev ixfva_l1_e1 : Leaf ((Int) ⊕ (Unit)) := ⟨[.c [1, 1, 0], .c [1, 1, 1]], ⟨[], ⟨[], [.segs [.fn 100 [] []]]⟩⟩, fun p => some (.inr ())⟩
noncomputable def ixfva_l1_L (N : Nat) : LoopS := { at_ := ixfva_l1_at, sta := ixfva_l1_st, exits := [([.c [1, 0, 1, 0, 0, 1, 1, 0, 0, 1, 1, 0, 0], .c [1, 0, 1, 0, 0, 1, 1, 0, 0, 1, 1, 0, 1], .b 1, .c [1, 0, 1, 0, 0, 1, 1, 1], .l [1, 0, 1, 0, 0], .b 0, .c [1, 1]], ⟨[5], ⟨[.i .i64], [.segs [.fn 100 [] []]]⟩⟩), ([.c [1, 1, 0], .c [1, 1, 1]], ⟨[], ⟨[], [.segs [.fn 100 [] []]]⟩⟩)], run := fun p k => (ixfva_l1 N N p.1.1 p.1.2.2.1 p.1.2.2.2.1).bind fun e => match e with | .inl x => k (.inl ((x, ()), ((((), ()), ()), ()))) | .inr x => k (.inr (.inl ((), ((((), ()), ()), ())))) }
theorem ixfva_l1_eq (N n_ : Nat) (s : List Qa) (u : Int) (u2 : Int) : ev (Z := (Int) ⊕ (Unit)) Try.prog (ixfva_sp N) ixfva_B [] [ixfva_l1_h (ixfva_l1 N n_), ixfva_l1_e0, ixfva_l1_e1] none 400 true ixfva_l1_at (stL ixfva_l1_st ((s, ((), ((), ())), u, u2, ()), ((((), ()), ()), ()))) (stH ixfva_l1_st ((s, ((), ((), ())), u, u2, ()), ((((), ()), ()), ()))) = ixfva_l1 N (n_ + 1) s u u2 := by kernel_rfl
theorem ixfva_l1_ok (N : Nat) {top : Bool} : LoopOK Try.prog ixfva_B.c ixfva_B.n ixfva_B.m0 top (ixfva_l1_L N) := loop_of_ev (Z := (Int) ⊕ (Unit)) (N := N) (fun m p => ixfva_l1 N m p.1.1 p.1.2.2.1 p.1.2.2.2.1) (fun e => match e with | .inl x => .inl ((x, ()), ((((), ()), ()), ())) | .inr x => .inr (.inl ((), ((((), ()), ()), ())))) (fun _ p k => bind_congr_ (ixfva_l1 N N p.1.1 p.1.2.2.1 p.1.2.2.2.1) _ _ (fun e => by rcases e with x | x <;> rfl)) (fun _ => rfl) (fun m z E Xc hE hX hrec hx => leaf_of_ev (B := ixfva_B) (loops := []) (leaves := [ixfva_l1_h (ixfva_l1 N m), ixfva_l1_e0, ixfva_l1_e1]) (ixfva_all N) mixed trivial hE hX ⟨hrec, (fun p hp => by obtain rfl := Option.some.inj hp; exact hx), (fun p hp => by obtain rfl := Option.some.inj hp; exact hx), trivial⟩ RetOK.no (fun p => ixfva_l1_eq N m p.1.1 p.1.2.2.1 p.1.2.2.2.1))
abbrev ixfva_st : Sta := ⟨[0, 1], ⟨[.sl Qb, .fn 131 [] [.own 0 0]], [.segs [.fn 100 [] []]]⟩⟩
theorem ixfva_eq (N : Nat) (s : List Qa) : ev (Z := Int) Try.prog (ixfva_sp N) ixfva_B [ixfva_l1_L N] [] (some ixfva_rt) 400 false [.c [0], .c [1]] (stL ixfva_st ((s, ((), ((), ())), ()), ((((), ()), ()), ()))) (stH ixfva_st ((s, ((), ((), ())), ()), ((((), ()), ()), ()))) = ixfva_S N s := by kernel_rfl
noncomputable def sp_ixfva (N : Nat) : Spec := { f := 141, ins := ⟨[.sl Qb, .fn 131 [] [.own 0 0]], [.segs [.fn 100 [] []]]⟩, outs := [⟨[.i .i64], [.segs [.fn 100 [] []]]⟩], run := fun p k => (ixfva_S N p.1.1).bind fun r => k ((r, ()), ((((), ()), ()), ())) }
theorem sp_ixfva_ok (N : Nat) : SpecOK Try.prog (sp_ixfva N) := fn_sound (B := ixfva_B) (loops := [ixfva_l1_L N]) (leaves := []) (fun p => ixfva_S N p.1.1) (fun r => ((r, ()), ((((), ()), ()), ()))) ixfva_rt (fun _ _ _ => rfl) (fun r z h => by cases h; rfl) Try.func141 (by kernel_rfl) (by kernel_rfl) (by kernel_rfl) rfl rfl (by kernel_rfl) (fun args w => Sem.pv_run _ _ _ (by kernel_rfl) w) (ixfva_all N) mixed ⟨ixfva_l1_ok N, trivial⟩ (fun z E Xc hE hX hret => trivial) (fun p => ixfva_eq N p.1.1)

def cofva_S (N : Nat) (s : List Qa) : Option Bool :=
  (ixfva_S N s).bind fun x_1 =>
  some (decide (0 ≤ x_1))
noncomputable def cofva_sp (N : Nat) : List Spec := [sp_ixfva N]
theorem cofva_all (N : Nat) : AllP (SpecOK Try.prog) (cofva_sp N) := ⟨sp_ixfva_ok N, trivial⟩
noncomputable def cofva_c : Code := (Try.f125.body).getD .skip
noncomputable abbrev cofva_B : Body := { c := cofva_c, n := 9, res := [.tmp 4], outs := [⟨[.b], [.segs [.fn 100 [] []]]⟩], m0 := 1 }
abbrev cofva_rt : altD cofva_B.outs → Option Bool := fun r => some r.1.1
abbrev cofva_st : Sta := ⟨[0, 1], ⟨[.sl Qb, .fn 131 [] [.own 0 0]], [.segs [.fn 100 [] []]]⟩⟩
theorem cofva_eq (N : Nat) (s : List Qa) : ev (Z := Bool) Try.prog (cofva_sp N) cofva_B [] [] (some cofva_rt) 400 false [.c [0], .c [1]] (stL cofva_st ((s, ((), ((), ())), ()), ((((), ()), ()), ()))) (stH cofva_st ((s, ((), ((), ())), ()), ((((), ()), ()), ()))) = cofva_S N s := by kernel_rfl
noncomputable def sp_cofva (N : Nat) : Spec := { f := 125, ins := ⟨[.sl Qb, .fn 131 [] [.own 0 0]], [.segs [.fn 100 [] []]]⟩, outs := [⟨[.b], [.segs [.fn 100 [] []]]⟩], run := fun p k => (cofva_S N p.1.1).bind fun r => k ((r, ()), ((((), ()), ()), ())) }
theorem sp_cofva_ok (N : Nat) : SpecOK Try.prog (sp_cofva N) := fn_sound (B := cofva_B) (loops := []) (leaves := []) (fun p => cofva_S N p.1.1) (fun r => ((r, ()), ((((), ()), ()), ()))) cofva_rt (fun _ _ _ => rfl) (fun r z h => by cases h; rfl) Try.func125 (by kernel_rfl) (by kernel_rfl) (by kernel_rfl) rfl rfl (by kernel_rfl) (fun args w => Sem.pv_run _ _ _ (by kernel_rfl) w) (cofva_all N) mixed trivial (fun z E Xc hE hX hret => trivial) (fun p => cofva_eq N p.1.1)

def everyva_S (N : Nat) (l : List Qa) : Option Bool :=
  (cofva_S N l).bind fun x_1 =>
  some (!x_1)
noncomputable def everyva_sp (N : Nat) : List Spec := [sp_cofva N]
theorem everyva_all (N : Nat) : AllP (SpecOK Try.prog) (everyva_sp N) := ⟨sp_cofva_ok N, trivial⟩
noncomputable def everyva_c : Code := (Try.f103.body).getD .skip
noncomputable abbrev everyva_B : Body := { c := everyva_c, n := 9, res := [.tmp 4], outs := [⟨[.b], []⟩], m0 := 0 }
abbrev everyva_rt : altD everyva_B.outs → Option Bool := fun r => some r.1.1
abbrev everyva_st : Sta := ⟨[0, 1], ⟨[.sl Qb, .fn 100 [] []], []⟩⟩
theorem everyva_eq (N : Nat) (l : List Qa) : ev (Z := Bool) Try.prog (everyva_sp N) everyva_B [] [] (some everyva_rt) 400 false [.c [0], .c [1]] (stL everyva_st ((l, ((), ()), ()), ())) (stH everyva_st ((l, ((), ()), ()), ())) = everyva_S N l := by kernel_rfl
noncomputable def sp_everyva (N : Nat) : Spec := { f := 103, ins := ⟨[.sl Qb, .fn 100 [] []], []⟩, outs := [⟨[.b], []⟩], run := fun p k => (everyva_S N p.1.1).bind fun r => k ((r, ()), ()) }
theorem sp_everyva_ok (N : Nat) : SpecOK Try.prog (sp_everyva N) := fn_sound (B := everyva_B) (loops := []) (leaves := []) (fun p => everyva_S N p.1.1) (fun r => ((r, ()), ())) everyva_rt (fun _ _ _ => rfl) (fun r z h => by cases h; rfl) Try.func103 (by kernel_rfl) (by kernel_rfl) (by kernel_rfl) rfl rfl (by kernel_rfl) (fun args w => Sem.pv_run _ _ _ (by kernel_rfl) w) (everyva_all N) mixed trivial (fun z E Xc hE hX hret => trivial) (fun p => everyva_eq N p.1.1)

def check3_S (N : Nat) (n : Int) : Option Bool :=
  (in__S N n 1 9).bind fun x_1 =>
  some x_1
noncomputable def check3_sp (N : Nat) : List Spec := [sp_in_ N]
theorem check3_all (N : Nat) : AllP (SpecOK Try.prog) (check3_sp N) := ⟨sp_in__ok N, trivial⟩
noncomputable def check3_c : Code := (Try.f104.body).getD .skip
noncomputable abbrev check3_B : Body := { c := check3_c, n := 5, res := [.tmp 2], outs := [⟨[.b], []⟩], m0 := 0 }
abbrev check3_rt : altD check3_B.outs → Option Bool := fun r => some r.1.1
abbrev check3_st : Sta := ⟨[0], ⟨[.i .i64], []⟩⟩
theorem check3_eq (N : Nat) (n : Int) : ev (Z := Bool) Try.prog (check3_sp N) check3_B [] [] (some check3_rt) 400 false [.c [0], .c [1]] (stL check3_st ((n, ()), ())) (stH check3_st ((n, ()), ())) = check3_S N n := by kernel_rfl
noncomputable def sp_check3 (N : Nat) : Spec := { f := 104, ins := ⟨[.i .i64], []⟩, outs := [⟨[.b], []⟩], run := fun p k => (check3_S N p.1.1).bind fun r => k ((r, ()), ()) }
theorem sp_check3_ok (N : Nat) : SpecOK Try.prog (sp_check3 N) := fn_sound (B := check3_B) (loops := []) (leaves := []) (fun p => check3_S N p.1.1) (fun r => ((r, ()), ())) check3_rt (fun _ _ _ => rfl) (fun r z h => by cases h; rfl) Try.func104 (by kernel_rfl) (by kernel_rfl) (by kernel_rfl) rfl rfl (by kernel_rfl) (fun args w => Sem.pv_run _ _ _ (by kernel_rfl) w) (check3_all N) mixed trivial (fun z E Xc hE hX hret => trivial) (fun p => check3_eq N p.1.1)

def check4_S (N : Nat) (n : Int) : Option Bool :=
  (in__S N n 0 99).bind fun x_1 =>
  some x_1
noncomputable def check4_sp (N : Nat) : List Spec := [sp_in_ N]
theorem check4_all (N : Nat) : AllP (SpecOK Try.prog) (check4_sp N) := ⟨sp_in__ok N, trivial⟩
noncomputable def check4_c : Code := (Try.f105.body).getD .skip
noncomputable abbrev check4_B : Body := { c := check4_c, n := 5, res := [.tmp 2], outs := [⟨[.b], []⟩], m0 := 0 }
abbrev check4_rt : altD check4_B.outs → Option Bool := fun r => some r.1.1
abbrev check4_st : Sta := ⟨[0], ⟨[.i .i64], []⟩⟩
theorem check4_eq (N : Nat) (n : Int) : ev (Z := Bool) Try.prog (check4_sp N) check4_B [] [] (some check4_rt) 400 false [.c [0], .c [1]] (stL check4_st ((n, ()), ())) (stH check4_st ((n, ()), ())) = check4_S N n := by kernel_rfl
noncomputable def sp_check4 (N : Nat) : Spec := { f := 105, ins := ⟨[.i .i64], []⟩, outs := [⟨[.b], []⟩], run := fun p k => (check4_S N p.1.1).bind fun r => k ((r, ()), ()) }
theorem sp_check4_ok (N : Nat) : SpecOK Try.prog (sp_check4 N) := fn_sound (B := check4_B) (loops := []) (leaves := []) (fun p => check4_S N p.1.1) (fun r => ((r, ()), ())) check4_rt (fun _ _ _ => rfl) (fun r z h => by cases h; rfl) Try.func105 (by kernel_rfl) (by kernel_rfl) (by kernel_rfl) rfl rfl (by kernel_rfl) (fun args w => Sem.pv_run _ _ _ (by kernel_rfl) w) (check4_all N) mixed trivial (fun z E Xc hE hX hret => trivial) (fun p => check4_eq N p.1.1)

def every1w_S (N : Nat) (x : Int) : Option Bool :=
  (check3_S N x).bind fun x_1 =>
  some (!x_1)
noncomputable def every1w_sp (N : Nat) : List Spec := [sp_check3 N]
theorem every1w_all (N : Nat) : AllP (SpecOK Try.prog) (every1w_sp N) := ⟨sp_check3_ok N, trivial⟩
noncomputable def every1w_c : Code := (Try.f130.body).getD .skip
noncomputable abbrev every1w_B : Body := { c := every1w_c, n := 8, res := [.tmp 3], outs := [⟨[.b], [.segs [.fn 104 [] []]]⟩], m0 := 1 }
abbrev every1w_rt : altD every1w_B.outs → Option Bool := fun r => some r.1.1
abbrev every1w_st : Sta := ⟨[0, 1], ⟨[.i .i64, .own 0 0], [.segs [.fn 104 [] []]]⟩⟩
theorem every1w_eq (N : Nat) (x : Int) : ev (Z := Bool) Try.prog (every1w_sp N) every1w_B [] [] (some every1w_rt) 400 false [.c [0], .c [1]] (stL every1w_st ((x, (), ()), ((((), ()), ()), ()))) (stH every1w_st ((x, (), ()), ((((), ()), ()), ()))) = every1w_S N x := by kernel_rfl
noncomputable def sp_every1w (N : Nat) : Spec := { f := 130, ins := ⟨[.i .i64, .own 0 0], [.segs [.fn 104 [] []]]⟩, outs := [⟨[.b], [.segs [.fn 104 [] []]]⟩], run := fun p k => (every1w_S N p.1.1).bind fun r => k ((r, ()), ((((), ()), ()), ())) }
theorem sp_every1w_ok (N : Nat) : SpecOK Try.prog (sp_every1w N) := fn_sound (B := every1w_B) (loops := []) (leaves := []) (fun p => every1w_S N p.1.1) (fun r => ((r, ()), ((((), ()), ()), ()))) every1w_rt (fun _ _ _ => rfl) (fun r z h => by cases h; rfl) Try.func130 (by kernel_rfl) (by kernel_rfl) (by kernel_rfl) rfl rfl (by kernel_rfl) (fun args w => Sem.pv_run _ _ _ (by kernel_rfl) w) (every1w_all N) mixed trivial (fun z E Xc hE hX hret => trivial) (fun p => every1w_eq N p.1.1)

def ixfw_l1 (N : Nat) : Nat → Qa → Int → Int → Option ((Int) ⊕ (Unit))
  | 0, _, _, _ => none
  | n_ + 1, s, u, u2 =>
    br (decide (u2 < u))
      (idx s u2 fun x_1 =>
      (every1w_S N x_1).bind fun x_2 =>
      br x_2
        (some (.inl u2))
        (chk (u2 + 1) <|
        ixfw_l1 N n_ s u (u2 + 1)))
      (some (.inr ()))
def ixfw_S (N : Nat) (s : List Int) : Option Int :=
  (ixfw_l1 N N s (s.length : Int) 0).bind fun e => match e with
  | .inl i_3 =>
    some i_3
  | .inr _ =>
    some (-1)
noncomputable def ixfw_sp (N : Nat) : List Spec := [sp_every1w N]
theorem ixfw_all (N : Nat) : AllP (SpecOK Try.prog) (ixfw_sp N) := ⟨sp_every1w_ok N, trivial⟩
noncomputable def ixfw_c : Code := (Try.f80.body).getD .skip
noncomputable abbrev ixfw_B : Body := { c := ixfw_c, n := 19, res := [.tmp 4], outs := [⟨[.i .i64], [.segs [.fn 104 [] []]]⟩], m0 := 1 }
abbrev ixfw_rt : altD ixfw_B.outs → Option Int := fun r => some r.1.1
abbrev ixfw_l1_at : List PI := [.c [1, 0, 1, 0, 0, 0], .c [1, 0, 1, 0, 0, 1], .l [1, 0, 1, 0, 0], .b 0, .c [1, 1]]
abbrev ixfw_l1_st : Sta := ⟨[0, 1, 7, 8], ⟨[.sl (.int .i64), .fn 130 [] [.own 0 0], .i .i64, .i .i64], [.segs [.fn 104 [] []]]⟩⟩
abbrev ixfw_l1_h (rec : Qa → Int → Int → Option ((Int) ⊕ (Unit))) : Leaf ((Int) ⊕ (Unit)) := ⟨ixfw_l1_at, ixfw_l1_st, fun p => rec p.1.1 p.1.2.2.1 p.1.2.2.2.1⟩
abbrev ixfw_l1_e0 : Leaf ((Int) ⊕ (Unit)) := ⟨[.c [1, 0, 1, 0, 0, 1, 1, 0, 0, 1, 1, 0, 0], .c [1, 0, 1, 0, 0, 1, 1, 0, 0, 1, 1, 0, 1], .b 1, .c [1, 0, 1, 0, 0, 1, 1, 1], .l [1, 0, 1, 0, 0], .b 0, .c [1, 1]], ⟨[5], ⟨[.i .i64], [.segs [.fn 104 [] []]]⟩⟩, fun p => some (.inl p.1.1)⟩
abbrev ixfw_l1_e1 : Leaf ((Int) ⊕ (Unit)) := ⟨[.c [1, 1, 0], .c [1, 1, 1]], ⟨[], ⟨[], [.segs [.fn 104 [] []]]⟩⟩, fun p => some (.inr ())⟩
noncomputable def ixfw_l1_L (N : Nat) : LoopS := { at_ := ixfw_l1_at, sta := ixfw_l1_st, exits := [([.c [1, 0, 1, 0, 0, 1, 1, 0, 0, 1, 1, 0, 0], .c [1, 0, 1, 0, 0, 1, 1, 0, 0, 1, 1, 0, 1], .b 1, .c [1, 0, 1, 0, 0, 1, 1, 1], .l [1, 0, 1, 0, 0], .b 0, .c [1, 1]], ⟨[5], ⟨[.i .i64], [.segs [.fn 104 [] []]]⟩⟩), ([.c [1, 1, 0], .c [1, 1, 1]], ⟨[], ⟨[], [.segs [.fn 104 [] []]]⟩⟩)], run := fun p k => (ixfw_l1 N N p.1.1 p.1.2.2.1 p.1.2.2.2.1).bind fun e => match e with | .inl x => k (.inl ((x, ()), ((((), ()), ()), ()))) | .inr x => k (.inr (.inl ((), ((((), ()), ()), ())))) }
theorem ixfw_l1_eq (N n_ : Nat) (s : List Int) (u : Int) (u2 : Int) : ev (Z := (Int) ⊕ (Unit)) Try.prog (ixfw_sp N) ixfw_B [] [ixfw_l1_h (ixfw_l1 N n_), ixfw_l1_e0, ixfw_l1_e1] none 400 true ixfw_l1_at (stL ixfw_l1_st ((s, ((), ((), ())), u, u2, ()), ((((), ()), ()), ()))) (stH ixfw_l1_st ((s, ((), ((), ())), u, u2, ()), ((((), ()), ()), ()))) = ixfw_l1 N (n_ + 1) s u u2 := by kernel_rfl
theorem ixfw_l1_ok (N : Nat) {top : Bool} : LoopOK Try.prog ixfw_B.c ixfw_B.n ixfw_B.m0 top (ixfw_l1_L N) := loop_of_ev (Z := (Int) ⊕ (Unit)) (N := N) (fun m p => ixfw_l1 N m p.1.1 p.1.2.2.1 p.1.2.2.2.1) (fun e => match e with | .inl x => .inl ((x, ()), ((((), ()), ()), ())) | .inr x => .inr (.inl ((), ((((), ()), ()), ())))) (fun _ p k => bind_congr_ (ixfw_l1 N N p.1.1 p.1.2.2.1 p.1.2.2.2.1) _ _ (fun e => by rcases e with x | x <;> rfl)) (fun _ => rfl) (fun m z E Xc hE hX hrec hx => leaf_of_ev (B := ixfw_B) (loops := []) (leaves := [ixfw_l1_h (ixfw_l1 N m), ixfw_l1_e0, ixfw_l1_e1]) (ixfw_all N) mixed trivial hE hX ⟨hrec, (fun p hp => by obtain rfl := Option.some.inj hp; exact hx), (fun p hp => by obtain rfl := Option.some.inj hp; exact hx), trivial⟩ RetOK.no (fun p => ixfw_l1_eq N m p.1.1 p.1.2.2.1 p.1.2.2.2.1))
abbrev ixfw_st : Sta := ⟨[0, 1], ⟨[.sl (.int .i64), .fn 130 [] [.own 0 0]], [.segs [.fn 104 [] []]]⟩⟩
theorem ixfw_eq (N : Nat) (s : List Int) : ev (Z := Int) Try.prog (ixfw_sp N) ixfw_B [ixfw_l1_L N] [] (some ixfw_rt) 400 false [.c [0], .c [1]] (stL ixfw_st ((s, ((), ((), ())), ()), ((((), ()), ()), ()))) (stH ixfw_st ((s, ((), ((), ())), ()), ((((), ()), ()), ()))) = ixfw_S N s := by kernel_rfl
noncomputable def sp_ixfw (N : Nat) : Spec := { f := 80, ins := ⟨[.sl (.int .i64), .fn 130 [] [.own 0 0]], [.segs [.fn 104 [] []]]⟩, outs := [⟨[.i .i64], [.segs [.fn 104 [] []]]⟩], run := fun p k => (ixfw_S N p.1.1).bind fun r => k ((r, ()), ((((), ()), ()), ())) }
theorem sp_ixfw_ok (N : Nat) : SpecOK Try.prog (sp_ixfw N) := fn_sound (B := ixfw_B) (loops := [ixfw_l1_L N]) (leaves := []) (fun p => ixfw_S N p.1.1) (fun r => ((r, ()), ((((), ()), ()), ()))) ixfw_rt (fun _ _ _ => rfl) (fun r z h => by cases h; rfl) Try.func80 (by kernel_rfl) (by kernel_rfl) (by kernel_rfl) rfl rfl (by kernel_rfl) (fun args w => Sem.pv_run _ _ _ (by kernel_rfl) w) (ixfw_all N) mixed ⟨ixfw_l1_ok N, trivial⟩ (fun z E Xc hE hX hret => trivial) (fun p => ixfw_eq N p.1.1)

def cofw_S (N : Nat) (s : List Int) : Option Bool :=
  (ixfw_S N s).bind fun x_1 =>
  some (decide (0 ≤ x_1))
noncomputable def cofw_sp (N : Nat) : List Spec := [sp_ixfw N]
theorem cofw_all (N : Nat) : AllP (SpecOK Try.prog) (cofw_sp N) := ⟨sp_ixfw_ok N, trivial⟩
noncomputable def cofw_c : Code := (Try.f93.body).getD .skip
noncomputable abbrev cofw_B : Body := { c := cofw_c, n := 9, res := [.tmp 4], outs := [⟨[.b], [.segs [.fn 104 [] []]]⟩], m0 := 1 }
abbrev cofw_rt : altD cofw_B.outs → Option Bool := fun r => some r.1.1
abbrev cofw_st : Sta := ⟨[0, 1], ⟨[.sl (.int .i64), .fn 130 [] [.own 0 0]], [.segs [.fn 104 [] []]]⟩⟩
theorem cofw_eq (N : Nat) (s : List Int) : ev (Z := Bool) Try.prog (cofw_sp N) cofw_B [] [] (some cofw_rt) 400 false [.c [0], .c [1]] (stL cofw_st ((s, ((), ((), ())), ()), ((((), ()), ()), ()))) (stH cofw_st ((s, ((), ((), ())), ()), ((((), ()), ()), ()))) = cofw_S N s := by kernel_rfl
noncomputable def sp_cofw (N : Nat) : Spec := { f := 93, ins := ⟨[.sl (.int .i64), .fn 130 [] [.own 0 0]], [.segs [.fn 104 [] []]]⟩, outs := [⟨[.b], [.segs [.fn 104 [] []]]⟩], run := fun p k => (cofw_S N p.1.1).bind fun r => k ((r, ()), ((((), ()), ()), ())) }
theorem sp_cofw_ok (N : Nat) : SpecOK Try.prog (sp_cofw N) := fn_sound (B := cofw_B) (loops := []) (leaves := []) (fun p => cofw_S N p.1.1) (fun r => ((r, ()), ((((), ()), ()), ()))) cofw_rt (fun _ _ _ => rfl) (fun r z h => by cases h; rfl) Try.func93 (by kernel_rfl) (by kernel_rfl) (by kernel_rfl) rfl rfl (by kernel_rfl) (fun args w => Sem.pv_run _ _ _ (by kernel_rfl) w) (cofw_all N) mixed trivial (fun z E Xc hE hX hret => trivial) (fun p => cofw_eq N p.1.1)

def everyw_S (N : Nat) (l : List Int) : Option Bool :=
  (cofw_S N l).bind fun x_1 =>
  some (!x_1)
noncomputable def everyw_sp (N : Nat) : List Spec := [sp_cofw N]
theorem everyw_all (N : Nat) : AllP (SpecOK Try.prog) (everyw_sp N) := ⟨sp_cofw_ok N, trivial⟩
noncomputable def everyw_c : Code := (Try.f101.body).getD .skip
noncomputable abbrev everyw_B : Body := { c := everyw_c, n := 9, res := [.tmp 4], outs := [⟨[.b], []⟩], m0 := 0 }
abbrev everyw_rt : altD everyw_B.outs → Option Bool := fun r => some r.1.1
abbrev everyw_st : Sta := ⟨[0, 1], ⟨[.sl (.int .i64), .fn 104 [] []], []⟩⟩
theorem everyw_eq (N : Nat) (l : List Int) : ev (Z := Bool) Try.prog (everyw_sp N) everyw_B [] [] (some everyw_rt) 400 false [.c [0], .c [1]] (stL everyw_st ((l, ((), ()), ()), ())) (stH everyw_st ((l, ((), ()), ()), ())) = everyw_S N l := by kernel_rfl
noncomputable def sp_everyw (N : Nat) : Spec := { f := 101, ins := ⟨[.sl (.int .i64), .fn 104 [] []], []⟩, outs := [⟨[.b], []⟩], run := fun p k => (everyw_S N p.1.1).bind fun r => k ((r, ()), ()) }
theorem sp_everyw_ok (N : Nat) : SpecOK Try.prog (sp_everyw N) := fn_sound (B := everyw_B) (loops := []) (leaves := []) (fun p => everyw_S N p.1.1) (fun r => ((r, ()), ())) everyw_rt (fun _ _ _ => rfl) (fun r z h => by cases h; rfl) Try.func101 (by kernel_rfl) (by kernel_rfl) (by kernel_rfl) rfl rfl (by kernel_rfl) (fun args w => Sem.pv_run _ _ _ (by kernel_rfl) w) (everyw_all N) mixed trivial (fun z E Xc hE hX hret => trivial) (fun p => everyw_eq N p.1.1)

def every1r_S (N : Nat) (x : Int) : Option Bool :=
  (check4_S N x).bind fun x_1 =>
  some (!x_1)
noncomputable def every1r_sp (N : Nat) : List Spec := [sp_check4 N]
theorem every1r_all (N : Nat) : AllP (SpecOK Try.prog) (every1r_sp N) := ⟨sp_check4_ok N, trivial⟩
noncomputable def every1r_c : Code := (Try.f130.body).getD .skip
noncomputable abbrev every1r_B : Body := { c := every1r_c, n := 8, res := [.tmp 3], outs := [⟨[.b], [.segs [.fn 105 [] []]]⟩], m0 := 1 }
abbrev every1r_rt : altD every1r_B.outs → Option Bool := fun r => some r.1.1
abbrev every1r_st : Sta := ⟨[0, 1], ⟨[.i .i64, .own 0 0], [.segs [.fn 105 [] []]]⟩⟩
theorem every1r_eq (N : Nat) (x : Int) : ev (Z := Bool) Try.prog (every1r_sp N) every1r_B [] [] (some every1r_rt) 400 false [.c [0], .c [1]] (stL every1r_st ((x, (), ()), ((((), ()), ()), ()))) (stH every1r_st ((x, (), ()), ((((), ()), ()), ()))) = every1r_S N x := by kernel_rfl
noncomputable def sp_every1r (N : Nat) : Spec := { f := 130, ins := ⟨[.i .i64, .own 0 0], [.segs [.fn 105 [] []]]⟩, outs := [⟨[.b], [.segs [.fn 105 [] []]]⟩], run := fun p k => (every1r_S N p.1.1).bind fun r => k ((r, ()), ((((), ()), ()), ())) }
theorem sp_every1r_ok (N : Nat) : SpecOK Try.prog (sp_every1r N) := fn_sound (B := every1r_B) (loops := []) (leaves := []) (fun p => every1r_S N p.1.1) (fun r => ((r, ()), ((((), ()), ()), ()))) every1r_rt (fun _ _ _ => rfl) (fun r z h => by cases h; rfl) Try.func130 (by kernel_rfl) (by kernel_rfl) (by kernel_rfl) rfl rfl (by kernel_rfl) (fun args w => Sem.pv_run _ _ _ (by kernel_rfl) w) (every1r_all N) mixed trivial (fun z E Xc hE hX hret => trivial) (fun p => every1r_eq N p.1.1)

def ixfr_l1 (N : Nat) : Nat → Qa → Int → Int → Option ((Int) ⊕ (Unit))
  | 0, _, _, _ => none
  | n_ + 1, s, u, u2 =>
    br (decide (u2 < u))
      (idx s u2 fun x_1 =>
      (every1r_S N x_1).bind fun x_2 =>
      br x_2
        (some (.inl u2))
        (chk (u2 + 1) <|
        ixfr_l1 N n_ s u (u2 + 1)))
      (some (.inr ()))
def ixfr_S (N : Nat) (s : List Int) : Option Int :=
  (ixfr_l1 N N s (s.length : Int) 0).bind fun e => match e with
  | .inl i_3 =>
    some i_3
  | .inr _ =>
    some (-1)
noncomputable def ixfr_sp (N : Nat) : List Spec := [sp_every1r N]
theorem ixfr_all (N : Nat) : AllP (SpecOK Try.prog) (ixfr_sp N) := ⟨sp_every1r_ok N, trivial⟩
noncomputable def ixfr_c : Code := (Try.f80.body).getD .skip
noncomputable abbrev ixfr_B : Body := { c := ixfr_c, n := 19, res := [.tmp 4], outs := [⟨[.i .i64], [.segs [.fn 105 [] []]]⟩], m0 := 1 }
abbrev ixfr_rt : altD ixfr_B.outs → Option Int := fun r => some r.1.1
abbrev ixfr_l1_at : List PI := [.c [1, 0, 1, 0, 0, 0], .c [1, 0, 1, 0, 0, 1], .l [1, 0, 1, 0, 0], .b 0, .c [1, 1]]
abbrev ixfr_l1_st : Sta := ⟨[0, 1, 7, 8], ⟨[.sl (.int .i64), .fn 130 [] [.own 0 0], .i .i64, .i .i64], [.segs [.fn 105 [] []]]⟩⟩
abbrev ixfr_l1_h (rec : Qa → Int → Int → Option ((Int) ⊕ (Unit))) : Leaf ((Int) ⊕ (Unit)) := ⟨ixfr_l1_at, ixfr_l1_st, fun p => rec p.1.1 p.1.2.2.1 p.1.2.2.2.1⟩
abbrev ixfr_l1_e0 : Leaf ((Int) ⊕ (Unit)) := ⟨[.c [1, 0, 1, 0, 0, 1, 1, 0, 0, 1, 1, 0, 0], .c [1, 0, 1, 0, 0, 1, 1, 0, 0, 1, 1, 0, 1], .b 1, .c [1, 0, 1, 0, 0, 1, 1, 1], .l [1, 0, 1, 0, 0], .b 0, .c [1, 1]], ⟨[5], ⟨[.i .i64], [.segs [.fn 105 [] []]]⟩⟩, fun p => some (.inl p.1.1)⟩
abbrev ixfr_l1_e1 : Leaf ((Int) ⊕ (Unit)) := ⟨[.c [1, 1, 0], .c [1, 1, 1]], ⟨[], ⟨[], [.segs [.fn 105 [] []]]⟩⟩, fun p => some (.inr ())⟩
noncomputable def ixfr_l1_L (N : Nat) : LoopS := { at_ := ixfr_l1_at, sta := ixfr_l1_st, exits := [([.c [1, 0, 1, 0, 0, 1, 1, 0, 0, 1, 1, 0, 0], .c [1, 0, 1, 0, 0, 1, 1, 0, 0, 1, 1, 0, 1], .b 1, .c [1, 0, 1, 0, 0, 1, 1, 1], .l [1, 0, 1, 0, 0], .b 0, .c [1, 1]], ⟨[5], ⟨[.i .i64], [.segs [.fn 105 [] []]]⟩⟩), ([.c [1, 1, 0], .c [1, 1, 1]], ⟨[], ⟨[], [.segs [.fn 105 [] []]]⟩⟩)], run := fun p k => (ixfr_l1 N N p.1.1 p.1.2.2.1 p.1.2.2.2.1).bind fun e => match e with | .inl x => k (.inl ((x, ()), ((((), ()), ()), ()))) | .inr x => k (.inr (.inl ((), ((((), ()), ()), ())))) }
theorem ixfr_l1_eq (N n_ : Nat) (s : List Int) (u : Int) (u2 : Int) : ev (Z := (Int) ⊕ (Unit)) Try.prog (ixfr_sp N) ixfr_B [] [ixfr_l1_h (ixfr_l1 N n_), ixfr_l1_e0, ixfr_l1_e1] none 400 true ixfr_l1_at (stL ixfr_l1_st ((s, ((), ((), ())), u, u2, ()), ((((), ()), ()), ()))) (stH ixfr_l1_st ((s, ((), ((), ())), u, u2, ()), ((((), ()), ()), ()))) = ixfr_l1 N (n_ + 1) s u u2 := by kernel_rfl
theorem ixfr_l1_ok (N : Nat) {top : Bool} : LoopOK Try.prog ixfr_B.c ixfr_B.n ixfr_B.m0 top (ixfr_l1_L N) := loop_of_ev (Z := (Int) ⊕ (Unit)) (N := N) (fun m p => ixfr_l1 N m p.1.1 p.1.2.2.1 p.1.2.2.2.1) (fun e => match e with | .inl x => .inl ((x, ()), ((((), ()), ()), ())) | .inr x => .inr (.inl ((), ((((), ()), ()), ())))) (fun _ p k => bind_congr_ (ixfr_l1 N N p.1.1 p.1.2.2.1 p.1.2.2.2.1) _ _ (fun e => by rcases e with x | x <;> rfl)) (fun _ => rfl) (fun m z E Xc hE hX hrec hx => leaf_of_ev (B := ixfr_B) (loops := []) (leaves := [ixfr_l1_h (ixfr_l1 N m), ixfr_l1_e0, ixfr_l1_e1]) (ixfr_all N) mixed trivial hE hX ⟨hrec, (fun p hp => by obtain rfl := Option.some.inj hp; exact hx), (fun p hp => by obtain rfl := Option.some.inj hp; exact hx), trivial⟩ RetOK.no (fun p => ixfr_l1_eq N m p.1.1 p.1.2.2.1 p.1.2.2.2.1))
abbrev ixfr_st : Sta := ⟨[0, 1], ⟨[.sl (.int .i64), .fn 130 [] [.own 0 0]], [.segs [.fn 105 [] []]]⟩⟩
theorem ixfr_eq (N : Nat) (s : List Int) : ev (Z := Int) Try.prog (ixfr_sp N) ixfr_B [ixfr_l1_L N] [] (some ixfr_rt) 400 false [.c [0], .c [1]] (stL ixfr_st ((s, ((), ((), ())), ()), ((((), ()), ()), ()))) (stH ixfr_st ((s, ((), ((), ())), ()), ((((), ()), ()), ()))) = ixfr_S N s := by kernel_rfl
noncomputable def sp_ixfr (N : Nat) : Spec := { f := 80, ins := ⟨[.sl (.int .i64), .fn 130 [] [.own 0 0]], [.segs [.fn 105 [] []]]⟩, outs := [⟨[.i .i64], [.segs [.fn 105 [] []]]⟩], run := fun p k => (ixfr_S N p.1.1).bind fun r => k ((r, ()), ((((), ()), ()), ())) }
theorem sp_ixfr_ok (N : Nat) : SpecOK Try.prog (sp_ixfr N) := fn_sound (B := ixfr_B) (loops := [ixfr_l1_L N]) (leaves := []) (fun p => ixfr_S N p.1.1) (fun r => ((r, ()), ((((), ()), ()), ()))) ixfr_rt (fun _ _ _ => rfl) (fun r z h => by cases h; rfl) Try.func80 (by kernel_rfl) (by kernel_rfl) (by kernel_rfl) rfl rfl (by kernel_rfl) (fun args w => Sem.pv_run _ _ _ (by kernel_rfl) w) (ixfr_all N) mixed ⟨ixfr_l1_ok N, trivial⟩ (fun z E Xc hE hX hret => trivial) (fun p => ixfr_eq N p.1.1)

def cofr_S (N : Nat) (s : List Int) : Option Bool :=
  (ixfr_S N s).bind fun x_1 =>
  some (decide (0 ≤ x_1))
noncomputable def cofr_sp (N : Nat) : List Spec := [sp_ixfr N]
theorem cofr_all (N : Nat) : AllP (SpecOK Try.prog) (cofr_sp N) := ⟨sp_ixfr_ok N, trivial⟩
noncomputable def cofr_c : Code := (Try.f93.body).getD .skip
noncomputable abbrev cofr_B : Body := { c := cofr_c, n := 9, res := [.tmp 4], outs := [⟨[.b], [.segs [.fn 105 [] []]]⟩], m0 := 1 }
abbrev cofr_rt : altD cofr_B.outs → Option Bool := fun r => some r.1.1
abbrev cofr_st : Sta := ⟨[0, 1], ⟨[.sl (.int .i64), .fn 130 [] [.own 0 0]], [.segs [.fn 105 [] []]]⟩⟩
theorem cofr_eq (N : Nat) (s : List Int) : ev (Z := Bool) Try.prog (cofr_sp N) cofr_B [] [] (some cofr_rt) 400 false [.c [0], .c [1]] (stL cofr_st ((s, ((), ((), ())), ()), ((((), ()), ()), ()))) (stH cofr_st ((s, ((), ((), ())), ()), ((((), ()), ()), ()))) = cofr_S N s := by kernel_rfl
noncomputable def sp_cofr (N : Nat) : Spec := { f := 93, ins := ⟨[.sl (.int .i64), .fn 130 [] [.own 0 0]], [.segs [.fn 105 [] []]]⟩, outs := [⟨[.b], [.segs [.fn 105 [] []]]⟩], run := fun p k => (cofr_S N p.1.1).bind fun r => k ((r, ()), ((((), ()), ()), ())) }
theorem sp_cofr_ok (N : Nat) : SpecOK Try.prog (sp_cofr N) := fn_sound (B := cofr_B) (loops := []) (leaves := []) (fun p => cofr_S N p.1.1) (fun r => ((r, ()), ((((), ()), ()), ()))) cofr_rt (fun _ _ _ => rfl) (fun r z h => by cases h; rfl) Try.func93 (by kernel_rfl) (by kernel_rfl) (by kernel_rfl) rfl rfl (by kernel_rfl) (fun args w => Sem.pv_run _ _ _ (by kernel_rfl) w) (cofr_all N) mixed trivial (fun z E Xc hE hX hret => trivial) (fun p => cofr_eq N p.1.1)

def everyr_S (N : Nat) (l : List Int) : Option Bool :=
  (cofr_S N l).bind fun x_1 =>
  some (!x_1)
noncomputable def everyr_sp (N : Nat) : List Spec := [sp_cofr N]
theorem everyr_all (N : Nat) : AllP (SpecOK Try.prog) (everyr_sp N) := ⟨sp_cofr_ok N, trivial⟩
noncomputable def everyr_c : Code := (Try.f101.body).getD .skip
noncomputable abbrev everyr_B : Body := { c := everyr_c, n := 9, res := [.tmp 4], outs := [⟨[.b], []⟩], m0 := 0 }
abbrev everyr_rt : altD everyr_B.outs → Option Bool := fun r => some r.1.1
abbrev everyr_st : Sta := ⟨[0, 1], ⟨[.sl (.int .i64), .fn 105 [] []], []⟩⟩
theorem everyr_eq (N : Nat) (l : List Int) : ev (Z := Bool) Try.prog (everyr_sp N) everyr_B [] [] (some everyr_rt) 400 false [.c [0], .c [1]] (stL everyr_st ((l, ((), ()), ()), ())) (stH everyr_st ((l, ((), ()), ()), ())) = everyr_S N l := by kernel_rfl
noncomputable def sp_everyr (N : Nat) : Spec := { f := 101, ins := ⟨[.sl (.int .i64), .fn 105 [] []], []⟩, outs := [⟨[.b], []⟩], run := fun p k => (everyr_S N p.1.1).bind fun r => k ((r, ()), ()) }
theorem sp_everyr_ok (N : Nat) : SpecOK Try.prog (sp_everyr N) := fn_sound (B := everyr_B) (loops := []) (leaves := []) (fun p => everyr_S N p.1.1) (fun r => ((r, ()), ())) everyr_rt (fun _ _ _ => rfl) (fun r z h => by cases h; rfl) Try.func101 (by kernel_rfl) (by kernel_rfl) (by kernel_rfl) rfl rfl (by kernel_rfl) (fun args w => Sem.pv_run _ _ _ (by kernel_rfl) w) (everyr_all N) mixed trivial (fun z E Xc hE hX hret => trivial) (fun p => everyr_eq N p.1.1)

def check_S (N : Nat) (d : List Int) (d2 : Int) (d3 : List Qa) (d4 : List Qa) (d5 : List Int) : Option Int :=
  (in__S N (d.length : Int) 1 5).bind fun x_1 =>
  br (!x_1)
    (some 2)
    (br (decide (6 < (d3.length : Int)))
      (some 2)
      (br (decide (6 < (d4.length : Int)))
        (some 2)
        ((everylo_S N d3 (d, d2, d3, d4, d5)).bind fun x_2 =>
        br (!x_2)
          (some 2)
          ((everylo_S N d4 (d, d2, d3, d4, d5)).bind fun x_3 =>
          br (!x_3)
            (some 2)
            (br (!decide ((d5.length : Int) = (d3.length : Int)))
              (some 2)
              ((everyw_S N d).bind fun x_4 =>
              br (!x_4)
                (some 3)
                ((in__S N d2 0 3).bind fun x_5 =>
                br (!x_5)
                  (some 3)
                  ((everyr_S N d5).bind fun x_6 =>
                  br (!x_6)
                    (some 3)
                    ((everyva_S N d3).bind fun x_7 =>
                    br (!x_7)
                      (some 3)
                      ((everyva_S N d4).bind fun x_8 =>
                      br (!x_8)
                        (some 3)
                        (some 0)))))))))))
noncomputable def check_sp (N : Nat) : List Spec := [sp_in_ N, sp_everylo N, sp_everyva N, sp_everyw N, sp_everyr N]
theorem check_all (N : Nat) : AllP (SpecOK Try.prog) (check_sp N) := ⟨sp_in__ok N, sp_everylo_ok N, sp_everyva_ok N, sp_everyw_ok N, sp_everyr_ok N, trivial⟩
noncomputable def check_c : Code := (Try.f68.body).getD .skip
noncomputable abbrev check_B : Body := { c := check_c, n := 75, res := [.tmp 2], outs := [⟨[.i .i64], []⟩], m0 := 0 }
abbrev check_rt : altD check_B.outs → Option Int := fun r => some r.1.1
abbrev check_st : Sta := ⟨[0], ⟨[.agg [.sl (.int .i64), .i .i64, .sl Qb, .sl Qb, .sl (.int .i64)]], []⟩⟩
theorem check_eq (N : Nat) (d : List Int) (d2 : Int) (d3 : List Qa) (d4 : List Qa) (d5 : List Int) : ev (Z := Int) Try.prog (check_sp N) check_B [] [] (some check_rt) 400 false [.c [0], .c [1]] (stL check_st (((d, d2, d3, d4, d5, ()), ()), ())) (stH check_st (((d, d2, d3, d4, d5, ()), ()), ())) = check_S N d d2 d3 d4 d5 := by kernel_rfl
noncomputable def sp_check (N : Nat) : Spec := { f := 68, ins := ⟨[.agg [.sl (.int .i64), .i .i64, .sl Qb, .sl Qb, .sl (.int .i64)]], []⟩, outs := [⟨[.i .i64], []⟩], run := fun p k => (check_S N p.1.1.1 p.1.1.2.1 p.1.1.2.2.1 p.1.1.2.2.2.1 p.1.1.2.2.2.2.1).bind fun r => k ((r, ()), ()) }
theorem sp_check_ok (N : Nat) : SpecOK Try.prog (sp_check N) := fn_sound (B := check_B) (loops := []) (leaves := []) (fun p => check_S N p.1.1.1 p.1.1.2.1 p.1.1.2.2.1 p.1.1.2.2.2.1 p.1.1.2.2.2.2.1) (fun r => ((r, ()), ())) check_rt (fun _ _ _ => rfl) (fun r z h => by cases h; rfl) Try.func68 (by kernel_rfl) (by kernel_rfl) (by kernel_rfl) rfl rfl (by kernel_rfl) (fun args w => Sem.pv_run _ _ _ (by kernel_rfl) w) (check_all N) mixed trivial (fun z E Xc hE hX hret => trivial) (fun p => check_eq N p.1.1.1 p.1.1.2.1 p.1.1.2.2.1 p.1.1.2.2.2.1 p.1.1.2.2.2.2.1)

def opened_j1 (N : Nat) (rec : Int → Qa → Int → Qa → Qk → Int → Int → Qk → Int → Int → Qa → Int → Int → Qa → Int → Qk → Qk → Qa → Qa → Int → Qk → Qk → Qa → Qa → Qa → Option Qe) (i : Int) (a : List Int) (k : Int) (b : List Int) (u : List Qa) (u2 : Int) (u3 : Int) (u4 : List Qa) (u5 : Int) (u6 : Int) (u7 : List Int) (u8 : Int) (u9 : Int) (d : List Int) (d2 : Int) (d3 : List Qa) (d4 : List Qa) (d5 : List Int) (out : List Int) (out2 : Int) (out3 : List Qa) (out4 : List Qa) (out5 : List Int) (out6 : List Int) (out7 : List Int) : Option Qe :=
  chk (u9 + 1) <|
  rec i a k b u u2 u3 u4 u5 u6 u7 u8 (u9 + 1) d d2 d3 d4 d5 out out2 out3 out4 out5 out6 out7
def opened_l3 (N : Nat) : Nat → Int → Qa → Int → Qa → Qk → Int → Int → Qk → Int → Int → Qa → Int → Int → Qa → Int → Qk → Qk → Qa → Qa → Int → Qk → Qk → Qa → Qa → Qa → Option Qe
  | 0, _, _, _, _, _, _, _, _, _, _, _, _, _, _, _, _, _, _, _, _, _, _, _, _, _ => none
  | n_ + 1, i, a, k, b, u, u2, u3, u4, u5, u6, u7, u8, u9, d, d2, d3, d4, d5, out, out2, out3, out4, out5, out6, out7 =>
    br (decide (u9 < u8))
      (idx u7 u9 fun x_4 =>
      br (decide (x_4 = -1))
        (opened_j1 N (opened_l3 N n_) i a k b u u2 u3 u4 u5 u6 u7 u8 u9 d d2 d3 d4 d5 out out2 out3 out4 out5 out6 out7)
        (idx b u9 fun x_5 =>
        br (decide (x_5 = -1))
          (opened_j1 N (opened_l3 N n_) i a k b u u2 u3 u4 u5 u6 u7 u8 u9 d d2 d3 d4 d5 out out2 out3 out4 out5 out6 out7)
          (idx b u9 fun x_6 =>
          br (decide (x_4 = x_6))
            (rng i 6 <|
            rng k 6 <|
            get out6 ((i.toNat * 6) + k.toNat) fun x_7 =>
            idx d u9 fun x_8 =>
            chk (x_7 + x_8) <|
            rng i 6 <|
            rng k 6 <|
            get out6 ((i.toNat * 6) + k.toNat) fun _ =>
            opened_j1 N (opened_l3 N n_) i a k b u u2 u3 u4 u5 u6 u7 u8 u9 d d2 d3 d4 d5 out out2 out3 out4 out5 (out6.set ((i.toNat * 6) + k.toNat) (x_7 + x_8)) out7)
            (rng i 6 <|
            rng k 6 <|
            get out7 ((i.toNat * 6) + k.toNat) fun x_10 =>
            chk (x_10 + 1) <|
            rng i 6 <|
            rng k 6 <|
            get out7 ((i.toNat * 6) + k.toNat) fun _ =>
            opened_j1 N (opened_l3 N n_) i a k b u u2 u3 u4 u5 u6 u7 u8 u9 d d2 d3 d4 d5 out out2 out3 out4 out5 out6 (out7.set ((i.toNat * 6) + k.toNat) (x_10 + 1))))))
      (some ((i, a, u, u2, u3, u4, u5, u6, d, d2, d3, d4, d5, out, out2, out3, out4, out5, out6, out7)))
def opened_l2 (N : Nat) : Nat → Int → Qa → Qk → Int → Int → Qk → Int → Int → Qa → Int → Qk → Qk → Qa → Qa → Int → Qk → Qk → Qa → Qa → Qa → Option Qp
  | 0, _, _, _, _, _, _, _, _, _, _, _, _, _, _, _, _, _, _, _, _ => none
  | n_ + 1, i, a, u, u2, u3, u4, u5, u6, d, d2, d3, d4, d5, out, out2, out3, out4, out5, out6, out7 =>
    br (decide (u6 < u5))
      (idx u4 u6 fun x_3 =>
      (opened_l3 N N i a u6 x_3 u u2 u3 u4 u5 u6 a (a.length : Int) 0 d d2 d3 d4 d5 out out2 out3 out4 out5 out6 out7).bind fun (i_12, a_13, u_14, u2_15, u3_16, u4_17, u5_18, u6_19, d_20, d2_21, d3_22, d4_23, d5_24, out_25, out2_26, out3_27, out4_28, out5_29, out6_30, out7_31) =>
      chk (u6_19 + 1) <|
      opened_l2 N n_ i_12 a_13 u_14 u2_15 u3_16 u4_17 u5_18 (u6_19 + 1) d_20 d2_21 d3_22 d4_23 d5_24 out_25 out2_26 out3_27 out4_28 out5_29 out6_30 out7_31)
      (some ((u, u2, u3, d, d2, d3, d4, d5, out, out2, out3, out4, out5, out6, out7)))
def opened_l1 (N : Nat) : Nat → Qk → Int → Int → Qa → Int → Qk → Qk → Qa → Qa → Int → Qk → Qk → Qa → Qa → Qa → Option (List Int × Int × List Qa × List Qa × List Int × List Int × List Int)
  | 0, _, _, _, _, _, _, _, _, _, _, _, _, _, _, _ => none
  | n_ + 1, u, u2, u3, d, d2, d3, d4, d5, out, out2, out3, out4, out5, out6, out7 =>
    br (decide (u3 < u2))
      (idx u u3 fun x_2 =>
      (opened_l2 N N u3 x_2 u u2 u3 d4 (d4.length : Int) 0 d d2 d3 d4 d5 out out2 out3 out4 out5 out6 out7).bind fun (u_32, u2_33, u3_34, d_35, d2_36, d3_37, d4_38, d5_39, out_40, out2_41, out3_42, out4_43, out5_44, out6_45, out7_46) =>
      chk (u3_34 + 1) <|
      opened_l1 N n_ u_32 u2_33 (u3_34 + 1) d_35 d2_36 d3_37 d4_38 d5_39 out_40 out2_41 out3_42 out4_43 out5_44 out6_45 out7_46)
      (some ((out, out2, out3, out4, out5, out6, out7)))
def opened_S (N : Nat) (d : List Int) (d2 : Int) (d3 : List Qa) (d4 : List Qa) (d5 : List Int) : Option ((Qm × Int) ⊕ (Int)) :=
  (check_S N d d2 d3 d4 d5).bind fun x_1 =>
  br (!decide (x_1 = 0))
    (some (.inr x_1))
    ((opened_l1 N N d3 (d3.length : Int) 0 d d2 d3 d4 d5 d d2 d3 d4 d5 (List.replicate 36 (0 : Int)) (List.replicate 36 (0 : Int))).bind fun (out_47, out2_48, out3_49, out4_50, out5_51, out6_52, out7_53) =>
    some (.inl ((out_47, out2_48, out3_49, out4_50, out5_51, out6_52, out7_53, ()), 0)))
noncomputable def opened_sp (N : Nat) : List Spec := [sp_check N]
theorem opened_all (N : Nat) : AllP (SpecOK Try.prog) (opened_sp N) := ⟨sp_check_ok N, trivial⟩
noncomputable def opened_c : Code := (Try.f33.body).getD .skip
noncomputable abbrev opened_B : Body := { c := opened_c, n := 95, res := [.tmp 2, .tmp 3], outs := [⟨[.fz [.sl (.int .i64), .i .i64, .sl Qb, .sl Qb, .sl (.int .i64), .arr (.int .i64) 36, .arr (.int .i64) 36], .i .i64], []⟩, ⟨[.nilp, .i .i64], []⟩], m0 := 0 }
abbrev opened_rt : altD opened_B.outs → Option ((Qm × Int) ⊕ (Int)) := fun r => match r with | .inl r => some (.inl (r.1.1, r.1.2.1)) | .inr r => some (.inr r.1.2.1)
abbrev opened_l3_at : List PI := [.c [1, 1, 1, 0, 1, 0, 0, 1, 1, 0, 0, 1, 1, 0, 0, 1, 1, 0, 0, 1, 1, 0, 0, 0], .c [1, 1, 1, 0, 1, 0, 0, 1, 1, 0, 0, 1, 1, 0, 0, 1, 1, 0, 0, 1, 1, 0, 0, 1], .l [1, 1, 1, 0, 1, 0, 0, 1, 1, 0, 0, 1, 1, 0, 0, 1, 1, 0, 0, 1, 1, 0, 0], .b 4, .b 3, .c [1, 1, 1, 0, 1, 0, 0, 1, 1, 0, 0, 1, 1, 0, 0, 1, 1, 1], .l [1, 1, 1, 0, 1, 0, 0, 1, 1, 0, 0, 1, 1, 0, 0], .b 2, .b 1, .c [1, 1, 1, 0, 1, 0, 0, 1, 1, 1], .l [1, 1, 1, 0, 1, 0, 0], .b 0, .c [1, 1, 1, 1]]
abbrev opened_l3_st : Sta := ⟨[1, 5, 6, 7, 8, 9, 21, 22, 23, 29, 30, 31, 36, 37, 38], ⟨[.own 0 0, .own 1 0, .i .i64, .sl (.int .i64), .i .i64, .sl (.int .i64), .sl Qb, .i .i64, .i .i64, .sl Qb, .i .i64, .i .i64, .sl (.int .i64), .i .i64, .i .i64], [.segs [.sl (.int .i64), .i .i64, .sl Qb, .sl Qb, .sl (.int .i64)], .segs [.sl (.int .i64), .i .i64, .sl Qb, .sl Qb, .sl (.int .i64), .arr (.int .i64) 36, .arr (.int .i64) 36]]⟩⟩
abbrev opened_l3_h (rec : Int → Qa → Int → Qa → Qk → Int → Int → Qk → Int → Int → Qa → Int → Int → Qa → Int → Qk → Qk → Qa → Qa → Int → Qk → Qk → Qa → Qa → Qa → Option Qe) : Leaf Qe := ⟨opened_l3_at, opened_l3_st, fun p => rec p.1.2.2.1 p.1.2.2.2.1 p.1.2.2.2.2.1 p.1.2.2.2.2.2.1 p.1.2.2.2.2.2.2.1 p.1.2.2.2.2.2.2.2.1 p.1.2.2.2.2.2.2.2.2.1 p.1.2.2.2.2.2.2.2.2.2.1 p.1.2.2.2.2.2.2.2.2.2.2.1 p.1.2.2.2.2.2.2.2.2.2.2.2.1 p.1.2.2.2.2.2.2.2.2.2.2.2.2.1 p.1.2.2.2.2.2.2.2.2.2.2.2.2.2.1 p.1.2.2.2.2.2.2.2.2.2.2.2.2.2.2.1 p.2.1.1 p.2.1.2.1 p.2.1.2.2.1 p.2.1.2.2.2.1 p.2.1.2.2.2.2.1 p.2.2.1.1 p.2.2.1.2.1 p.2.2.1.2.2.1 p.2.2.1.2.2.2.1 p.2.2.1.2.2.2.2.1 p.2.2.1.2.2.2.2.2.1 p.2.2.1.2.2.2.2.2.2.1⟩
abbrev opened_l3_e0 : Leaf Qe := ⟨[.c [1, 1, 1, 0, 1, 0, 0, 1, 1, 0, 0, 1, 1, 0, 0, 1, 1, 1], .l [1, 1, 1, 0, 1, 0, 0, 1, 1, 0, 0, 1, 1, 0, 0], .b 2, .b 1, .c [1, 1, 1, 0, 1, 0, 0, 1, 1, 1], .l [1, 1, 1, 0, 1, 0, 0], .b 0, .c [1, 1, 1, 1]], ⟨[1, 5, 6, 7, 21, 22, 23, 29, 30, 31], ⟨[.own 0 0, .own 1 0, .i .i64, .sl (.int .i64), .sl Qb, .i .i64, .i .i64, .sl Qb, .i .i64, .i .i64], [.segs [.sl (.int .i64), .i .i64, .sl Qb, .sl Qb, .sl (.int .i64)], .segs [.sl (.int .i64), .i .i64, .sl Qb, .sl Qb, .sl (.int .i64), .arr (.int .i64) 36, .arr (.int .i64) 36]]⟩⟩, fun p => some ((p.1.2.2.1, p.1.2.2.2.1, p.1.2.2.2.2.1, p.1.2.2.2.2.2.1, p.1.2.2.2.2.2.2.1, p.1.2.2.2.2.2.2.2.1, p.1.2.2.2.2.2.2.2.2.1, p.1.2.2.2.2.2.2.2.2.2.1, p.2.1.1, p.2.1.2.1, p.2.1.2.2.1, p.2.1.2.2.2.1, p.2.1.2.2.2.2.1, p.2.2.1.1, p.2.2.1.2.1, p.2.2.1.2.2.1, p.2.2.1.2.2.2.1, p.2.2.1.2.2.2.2.1, p.2.2.1.2.2.2.2.2.1, p.2.2.1.2.2.2.2.2.2.1))⟩
abbrev opened_j1_at : List PI := [.c [1, 1, 1, 0, 1, 0, 0, 1, 1, 0, 0, 1, 1, 0, 0, 1, 1, 0, 0, 1, 1, 0, 0, 1, 1, 1], .l [1, 1, 1, 0, 1, 0, 0, 1, 1, 0, 0, 1, 1, 0, 0, 1, 1, 0, 0, 1, 1, 0, 0], .b 4, .b 3, .c [1, 1, 1, 0, 1, 0, 0, 1, 1, 0, 0, 1, 1, 0, 0, 1, 1, 1], .l [1, 1, 1, 0, 1, 0, 0, 1, 1, 0, 0, 1, 1, 0, 0], .b 2, .b 1, .c [1, 1, 1, 0, 1, 0, 0, 1, 1, 1], .l [1, 1, 1, 0, 1, 0, 0], .b 0, .c [1, 1, 1, 1]]
abbrev opened_j1_st : Sta := ⟨[1, 5, 6, 7, 8, 9, 21, 22, 23, 29, 30, 31, 36, 37, 38], ⟨[.own 0 0, .own 1 0, .i .i64, .sl (.int .i64), .i .i64, .sl (.int .i64), .sl Qb, .i .i64, .i .i64, .sl Qb, .i .i64, .i .i64, .sl (.int .i64), .i .i64, .i .i64], [.segs [.sl (.int .i64), .i .i64, .sl Qb, .sl Qb, .sl (.int .i64)], .segs [.sl (.int .i64), .i .i64, .sl Qb, .sl Qb, .sl (.int .i64), .arr (.int .i64) 36, .arr (.int .i64) 36]]⟩⟩
abbrev opened_j1_k (N : Nat) (rec : Int → Qa → Int → Qa → Qk → Int → Int → Qk → Int → Int → Qa → Int → Int → Qa → Int → Qk → Qk → Qa → Qa → Int → Qk → Qk → Qa → Qa → Qa → Option Qe) : Leaf Qe := ⟨opened_j1_at, opened_j1_st, fun p => opened_j1 N rec p.1.2.2.1 p.1.2.2.2.1 p.1.2.2.2.2.1 p.1.2.2.2.2.2.1 p.1.2.2.2.2.2.2.1 p.1.2.2.2.2.2.2.2.1 p.1.2.2.2.2.2.2.2.2.1 p.1.2.2.2.2.2.2.2.2.2.1 p.1.2.2.2.2.2.2.2.2.2.2.1 p.1.2.2.2.2.2.2.2.2.2.2.2.1 p.1.2.2.2.2.2.2.2.2.2.2.2.2.1 p.1.2.2.2.2.2.2.2.2.2.2.2.2.2.1 p.1.2.2.2.2.2.2.2.2.2.2.2.2.2.2.1 p.2.1.1 p.2.1.2.1 p.2.1.2.2.1 p.2.1.2.2.2.1 p.2.1.2.2.2.2.1 p.2.2.1.1 p.2.2.1.2.1 p.2.2.1.2.2.1 p.2.2.1.2.2.2.1 p.2.2.1.2.2.2.2.1 p.2.2.1.2.2.2.2.2.1 p.2.2.1.2.2.2.2.2.2.1⟩
theorem opened_j1_eq (N : Nat) (rec : Int → Qa → Int → Qa → Qk → Int → Int → Qk → Int → Int → Qa → Int → Int → Qa → Int → Qk → Qk → Qa → Qa → Int → Qk → Qk → Qa → Qa → Qa → Option Qe) (i : Int) (a : List Int) (k : Int) (b : List Int) (u : List Qa) (u2 : Int) (u3 : Int) (u4 : List Qa) (u5 : Int) (u6 : Int) (u7 : List Int) (u8 : Int) (u9 : Int) (d : List Int) (d2 : Int) (d3 : List Qa) (d4 : List Qa) (d5 : List Int) (out : List Int) (out2 : Int) (out3 : List Qa) (out4 : List Qa) (out5 : List Int) (out6 : List Int) (out7 : List Int) : ev (Z := Int × List Int × List Qa × Int × Int × List Qa × Int × Int × List Int × Int × List Qa × List Qa × List Int × List Int × Int × List Qa × List Qa × List Int × List Int × List Int) Try.prog (opened_sp N) opened_B [] [opened_l3_h rec, opened_l3_e0] none 400 true opened_j1_at (stL opened_j1_st (((), (), i, a, k, b, u, u2, u3, u4, u5, u6, u7, u8, u9, ()), ((d, d2, d3, d4, d5, ()), (out, out2, out3, out4, out5, out6, out7, ()), ()))) (stH opened_j1_st (((), (), i, a, k, b, u, u2, u3, u4, u5, u6, u7, u8, u9, ()), ((d, d2, d3, d4, d5, ()), (out, out2, out3, out4, out5, out6, out7, ()), ()))) = opened_j1 N rec i a k b u u2 u3 u4 u5 u6 u7 u8 u9 d d2 d3 d4 d5 out out2 out3 out4 out5 out6 out7 := by kernel_rfl
theorem opened_j1_lf (N : Nat) (rec : Int → Qa → Int → Qa → Qk → Int → Int → Qk → Int → Int → Qa → Int → Int → Qa → Int → Qk → Qk → Qa → Qa → Int → Qk → Qk → Qa → Qa → Qa → Option Qe) {z : Int × List Int × List Qa × Int × Int × List Qa × Int × Int × List Int × Int × List Qa × List Qa × List Int × List Int × Int × List Qa × List Qa × List Int × List Int × List Int} {top : Bool} {E : EE} {Xc : Ctx} (hE : EOK opened_B.m0 E) (hX : CxOK top Xc) (hrec : LeafOK Try.prog opened_B.c opened_B.n opened_B.m0 E Xc z (opened_l3_h rec)) (h0 : LeafOK Try.prog opened_B.c opened_B.n opened_B.m0 E Xc z opened_l3_e0) : LeafOK Try.prog opened_B.c opened_B.n opened_B.m0 E Xc z (opened_j1_k N rec) := leaf_of_ev (B := opened_B) (loops := []) (leaves := [opened_l3_h rec, opened_l3_e0]) (opened_all N) mixed trivial hE hX ⟨hrec, h0, trivial⟩ RetOK.no (fun p => opened_j1_eq N rec p.1.2.2.1 p.1.2.2.2.1 p.1.2.2.2.2.1 p.1.2.2.2.2.2.1 p.1.2.2.2.2.2.2.1 p.1.2.2.2.2.2.2.2.1 p.1.2.2.2.2.2.2.2.2.1 p.1.2.2.2.2.2.2.2.2.2.1 p.1.2.2.2.2.2.2.2.2.2.2.1 p.1.2.2.2.2.2.2.2.2.2.2.2.1 p.1.2.2.2.2.2.2.2.2.2.2.2.2.1 p.1.2.2.2.2.2.2.2.2.2.2.2.2.2.1 p.1.2.2.2.2.2.2.2.2.2.2.2.2.2.2.1 p.2.1.1 p.2.1.2.1 p.2.1.2.2.1 p.2.1.2.2.2.1 p.2.1.2.2.2.2.1 p.2.2.1.1 p.2.2.1.2.1 p.2.2.1.2.2.1 p.2.2.1.2.2.2.1 p.2.2.1.2.2.2.2.1 p.2.2.1.2.2.2.2.2.1 p.2.2.1.2.2.2.2.2.2.1)
noncomputable def opened_l3_L (N : Nat) : LoopS := { at_ := opened_l3_at, sta := opened_l3_st, exits := [([.c [1, 1, 1, 0, 1, 0, 0, 1, 1, 0, 0, 1, 1, 0, 0, 1, 1, 1], .l [1, 1, 1, 0, 1, 0, 0, 1, 1, 0, 0, 1, 1, 0, 0], .b 2, .b 1, .c [1, 1, 1, 0, 1, 0, 0, 1, 1, 1], .l [1, 1, 1, 0, 1, 0, 0], .b 0, .c [1, 1, 1, 1]], ⟨[1, 5, 6, 7, 21, 22, 23, 29, 30, 31], ⟨[.own 0 0, .own 1 0, .i .i64, .sl (.int .i64), .sl Qb, .i .i64, .i .i64, .sl Qb, .i .i64, .i .i64], [.segs [.sl (.int .i64), .i .i64, .sl Qb, .sl Qb, .sl (.int .i64)], .segs [.sl (.int .i64), .i .i64, .sl Qb, .sl Qb, .sl (.int .i64), .arr (.int .i64) 36, .arr (.int .i64) 36]]⟩⟩)], run := fun p k => (opened_l3 N N p.1.2.2.1 p.1.2.2.2.1 p.1.2.2.2.2.1 p.1.2.2.2.2.2.1 p.1.2.2.2.2.2.2.1 p.1.2.2.2.2.2.2.2.1 p.1.2.2.2.2.2.2.2.2.1 p.1.2.2.2.2.2.2.2.2.2.1 p.1.2.2.2.2.2.2.2.2.2.2.1 p.1.2.2.2.2.2.2.2.2.2.2.2.1 p.1.2.2.2.2.2.2.2.2.2.2.2.2.1 p.1.2.2.2.2.2.2.2.2.2.2.2.2.2.1 p.1.2.2.2.2.2.2.2.2.2.2.2.2.2.2.1 p.2.1.1 p.2.1.2.1 p.2.1.2.2.1 p.2.1.2.2.2.1 p.2.1.2.2.2.2.1 p.2.2.1.1 p.2.2.1.2.1 p.2.2.1.2.2.1 p.2.2.1.2.2.2.1 p.2.2.1.2.2.2.2.1 p.2.2.1.2.2.2.2.2.1 p.2.2.1.2.2.2.2.2.2.1).bind fun e => k (.inl (((), (), e.1, e.2.1, e.2.2.1, e.2.2.2.1, e.2.2.2.2.1, e.2.2.2.2.2.1, e.2.2.2.2.2.2.1, e.2.2.2.2.2.2.2.1, ()), ((e.2.2.2.2.2.2.2.2.1, e.2.2.2.2.2.2.2.2.2.1, e.2.2.2.2.2.2.2.2.2.2.1, e.2.2.2.2.2.2.2.2.2.2.2.1, e.2.2.2.2.2.2.2.2.2.2.2.2.1, ()), (e.2.2.2.2.2.2.2.2.2.2.2.2.2.1, e.2.2.2.2.2.2.2.2.2.2.2.2.2.2.1, e.2.2.2.2.2.2.2.2.2.2.2.2.2.2.2.1, e.2.2.2.2.2.2.2.2.2.2.2.2.2.2.2.2.1, e.2.2.2.2.2.2.2.2.2.2.2.2.2.2.2.2.2.1, e.2.2.2.2.2.2.2.2.2.2.2.2.2.2.2.2.2.2.1, e.2.2.2.2.2.2.2.2.2.2.2.2.2.2.2.2.2.2.2, ()), ()))) }
theorem opened_l3_eq (N n_ : Nat) (i : Int) (a : List Int) (k : Int) (b : List Int) (u : List Qa) (u2 : Int) (u3 : Int) (u4 : List Qa) (u5 : Int) (u6 : Int) (u7 : List Int) (u8 : Int) (u9 : Int) (d : List Int) (d2 : Int) (d3 : List Qa) (d4 : List Qa) (d5 : List Int) (out : List Int) (out2 : Int) (out3 : List Qa) (out4 : List Qa) (out5 : List Int) (out6 : List Int) (out7 : List Int) : ev (Z := Int × List Int × List Qa × Int × Int × List Qa × Int × Int × List Int × Int × List Qa × List Qa × List Int × List Int × Int × List Qa × List Qa × List Int × List Int × List Int) Try.prog (opened_sp N) opened_B [] [opened_l3_h (opened_l3 N n_), opened_l3_e0, opened_j1_k N (opened_l3 N n_)] none 400 true opened_l3_at (stL opened_l3_st (((), (), i, a, k, b, u, u2, u3, u4, u5, u6, u7, u8, u9, ()), ((d, d2, d3, d4, d5, ()), (out, out2, out3, out4, out5, out6, out7, ()), ()))) (stH opened_l3_st (((), (), i, a, k, b, u, u2, u3, u4, u5, u6, u7, u8, u9, ()), ((d, d2, d3, d4, d5, ()), (out, out2, out3, out4, out5, out6, out7, ()), ()))) = opened_l3 N (n_ + 1) i a k b u u2 u3 u4 u5 u6 u7 u8 u9 d d2 d3 d4 d5 out out2 out3 out4 out5 out6 out7 := by kernel_rfl
theorem opened_l3_ok (N : Nat) {top : Bool} : LoopOK Try.prog opened_B.c opened_B.n opened_B.m0 top (opened_l3_L N) := loop_of_ev (Z := Int × List Int × List Qa × Int × Int × List Qa × Int × Int × List Int × Int × List Qa × List Qa × List Int × List Int × Int × List Qa × List Qa × List Int × List Int × List Int) (N := N) (fun m p => opened_l3 N m p.1.2.2.1 p.1.2.2.2.1 p.1.2.2.2.2.1 p.1.2.2.2.2.2.1 p.1.2.2.2.2.2.2.1 p.1.2.2.2.2.2.2.2.1 p.1.2.2.2.2.2.2.2.2.1 p.1.2.2.2.2.2.2.2.2.2.1 p.1.2.2.2.2.2.2.2.2.2.2.1 p.1.2.2.2.2.2.2.2.2.2.2.2.1 p.1.2.2.2.2.2.2.2.2.2.2.2.2.1 p.1.2.2.2.2.2.2.2.2.2.2.2.2.2.1 p.1.2.2.2.2.2.2.2.2.2.2.2.2.2.2.1 p.2.1.1 p.2.1.2.1 p.2.1.2.2.1 p.2.1.2.2.2.1 p.2.1.2.2.2.2.1 p.2.2.1.1 p.2.2.1.2.1 p.2.2.1.2.2.1 p.2.2.1.2.2.2.1 p.2.2.1.2.2.2.2.1 p.2.2.1.2.2.2.2.2.1 p.2.2.1.2.2.2.2.2.2.1) (fun e => .inl (((), (), e.1, e.2.1, e.2.2.1, e.2.2.2.1, e.2.2.2.2.1, e.2.2.2.2.2.1, e.2.2.2.2.2.2.1, e.2.2.2.2.2.2.2.1, ()), ((e.2.2.2.2.2.2.2.2.1, e.2.2.2.2.2.2.2.2.2.1, e.2.2.2.2.2.2.2.2.2.2.1, e.2.2.2.2.2.2.2.2.2.2.2.1, e.2.2.2.2.2.2.2.2.2.2.2.2.1, ()), (e.2.2.2.2.2.2.2.2.2.2.2.2.2.1, e.2.2.2.2.2.2.2.2.2.2.2.2.2.2.1, e.2.2.2.2.2.2.2.2.2.2.2.2.2.2.2.1, e.2.2.2.2.2.2.2.2.2.2.2.2.2.2.2.2.1, e.2.2.2.2.2.2.2.2.2.2.2.2.2.2.2.2.2.1, e.2.2.2.2.2.2.2.2.2.2.2.2.2.2.2.2.2.2.1, e.2.2.2.2.2.2.2.2.2.2.2.2.2.2.2.2.2.2.2, ()), ()))) (fun _ _ _ => rfl) (fun _ => rfl) (fun m z E Xc hE hX hrec hx => leaf_of_ev (B := opened_B) (loops := []) (leaves := [opened_l3_h (opened_l3 N m), opened_l3_e0, opened_j1_k N (opened_l3 N m)]) (opened_all N) mixed trivial hE hX ⟨hrec, (fun p hp => by obtain rfl := Option.some.inj hp; exact hx), opened_j1_lf N _ hE hX hrec (fun p hp => by obtain rfl := Option.some.inj hp; exact hx), trivial⟩ RetOK.no (fun p => opened_l3_eq N m p.1.2.2.1 p.1.2.2.2.1 p.1.2.2.2.2.1 p.1.2.2.2.2.2.1 p.1.2.2.2.2.2.2.1 p.1.2.2.2.2.2.2.2.1 p.1.2.2.2.2.2.2.2.2.1 p.1.2.2.2.2.2.2.2.2.2.1 p.1.2.2.2.2.2.2.2.2.2.2.1 p.1.2.2.2.2.2.2.2.2.2.2.2.1 p.1.2.2.2.2.2.2.2.2.2.2.2.2.1 p.1.2.2.2.2.2.2.2.2.2.2.2.2.2.1 p.1.2.2.2.2.2.2.2.2.2.2.2.2.2.2.1 p.2.1.1 p.2.1.2.1 p.2.1.2.2.1 p.2.1.2.2.2.1 p.2.1.2.2.2.2.1 p.2.2.1.1 p.2.2.1.2.1 p.2.2.1.2.2.1 p.2.2.1.2.2.2.1 p.2.2.1.2.2.2.2.1 p.2.2.1.2.2.2.2.2.1 p.2.2.1.2.2.2.2.2.2.1))
abbrev opened_l2_at : List PI := [.c [1, 1, 1, 0, 1, 0, 0, 1, 1, 0, 0, 1, 1, 0, 0, 0], .c [1, 1, 1, 0, 1, 0, 0, 1, 1, 0, 0, 1, 1, 0, 0, 1], .l [1, 1, 1, 0, 1, 0, 0, 1, 1, 0, 0, 1, 1, 0, 0], .b 2, .b 1, .c [1, 1, 1, 0, 1, 0, 0, 1, 1, 1], .l [1, 1, 1, 0, 1, 0, 0], .b 0, .c [1, 1, 1, 1]]
abbrev opened_l2_st : Sta := ⟨[1, 5, 6, 7, 21, 22, 23, 29, 30, 31], ⟨[.own 0 0, .own 1 0, .i .i64, .sl (.int .i64), .sl Qb, .i .i64, .i .i64, .sl Qb, .i .i64, .i .i64], [.segs [.sl (.int .i64), .i .i64, .sl Qb, .sl Qb, .sl (.int .i64)], .segs [.sl (.int .i64), .i .i64, .sl Qb, .sl Qb, .sl (.int .i64), .arr (.int .i64) 36, .arr (.int .i64) 36]]⟩⟩
abbrev opened_l2_h (rec : Int → Qa → Qk → Int → Int → Qk → Int → Int → Qa → Int → Qk → Qk → Qa → Qa → Int → Qk → Qk → Qa → Qa → Qa → Option Qp) : Leaf Qp := ⟨opened_l2_at, opened_l2_st, fun p => rec p.1.2.2.1 p.1.2.2.2.1 p.1.2.2.2.2.1 p.1.2.2.2.2.2.1 p.1.2.2.2.2.2.2.1 p.1.2.2.2.2.2.2.2.1 p.1.2.2.2.2.2.2.2.2.1 p.1.2.2.2.2.2.2.2.2.2.1 p.2.1.1 p.2.1.2.1 p.2.1.2.2.1 p.2.1.2.2.2.1 p.2.1.2.2.2.2.1 p.2.2.1.1 p.2.2.1.2.1 p.2.2.1.2.2.1 p.2.2.1.2.2.2.1 p.2.2.1.2.2.2.2.1 p.2.2.1.2.2.2.2.2.1 p.2.2.1.2.2.2.2.2.2.1⟩
abbrev opened_l2_e0 : Leaf Qp := ⟨[.c [1, 1, 1, 0, 1, 0, 0, 1, 1, 1], .l [1, 1, 1, 0, 1, 0, 0], .b 0, .c [1, 1, 1, 1]], ⟨[1, 5, 21, 22, 23], ⟨[.own 0 0, .own 1 0, .sl Qb, .i .i64, .i .i64], [.segs [.sl (.int .i64), .i .i64, .sl Qb, .sl Qb, .sl (.int .i64)], .segs [.sl (.int .i64), .i .i64, .sl Qb, .sl Qb, .sl (.int .i64), .arr (.int .i64) 36, .arr (.int .i64) 36]]⟩⟩, fun p => some ((p.1.2.2.1, p.1.2.2.2.1, p.1.2.2.2.2.1, p.2.1.1, p.2.1.2.1, p.2.1.2.2.1, p.2.1.2.2.2.1, p.2.1.2.2.2.2.1, p.2.2.1.1, p.2.2.1.2.1, p.2.2.1.2.2.1, p.2.2.1.2.2.2.1, p.2.2.1.2.2.2.2.1, p.2.2.1.2.2.2.2.2.1, p.2.2.1.2.2.2.2.2.2.1))⟩
noncomputable def opened_l2_L (N : Nat) : LoopS := { at_ := opened_l2_at, sta := opened_l2_st, exits := [([.c [1, 1, 1, 0, 1, 0, 0, 1, 1, 1], .l [1, 1, 1, 0, 1, 0, 0], .b 0, .c [1, 1, 1, 1]], ⟨[1, 5, 21, 22, 23], ⟨[.own 0 0, .own 1 0, .sl Qb, .i .i64, .i .i64], [.segs [.sl (.int .i64), .i .i64, .sl Qb, .sl Qb, .sl (.int .i64)], .segs [.sl (.int .i64), .i .i64, .sl Qb, .sl Qb, .sl (.int .i64), .arr (.int .i64) 36, .arr (.int .i64) 36]]⟩⟩)], run := fun p k => (opened_l2 N N p.1.2.2.1 p.1.2.2.2.1 p.1.2.2.2.2.1 p.1.2.2.2.2.2.1 p.1.2.2.2.2.2.2.1 p.1.2.2.2.2.2.2.2.1 p.1.2.2.2.2.2.2.2.2.1 p.1.2.2.2.2.2.2.2.2.2.1 p.2.1.1 p.2.1.2.1 p.2.1.2.2.1 p.2.1.2.2.2.1 p.2.1.2.2.2.2.1 p.2.2.1.1 p.2.2.1.2.1 p.2.2.1.2.2.1 p.2.2.1.2.2.2.1 p.2.2.1.2.2.2.2.1 p.2.2.1.2.2.2.2.2.1 p.2.2.1.2.2.2.2.2.2.1).bind fun e => k (.inl (((), (), e.1, e.2.1, e.2.2.1, ()), ((e.2.2.2.1, e.2.2.2.2.1, e.2.2.2.2.2.1, e.2.2.2.2.2.2.1, e.2.2.2.2.2.2.2.1, ()), (e.2.2.2.2.2.2.2.2.1, e.2.2.2.2.2.2.2.2.2.1, e.2.2.2.2.2.2.2.2.2.2.1, e.2.2.2.2.2.2.2.2.2.2.2.1, e.2.2.2.2.2.2.2.2.2.2.2.2.1, e.2.2.2.2.2.2.2.2.2.2.2.2.2.1, e.2.2.2.2.2.2.2.2.2.2.2.2.2.2, ()), ()))) }
theorem opened_l2_eq (N n_ : Nat) (i : Int) (a : List Int) (u : List Qa) (u2 : Int) (u3 : Int) (u4 : List Qa) (u5 : Int) (u6 : Int) (d : List Int) (d2 : Int) (d3 : List Qa) (d4 : List Qa) (d5 : List Int) (out : List Int) (out2 : Int) (out3 : List Qa) (out4 : List Qa) (out5 : List Int) (out6 : List Int) (out7 : List Int) : ev (Z := List Qa × Int × Int × List Int × Int × List Qa × List Qa × List Int × List Int × Int × List Qa × List Qa × List Int × List Int × List Int) Try.prog (opened_sp N) opened_B [opened_l3_L N] [opened_l2_h (opened_l2 N n_), opened_l2_e0] none 400 true opened_l2_at (stL opened_l2_st (((), (), i, a, u, u2, u3, u4, u5, u6, ()), ((d, d2, d3, d4, d5, ()), (out, out2, out3, out4, out5, out6, out7, ()), ()))) (stH opened_l2_st (((), (), i, a, u, u2, u3, u4, u5, u6, ()), ((d, d2, d3, d4, d5, ()), (out, out2, out3, out4, out5, out6, out7, ()), ()))) = opened_l2 N (n_ + 1) i a u u2 u3 u4 u5 u6 d d2 d3 d4 d5 out out2 out3 out4 out5 out6 out7 := by kernel_rfl
theorem opened_l2_ok (N : Nat) {top : Bool} : LoopOK Try.prog opened_B.c opened_B.n opened_B.m0 top (opened_l2_L N) := loop_of_ev (Z := List Qa × Int × Int × List Int × Int × List Qa × List Qa × List Int × List Int × Int × List Qa × List Qa × List Int × List Int × List Int) (N := N) (fun m p => opened_l2 N m p.1.2.2.1 p.1.2.2.2.1 p.1.2.2.2.2.1 p.1.2.2.2.2.2.1 p.1.2.2.2.2.2.2.1 p.1.2.2.2.2.2.2.2.1 p.1.2.2.2.2.2.2.2.2.1 p.1.2.2.2.2.2.2.2.2.2.1 p.2.1.1 p.2.1.2.1 p.2.1.2.2.1 p.2.1.2.2.2.1 p.2.1.2.2.2.2.1 p.2.2.1.1 p.2.2.1.2.1 p.2.2.1.2.2.1 p.2.2.1.2.2.2.1 p.2.2.1.2.2.2.2.1 p.2.2.1.2.2.2.2.2.1 p.2.2.1.2.2.2.2.2.2.1) (fun e => .inl (((), (), e.1, e.2.1, e.2.2.1, ()), ((e.2.2.2.1, e.2.2.2.2.1, e.2.2.2.2.2.1, e.2.2.2.2.2.2.1, e.2.2.2.2.2.2.2.1, ()), (e.2.2.2.2.2.2.2.2.1, e.2.2.2.2.2.2.2.2.2.1, e.2.2.2.2.2.2.2.2.2.2.1, e.2.2.2.2.2.2.2.2.2.2.2.1, e.2.2.2.2.2.2.2.2.2.2.2.2.1, e.2.2.2.2.2.2.2.2.2.2.2.2.2.1, e.2.2.2.2.2.2.2.2.2.2.2.2.2.2, ()), ()))) (fun _ _ _ => rfl) (fun _ => rfl) (fun m z E Xc hE hX hrec hx => leaf_of_ev (B := opened_B) (loops := [opened_l3_L N]) (leaves := [opened_l2_h (opened_l2 N m), opened_l2_e0]) (opened_all N) mixed ⟨opened_l3_ok N, trivial⟩ hE hX ⟨hrec, (fun p hp => by obtain rfl := Option.some.inj hp; exact hx), trivial⟩ RetOK.no (fun p => opened_l2_eq N m p.1.2.2.1 p.1.2.2.2.1 p.1.2.2.2.2.1 p.1.2.2.2.2.2.1 p.1.2.2.2.2.2.2.1 p.1.2.2.2.2.2.2.2.1 p.1.2.2.2.2.2.2.2.2.1 p.1.2.2.2.2.2.2.2.2.2.1 p.2.1.1 p.2.1.2.1 p.2.1.2.2.1 p.2.1.2.2.2.1 p.2.1.2.2.2.2.1 p.2.2.1.1 p.2.2.1.2.1 p.2.2.1.2.2.1 p.2.2.1.2.2.2.1 p.2.2.1.2.2.2.2.1 p.2.2.1.2.2.2.2.2.1 p.2.2.1.2.2.2.2.2.2.1))
abbrev opened_l1_at : List PI := [.c [1, 1, 1, 0, 1, 0, 0, 0], .c [1, 1, 1, 0, 1, 0, 0, 1], .l [1, 1, 1, 0, 1, 0, 0], .b 0, .c [1, 1, 1, 1]]
abbrev opened_l1_st : Sta := ⟨[1, 5, 21, 22, 23], ⟨[.own 0 0, .own 1 0, .sl Qb, .i .i64, .i .i64], [.segs [.sl (.int .i64), .i .i64, .sl Qb, .sl Qb, .sl (.int .i64)], .segs [.sl (.int .i64), .i .i64, .sl Qb, .sl Qb, .sl (.int .i64), .arr (.int .i64) 36, .arr (.int .i64) 36]]⟩⟩
abbrev opened_l1_h (rec : Qk → Int → Int → Qa → Int → Qk → Qk → Qa → Qa → Int → Qk → Qk → Qa → Qa → Qa → Option (List Int × Int × List Qa × List Qa × List Int × List Int × List Int)) : Leaf (List Int × Int × List Qa × List Qa × List Int × List Int × List Int) := ⟨opened_l1_at, opened_l1_st, fun p => rec p.1.2.2.1 p.1.2.2.2.1 p.1.2.2.2.2.1 p.2.1.1 p.2.1.2.1 p.2.1.2.2.1 p.2.1.2.2.2.1 p.2.1.2.2.2.2.1 p.2.2.1.1 p.2.2.1.2.1 p.2.2.1.2.2.1 p.2.2.1.2.2.2.1 p.2.2.1.2.2.2.2.1 p.2.2.1.2.2.2.2.2.1 p.2.2.1.2.2.2.2.2.2.1⟩
abbrev opened_l1_e0 : Leaf (List Int × Int × List Qa × List Qa × List Int × List Int × List Int) := ⟨[.c [1, 1, 1, 1, 0], .c [1, 1, 1, 1, 1]], ⟨[5], ⟨[.own 0 0], [.segs [.sl (.int .i64), .i .i64, .sl Qb, .sl Qb, .sl (.int .i64), .arr (.int .i64) 36, .arr (.int .i64) 36]]⟩⟩, fun p => some ((p.2.1.1, p.2.1.2.1, p.2.1.2.2.1, p.2.1.2.2.2.1, p.2.1.2.2.2.2.1, p.2.1.2.2.2.2.2.1, p.2.1.2.2.2.2.2.2.1))⟩
noncomputable def opened_l1_L (N : Nat) : LoopS := { at_ := opened_l1_at, sta := opened_l1_st, exits := [([.c [1, 1, 1, 1, 0], .c [1, 1, 1, 1, 1]], ⟨[5], ⟨[.own 0 0], [.segs [.sl (.int .i64), .i .i64, .sl Qb, .sl Qb, .sl (.int .i64), .arr (.int .i64) 36, .arr (.int .i64) 36]]⟩⟩)], run := fun p k => (opened_l1 N N p.1.2.2.1 p.1.2.2.2.1 p.1.2.2.2.2.1 p.2.1.1 p.2.1.2.1 p.2.1.2.2.1 p.2.1.2.2.2.1 p.2.1.2.2.2.2.1 p.2.2.1.1 p.2.2.1.2.1 p.2.2.1.2.2.1 p.2.2.1.2.2.2.1 p.2.2.1.2.2.2.2.1 p.2.2.1.2.2.2.2.2.1 p.2.2.1.2.2.2.2.2.2.1).bind fun e => k (.inl (((), ()), ((e.1, e.2.1, e.2.2.1, e.2.2.2.1, e.2.2.2.2.1, e.2.2.2.2.2.1, e.2.2.2.2.2.2, ()), ()))) }
theorem opened_l1_eq (N n_ : Nat) (u : List Qa) (u2 : Int) (u3 : Int) (d : List Int) (d2 : Int) (d3 : List Qa) (d4 : List Qa) (d5 : List Int) (out : List Int) (out2 : Int) (out3 : List Qa) (out4 : List Qa) (out5 : List Int) (out6 : List Int) (out7 : List Int) : ev (Z := List Int × Int × List Qa × List Qa × List Int × List Int × List Int) Try.prog (opened_sp N) opened_B [opened_l3_L N, opened_l2_L N] [opened_l1_h (opened_l1 N n_), opened_l1_e0] none 400 true opened_l1_at (stL opened_l1_st (((), (), u, u2, u3, ()), ((d, d2, d3, d4, d5, ()), (out, out2, out3, out4, out5, out6, out7, ()), ()))) (stH opened_l1_st (((), (), u, u2, u3, ()), ((d, d2, d3, d4, d5, ()), (out, out2, out3, out4, out5, out6, out7, ()), ()))) = opened_l1 N (n_ + 1) u u2 u3 d d2 d3 d4 d5 out out2 out3 out4 out5 out6 out7 := by kernel_rfl
theorem opened_l1_ok (N : Nat) {top : Bool} : LoopOK Try.prog opened_B.c opened_B.n opened_B.m0 top (opened_l1_L N) := loop_of_ev (Z := List Int × Int × List Qa × List Qa × List Int × List Int × List Int) (N := N) (fun m p => opened_l1 N m p.1.2.2.1 p.1.2.2.2.1 p.1.2.2.2.2.1 p.2.1.1 p.2.1.2.1 p.2.1.2.2.1 p.2.1.2.2.2.1 p.2.1.2.2.2.2.1 p.2.2.1.1 p.2.2.1.2.1 p.2.2.1.2.2.1 p.2.2.1.2.2.2.1 p.2.2.1.2.2.2.2.1 p.2.2.1.2.2.2.2.2.1 p.2.2.1.2.2.2.2.2.2.1) (fun e => .inl (((), ()), ((e.1, e.2.1, e.2.2.1, e.2.2.2.1, e.2.2.2.2.1, e.2.2.2.2.2.1, e.2.2.2.2.2.2, ()), ()))) (fun _ _ _ => rfl) (fun _ => rfl) (fun m z E Xc hE hX hrec hx => leaf_of_ev (B := opened_B) (loops := [opened_l3_L N, opened_l2_L N]) (leaves := [opened_l1_h (opened_l1 N m), opened_l1_e0]) (opened_all N) mixed ⟨opened_l3_ok N, opened_l2_ok N, trivial⟩ hE hX ⟨hrec, (fun p hp => by obtain rfl := Option.some.inj hp; exact hx), trivial⟩ RetOK.no (fun p => opened_l1_eq N m p.1.2.2.1 p.1.2.2.2.1 p.1.2.2.2.2.1 p.2.1.1 p.2.1.2.1 p.2.1.2.2.1 p.2.1.2.2.2.1 p.2.1.2.2.2.2.1 p.2.2.1.1 p.2.2.1.2.1 p.2.2.1.2.2.1 p.2.2.1.2.2.2.1 p.2.2.1.2.2.2.2.1 p.2.2.1.2.2.2.2.2.1 p.2.2.1.2.2.2.2.2.2.1))
abbrev opened_st : Sta := ⟨[0], ⟨[.agg [.sl (.int .i64), .i .i64, .sl Qb, .sl Qb, .sl (.int .i64)]], []⟩⟩
theorem opened_eq (N : Nat) (d : List Int) (d2 : Int) (d3 : List Qa) (d4 : List Qa) (d5 : List Int) : ev (Z := (Qm × Int) ⊕ (Int)) Try.prog (opened_sp N) opened_B [opened_l3_L N, opened_l2_L N, opened_l1_L N] [] (some opened_rt) 400 false [.c [0], .c [1]] (stL opened_st (((d, d2, d3, d4, d5, ()), ()), ())) (stH opened_st (((d, d2, d3, d4, d5, ()), ()), ())) = opened_S N d d2 d3 d4 d5 := by kernel_rfl
noncomputable def sp_opened (N : Nat) : Spec := { f := 33, ins := ⟨[.agg [.sl (.int .i64), .i .i64, .sl Qb, .sl Qb, .sl (.int .i64)]], []⟩, outs := [⟨[.fz [.sl (.int .i64), .i .i64, .sl Qb, .sl Qb, .sl (.int .i64), .arr (.int .i64) 36, .arr (.int .i64) 36], .i .i64], []⟩, ⟨[.nilp, .i .i64], []⟩], run := fun p k => (opened_S N p.1.1.1 p.1.1.2.1 p.1.1.2.2.1 p.1.1.2.2.2.1 p.1.1.2.2.2.2.1).bind fun r => match r with | .inl r => k (.inl ((r.1, r.2, ()), ())) | .inr r => k (.inr (((), r, ()), ())) }
theorem sp_opened_ok (N : Nat) : SpecOK Try.prog (sp_opened N) := fn_sound (B := opened_B) (loops := [opened_l3_L N, opened_l2_L N, opened_l1_L N]) (leaves := []) (fun p => opened_S N p.1.1.1 p.1.1.2.1 p.1.1.2.2.1 p.1.1.2.2.2.1 p.1.1.2.2.2.2.1) (fun r => match r with | .inl r => (.inl ((r.1, r.2, ()), ())) | .inr r => (.inr (((), r, ()), ()))) opened_rt (fun _ p k => bind_congr_ (opened_S N p.1.1.1 p.1.1.2.1 p.1.1.2.2.1 p.1.1.2.2.2.1 p.1.1.2.2.2.2.1) _ _ (fun e => by rcases e with x | x <;> rfl)) (fun r z h => by rcases r with x | x <;> (cases h; rfl)) Try.func33 (by kernel_rfl) (by kernel_rfl) (by kernel_rfl) rfl rfl (by kernel_rfl) (fun args w => Sem.pv_run _ _ _ (by kernel_rfl) w) (opened_all N) mixed ⟨opened_l3_ok N, opened_l2_ok N, opened_l1_ok N, trivial⟩ (fun z E Xc hE hX hret => trivial) (fun p => opened_eq N p.1.1.1 p.1.1.2.1 p.1.1.2.2.1 p.1.1.2.2.2.1 p.1.1.2.2.2.2.1)

def dlost_S (N : Nat) (d : List Int × Int × List Qa × List Qa × List Int × List Int × List Int × Unit) (n : Int) : Option Bool :=
  chk ((d.2.2.1.length : Int) - 1) <|
  (in__S N n 0 ((d.2.2.1.length : Int) - 1)).bind fun x_1 =>
  some x_1
noncomputable def dlost_sp (N : Nat) : List Spec := [sp_in_ N]
theorem dlost_all (N : Nat) : AllP (SpecOK Try.prog) (dlost_sp N) := ⟨sp_in__ok N, trivial⟩
noncomputable def dlost_c : Code := (Try.f34.body).getD .skip
noncomputable abbrev dlost_B : Body := { c := dlost_c, n := 14, res := [.tmp 4], outs := [⟨[.b], []⟩], m0 := 0 }
abbrev dlost_rt : altD dlost_B.outs → Option Bool := fun r => some r.1.1
abbrev dlost_st : Sta := ⟨[0, 1], ⟨[.fz [.sl (.int .i64), .i .i64, .sl Qb, .sl Qb, .sl (.int .i64), .arr (.int .i64) 36, .arr (.int .i64) 36], .i .i64], []⟩⟩
theorem dlost_eq (N : Nat) (d : List Int × Int × List Qa × List Qa × List Int × List Int × List Int × Unit) (n : Int) : ev (Z := Bool) Try.prog (dlost_sp N) dlost_B [] [] (some dlost_rt) 400 false [.c [0], .c [1]] (stL dlost_st ((d, n, ()), ())) (stH dlost_st ((d, n, ()), ())) = dlost_S N d n := by kernel_rfl
noncomputable def sp_dlost (N : Nat) : Spec := { f := 34, ins := ⟨[.fz [.sl (.int .i64), .i .i64, .sl Qb, .sl Qb, .sl (.int .i64), .arr (.int .i64) 36, .arr (.int .i64) 36], .i .i64], []⟩, outs := [⟨[.b], []⟩], run := fun p k => (dlost_S N p.1.1 p.1.2.1).bind fun r => k ((r, ()), ()) }
theorem sp_dlost_ok (N : Nat) : SpecOK Try.prog (sp_dlost N) := fn_sound (B := dlost_B) (loops := []) (leaves := []) (fun p => dlost_S N p.1.1 p.1.2.1) (fun r => ((r, ()), ())) dlost_rt (fun _ _ _ => rfl) (fun r z h => by cases h; rfl) Try.func34 (by kernel_rfl) (by kernel_rfl) (by kernel_rfl) rfl rfl (by kernel_rfl) (fun args w => Sem.pv_run _ _ _ (by kernel_rfl) w) (dlost_all N) mixed trivial (fun z E Xc hE hX hret => trivial) (fun p => dlost_eq N p.1.1 p.1.2.1)

def dfound_S (N : Nat) (d : List Int × Int × List Qa × List Qa × List Int × List Int × List Int × Unit) (n : Int) : Option Bool :=
  chk ((d.2.2.2.1.length : Int) - 1) <|
  (in__S N n 0 ((d.2.2.2.1.length : Int) - 1)).bind fun x_1 =>
  some x_1
noncomputable def dfound_sp (N : Nat) : List Spec := [sp_in_ N]
theorem dfound_all (N : Nat) : AllP (SpecOK Try.prog) (dfound_sp N) := ⟨sp_in__ok N, trivial⟩
noncomputable def dfound_c : Code := (Try.f37.body).getD .skip
noncomputable abbrev dfound_B : Body := { c := dfound_c, n := 14, res := [.tmp 4], outs := [⟨[.b], []⟩], m0 := 0 }
abbrev dfound_rt : altD dfound_B.outs → Option Bool := fun r => some r.1.1
abbrev dfound_st : Sta := ⟨[0, 1], ⟨[.fz [.sl (.int .i64), .i .i64, .sl Qb, .sl Qb, .sl (.int .i64), .arr (.int .i64) 36, .arr (.int .i64) 36], .i .i64], []⟩⟩
theorem dfound_eq (N : Nat) (d : List Int × Int × List Qa × List Qa × List Int × List Int × List Int × Unit) (n : Int) : ev (Z := Bool) Try.prog (dfound_sp N) dfound_B [] [] (some dfound_rt) 400 false [.c [0], .c [1]] (stL dfound_st ((d, n, ()), ())) (stH dfound_st ((d, n, ()), ())) = dfound_S N d n := by kernel_rfl
noncomputable def sp_dfound (N : Nat) : Spec := { f := 37, ins := ⟨[.fz [.sl (.int .i64), .i .i64, .sl Qb, .sl Qb, .sl (.int .i64), .arr (.int .i64) 36, .arr (.int .i64) 36], .i .i64], []⟩, outs := [⟨[.b], []⟩], run := fun p k => (dfound_S N p.1.1 p.1.2.1).bind fun r => k ((r, ()), ()) }
theorem sp_dfound_ok (N : Nat) : SpecOK Try.prog (sp_dfound N) := fn_sound (B := dfound_B) (loops := []) (leaves := []) (fun p => dfound_S N p.1.1 p.1.2.1) (fun r => ((r, ()), ())) dfound_rt (fun _ _ _ => rfl) (fun r z h => by cases h; rfl) Try.func37 (by kernel_rfl) (by kernel_rfl) (by kernel_rfl) rfl rfl (by kernel_rfl) (fun args w => Sem.pv_run _ _ _ (by kernel_rfl) w) (dfound_all N) mixed trivial (fun z E Xc hE hX hret => trivial) (fun p => dfound_eq N p.1.1 p.1.2.1)

def can_S (N : Nat) (d : List Int × Int × List Qa × List Qa × List Int × List Int × List Int × Unit) (lost : Int) (found : Int) : Option Bool :=
  rng lost 6 <|
  rng found 6 <|
  get d.2.2.2.2.2.1 ((lost.toNat * 6) + found.toNat) fun x_1 =>
  br (decide (0 < x_1))
    (rng lost 6 <|
    rng found 6 <|
    get d.2.2.2.2.2.2.1 ((lost.toNat * 6) + found.toNat) fun x_2 =>
    some (decide (x_2 ≤ d.2.1)))
    (some false)
noncomputable def can_sp (N : Nat) : List Spec := []
theorem can_all (N : Nat) : AllP (SpecOK Try.prog) (can_sp N) := trivial
noncomputable def can_c : Code := (Try.f38.body).getD .skip
noncomputable abbrev can_B : Body := { c := can_c, n := 32, res := [.tmp 6], outs := [⟨[.b], []⟩], m0 := 0 }
abbrev can_rt : altD can_B.outs → Option Bool := fun r => some r.1.1
abbrev can_st : Sta := ⟨[0, 1, 2], ⟨[.fz [.sl (.int .i64), .i .i64, .sl Qb, .sl Qb, .sl (.int .i64), .arr (.int .i64) 36, .arr (.int .i64) 36], .i .i64, .i .i64], []⟩⟩
theorem can_eq (N : Nat) (d : List Int × Int × List Qa × List Qa × List Int × List Int × List Int × Unit) (lost : Int) (found : Int) : ev (Z := Bool) Try.prog (can_sp N) can_B [] [] (some can_rt) 400 false [.c [0], .c [1]] (stL can_st ((d, lost, found, ()), ())) (stH can_st ((d, lost, found, ()), ())) = can_S N d lost found := by kernel_rfl
noncomputable def sp_can (N : Nat) : Spec := { f := 38, ins := ⟨[.fz [.sl (.int .i64), .i .i64, .sl Qb, .sl Qb, .sl (.int .i64), .arr (.int .i64) 36, .arr (.int .i64) 36], .i .i64, .i .i64], []⟩, outs := [⟨[.b], []⟩], run := fun p k => (can_S N p.1.1 p.1.2.1 p.1.2.2.1).bind fun r => k ((r, ()), ()) }
theorem sp_can_ok (N : Nat) : SpecOK Try.prog (sp_can N) := fn_sound (B := can_B) (loops := []) (leaves := []) (fun p => can_S N p.1.1 p.1.2.1 p.1.2.2.1) (fun r => ((r, ()), ())) can_rt (fun _ _ _ => rfl) (fun r z h => by cases h; rfl) Try.func38 (by kernel_rfl) (by kernel_rfl) (by kernel_rfl) rfl rfl (by kernel_rfl) (fun args w => Sem.pv_run _ _ _ (by kernel_rfl) w) (can_all N) mixed trivial (fun z E Xc hE hX hret => trivial) (fun p => can_eq N p.1.1 p.1.2.1 p.1.2.2.1)

def agree__S (N : Nat) (d : List Int) (d2 : Int) (d3 : List Qa) (d4 : List Qa) (d5 : List Int) (lost : Int) (found : Int) : Option (Int × Int × Bool × Int) :=
  ((opened_S N d d2 d3 d4 d5).bind fun e => match e with
  | .inl (x_1, y_2) =>
    (br (!decide (y_2 = 0))
      (some (0, 0, false, y_2))
      ((dlost_S N x_1 lost).bind fun x_3 =>
      br (!x_3)
        (some (0, 0, false, 1))
        ((dfound_S N x_1 found).bind fun x_4 =>
        br (!x_4)
          (some (0, 0, false, 1))
          (rng lost 6 <|
          rng found 6 <|
          get x_1.2.2.2.2.2.1 ((lost.toNat * 6) + found.toNat) fun x_5 =>
          rng lost 6 <|
          rng found 6 <|
          get x_1.2.2.2.2.2.2.1 ((lost.toNat * 6) + found.toNat) fun x_6 =>
          (can_S N x_1 lost found).bind fun x_7 =>
          some (x_5, x_6, x_7, 0)))))
  | .inr x_8 =>
    (br (!decide (x_8 = 0))
      (some (0, 0, false, x_8))
      (none)))
noncomputable def agree__sp (N : Nat) : List Spec := [sp_opened N, sp_dlost N, sp_dfound N, sp_can N]
theorem agree__all (N : Nat) : AllP (SpecOK Try.prog) (agree__sp N) := ⟨sp_opened_ok N, sp_dlost_ok N, sp_dfound_ok N, sp_can_ok N, trivial⟩
noncomputable def agree__c : Code := (Try.f11.body).getD .skip
noncomputable abbrev agree__B : Body := { c := agree__c, n := 51, res := [.tmp 6, .tmp 7, .tmp 8, .tmp 9], outs := [⟨[.i .i64, .i .i64, .b, .i .i64], []⟩], m0 := 0 }
abbrev agree__rt : altD agree__B.outs → Option (Int × Int × Bool × Int) := fun r => some (r.1.1, r.1.2.1, r.1.2.2.1, r.1.2.2.2.1)
abbrev agree__st : Sta := ⟨[0, 1, 2], ⟨[.agg [.sl (.int .i64), .i .i64, .sl Qb, .sl Qb, .sl (.int .i64)], .i .i64, .i .i64], []⟩⟩
theorem agree__eq (N : Nat) (d : List Int) (d2 : Int) (d3 : List Qa) (d4 : List Qa) (d5 : List Int) (lost : Int) (found : Int) : ev (Z := Int × Int × Bool × Int) Try.prog (agree__sp N) agree__B [] [] (some agree__rt) 400 false [.c [0], .c [1]] (stL agree__st (((d, d2, d3, d4, d5, ()), lost, found, ()), ())) (stH agree__st (((d, d2, d3, d4, d5, ()), lost, found, ()), ())) = agree__S N d d2 d3 d4 d5 lost found := by kernel_rfl
noncomputable def sp_agree_ (N : Nat) : Spec := { f := 11, ins := ⟨[.agg [.sl (.int .i64), .i .i64, .sl Qb, .sl Qb, .sl (.int .i64)], .i .i64, .i .i64], []⟩, outs := [⟨[.i .i64, .i .i64, .b, .i .i64], []⟩], run := fun p k => (agree__S N p.1.1.1 p.1.1.2.1 p.1.1.2.2.1 p.1.1.2.2.2.1 p.1.1.2.2.2.2.1 p.1.2.1 p.1.2.2.1).bind fun r => k ((r.1, r.2.1, r.2.2.1, r.2.2.2, ()), ()) }
theorem sp_agree__ok (N : Nat) : SpecOK Try.prog (sp_agree_ N) := fn_sound (B := agree__B) (loops := []) (leaves := []) (fun p => agree__S N p.1.1.1 p.1.1.2.1 p.1.1.2.2.1 p.1.1.2.2.2.1 p.1.1.2.2.2.2.1 p.1.2.1 p.1.2.2.1) (fun r => ((r.1, r.2.1, r.2.2.1, r.2.2.2, ()), ())) agree__rt (fun _ _ _ => rfl) (fun r z h => by cases h; rfl) Try.func11 (by kernel_rfl) (by kernel_rfl) (by kernel_rfl) rfl rfl (by kernel_rfl) (fun args w => Sem.pv_run _ _ _ (by kernel_rfl) w) (agree__all N) mixed trivial (fun z E Xc hE hX hret => trivial) (fun p => agree__eq N p.1.1.1 p.1.1.2.1 p.1.1.2.2.1 p.1.1.2.2.2.1 p.1.1.2.2.2.2.1 p.1.2.1 p.1.2.2.1)

def copyi_S (N : Nat) (l : List Int) : Option Qa :=
  grd (lmI (l.length : Int)) <|
  some (l.take (min l.length (List.replicate (l.length : Int).toNat (0 : Int)).length) ++ (List.replicate (l.length : Int).toNat (0 : Int)).drop (min l.length (List.replicate (l.length : Int).toNat (0 : Int)).length))
noncomputable def copyi_sp (N : Nat) : List Spec := []
theorem copyi_all (N : Nat) : AllP (SpecOK Try.prog) (copyi_sp N) := trivial
noncomputable def copyi_c : Code := (Try.f28.body).getD .skip
noncomputable abbrev copyi_B : Body := { c := copyi_c, n := 11, res := [.tmp 2], outs := [⟨[.sl (.int .i64)], []⟩], m0 := 0 }
abbrev copyi_rt : altD copyi_B.outs → Option Qa := fun r => some r.1.1
abbrev copyi_st : Sta := ⟨[0], ⟨[.sl (.int .i64)], []⟩⟩
theorem copyi_eq (N : Nat) (l : List Int) : ev (Z := List Int) Try.prog (copyi_sp N) copyi_B [] [] (some copyi_rt) 400 false [.c [0], .c [1]] (stL copyi_st ((l, ()), ())) (stH copyi_st ((l, ()), ())) = copyi_S N l := by kernel_rfl
noncomputable def sp_copyi (N : Nat) : Spec := { f := 28, ins := ⟨[.sl (.int .i64)], []⟩, outs := [⟨[.sl (.int .i64)], []⟩], run := fun p k => (copyi_S N p.1.1).bind fun r => k ((r, ()), ()) }
theorem sp_copyi_ok (N : Nat) : SpecOK Try.prog (sp_copyi N) := fn_sound (B := copyi_B) (loops := []) (leaves := []) (fun p => copyi_S N p.1.1) (fun r => ((r, ()), ())) copyi_rt (fun _ _ _ => rfl) (fun r z h => by cases h; rfl) Try.func28 (by kernel_rfl) (by kernel_rfl) (by kernel_rfl) rfl rfl (by kernel_rfl) (fun args w => Sem.pv_run _ _ _ (by kernel_rfl) w) (copyi_all N) mixed trivial (fun z E Xc hE hX hret => trivial) (fun p => copyi_eq N p.1.1)

def copyro_l1 (N : Nat) : Nat → Qk → Int → Int → Qk → Option Qk
  | 0, _, _, _, _ => none
  | n_ + 1, u, u2, u3, out =>
    br (decide (u3 < u2))
      (idx u u3 fun x_1 =>
      (copyi_S N x_1).bind fun x_2 =>
      rng u3 out.length <|
      get out u3.toNat fun _ =>
      chk (u3 + 1) <|
      copyro_l1 N n_ u u2 (u3 + 1) (out.set u3.toNat x_2))
      (some (out))
def copyro_S (N : Nat) (l : List Qa) : Option Qk :=
  grd (lmI (l.length : Int)) <|
  (copyro_l1 N N l (l.length : Int) 0 (List.replicate (l.length : Int).toNat ([] : Qa))).bind fun out_4 =>
  some out_4
noncomputable def copyro_sp (N : Nat) : List Spec := [sp_copyi N]
theorem copyro_all (N : Nat) : AllP (SpecOK Try.prog) (copyro_sp N) := ⟨sp_copyi_ok N, trivial⟩
noncomputable def copyro_c : Code := (Try.f29.body).getD .skip
noncomputable abbrev copyro_B : Body := { c := copyro_c, n := 23, res := [.tmp 2], outs := [⟨[.ols 0], [.lst Qb]⟩], m0 := 0 }
abbrev copyro_rt : altD copyro_B.outs → Option Qk := fun r => some r.2.1
abbrev copyro_l1_at : List PI := [.c [1, 1, 0, 1, 0, 0, 0], .c [1, 1, 0, 1, 0, 0, 1], .l [1, 1, 0, 1, 0, 0], .b 0, .c [1, 1, 1]]
abbrev copyro_l1_st : Sta := ⟨[3, 9, 10, 11], ⟨[.ols 0, .sl Qb, .i .i64, .i .i64], [.lst Qb]⟩⟩
abbrev copyro_l1_h (rec : Qk → Int → Int → Qk → Option Qk) : Leaf Qk := ⟨copyro_l1_at, copyro_l1_st, fun p => rec p.1.2.1 p.1.2.2.1 p.1.2.2.2.1 p.2.1⟩
abbrev copyro_l1_e0 : Leaf Qk := ⟨[.c [1, 1, 1, 0], .c [1, 1, 1, 1]], ⟨[3], ⟨[.ols 0], [.lst Qb]⟩⟩, fun p => some (p.2.1)⟩
noncomputable def copyro_l1_L (N : Nat) : LoopS := { at_ := copyro_l1_at, sta := copyro_l1_st, exits := [([.c [1, 1, 1, 0], .c [1, 1, 1, 1]], ⟨[3], ⟨[.ols 0], [.lst Qb]⟩⟩)], run := fun p k => (copyro_l1 N N p.1.2.1 p.1.2.2.1 p.1.2.2.2.1 p.2.1).bind fun e => k (.inl (((), ()), (e, ()))) }
theorem copyro_l1_eq (N n_ : Nat) (u : List Qa) (u2 : Int) (u3 : Int) (out : List Qa) : ev (Z := List Qa) Try.prog (copyro_sp N) copyro_B [] [copyro_l1_h (copyro_l1 N n_), copyro_l1_e0] none 400 true copyro_l1_at (stL copyro_l1_st (((), u, u2, u3, ()), (out, ()))) (stH copyro_l1_st (((), u, u2, u3, ()), (out, ()))) = copyro_l1 N (n_ + 1) u u2 u3 out := by kernel_rfl
theorem copyro_l1_ok (N : Nat) {top : Bool} : LoopOK Try.prog copyro_B.c copyro_B.n copyro_B.m0 top (copyro_l1_L N) := loop_of_ev (Z := List Qa) (N := N) (fun m p => copyro_l1 N m p.1.2.1 p.1.2.2.1 p.1.2.2.2.1 p.2.1) (fun e => .inl (((), ()), (e, ()))) (fun _ _ _ => rfl) (fun _ => rfl) (fun m z E Xc hE hX hrec hx => leaf_of_ev (B := copyro_B) (loops := []) (leaves := [copyro_l1_h (copyro_l1 N m), copyro_l1_e0]) (copyro_all N) mixed trivial hE hX ⟨hrec, (fun p hp => by obtain rfl := Option.some.inj hp; exact hx), trivial⟩ RetOK.no (fun p => copyro_l1_eq N m p.1.2.1 p.1.2.2.1 p.1.2.2.2.1 p.2.1))
abbrev copyro_st : Sta := ⟨[0], ⟨[.sl Qb], []⟩⟩
theorem copyro_eq (N : Nat) (l : List Qa) : ev (Z := List Qa) Try.prog (copyro_sp N) copyro_B [copyro_l1_L N] [] (some copyro_rt) 400 false [.c [0], .c [1]] (stL copyro_st ((l, ()), ())) (stH copyro_st ((l, ()), ())) = copyro_S N l := by kernel_rfl
noncomputable def sp_copyro (N : Nat) : Spec := { f := 29, ins := ⟨[.sl Qb], []⟩, outs := [⟨[.ols 0], [.lst Qb]⟩], run := fun p k => (copyro_S N p.1.1).bind fun r => k (((), ()), (r, ())) }
theorem sp_copyro_ok (N : Nat) : SpecOK Try.prog (sp_copyro N) := fn_sound (B := copyro_B) (loops := [copyro_l1_L N]) (leaves := []) (fun p => copyro_S N p.1.1) (fun r => (((), ()), (r, ()))) copyro_rt (fun _ _ _ => rfl) (fun r z h => by cases h; rfl) Try.func29 (by kernel_rfl) (by kernel_rfl) (by kernel_rfl) rfl rfl (by kernel_rfl) (fun args w => Sem.pv_run _ _ _ (by kernel_rfl) w) (copyro_all N) mixed ⟨copyro_l1_ok N, trivial⟩ (fun z E Xc hE hX hret => trivial) (fun p => copyro_eq N p.1.1)

def copyo_S (N : Nat) (l : List Int) : Option Qa :=
  grd (lmI (l.length : Int)) <|
  some (l.take (min l.length (List.replicate (l.length : Int).toNat (0 : Int)).length) ++ (List.replicate (l.length : Int).toNat (0 : Int)).drop (min l.length (List.replicate (l.length : Int).toNat (0 : Int)).length))
noncomputable def copyo_sp (N : Nat) : List Spec := []
theorem copyo_all (N : Nat) : AllP (SpecOK Try.prog) (copyo_sp N) := trivial
noncomputable def copyo_c : Code := (Try.f28.body).getD .skip
noncomputable abbrev copyo_B : Body := { c := copyo_c, n := 11, res := [.tmp 2], outs := [⟨[.ols 0], [.lst (.int .i64)]⟩], m0 := 0 }
abbrev copyo_rt : altD copyo_B.outs → Option Qa := fun r => some r.2.1
abbrev copyo_st : Sta := ⟨[0], ⟨[.sl (.int .i64)], []⟩⟩
theorem copyo_eq (N : Nat) (l : List Int) : ev (Z := List Int) Try.prog (copyo_sp N) copyo_B [] [] (some copyo_rt) 400 false [.c [0], .c [1]] (stL copyo_st ((l, ()), ())) (stH copyo_st ((l, ()), ())) = copyo_S N l := by kernel_rfl
noncomputable def sp_copyo (N : Nat) : Spec := { f := 28, ins := ⟨[.sl (.int .i64)], []⟩, outs := [⟨[.ols 0], [.lst (.int .i64)]⟩], run := fun p k => (copyo_S N p.1.1).bind fun r => k (((), ()), (r, ())) }
theorem sp_copyo_ok (N : Nat) : SpecOK Try.prog (sp_copyo N) := fn_sound (B := copyo_B) (loops := []) (leaves := []) (fun p => copyo_S N p.1.1) (fun r => (((), ()), (r, ()))) copyo_rt (fun _ _ _ => rfl) (fun r z h => by cases h; rfl) Try.func28 (by kernel_rfl) (by kernel_rfl) (by kernel_rfl) rfl rfl (by kernel_rfl) (fun args w => Sem.pv_run _ _ _ (by kernel_rfl) w) (copyo_all N) mixed trivial (fun z E Xc hE hX hret => trivial) (fun p => copyo_eq N p.1.1)

def copydo_S (N : Nat) (d : List Int) (d2 : Int) (d3 : List Qa) (d4 : List Qa) (d5 : List Int) : Option (List Int × Int × List Qa × List Qa × List Int) :=
  (copyo_S N d).bind fun x_1 =>
  (copyro_S N d3).bind fun x_2 =>
  (copyro_S N d4).bind fun x_3 =>
  (copyo_S N d5).bind fun x_4 =>
  some (x_1, d2, x_2, x_3, x_4)
noncomputable def copydo_sp (N : Nat) : List Spec := [sp_copyro N, sp_copyo N]
theorem copydo_all (N : Nat) : AllP (SpecOK Try.prog) (copydo_sp N) := ⟨sp_copyro_ok N, sp_copyo_ok N, trivial⟩
noncomputable def copydo_c : Code := (Try.f6.body).getD .skip
noncomputable abbrev copydo_B : Body := { c := copydo_c, n := 18, res := [.cell 2 26], outs := [⟨[.agg [.sl (.int .i64), .i .i64, .ols 0, .ols 1, .ols 2]], [.lst Qb, .lst Qb, .lst (.int .i64)]⟩], m0 := 0 }
abbrev copydo_rt : altD copydo_B.outs → Option (List Int × Int × List Qa × List Qa × List Int) := fun r => some (r.1.1.1, r.1.1.2.1, r.2.1, r.2.2.1, r.2.2.2.1)
abbrev copydo_st : Sta := ⟨[0], ⟨[.agg [.sl (.int .i64), .i .i64, .sl Qb, .sl Qb, .sl (.int .i64)]], []⟩⟩
theorem copydo_eq (N : Nat) (d : List Int) (d2 : Int) (d3 : List Qa) (d4 : List Qa) (d5 : List Int) : ev (Z := List Int × Int × List Qa × List Qa × List Int) Try.prog (copydo_sp N) copydo_B [] [] (some copydo_rt) 400 false [.c [0], .c [1]] (stL copydo_st (((d, d2, d3, d4, d5, ()), ()), ())) (stH copydo_st (((d, d2, d3, d4, d5, ()), ()), ())) = copydo_S N d d2 d3 d4 d5 := by kernel_rfl
noncomputable def sp_copydo (N : Nat) : Spec := { f := 6, ins := ⟨[.agg [.sl (.int .i64), .i .i64, .sl Qb, .sl Qb, .sl (.int .i64)]], []⟩, outs := [⟨[.agg [.sl (.int .i64), .i .i64, .ols 0, .ols 1, .ols 2]], [.lst Qb, .lst Qb, .lst (.int .i64)]⟩], run := fun p k => (copydo_S N p.1.1.1 p.1.1.2.1 p.1.1.2.2.1 p.1.1.2.2.2.1 p.1.1.2.2.2.2.1).bind fun r => k (((r.1, r.2.1, (), (), (), ()), ()), (r.2.2.1, r.2.2.2.1, r.2.2.2.2, ())) }
theorem sp_copydo_ok (N : Nat) : SpecOK Try.prog (sp_copydo N) := fn_sound (B := copydo_B) (loops := []) (leaves := []) (fun p => copydo_S N p.1.1.1 p.1.1.2.1 p.1.1.2.2.1 p.1.1.2.2.2.1 p.1.1.2.2.2.2.1) (fun r => (((r.1, r.2.1, (), (), (), ()), ()), (r.2.2.1, r.2.2.2.1, r.2.2.2.2, ()))) copydo_rt (fun _ _ _ => rfl) (fun r z h => by cases h; rfl) Try.func6 (by kernel_rfl) (by kernel_rfl) (by kernel_rfl) rfl rfl (by kernel_rfl) (fun args w => Sem.pv_run _ _ _ (by kernel_rfl) w) (copydo_all N) mixed trivial (fun z E Xc hE hX hret => trivial) (fun p => copydo_eq N p.1.1.1 p.1.1.2.1 p.1.1.2.2.1 p.1.1.2.2.2.1 p.1.1.2.2.2.2.1)

def made1_S (N : Nat) (often : Int) (g : List Int) (g2 : Int) (g3 : Int) : Option (Int × List Int × Int × Int) :=
  (seldom_S N often g g2 g3).bind fun (x_1, y_2, y_3, y_4) =>
  br x_1
    (some (-1, y_2, y_3, y_4))
    ((stroke_S N 2 y_2 y_3 y_4).bind fun (x_5, y_6, y_7, y_8) =>
    some (x_5, y_6, y_7, y_8))
noncomputable def made1_sp (N : Nat) : List Spec := [sp_stroke N, sp_seldom N]
theorem made1_all (N : Nat) : AllP (SpecOK Try.prog) (made1_sp N) := ⟨sp_stroke_ok N, sp_seldom_ok N, trivial⟩
noncomputable def made1_c : Code := (Try.f32.body).getD .skip
noncomputable abbrev made1_B : Body := { c := made1_c, n := 9, res := [.tmp 3], outs := [⟨[.i .i64], [.segs [.own 1 0], .segs [.sl (.int .u8), .i .i64, .i .u32]]⟩], m0 := 2 }
abbrev made1_rt : altD made1_B.outs → Option (Int × List Int × Int × Int) := fun r => some (r.1.1, r.2.2.1.1, r.2.2.1.2.1, r.2.2.1.2.2.1)
abbrev made1_st : Sta := ⟨[0, 1], ⟨[.i .i64, .own 0 0], [.segs [.own 1 0], .segs [.sl (.int .u8), .i .i64, .i .u32]]⟩⟩
theorem made1_eq (N : Nat) (often : Int) (g : List Int) (g2 : Int) (g3 : Int) : ev (Z := Int × List Int × Int × Int) Try.prog (made1_sp N) made1_B [] [] (some made1_rt) 400 false [.c [0], .c [1]] (stL made1_st ((often, (), ()), (((), ()), (g, g2, g3, ()), ()))) (stH made1_st ((often, (), ()), (((), ()), (g, g2, g3, ()), ()))) = made1_S N often g g2 g3 := by kernel_rfl
noncomputable def sp_made1 (N : Nat) : Spec := { f := 32, ins := ⟨[.i .i64, .own 0 0], [.segs [.own 1 0], .segs [.sl (.int .u8), .i .i64, .i .u32]]⟩, outs := [⟨[.i .i64], [.segs [.own 1 0], .segs [.sl (.int .u8), .i .i64, .i .u32]]⟩], run := fun p k => (made1_S N p.1.1 p.2.2.1.1 p.2.2.1.2.1 p.2.2.1.2.2.1).bind fun r => k ((r.1, ()), (((), ()), (r.2.1, r.2.2.1, r.2.2.2, ()), ())) }
theorem sp_made1_ok (N : Nat) : SpecOK Try.prog (sp_made1 N) := fn_sound (B := made1_B) (loops := []) (leaves := []) (fun p => made1_S N p.1.1 p.2.2.1.1 p.2.2.1.2.1 p.2.2.1.2.2.1) (fun r => ((r.1, ()), (((), ()), (r.2.1, r.2.2.1, r.2.2.2, ()), ()))) made1_rt (fun _ _ _ => rfl) (fun r z h => by cases h; rfl) Try.func32 (by kernel_rfl) (by kernel_rfl) (by kernel_rfl) rfl rfl (by kernel_rfl) (fun args w => Sem.pv_run _ _ _ (by kernel_rfl) w) (made1_all N) mixed trivial (fun z E Xc hE hX hret => trivial) (fun p => made1_eq N p.1.1 p.2.2.1.1 p.2.2.1.2.1 p.2.2.1.2.2.1)

def made_l1 (N : Nat) : Nat → Int → Int → Int → Qa → Int → Int → Int → Int → Qa → Option (Int × List Int × Int × Int × Int × Int × List Int)
  | 0, _, _, _, _, _, _, _, _, _ => none
  | n_ + 1, things, u, u2, b, b2, b3, g, d, d2 =>
    br (decide (u2 < u))
      ((strike_S N 1 9 b b2 b3).bind fun (x_9, y_10, y_11, y_12) =>
      lim (d2.length + [x_9].length) <|
      chk (u2 + 1) <|
      made_l1 N n_ things u (u2 + 1) y_10 y_11 y_12 g d (d2 ++ [x_9]))
      (some ((things, b, b2, b3, g, d, d2)))
def made_l3 (N : Nat) : Nat → Int → Int → Int → Int → Int → Int → Qa → Int → Int → Int → Int → Qa → Qa → Qk → Qa → Option Qu
  | 0, _, _, _, _, _, _, _, _, _, _, _, _, _, _, _ => none
  | n_ + 1, many, often, u, u2, u3, u4, b, b2, b3, g, d, l, d2, d3, d4 =>
    br (decide (u4 < u3))
      ((made1_S N often b b2 b3).bind fun (x_32, y_33, y_34, y_35) =>
      lim (l.length + [x_32].length) <|
      chk (u4 + 1) <|
      made_l3 N n_ many often u u2 u3 (u4 + 1) y_33 y_34 y_35 g d (l ++ [x_32]) d2 d3 d4)
      (some ((many, often, u, u2, b, b2, b3, g, d, l, d2, d3, d4)))
def made_l2 (N : Nat) : Nat → Int → Int → Int → Int → Qa → Int → Int → Int → Int → Qa → Qk → Qa → Option (Int × Int × List Int × Int × Int × Int × Int × List Int × List Qa × List Int)
  | 0, _, _, _, _, _, _, _, _, _, _, _, _ => none
  | n_ + 1, many, often, u, u2, b, b2, b3, g, d, d2, d3, d4 =>
    br (decide (u2 < u))
      ((made_l3 N N many often u u2 (d2.length : Int) 0 b b2 b3 g d [] d2 d3 d4).bind fun (many_36, often_37, u_38, u2_39, b_40, b2_41, b3_42, g_43, d_44, l_45, d2_46, d3_47, d4_48) =>
      lim (d3_47.length + [l_45].length) <|
      (stroke_S N 30 b_40 b2_41 b3_42).bind fun (x_49, y_50, y_51, y_52) =>
      lim (d4_48.length + [x_49].length) <|
      chk (u2_39 + 1) <|
      made_l2 N n_ many_36 often_37 u_38 (u2_39 + 1) y_50 y_51 y_52 g_43 d_44 d2_46 (d3_47 ++ [l_45]) (d4_48 ++ [x_49]))
      (some ((many, often, b, b2, b3, g, d, d2, d3, d4)))
def made_l5 (N : Nat) : Nat → Int → Int → Int → Int → Int → Qa → Int → Int → Int → Int → Qa → Qa → Qk → Qk → Qa → Option Qt
  | 0, _, _, _, _, _, _, _, _, _, _, _, _, _, _, _ => none
  | n_ + 1, often, u, u2, u3, u4, value, value2, value3, g, d, l, d2, d3, d4, d5 =>
    br (decide (u4 < u3))
      ((made1_S N often value value2 value3).bind fun (x_63, y_64, y_65, y_66) =>
      lim (l.length + [x_63].length) <|
      chk (u4 + 1) <|
      made_l5 N n_ often u u2 u3 (u4 + 1) y_64 y_65 y_66 g d (l ++ [x_63]) d2 d3 d4 d5)
      (some ((often, u, u2, value, value2, value3, g, d, l, d2, d3, d4, d5)))
def made_l4 (N : Nat) : Nat → Int → Int → Int → Qa → Int → Int → Int → Int → Qa → Qk → Qk → Qa → Option (List Int × Int × Int × Int × Int × List Int × List Qa × List Qa × List Int)
  | 0, _, _, _, _, _, _, _, _, _, _, _, _ => none
  | n_ + 1, often, u, u2, value, value2, value3, g, d, d2, d3, d4, d5 =>
    br (decide (u2 < u))
      ((made_l5 N N often u u2 (d2.length : Int) 0 value value2 value3 g d [] d2 d3 d4 d5).bind fun (often_67, u_68, u2_69, value_70, value2_71, value3_72, g_73, d_74, l_75, d2_76, d3_77, d4_78, d5_79) =>
      lim (d4_78.length + [l_75].length) <|
      chk (u2_69 + 1) <|
      made_l4 N n_ often_67 u_68 (u2_69 + 1) value_70 value2_71 value3_72 g_73 d_74 d2_76 d3_77 (d4_78 ++ [l_75]) d5_79)
      (some ((value, value2, value3, g, d, d2, d3, d4, d5)))
def made_S (N : Nat) (things : Int) (b : List Int) (b2 : Int) (b3 : Int) : Option (List Int × Int × List Qa × List Qa × List Int × List Int × Int × Int) :=
  (stroke_S N 2 b b2 b3).bind fun (x_1, y_2, y_3, y_4) =>
  (strike_S N 1 5 y_2 y_3 y_4).bind fun (x_5, y_6, y_7, y_8) =>
  (made_l1 N N things x_5 0 y_6 y_7 y_8 0 x_1 []).bind fun (things_13, b_14, b2_15, b3_16, g_17, d_18, d2_19) =>
  (stroke_S N things_13 b_14 b2_15 b3_16).bind fun (x_20, y_21, y_22, y_23) =>
  (strike_S N 2 5 y_21 y_22 y_23).bind fun (x_24, y_25, y_26, y_27) =>
  (stroke_S N things_13 y_25 y_26 y_27).bind fun (x_28, y_29, y_30, y_31) =>
  (made_l2 N N x_20 x_24 x_28 0 y_29 y_30 y_31 g_17 d_18 d2_19 [] []).bind fun (many_53, often_54, value_55, value2_56, value3_57, g_58, d_59, d2_60, d3_61, d4_62) =>
  (made_l4 N N often_54 many_53 0 value_55 value2_56 value3_57 g_58 d_59 d2_60 d3_61 [] d4_62).bind fun (g_80, g2_81, g3_82, g4_83, d_84, d2_85, d3_86, d4_87, d5_88) =>
  some (d2_85, d_84, d3_86, d4_87, d5_88, g_80, g2_81, g3_82)
noncomputable def made_sp (N : Nat) : List Spec := [sp_stroke N, sp_strike N, sp_made1 N]
theorem made_all (N : Nat) : AllP (SpecOK Try.prog) (made_sp N) := ⟨sp_stroke_ok N, sp_strike_ok N, sp_made1_ok N, trivial⟩
noncomputable def made_c : Code := (Try.f7.body).getD .skip
noncomputable abbrev made_B : Body := { c := made_c, n := 86, res := [.cell 4 26], outs := [⟨[.agg [.sl (.int .i64), .i .i64, .sl Qb, .sl Qb, .sl (.int .i64)]], [.segs [.sl (.int .u8), .i .i64, .i .u32]]⟩], m0 := 1 }
abbrev made_rt : altD made_B.outs → Option (List Int × Int × List Qa × List Qa × List Int × List Int × Int × Int) := fun r => some (r.1.1.1, r.1.1.2.1, r.1.1.2.2.1, r.1.1.2.2.2.1, r.1.1.2.2.2.2.1, r.2.1.1, r.2.1.2.1, r.2.1.2.2.1)
abbrev made_l1_at : List PI := [.c [1, 1, 0, 1, 0, 0, 0], .c [1, 1, 0, 1, 0, 0, 1], .l [1, 1, 0, 1, 0, 0], .b 0, .c [1, 1, 1]]
abbrev made_l1_st : Sta := ⟨[1, 2, 4, 5, 15, 16], ⟨[.i .i64, .own 1 0, .own 2 0, .own 3 0, .i .i64, .i .i64], [.segs [.sl (.int .u8), .i .i64, .i .u32], .segs [.own 0 0], .segs [.nils, .i .i64, .nils, .nils, .nils], .segs [.ols 4, .i .i64, .nils, .nils, .nils], .lst (.int .i64)]⟩⟩
abbrev made_l1_h (rec : Int → Int → Int → Qa → Int → Int → Int → Int → Qa → Option (Int × List Int × Int × Int × Int × Int × List Int)) : Leaf (Int × List Int × Int × Int × Int × Int × List Int) := ⟨made_l1_at, made_l1_st, fun p => rec p.1.1 p.1.2.2.2.2.1 p.1.2.2.2.2.2.1 p.2.1.1 p.2.1.2.1 p.2.1.2.2.1 p.2.2.2.1.2.1 p.2.2.2.2.1.2.1 p.2.2.2.2.2.1⟩
abbrev made_l1_e0 : Leaf (Int × List Int × Int × Int × Int × Int × List Int) := ⟨[.c [1, 1, 1, 0], .c [1, 1, 1, 1]], ⟨[1, 2, 4, 5], ⟨[.i .i64, .own 1 0, .own 2 0, .own 3 0], [.segs [.sl (.int .u8), .i .i64, .i .u32], .segs [.own 0 0], .segs [.nils, .i .i64, .nils, .nils, .nils], .segs [.ols 4, .i .i64, .nils, .nils, .nils], .lst (.int .i64)]⟩⟩, fun p => some ((p.1.1, p.2.1.1, p.2.1.2.1, p.2.1.2.2.1, p.2.2.2.1.2.1, p.2.2.2.2.1.2.1, p.2.2.2.2.2.1))⟩
noncomputable def made_l1_L (N : Nat) : LoopS := { at_ := made_l1_at, sta := made_l1_st, exits := [([.c [1, 1, 1, 0], .c [1, 1, 1, 1]], ⟨[1, 2, 4, 5], ⟨[.i .i64, .own 1 0, .own 2 0, .own 3 0], [.segs [.sl (.int .u8), .i .i64, .i .u32], .segs [.own 0 0], .segs [.nils, .i .i64, .nils, .nils, .nils], .segs [.ols 4, .i .i64, .nils, .nils, .nils], .lst (.int .i64)]⟩⟩)], run := fun p k => (made_l1 N N p.1.1 p.1.2.2.2.2.1 p.1.2.2.2.2.2.1 p.2.1.1 p.2.1.2.1 p.2.1.2.2.1 p.2.2.2.1.2.1 p.2.2.2.2.1.2.1 p.2.2.2.2.2.1).bind fun e => k (.inl ((e.1, (), (), (), ()), ((e.2.1, e.2.2.1, e.2.2.2.1, ()), ((), ()), ((), e.2.2.2.2.1, (), (), (), ()), ((), e.2.2.2.2.2.1, (), (), (), ()), e.2.2.2.2.2.2, ()))) }
theorem made_l1_eq (N n_ : Nat) (things : Int) (u : Int) (u2 : Int) (b : List Int) (b2 : Int) (b3 : Int) (g : Int) (d : Int) (d2 : List Int) : ev (Z := Int × List Int × Int × Int × Int × Int × List Int) Try.prog (made_sp N) made_B [] [made_l1_h (made_l1 N n_), made_l1_e0] none 400 true made_l1_at (stL made_l1_st ((things, (), (), (), u, u2, ()), ((b, b2, b3, ()), ((), ()), ((), g, (), (), (), ()), ((), d, (), (), (), ()), d2, ()))) (stH made_l1_st ((things, (), (), (), u, u2, ()), ((b, b2, b3, ()), ((), ()), ((), g, (), (), (), ()), ((), d, (), (), (), ()), d2, ()))) = made_l1 N (n_ + 1) things u u2 b b2 b3 g d d2 := by kernel_rfl
theorem made_l1_ok (N : Nat) {top : Bool} : LoopOK Try.prog made_B.c made_B.n made_B.m0 top (made_l1_L N) := loop_of_ev (Z := Int × List Int × Int × Int × Int × Int × List Int) (N := N) (fun m p => made_l1 N m p.1.1 p.1.2.2.2.2.1 p.1.2.2.2.2.2.1 p.2.1.1 p.2.1.2.1 p.2.1.2.2.1 p.2.2.2.1.2.1 p.2.2.2.2.1.2.1 p.2.2.2.2.2.1) (fun e => .inl ((e.1, (), (), (), ()), ((e.2.1, e.2.2.1, e.2.2.2.1, ()), ((), ()), ((), e.2.2.2.2.1, (), (), (), ()), ((), e.2.2.2.2.2.1, (), (), (), ()), e.2.2.2.2.2.2, ()))) (fun _ _ _ => rfl) (fun _ => rfl) (fun m z E Xc hE hX hrec hx => leaf_of_ev (B := made_B) (loops := []) (leaves := [made_l1_h (made_l1 N m), made_l1_e0]) (made_all N) mixed trivial hE hX ⟨hrec, (fun p hp => by obtain rfl := Option.some.inj hp; exact hx), trivial⟩ RetOK.no (fun p => made_l1_eq N m p.1.1 p.1.2.2.2.2.1 p.1.2.2.2.2.2.1 p.2.1.1 p.2.1.2.1 p.2.1.2.2.1 p.2.2.2.1.2.1 p.2.2.2.2.1.2.1 p.2.2.2.2.2.1))
abbrev made_l3_at : List PI := [.c [1, 1, 1, 1, 1, 0, 1, 0, 0, 1, 1, 0, 0, 1, 0, 1, 0, 0, 0], .c [1, 1, 1, 1, 1, 0, 1, 0, 0, 1, 1, 0, 0, 1, 0, 1, 0, 0, 1], .l [1, 1, 1, 1, 1, 0, 1, 0, 0, 1, 1, 0, 0, 1, 0, 1, 0, 0], .b 4, .c [1, 1, 1, 1, 1, 0, 1, 0, 0, 1, 1, 0, 0, 1, 1], .b 3, .c [1, 1, 1, 1, 1, 0, 1, 0, 0, 1, 1, 1], .l [1, 1, 1, 1, 1, 0, 1, 0, 0], .b 2, .c [1, 1, 1, 1, 1, 1]]
abbrev made_l3_st : Sta := ⟨[2, 4, 5, 6, 7, 8, 9, 34, 35, 39, 40], ⟨[.own 1 0, .own 2 0, .own 3 0, .fn 32 [] [.own 1 0], .i .i64, .i .i64, .ols 4, .i .i64, .i .i64, .i .i64, .i .i64], [.segs [.sl (.int .u8), .i .i64, .i .u32], .segs [.own 0 0], .segs [.nils, .i .i64, .nils, .nils, .nils], .segs [.ols 5, .i .i64, .ols 6, .nils, .ols 7], .lst (.int .i64), .lst (.int .i64), .lst Qb, .lst (.int .i64)]⟩⟩
abbrev made_l3_h (rec : Int → Int → Int → Int → Int → Int → Qa → Int → Int → Int → Int → Qa → Qa → Qk → Qa → Option Qu) : Leaf Qu := ⟨made_l3_at, made_l3_st, fun p => rec p.1.2.2.2.2.1 p.1.2.2.2.2.2.1 p.1.2.2.2.2.2.2.2.1 p.1.2.2.2.2.2.2.2.2.1 p.1.2.2.2.2.2.2.2.2.2.1 p.1.2.2.2.2.2.2.2.2.2.2.1 p.2.1.1 p.2.1.2.1 p.2.1.2.2.1 p.2.2.2.1.2.1 p.2.2.2.2.1.2.1 p.2.2.2.2.2.1 p.2.2.2.2.2.2.1 p.2.2.2.2.2.2.2.1 p.2.2.2.2.2.2.2.2.1⟩
abbrev made_l3_e0 : Leaf Qu := ⟨[.c [1, 1, 1, 1, 1, 0, 1, 0, 0, 1, 1, 0, 0, 1, 1], .b 3, .c [1, 1, 1, 1, 1, 0, 1, 0, 0, 1, 1, 1], .l [1, 1, 1, 1, 1, 0, 1, 0, 0], .b 2, .c [1, 1, 1, 1, 1, 1]], ⟨[2, 4, 5, 6, 7, 8, 9, 34, 35], ⟨[.own 1 0, .own 2 0, .own 3 0, .fn 32 [] [.own 1 0], .i .i64, .i .i64, .ols 4, .i .i64, .i .i64], [.segs [.sl (.int .u8), .i .i64, .i .u32], .segs [.own 0 0], .segs [.nils, .i .i64, .nils, .nils, .nils], .segs [.ols 5, .i .i64, .ols 6, .nils, .ols 7], .lst (.int .i64), .lst (.int .i64), .lst Qb, .lst (.int .i64)]⟩⟩, fun p => some ((p.1.2.2.2.2.1, p.1.2.2.2.2.2.1, p.1.2.2.2.2.2.2.2.1, p.1.2.2.2.2.2.2.2.2.1, p.2.1.1, p.2.1.2.1, p.2.1.2.2.1, p.2.2.2.1.2.1, p.2.2.2.2.1.2.1, p.2.2.2.2.2.1, p.2.2.2.2.2.2.1, p.2.2.2.2.2.2.2.1, p.2.2.2.2.2.2.2.2.1))⟩
noncomputable def made_l3_L (N : Nat) : LoopS := { at_ := made_l3_at, sta := made_l3_st, exits := [([.c [1, 1, 1, 1, 1, 0, 1, 0, 0, 1, 1, 0, 0, 1, 1], .b 3, .c [1, 1, 1, 1, 1, 0, 1, 0, 0, 1, 1, 1], .l [1, 1, 1, 1, 1, 0, 1, 0, 0], .b 2, .c [1, 1, 1, 1, 1, 1]], ⟨[2, 4, 5, 6, 7, 8, 9, 34, 35], ⟨[.own 1 0, .own 2 0, .own 3 0, .fn 32 [] [.own 1 0], .i .i64, .i .i64, .ols 4, .i .i64, .i .i64], [.segs [.sl (.int .u8), .i .i64, .i .u32], .segs [.own 0 0], .segs [.nils, .i .i64, .nils, .nils, .nils], .segs [.ols 5, .i .i64, .ols 6, .nils, .ols 7], .lst (.int .i64), .lst (.int .i64), .lst Qb, .lst (.int .i64)]⟩⟩)], run := fun p k => (made_l3 N N p.1.2.2.2.2.1 p.1.2.2.2.2.2.1 p.1.2.2.2.2.2.2.2.1 p.1.2.2.2.2.2.2.2.2.1 p.1.2.2.2.2.2.2.2.2.2.1 p.1.2.2.2.2.2.2.2.2.2.2.1 p.2.1.1 p.2.1.2.1 p.2.1.2.2.1 p.2.2.2.1.2.1 p.2.2.2.2.1.2.1 p.2.2.2.2.2.1 p.2.2.2.2.2.2.1 p.2.2.2.2.2.2.2.1 p.2.2.2.2.2.2.2.2.1).bind fun e => k (.inl (((), (), (), ((), ((), ())), e.1, e.2.1, (), e.2.2.1, e.2.2.2.1, ()), ((e.2.2.2.2.1, e.2.2.2.2.2.1, e.2.2.2.2.2.2.1, ()), ((), ()), ((), e.2.2.2.2.2.2.2.1, (), (), (), ()), ((), e.2.2.2.2.2.2.2.2.1, (), (), (), ()), e.2.2.2.2.2.2.2.2.2.1, e.2.2.2.2.2.2.2.2.2.2.1, e.2.2.2.2.2.2.2.2.2.2.2.1, e.2.2.2.2.2.2.2.2.2.2.2.2, ()))) }
theorem made_l3_eq (N n_ : Nat) (many : Int) (often : Int) (u : Int) (u2 : Int) (u3 : Int) (u4 : Int) (b : List Int) (b2 : Int) (b3 : Int) (g : Int) (d : Int) (l : List Int) (d2 : List Int) (d3 : List Qa) (d4 : List Int) : ev (Z := Int × Int × Int × Int × List Int × Int × Int × Int × Int × List Int × List Int × List Qa × List Int) Try.prog (made_sp N) made_B [made_l1_L N] [made_l3_h (made_l3 N n_), made_l3_e0] none 400 true made_l3_at (stL made_l3_st (((), (), (), ((), ((), ())), many, often, (), u, u2, u3, u4, ()), ((b, b2, b3, ()), ((), ()), ((), g, (), (), (), ()), ((), d, (), (), (), ()), l, d2, d3, d4, ()))) (stH made_l3_st (((), (), (), ((), ((), ())), many, often, (), u, u2, u3, u4, ()), ((b, b2, b3, ()), ((), ()), ((), g, (), (), (), ()), ((), d, (), (), (), ()), l, d2, d3, d4, ()))) = made_l3 N (n_ + 1) many often u u2 u3 u4 b b2 b3 g d l d2 d3 d4 := by kernel_rfl
theorem made_l3_ok (N : Nat) {top : Bool} : LoopOK Try.prog made_B.c made_B.n made_B.m0 top (made_l3_L N) := loop_of_ev (Z := Int × Int × Int × Int × List Int × Int × Int × Int × Int × List Int × List Int × List Qa × List Int) (N := N) (fun m p => made_l3 N m p.1.2.2.2.2.1 p.1.2.2.2.2.2.1 p.1.2.2.2.2.2.2.2.1 p.1.2.2.2.2.2.2.2.2.1 p.1.2.2.2.2.2.2.2.2.2.1 p.1.2.2.2.2.2.2.2.2.2.2.1 p.2.1.1 p.2.1.2.1 p.2.1.2.2.1 p.2.2.2.1.2.1 p.2.2.2.2.1.2.1 p.2.2.2.2.2.1 p.2.2.2.2.2.2.1 p.2.2.2.2.2.2.2.1 p.2.2.2.2.2.2.2.2.1) (fun e => .inl (((), (), (), ((), ((), ())), e.1, e.2.1, (), e.2.2.1, e.2.2.2.1, ()), ((e.2.2.2.2.1, e.2.2.2.2.2.1, e.2.2.2.2.2.2.1, ()), ((), ()), ((), e.2.2.2.2.2.2.2.1, (), (), (), ()), ((), e.2.2.2.2.2.2.2.2.1, (), (), (), ()), e.2.2.2.2.2.2.2.2.2.1, e.2.2.2.2.2.2.2.2.2.2.1, e.2.2.2.2.2.2.2.2.2.2.2.1, e.2.2.2.2.2.2.2.2.2.2.2.2, ()))) (fun _ _ _ => rfl) (fun _ => rfl) (fun m z E Xc hE hX hrec hx => leaf_of_ev (B := made_B) (loops := [made_l1_L N]) (leaves := [made_l3_h (made_l3 N m), made_l3_e0]) (made_all N) mixed ⟨made_l1_ok N, trivial⟩ hE hX ⟨hrec, (fun p hp => by obtain rfl := Option.some.inj hp; exact hx), trivial⟩ RetOK.no (fun p => made_l3_eq N m p.1.2.2.2.2.1 p.1.2.2.2.2.2.1 p.1.2.2.2.2.2.2.2.1 p.1.2.2.2.2.2.2.2.2.1 p.1.2.2.2.2.2.2.2.2.2.1 p.1.2.2.2.2.2.2.2.2.2.2.1 p.2.1.1 p.2.1.2.1 p.2.1.2.2.1 p.2.2.2.1.2.1 p.2.2.2.2.1.2.1 p.2.2.2.2.2.1 p.2.2.2.2.2.2.1 p.2.2.2.2.2.2.2.1 p.2.2.2.2.2.2.2.2.1))
abbrev made_l2_at : List PI := [.c [1, 1, 1, 1, 1, 0, 1, 0, 0, 0], .c [1, 1, 1, 1, 1, 0, 1, 0, 0, 1], .l [1, 1, 1, 1, 1, 0, 1, 0, 0], .b 2, .c [1, 1, 1, 1, 1, 1]]
abbrev made_l2_st : Sta := ⟨[2, 4, 5, 6, 7, 8, 34, 35], ⟨[.own 1 0, .own 2 0, .own 3 0, .fn 32 [] [.own 1 0], .i .i64, .i .i64, .i .i64, .i .i64], [.segs [.sl (.int .u8), .i .i64, .i .u32], .segs [.own 0 0], .segs [.nils, .i .i64, .nils, .nils, .nils], .segs [.ols 4, .i .i64, .ols 5, .nils, .ols 6], .lst (.int .i64), .lst Qb, .lst (.int .i64)]⟩⟩
abbrev made_l2_h (rec : Int → Int → Int → Int → Qa → Int → Int → Int → Int → Qa → Qk → Qa → Option (Int × Int × List Int × Int × Int × Int × Int × List Int × List Qa × List Int)) : Leaf (Int × Int × List Int × Int × Int × Int × Int × List Int × List Qa × List Int) := ⟨made_l2_at, made_l2_st, fun p => rec p.1.2.2.2.2.1 p.1.2.2.2.2.2.1 p.1.2.2.2.2.2.2.1 p.1.2.2.2.2.2.2.2.1 p.2.1.1 p.2.1.2.1 p.2.1.2.2.1 p.2.2.2.1.2.1 p.2.2.2.2.1.2.1 p.2.2.2.2.2.1 p.2.2.2.2.2.2.1 p.2.2.2.2.2.2.2.1⟩
abbrev made_l2_e0 : Leaf (Int × Int × List Int × Int × Int × Int × Int × List Int × List Qa × List Int) := ⟨[.c [1, 1, 1, 1, 1, 1, 0, 0], .c [1, 1, 1, 1, 1, 1, 0, 1], .c [1, 1, 1, 1, 1, 1, 1]], ⟨[4, 5, 6, 7, 8], ⟨[.own 1 0, .own 2 0, .fn 32 [] [.own 3 0], .i .i64, .i .i64], [.segs [.sl (.int .u8), .i .i64, .i .u32], .segs [.nils, .i .i64, .nils, .nils, .nils], .segs [.ols 4, .i .i64, .ols 5, .nils, .ols 6], .segs [.own 0 0], .lst (.int .i64), .lst Qb, .lst (.int .i64)]⟩⟩, fun p => some ((p.1.2.2.2.1, p.1.2.2.2.2.1, p.2.1.1, p.2.1.2.1, p.2.1.2.2.1, p.2.2.1.2.1, p.2.2.2.1.2.1, p.2.2.2.2.2.1, p.2.2.2.2.2.2.1, p.2.2.2.2.2.2.2.1))⟩
noncomputable def made_l2_L (N : Nat) : LoopS := { at_ := made_l2_at, sta := made_l2_st, exits := [([.c [1, 1, 1, 1, 1, 1, 0, 0], .c [1, 1, 1, 1, 1, 1, 0, 1], .c [1, 1, 1, 1, 1, 1, 1]], ⟨[4, 5, 6, 7, 8], ⟨[.own 1 0, .own 2 0, .fn 32 [] [.own 3 0], .i .i64, .i .i64], [.segs [.sl (.int .u8), .i .i64, .i .u32], .segs [.nils, .i .i64, .nils, .nils, .nils], .segs [.ols 4, .i .i64, .ols 5, .nils, .ols 6], .segs [.own 0 0], .lst (.int .i64), .lst Qb, .lst (.int .i64)]⟩⟩)], run := fun p k => (made_l2 N N p.1.2.2.2.2.1 p.1.2.2.2.2.2.1 p.1.2.2.2.2.2.2.1 p.1.2.2.2.2.2.2.2.1 p.2.1.1 p.2.1.2.1 p.2.1.2.2.1 p.2.2.2.1.2.1 p.2.2.2.2.1.2.1 p.2.2.2.2.2.1 p.2.2.2.2.2.2.1 p.2.2.2.2.2.2.2.1).bind fun e => k (.inl (((), (), ((), ((), ())), e.1, e.2.1, ()), ((e.2.2.1, e.2.2.2.1, e.2.2.2.2.1, ()), ((), e.2.2.2.2.2.1, (), (), (), ()), ((), e.2.2.2.2.2.2.1, (), (), (), ()), ((), ()), e.2.2.2.2.2.2.2.1, e.2.2.2.2.2.2.2.2.1, e.2.2.2.2.2.2.2.2.2, ()))) }
theorem made_l2_eq (N n_ : Nat) (many : Int) (often : Int) (u : Int) (u2 : Int) (b : List Int) (b2 : Int) (b3 : Int) (g : Int) (d : Int) (d2 : List Int) (d3 : List Qa) (d4 : List Int) : ev (Z := Int × Int × List Int × Int × Int × Int × Int × List Int × List Qa × List Int) Try.prog (made_sp N) made_B [made_l1_L N, made_l3_L N] [made_l2_h (made_l2 N n_), made_l2_e0] none 400 true made_l2_at (stL made_l2_st (((), (), (), ((), ((), ())), many, often, u, u2, ()), ((b, b2, b3, ()), ((), ()), ((), g, (), (), (), ()), ((), d, (), (), (), ()), d2, d3, d4, ()))) (stH made_l2_st (((), (), (), ((), ((), ())), many, often, u, u2, ()), ((b, b2, b3, ()), ((), ()), ((), g, (), (), (), ()), ((), d, (), (), (), ()), d2, d3, d4, ()))) = made_l2 N (n_ + 1) many often u u2 b b2 b3 g d d2 d3 d4 := by kernel_rfl
theorem made_l2_ok (N : Nat) {top : Bool} : LoopOK Try.prog made_B.c made_B.n made_B.m0 top (made_l2_L N) := loop_of_ev (Z := Int × Int × List Int × Int × Int × Int × Int × List Int × List Qa × List Int) (N := N) (fun m p => made_l2 N m p.1.2.2.2.2.1 p.1.2.2.2.2.2.1 p.1.2.2.2.2.2.2.1 p.1.2.2.2.2.2.2.2.1 p.2.1.1 p.2.1.2.1 p.2.1.2.2.1 p.2.2.2.1.2.1 p.2.2.2.2.1.2.1 p.2.2.2.2.2.1 p.2.2.2.2.2.2.1 p.2.2.2.2.2.2.2.1) (fun e => .inl (((), (), ((), ((), ())), e.1, e.2.1, ()), ((e.2.2.1, e.2.2.2.1, e.2.2.2.2.1, ()), ((), e.2.2.2.2.2.1, (), (), (), ()), ((), e.2.2.2.2.2.2.1, (), (), (), ()), ((), ()), e.2.2.2.2.2.2.2.1, e.2.2.2.2.2.2.2.2.1, e.2.2.2.2.2.2.2.2.2, ()))) (fun _ _ _ => rfl) (fun _ => rfl) (fun m z E Xc hE hX hrec hx => leaf_of_ev (B := made_B) (loops := [made_l1_L N, made_l3_L N]) (leaves := [made_l2_h (made_l2 N m), made_l2_e0]) (made_all N) mixed ⟨made_l1_ok N, made_l3_ok N, trivial⟩ hE hX ⟨hrec, (fun p hp => by obtain rfl := Option.some.inj hp; exact hx), trivial⟩ RetOK.no (fun p => made_l2_eq N m p.1.2.2.2.2.1 p.1.2.2.2.2.2.1 p.1.2.2.2.2.2.2.1 p.1.2.2.2.2.2.2.2.1 p.2.1.1 p.2.1.2.1 p.2.1.2.2.1 p.2.2.2.1.2.1 p.2.2.2.2.1.2.1 p.2.2.2.2.2.1 p.2.2.2.2.2.2.1 p.2.2.2.2.2.2.2.1))
abbrev made_l5_at : List PI := [.c [1, 1, 1, 1, 1, 1, 0, 1, 0, 0, 1, 1, 0, 0, 1, 0, 1, 0, 0, 0], .c [1, 1, 1, 1, 1, 1, 0, 1, 0, 0, 1, 1, 0, 0, 1, 0, 1, 0, 0, 1], .l [1, 1, 1, 1, 1, 1, 0, 1, 0, 0, 1, 1, 0, 0, 1, 0, 1, 0, 0], .b 8, .c [1, 1, 1, 1, 1, 1, 0, 1, 0, 0, 1, 1, 0, 0, 1, 1], .b 7, .c [1, 1, 1, 1, 1, 1, 0, 1, 0, 0, 1, 1, 1], .l [1, 1, 1, 1, 1, 1, 0, 1, 0, 0], .b 6, .c [1, 1, 1, 1, 1, 1, 1]]
abbrev made_l5_st : Sta := ⟨[4, 5, 6, 8, 10, 63, 64, 68, 69], ⟨[.own 1 0, .own 2 0, .fn 32 [] [.own 3 0], .i .i64, .ols 4, .i .i64, .i .i64, .i .i64, .i .i64], [.segs [.sl (.int .u8), .i .i64, .i .u32], .segs [.nils, .i .i64, .nils, .nils, .nils], .segs [.ols 5, .i .i64, .ols 6, .ols 7, .ols 8], .segs [.own 0 0], .lst (.int .i64), .lst (.int .i64), .lst Qb, .lst Qb, .lst (.int .i64)]⟩⟩
abbrev made_l5_h (rec : Int → Int → Int → Int → Int → Qa → Int → Int → Int → Int → Qa → Qa → Qk → Qk → Qa → Option Qt) : Leaf Qt := ⟨made_l5_at, made_l5_st, fun p => rec p.1.2.2.2.1 p.1.2.2.2.2.2.1 p.1.2.2.2.2.2.2.1 p.1.2.2.2.2.2.2.2.1 p.1.2.2.2.2.2.2.2.2.1 p.2.1.1 p.2.1.2.1 p.2.1.2.2.1 p.2.2.1.2.1 p.2.2.2.1.2.1 p.2.2.2.2.2.1 p.2.2.2.2.2.2.1 p.2.2.2.2.2.2.2.1 p.2.2.2.2.2.2.2.2.1 p.2.2.2.2.2.2.2.2.2.1⟩
abbrev made_l5_e0 : Leaf Qt := ⟨[.c [1, 1, 1, 1, 1, 1, 0, 1, 0, 0, 1, 1, 0, 0, 1, 1], .b 7, .c [1, 1, 1, 1, 1, 1, 0, 1, 0, 0, 1, 1, 1], .l [1, 1, 1, 1, 1, 1, 0, 1, 0, 0], .b 6, .c [1, 1, 1, 1, 1, 1, 1]], ⟨[4, 5, 6, 8, 10, 63, 64], ⟨[.own 1 0, .own 2 0, .fn 32 [] [.own 3 0], .i .i64, .ols 4, .i .i64, .i .i64], [.segs [.sl (.int .u8), .i .i64, .i .u32], .segs [.nils, .i .i64, .nils, .nils, .nils], .segs [.ols 5, .i .i64, .ols 6, .ols 7, .ols 8], .segs [.own 0 0], .lst (.int .i64), .lst (.int .i64), .lst Qb, .lst Qb, .lst (.int .i64)]⟩⟩, fun p => some ((p.1.2.2.2.1, p.1.2.2.2.2.2.1, p.1.2.2.2.2.2.2.1, p.2.1.1, p.2.1.2.1, p.2.1.2.2.1, p.2.2.1.2.1, p.2.2.2.1.2.1, p.2.2.2.2.2.1, p.2.2.2.2.2.2.1, p.2.2.2.2.2.2.2.1, p.2.2.2.2.2.2.2.2.1, p.2.2.2.2.2.2.2.2.2.1))⟩
noncomputable def made_l5_L (N : Nat) : LoopS := { at_ := made_l5_at, sta := made_l5_st, exits := [([.c [1, 1, 1, 1, 1, 1, 0, 1, 0, 0, 1, 1, 0, 0, 1, 1], .b 7, .c [1, 1, 1, 1, 1, 1, 0, 1, 0, 0, 1, 1, 1], .l [1, 1, 1, 1, 1, 1, 0, 1, 0, 0], .b 6, .c [1, 1, 1, 1, 1, 1, 1]], ⟨[4, 5, 6, 8, 10, 63, 64], ⟨[.own 1 0, .own 2 0, .fn 32 [] [.own 3 0], .i .i64, .ols 4, .i .i64, .i .i64], [.segs [.sl (.int .u8), .i .i64, .i .u32], .segs [.nils, .i .i64, .nils, .nils, .nils], .segs [.ols 5, .i .i64, .ols 6, .ols 7, .ols 8], .segs [.own 0 0], .lst (.int .i64), .lst (.int .i64), .lst Qb, .lst Qb, .lst (.int .i64)]⟩⟩)], run := fun p k => (made_l5 N N p.1.2.2.2.1 p.1.2.2.2.2.2.1 p.1.2.2.2.2.2.2.1 p.1.2.2.2.2.2.2.2.1 p.1.2.2.2.2.2.2.2.2.1 p.2.1.1 p.2.1.2.1 p.2.1.2.2.1 p.2.2.1.2.1 p.2.2.2.1.2.1 p.2.2.2.2.2.1 p.2.2.2.2.2.2.1 p.2.2.2.2.2.2.2.1 p.2.2.2.2.2.2.2.2.1 p.2.2.2.2.2.2.2.2.2.1).bind fun e => k (.inl (((), (), ((), ((), ())), e.1, (), e.2.1, e.2.2.1, ()), ((e.2.2.2.1, e.2.2.2.2.1, e.2.2.2.2.2.1, ()), ((), e.2.2.2.2.2.2.1, (), (), (), ()), ((), e.2.2.2.2.2.2.2.1, (), (), (), ()), ((), ()), e.2.2.2.2.2.2.2.2.1, e.2.2.2.2.2.2.2.2.2.1, e.2.2.2.2.2.2.2.2.2.2.1, e.2.2.2.2.2.2.2.2.2.2.2.1, e.2.2.2.2.2.2.2.2.2.2.2.2, ()))) }
theorem made_l5_eq (N n_ : Nat) (often : Int) (u : Int) (u2 : Int) (u3 : Int) (u4 : Int) (value : List Int) (value2 : Int) (value3 : Int) (g : Int) (d : Int) (l : List Int) (d2 : List Int) (d3 : List Qa) (d4 : List Qa) (d5 : List Int) : ev (Z := Int × Int × Int × List Int × Int × Int × Int × Int × List Int × List Int × List Qa × List Qa × List Int) Try.prog (made_sp N) made_B [made_l1_L N, made_l3_L N, made_l2_L N] [made_l5_h (made_l5 N n_), made_l5_e0] none 400 true made_l5_at (stL made_l5_st (((), (), ((), ((), ())), often, (), u, u2, u3, u4, ()), ((value, value2, value3, ()), ((), g, (), (), (), ()), ((), d, (), (), (), ()), ((), ()), l, d2, d3, d4, d5, ()))) (stH made_l5_st (((), (), ((), ((), ())), often, (), u, u2, u3, u4, ()), ((value, value2, value3, ()), ((), g, (), (), (), ()), ((), d, (), (), (), ()), ((), ()), l, d2, d3, d4, d5, ()))) = made_l5 N (n_ + 1) often u u2 u3 u4 value value2 value3 g d l d2 d3 d4 d5 := by kernel_rfl
theorem made_l5_ok (N : Nat) {top : Bool} : LoopOK Try.prog made_B.c made_B.n made_B.m0 top (made_l5_L N) := loop_of_ev (Z := Int × Int × Int × List Int × Int × Int × Int × Int × List Int × List Int × List Qa × List Qa × List Int) (N := N) (fun m p => made_l5 N m p.1.2.2.2.1 p.1.2.2.2.2.2.1 p.1.2.2.2.2.2.2.1 p.1.2.2.2.2.2.2.2.1 p.1.2.2.2.2.2.2.2.2.1 p.2.1.1 p.2.1.2.1 p.2.1.2.2.1 p.2.2.1.2.1 p.2.2.2.1.2.1 p.2.2.2.2.2.1 p.2.2.2.2.2.2.1 p.2.2.2.2.2.2.2.1 p.2.2.2.2.2.2.2.2.1 p.2.2.2.2.2.2.2.2.2.1) (fun e => .inl (((), (), ((), ((), ())), e.1, (), e.2.1, e.2.2.1, ()), ((e.2.2.2.1, e.2.2.2.2.1, e.2.2.2.2.2.1, ()), ((), e.2.2.2.2.2.2.1, (), (), (), ()), ((), e.2.2.2.2.2.2.2.1, (), (), (), ()), ((), ()), e.2.2.2.2.2.2.2.2.1, e.2.2.2.2.2.2.2.2.2.1, e.2.2.2.2.2.2.2.2.2.2.1, e.2.2.2.2.2.2.2.2.2.2.2.1, e.2.2.2.2.2.2.2.2.2.2.2.2, ()))) (fun _ _ _ => rfl) (fun _ => rfl) (fun m z E Xc hE hX hrec hx => leaf_of_ev (B := made_B) (loops := [made_l1_L N, made_l3_L N, made_l2_L N]) (leaves := [made_l5_h (made_l5 N m), made_l5_e0]) (made_all N) mixed ⟨made_l1_ok N, made_l3_ok N, made_l2_ok N, trivial⟩ hE hX ⟨hrec, (fun p hp => by obtain rfl := Option.some.inj hp; exact hx), trivial⟩ RetOK.no (fun p => made_l5_eq N m p.1.2.2.2.1 p.1.2.2.2.2.2.1 p.1.2.2.2.2.2.2.1 p.1.2.2.2.2.2.2.2.1 p.1.2.2.2.2.2.2.2.2.1 p.2.1.1 p.2.1.2.1 p.2.1.2.2.1 p.2.2.1.2.1 p.2.2.2.1.2.1 p.2.2.2.2.2.1 p.2.2.2.2.2.2.1 p.2.2.2.2.2.2.2.1 p.2.2.2.2.2.2.2.2.1 p.2.2.2.2.2.2.2.2.2.1))
abbrev made_l4_at : List PI := [.c [1, 1, 1, 1, 1, 1, 0, 1, 0, 0, 0], .c [1, 1, 1, 1, 1, 1, 0, 1, 0, 0, 1], .l [1, 1, 1, 1, 1, 1, 0, 1, 0, 0], .b 6, .c [1, 1, 1, 1, 1, 1, 1]]
abbrev made_l4_st : Sta := ⟨[4, 5, 6, 8, 63, 64], ⟨[.own 1 0, .own 2 0, .fn 32 [] [.own 3 0], .i .i64, .i .i64, .i .i64], [.segs [.sl (.int .u8), .i .i64, .i .u32], .segs [.nils, .i .i64, .nils, .nils, .nils], .segs [.ols 4, .i .i64, .ols 5, .ols 6, .ols 7], .segs [.own 0 0], .lst (.int .i64), .lst Qb, .lst Qb, .lst (.int .i64)]⟩⟩
abbrev made_l4_h (rec : Int → Int → Int → Qa → Int → Int → Int → Int → Qa → Qk → Qk → Qa → Option (List Int × Int × Int × Int × Int × List Int × List Qa × List Qa × List Int)) : Leaf (List Int × Int × Int × Int × Int × List Int × List Qa × List Qa × List Int) := ⟨made_l4_at, made_l4_st, fun p => rec p.1.2.2.2.1 p.1.2.2.2.2.1 p.1.2.2.2.2.2.1 p.2.1.1 p.2.1.2.1 p.2.1.2.2.1 p.2.2.1.2.1 p.2.2.2.1.2.1 p.2.2.2.2.2.1 p.2.2.2.2.2.2.1 p.2.2.2.2.2.2.2.1 p.2.2.2.2.2.2.2.2.1⟩
abbrev made_l4_e0 : Leaf (List Int × Int × Int × Int × Int × List Int × List Qa × List Qa × List Int) := ⟨[.c [1, 1, 1, 1, 1, 1, 1, 0], .c [1, 1, 1, 1, 1, 1, 1, 1]], ⟨[4, 5], ⟨[.own 1 0, .own 2 0], [.segs [.sl (.int .u8), .i .i64, .i .u32], .segs [.nils, .i .i64, .nils, .nils, .nils], .segs [.ols 3, .i .i64, .ols 4, .ols 5, .ols 6], .lst (.int .i64), .lst Qb, .lst Qb, .lst (.int .i64)]⟩⟩, fun p => some ((p.2.1.1, p.2.1.2.1, p.2.1.2.2.1, p.2.2.1.2.1, p.2.2.2.1.2.1, p.2.2.2.2.1, p.2.2.2.2.2.1, p.2.2.2.2.2.2.1, p.2.2.2.2.2.2.2.1))⟩
noncomputable def made_l4_L (N : Nat) : LoopS := { at_ := made_l4_at, sta := made_l4_st, exits := [([.c [1, 1, 1, 1, 1, 1, 1, 0], .c [1, 1, 1, 1, 1, 1, 1, 1]], ⟨[4, 5], ⟨[.own 1 0, .own 2 0], [.segs [.sl (.int .u8), .i .i64, .i .u32], .segs [.nils, .i .i64, .nils, .nils, .nils], .segs [.ols 3, .i .i64, .ols 4, .ols 5, .ols 6], .lst (.int .i64), .lst Qb, .lst Qb, .lst (.int .i64)]⟩⟩)], run := fun p k => (made_l4 N N p.1.2.2.2.1 p.1.2.2.2.2.1 p.1.2.2.2.2.2.1 p.2.1.1 p.2.1.2.1 p.2.1.2.2.1 p.2.2.1.2.1 p.2.2.2.1.2.1 p.2.2.2.2.2.1 p.2.2.2.2.2.2.1 p.2.2.2.2.2.2.2.1 p.2.2.2.2.2.2.2.2.1).bind fun e => k (.inl (((), (), ()), ((e.1, e.2.1, e.2.2.1, ()), ((), e.2.2.2.1, (), (), (), ()), ((), e.2.2.2.2.1, (), (), (), ()), e.2.2.2.2.2.1, e.2.2.2.2.2.2.1, e.2.2.2.2.2.2.2.1, e.2.2.2.2.2.2.2.2, ()))) }
theorem made_l4_eq (N n_ : Nat) (often : Int) (u : Int) (u2 : Int) (value : List Int) (value2 : Int) (value3 : Int) (g : Int) (d : Int) (d2 : List Int) (d3 : List Qa) (d4 : List Qa) (d5 : List Int) : ev (Z := List Int × Int × Int × Int × Int × List Int × List Qa × List Qa × List Int) Try.prog (made_sp N) made_B [made_l1_L N, made_l3_L N, made_l2_L N, made_l5_L N] [made_l4_h (made_l4 N n_), made_l4_e0] none 400 true made_l4_at (stL made_l4_st (((), (), ((), ((), ())), often, u, u2, ()), ((value, value2, value3, ()), ((), g, (), (), (), ()), ((), d, (), (), (), ()), ((), ()), d2, d3, d4, d5, ()))) (stH made_l4_st (((), (), ((), ((), ())), often, u, u2, ()), ((value, value2, value3, ()), ((), g, (), (), (), ()), ((), d, (), (), (), ()), ((), ()), d2, d3, d4, d5, ()))) = made_l4 N (n_ + 1) often u u2 value value2 value3 g d d2 d3 d4 d5 := by kernel_rfl
theorem made_l4_ok (N : Nat) {top : Bool} : LoopOK Try.prog made_B.c made_B.n made_B.m0 top (made_l4_L N) := loop_of_ev (Z := List Int × Int × Int × Int × Int × List Int × List Qa × List Qa × List Int) (N := N) (fun m p => made_l4 N m p.1.2.2.2.1 p.1.2.2.2.2.1 p.1.2.2.2.2.2.1 p.2.1.1 p.2.1.2.1 p.2.1.2.2.1 p.2.2.1.2.1 p.2.2.2.1.2.1 p.2.2.2.2.2.1 p.2.2.2.2.2.2.1 p.2.2.2.2.2.2.2.1 p.2.2.2.2.2.2.2.2.1) (fun e => .inl (((), (), ()), ((e.1, e.2.1, e.2.2.1, ()), ((), e.2.2.2.1, (), (), (), ()), ((), e.2.2.2.2.1, (), (), (), ()), e.2.2.2.2.2.1, e.2.2.2.2.2.2.1, e.2.2.2.2.2.2.2.1, e.2.2.2.2.2.2.2.2, ()))) (fun _ _ _ => rfl) (fun _ => rfl) (fun m z E Xc hE hX hrec hx => leaf_of_ev (B := made_B) (loops := [made_l1_L N, made_l3_L N, made_l2_L N, made_l5_L N]) (leaves := [made_l4_h (made_l4 N m), made_l4_e0]) (made_all N) mixed ⟨made_l1_ok N, made_l3_ok N, made_l2_ok N, made_l5_ok N, trivial⟩ hE hX ⟨hrec, (fun p hp => by obtain rfl := Option.some.inj hp; exact hx), trivial⟩ RetOK.no (fun p => made_l4_eq N m p.1.2.2.2.1 p.1.2.2.2.2.1 p.1.2.2.2.2.2.1 p.2.1.1 p.2.1.2.1 p.2.1.2.2.1 p.2.2.1.2.1 p.2.2.2.1.2.1 p.2.2.2.2.2.1 p.2.2.2.2.2.2.1 p.2.2.2.2.2.2.2.1 p.2.2.2.2.2.2.2.2.1))
abbrev made_st : Sta := ⟨[0, 1], ⟨[.own 0 0, .i .i64], [.segs [.sl (.int .u8), .i .i64, .i .u32]]⟩⟩
theorem made_eq (N : Nat) (things : Int) (b : List Int) (b2 : Int) (b3 : Int) : ev (Z := List Int × Int × List Qa × List Qa × List Int × List Int × Int × Int) Try.prog (made_sp N) made_B [made_l1_L N, made_l3_L N, made_l2_L N, made_l5_L N, made_l4_L N] [] (some made_rt) 400 false [.c [0], .c [1]] (stL made_st (((), things, ()), ((b, b2, b3, ()), ()))) (stH made_st (((), things, ()), ((b, b2, b3, ()), ()))) = made_S N things b b2 b3 := by kernel_rfl
noncomputable def sp_made (N : Nat) : Spec := { f := 7, ins := ⟨[.own 0 0, .i .i64], [.segs [.sl (.int .u8), .i .i64, .i .u32]]⟩, outs := [⟨[.agg [.sl (.int .i64), .i .i64, .sl Qb, .sl Qb, .sl (.int .i64)]], [.segs [.sl (.int .u8), .i .i64, .i .u32]]⟩], run := fun p k => (made_S N p.1.2.1 p.2.1.1 p.2.1.2.1 p.2.1.2.2.1).bind fun r => k (((r.1, r.2.1, r.2.2.1, r.2.2.2.1, r.2.2.2.2.1, ()), ()), ((r.2.2.2.2.2.1, r.2.2.2.2.2.2.1, r.2.2.2.2.2.2.2, ()), ())) }
theorem sp_made_ok (N : Nat) : SpecOK Try.prog (sp_made N) := fn_sound (B := made_B) (loops := [made_l1_L N, made_l3_L N, made_l2_L N, made_l5_L N, made_l4_L N]) (leaves := []) (fun p => made_S N p.1.2.1 p.2.1.1 p.2.1.2.1 p.2.1.2.2.1) (fun r => (((r.1, r.2.1, r.2.2.1, r.2.2.2.1, r.2.2.2.2.1, ()), ()), ((r.2.2.2.2.2.1, r.2.2.2.2.2.2.1, r.2.2.2.2.2.2.2, ()), ()))) made_rt (fun _ _ _ => rfl) (fun r z h => by cases h; rfl) Try.func7 (by kernel_rfl) (by kernel_rfl) (by kernel_rfl) rfl rfl (by kernel_rfl) (fun args w => Sem.pv_run _ _ _ (by kernel_rfl) w) (made_all N) mixed ⟨made_l1_ok N, made_l3_ok N, made_l2_ok N, made_l5_ok N, made_l4_ok N, trivial⟩ (fun z E Xc hE hX hret => trivial) (fun p => made_eq N p.1.2.1 p.2.1.1 p.2.1.2.1 p.2.1.2.2.1)

end Go.Proofs.Ytgeijboidfadaaa.Fd

namespace Go.Proofs.Ytgeijboidfadaaa.Fd
set_option linter.all false
open Go

/-- A run ends well, with a result of which Q speaks. -/
def Ok {α : Type} (o : Option α) (Q : α → Prop) : Prop := ∃ x, o = some x ∧ Q x
section
variable {α β Z : Type} {Q : Z → Prop} {x y : Option Z}
theorem Ok.some {z : Z} (h : Q z) : Ok (some z) Q := ⟨z, rfl, h⟩
theorem Ok.bind {o : Option α} {P : α → Prop} {f : α → Option Z} (h : Ok o P) (k : ∀ a, P a → Ok (f a) Q) : Ok (o.bind f) Q := by
  obtain ⟨a, rfl, ha⟩ := h
  exact k a ha
theorem Ok.eqb {o : Option α} {a : α} {f : α → Option Z} (h : o = Option.some a) (k : Ok (f a) Q) : Ok (o.bind f) Q := by subst h; exact k
theorem Ok.mono {P : Z → Prop} (h : Ok x P) (k : ∀ a, P a → Q a) : Ok x Q := let ⟨a, e, p⟩ := h; ⟨a, e, k a p⟩
theorem Ok.br {c : Bool} (h1 : c = true → Ok x Q) (h2 : c = false → Ok y Q) : Ok (br c x y) Q := by
  cases c
  · exact h2 rfl
  · exact h1 rfl
theorem Ok.brd {p : Prop} [Decidable p] (h1 : p → Ok x Q) (h2 : ¬ p → Ok y Q) : Ok (Proofs.Ytgeijboidfadaaa.br (decide p) x y) Q := by
  by_cases h : p
  · simpa [h, Proofs.Ytgeijboidfadaaa.br] using h1 h
  · simpa [h, Proofs.Ytgeijboidfadaaa.br] using h2 h
theorem chk_eq {n : Int} (hn : -9223372036854775808 ≤ n ∧ n ≤ 9223372036854775807) : chk n x = x := by unfold chk; rw [okI_iff.2 hn]
theorem Ok.chk {n : Int} (hn : -9223372036854775808 ≤ n ∧ n ≤ 9223372036854775807) (h : Ok x Q) : Ok (chk n x) Q := by rw [chk_eq hn]; exact h
theorem grd_eq {c : Bool} (hc : c = true) : grd c x = x := by subst hc; rfl
theorem Ok.grd {c : Bool} (hc : c = true) (h : Ok x Q) : Ok (grd c x) Q := by subst hc; exact h
theorem rng_eq {i : Int} {n : Nat} (hi : 0 ≤ i ∧ i < n) : rng i n x = x := by unfold rng; rw [if_pos hi]
theorem Ok.rng {i : Int} {n : Nat} (hi : 0 ≤ i ∧ i < n) (h : Ok x Q) : Ok (rng i n x) Q := by rw [rng_eq hi]; exact h
theorem lim_eq {n : Nat} (hn : n ≤ 1000000) : lim n x = x := by unfold lim; rw [if_pos hn]
theorem Ok.lim {n : Nat} (hn : n ≤ 1000000) (h : Ok x Q) : Ok (lim n x) Q := by rw [lim_eq hn]; exact h
theorem idx_eq {l : List α} {i : Int} {f : α → Option Z} {a : α} (h0 : 0 ≤ i) (h : l[i.toNat]? = Option.some a) : idx l i f = f a := by unfold idx; rw [if_pos h0, h]
theorem idx_get {l : List α} {i : Int} {f : α → Option Z} (d : α) (h0 : 0 ≤ i) (h : i < l.length) : idx l i f = f (l.getD i.toNat d) := by
  refine idx_eq h0 ?_
  have : i.toNat < l.length := by omega
  simp [List.getD, this]
theorem Ok.idx {l : List α} {i : Int} {f : α → Option Z} (h0 : 0 ≤ i) (h : i < l.length) (k : ∀ a, l[i.toNat]? = Option.some a → a ∈ l → Ok (f a) Q) : Ok (idx l i f) Q := by
  have hlt : i.toNat < l.length := by omega
  have e : l[i.toNat]? = Option.some l[i.toNat] := List.getElem?_eq_getElem hlt
  rw [idx_eq h0 e]
  exact k _ e (List.getElem_mem hlt)
theorem get_eq {l : List α} {k : Nat} {f : α → Option Z} {a : α} (h : l[k]? = Option.some a) : get l k f = f a := by unfold get; rw [h]
theorem get_get {l : List α} {k : Nat} {f : α → Option Z} (d : α) (h : k < l.length) : get l k f = f (l.getD k d) := get_eq (by simp [List.getD, h])
theorem Ok.get {l : List α} {k : Nat} {f : α → Option Z} (h : k < l.length) (c : ∀ a, l[k]? = Option.some a → a ∈ l → Ok (f a) Q) : Ok (get l k f) Q := by
  have e : l[k]? = Option.some l[k] := List.getElem?_eq_getElem h
  rw [get_eq e]
  exact c _ e (List.getElem_mem h)
theorem br_false : br false x y = y := rfl
theorem br_dec {p : Prop} [Decidable p] (h : p) : br (decide p) x y = x := by simp [h, br]
theorem br_ndec {p : Prop} [Decidable p] (h : ¬ p) : br (decide p) x y = y := by simp [h, br]
theorem br_nd {p : Prop} [Decidable p] (h : p) : br (!decide p) x y = y := by simp [h, br]
theorem br_nnd {p : Prop} [Decidable p] (h : ¬ p) : br (!decide p) x y = x := by simp [h, br]
end
/-- A list of numbers from lo to hi. -/
def InR (lo hi : Int) (l : List Int) : Prop := ∀ x ∈ l, lo ≤ x ∧ x ≤ hi
theorem InR.append {lo hi : Int} {l : List Int} (h : InR lo hi l) {x : Int} (hx : lo ≤ x ∧ x ≤ hi) : InR lo hi (l ++ [x]) := by
  intro y hy
  rcases List.mem_append.1 hy with hy | hy
  · exact h y hy
  · simp at hy; subst hy; exact hx
theorem InR.drop {lo hi : Int} {l : List Int} (h : InR lo hi l) (n : Nat) : InR lo hi (l.drop n) := fun x hx => h x (List.mem_of_mem_drop hx)
theorem InR.nil {lo hi : Int} : InR lo hi [] := fun _ h => by cases h
theorem InR.mono {lo hi lo' hi' : Int} {l : List Int} (h : InR lo hi l) (h1 : lo' ≤ lo) (h2 : hi ≤ hi') : InR lo' hi' l := fun x hx => by have := h x hx; omega

/-! ### The first element that is so -/
def ixL {α : Type} (f : α → Option Bool) : Nat → List α → Int → Int → Option (Int ⊕ Unit)
  | 0, _, _, _ => none
  | n + 1, s, u, u2 => br (decide (u2 < u)) (idx s u2 fun x => (f x).bind fun c => br c (some (.inl u2)) (chk (u2 + 1) <| ixL f n s u (u2 + 1))) (some (.inr ()))
def ixS {α : Type} (f : α → Option Bool) (N : Nat) (s : List α) : Option Int := (ixL f N s (s.length : Int) 0).bind fun e => match e with
  | .inl i => some i
  | .inr _ => some (-1)
theorem ixL_ok {α : Type} {f : α → Option Bool} {p : α → Bool} {s : List α} (hf : ∀ x ∈ s, f x = some (p x)) (hs : s.length ≤ 1000000) : ∀ (n k : Nat), s.length < n + k → k ≤ s.length →
    Ok (ixL f n s (s.length : Int) (k : Int)) fun r => match r with | .inl i => (0 ≤ i ∧ i < s.length) ∧ (s.drop k).any p = true | .inr _ => (s.drop k).any p = false
  | 0, k, h, hk => by omega
  | n + 1, k, h, hk => by
    unfold ixL
    refine Ok.brd (fun h1 => ?_) (fun h1 => Ok.some ?_)
    · have hlt : k < s.length := by omega
      refine Ok.idx (by omega) h1 (fun a ha hm => ?_)
      have hd : s.drop k = a :: s.drop (k + 1) := by
        rw [List.drop_eq_getElem_cons hlt]
        have : s[k]? = some a := by simpa using ha
        rw [List.getElem?_eq_getElem hlt] at this
        simp only [Option.some.injEq] at this
        rw [this]
      refine Ok.eqb (hf a hm) (Ok.br (fun hp => Ok.some ?_) (fun hp => Ok.chk (by omega) ?_))
      · exact ⟨⟨by omega, by omega⟩, by rw [hd]; simp [hp]⟩
      · have := ixL_ok hf hs n (k + 1) (by omega) (by omega)
        rw [show ((k + 1 : Nat) : Int) = (k : Int) + 1 by omega] at this
        refine this.mono (fun r hr => ?_)
        rw [hd]
        cases r <;> simpa [hp] using hr
    · have : s.drop k = [] := List.drop_of_length_le (by omega)
      simp [this]
theorem ixS_any {α : Type} {f : α → Option Bool} {p : α → Bool} {s : List α} {N : Nat} (hf : ∀ x ∈ s, f x = some (p x)) (hs : s.length ≤ 1000000) (hN : s.length < N) : ((ixS f N s).bind fun x => some (decide (0 ≤ x))) = some (s.any p) := by
  obtain ⟨r, h1, h2⟩ := ixL_ok hf hs N 0 (by omega) (by omega)
  unfold ixS
  rw [show ((0 : Nat) : Int) = 0 from rfl] at h1
  rw [h1]
  cases r with
  | inl i => simp only [List.drop_zero] at h2; simp [h2.1.1, h2.2]
  | inr u => simp only [List.drop_zero] at h2; simp [h2]
theorem any_not {α : Type} (p : α → Bool) (s : List α) : (!(s.any fun x => !p x)) = s.all p := by
  induction s with
  | nil => rfl
  | cons a s ih => simp only [List.any_cons, List.all_cons, Bool.not_or, Bool.not_not, ih]
end Go.Proofs.Ytgeijboidfadaaa.Fd

namespace Go.Proofs.Ytgeijboidfadaaa.Fd
set_option linter.all false
open Go

theorem call_pure {P : Program} {s : Spec} (hok : SpecOK P s) (hb : s.ins.blks = []) {p : s.ins.den} {r : altD s.outs} (hr : s.run p some = some r) {M : Nat → Option Obj} {w : World} (hM : ∀ b o, M b = some o → w.heap[b]? = some o)
    {vs : List Value} (hv : RepVs ⟨fun _ => none, M⟩ (encs id s.ins.avs p.1) vs) : Fn P s.f vs.toArray w (fun v w' => Ext w w' ∧ ∃ g', RepV g' (resVal (encs id (altOf s.outs r).1.avs (altOf s.outs r).2.1)) v) := by
  have hh : ∀ i, hOf p.2 i = Option.none := fun i => by
    unfold hOf
    rw [List.getElem?_eq_none]
    rw [encBs_len, hb]; exact Nat.zero_le _
  have hs : Sim ⟨fun _ => none, M⟩ (hOf p.2) w := ⟨fun b o h => hM b o h, fun i k hk => (by rw [hh i] at hk; cases hk), fun i j ki kj b ci ni cj nj h1 => (by rw [hh i] at h1; cases h1)⟩
  refine Fn.mono (hok.fn p r hr ⟨fun _ => none, M⟩ w vs hv hs (fun _ _ => rfl)) ?_
  rintro v w' ⟨g', st, _, hv'⟩
  refine ⟨⟨st.os, st.tape, st.output, st.size, fun k hk _ => st.same k hk ?_⟩, g', hv'⟩
  rintro ⟨i, hi, _⟩
  rw [hb] at hi; simp at hi

/-- Some cells from one on. -/
def Cl (w : World) (b o : Nat) (vs : List Value) : Prop := ∀ (i : Nat) (v : Value), vs[i]? = some v → w.cell? ⟨b, o + i, none⟩ = some v
theorem Cl.cell {w : World} {b o i : Nat} {vs : List Value} {v : Value} (h : Cl w b o vs) (hi : vs[i]? = some v) : w.cell? ⟨b, o + i, none⟩ = some v := h i v hi
theorem Cl.of_seg {w : World} {b o : Nat} {ws us : List Value} {ty : TypeId} {z : Nat × Nat} (hb : w.heap[b]? = some (.cells ws.toArray ty z)) (h : Seg ws o us) : Cl w b o us := fun i v hi => by
  have := Seg.row hb h i v hi
  rwa [addr_add] at this

/-- Of numbers from one on those that are so. -/
def mayF (R : Nat → Bool) (m k : Nat) : List Nat := (List.range' k (m - k)).filter R
theorem mayF_yes {R : Nat → Bool} {m k : Nat} (h : k < m) (e : R k = true) : mayF R m k = k :: mayF R m (k + 1) := by
  unfold mayF
  rw [show m - k = (m - (k + 1)) + 1 by omega, List.range'_succ, List.filter_cons, if_pos e]
theorem mayF_no {R : Nat → Bool} {m k : Nat} (h : k < m) (e : R k = false) : mayF R m k = mayF R m (k + 1) := by
  unfold mayF
  rw [show m - k = (m - (k + 1)) + 1 by omega, List.range'_succ, List.filter_cons, if_neg (by simp [e])]
theorem mayF_end {R : Nat → Bool} {m k : Nat} (h : m ≤ k) : mayF R m k = [] := by
  unfold mayF
  rw [show m - k = 0 by omega]; rfl
theorem mem_mayF {R : Nat → Bool} {m k j : Nat} : j ∈ mayF R m k ↔ k ≤ j ∧ j < m ∧ R j = true := by
  unfold mayF
  rw [List.mem_filter, List.mem_range'_1]
  constructor
  · rintro ⟨⟨h1, h2⟩, h3⟩; exact ⟨h1, by omega, h3⟩
  · rintro ⟨h1, h2, h3⟩; exact ⟨⟨h1, by omega⟩, h3⟩
noncomputable def c123 : Code := (Try.f71.body).getD .skip
noncomputable def K123_0 : List Item := [.code (sub c123 [0]), .code (sub c123 [1])]
noncomputable def K123_1 : List Item := [.code (sub c123 [1, 0, 0, 0]), .code (sub c123 [1, 0, 0, 1]), .inLoop (sub c123 [1, 0, 0]), .inBlock 0]
noncomputable def K123_2 : List Item := [.code (sub c123 [1, 0, 0, 1, 0]), .code (sub c123 [1, 0, 0, 1, 1]), .inLoop (sub c123 [1, 0, 0]), .inBlock 0]
noncomputable def K123_3 : List Item := [.code (sub c123 [1, 0, 0, 1, 1, 0, 0, 0]), .code (sub c123 [1, 0, 0, 1, 1, 0, 0, 1]), .inBlock 1, .code (sub c123 [1, 0, 0, 1, 1, 1]), .inLoop (sub c123 [1, 0, 0]), .inBlock 0]
noncomputable def K123_4 : List Item := []
noncomputable def K123_5 : List Item := [.code (sub c123 [1, 0, 0, 1, 1, 0, 0, 1, 0]), .code (sub c123 [1, 0, 0, 1, 1, 0, 0, 1, 1]), .inBlock 1, .code (sub c123 [1, 0, 0, 1, 1, 1]), .inLoop (sub c123 [1, 0, 0]), .inBlock 0]
noncomputable def K123_6 : List Item := [.code (sub c123 [1, 0, 0, 1, 1, 0, 0, 1, 1]), .inBlock 1, .code (sub c123 [1, 0, 0, 1, 1, 1]), .inLoop (sub c123 [1, 0, 0]), .inBlock 0]
noncomputable def K123_7 : List Item := [.code (sub c123 [1, 0, 0, 1, 1, 0, 0, 1, 1, 0]), .inBlock 1, .code (sub c123 [1, 0, 0, 1, 1, 1]), .inLoop (sub c123 [1, 0, 0]), .inBlock 0]
noncomputable def K123_8 : List Item := [.code (sub c123 [1, 0, 0, 1, 1, 1]), .inLoop (sub c123 [1, 0, 0]), .inBlock 0]
/-- Whether two things can be joined. -/
def agD (d : Dk) (i k : Nat) : Int := d.2.2.2.2.2.1.getD (i * 6 + k) 0
def slD (d : Dk) (i k : Nat) : Int := d.2.2.2.2.2.2.1.getD (i * 6 + k) 0
def canD (d : Dk) (i k : Nat) : Bool := decide (0 < agD d i k) && decide (slD d i k ≤ d.2.1)
theorem can_v {N : Nat} {d : Dk} (hA : d.2.2.2.2.2.1.length = 36) (hS : d.2.2.2.2.2.2.1.length = 36) {i k : Nat} (hi : i < 6) (hk : k < 6) : can_S N d i k = some (canD d i k) := by
  unfold can_S canD agD slD
  rw [rng_eq (by omega), rng_eq (by omega)]
  simp only [Int.toNat_natCast]
  rw [get_get 0 (by omega)]
  by_cases c : 0 < d.2.2.2.2.2.1.getD (i * 6 + k) 0
  · rw [br_dec c, rng_eq (by omega), rng_eq (by omega), get_get 0 (by omega), decide_eq_true c]; rfl
  · rw [br_ndec c, decide_eq_false c]; rfl
def mayR (d d' : Dk) (lost : Int) : Option (List (Int × Unit)) :=
  if (0 ≤ lost ∧ lost < 6) ∧ d.2.2.2.1.length ≤ 6 ∧ d'.2.2.2.2.2.1.length = 36 ∧ d'.2.2.2.2.2.2.1.length = 36 then some ((mayF (canD d' lost.toNat) d.2.2.2.1.length 0).map fun (j : Nat) => ((j : Int), ())) else none
abbrev is_may : ISpec := { f := 71, cap := [.fz [shD], .fz [.fn 38 [shD] []], .fe (.int .i64)], elem := [.i .i64], run := fun p => mayR p.1.1 p.2.1.1.1.1 p.2.2.1 }
theorem inR_small {n : Int} (h : -1000000 ≤ n ∧ n ≤ 1000000) : inR .i64 n := inR_i64.2 (by omega)
end Go.Proofs.Ytgeijboidfadaaa.Fd

namespace Go.Proofs.Ytgeijboidfadaaa
set_option linter.all false
open Go

theorem Upd.trans_old {S T : List Nat} {a b c : World} (h : Upd S a b) (k : Upd T b c) (hT : ∀ x ∈ T, a.heap.size ≤ x) : Upd S a c :=
  ⟨k.os.trans h.os, k.tape.trans h.tape, k.output.trans h.output, Nat.le_trans h.size k.size, fun i hi hs => (k.same i (Nat.lt_of_lt_of_le hi h.size) (fun hk => by have := hT i hk; omega)).trans (h.same i hi hs)⟩
theorem repL_i2 {M : Nat → Option Obj} : ∀ (l : List Int) (vs : List Value), RepL M (.int .i64) l vs ↔ vs = l.map (.int .i64) ∧ ∀ x ∈ l, inR .i64 x
  | [], vs => by simp [RepL]
  | x :: l, vs => by
    simp only [RepL, RepC, List.map_cons, List.mem_cons, forall_eq_or_imp]
    constructor
    · rintro ⟨v1, v2, rfl, ⟨rfl, h1⟩, h2⟩
      obtain ⟨rfl, h3⟩ := (repL_i2 l v2).1 h2
      exact ⟨rfl, h1, h3⟩
    · rintro ⟨rfl, h1, h3⟩
      exact ⟨_, _, rfl, ⟨rfl, h1⟩, (repL_i2 l _).2 ⟨rfl, h3⟩⟩
end Go.Proofs.Ytgeijboidfadaaa

namespace Go.Proofs.Ytgeijboidfadaaa.Fd
set_option linter.all false
open Go

/-- A list of our own comes out of a call. -/
theorem own_new {y : Ty} {g : Gh} {w w' : World} {l : List y.den} {v : Value} {h0 : Nat → Option Blk'} (hs : Sim g h0 w) (hρ : ∀ i, g.ρ i = none) (hE : Ext w w') (hl : l.length ≤ 1000000)
    (hv : (v = .slice none 0 0 ∧ l = []) ∨ ∃ b c vs rest ty, v = .slice (some ⟨b, 0, none⟩) l.length c ∧ w.heap.size ≤ b ∧ Blk w' b (vs ++ rest) ty ∧ RepL g.M y l vs ∧ (l.length ≤ c ∧ c ≤ 9223372036854775807) ∧ rest.length = (c - l.length) * y.cells) :
    ∃ g', Stp (Sw g h0 (List.range 0)) (fun i => 0 ≤ i ∧ i < 1) g w g' w' ∧ Sim g' (fun i => ([.lst y l] : List Blk')[i]?) w' ∧ RepV g' (.ols 0) v := by
  have hlt : ∀ b o, g.M b = some o → b < w.heap.size := fun b o h => lt_of_blk (hs.mem b o h)
  have hsame : ∀ i, i < w.heap.size → w'.heap[i]? = w.heap[i]? := fun i hi => hE.same i hi (by simp)
  have key : ∀ x : Option (Nat × Nat × Nat), (∀ b c n, x = some (b, c, n) → w.heap.size ≤ b) → RepBlk (newG g 0 x) w' 0 (.lst y l) → RepV (newG g 0 x) (.ols 0) v →
      ∃ g', Stp (Sw g h0 (List.range 0)) (fun i => 0 ≤ i ∧ i < 1) g w g' w' ∧ Sim g' (fun i => ([.lst y l] : List Blk')[i]?) w' ∧ RepV g' (.ols 0) v := by
    intro x hx hB hV
    refine ⟨newG g 0 x, ⟨hE.os, hE.tape, hE.output, hE.size, fun i hi _ => hsame i hi, newG_ge (hρ 0), fun i h2 h3 => ?_, fun i b' c' n' h2 h3 => ?_, fun b' o h2 => .inl h2⟩, ⟨fun b' o h2 => ?_, fun i k hk => ?_, fun i j ki kj b ci ni cj nj hi hj mi mj ei ej => ?_⟩, hV⟩
    · by_cases e : i = 0
      · omega
      · simp only [newG, if_neg e] at h3
        exact absurd h2 h3
    · by_cases e : i = 0
      · subst e
        rw [newG_self] at h3
        exact .inl (hx _ _ _ (Option.some.inj h3))
      · simp only [newG, if_neg e] at h3
        rw [h2] at h3; cases h3
    · have h2' : g.M b' = some o := h2
      rw [hsame b' (hlt b' o h2')]
      exact hs.mem b' o h2'
    · match i, hk with
      | 0, hk => simp at hk; subst hk; exact hB
      | i + 1, hk => simp at hk
    · match i, j, hi, hj with
      | 0, 0, _, _ => rfl
      | i + 1, _, hi, _ => simp at hi
      | _, j + 1, _, hj => simp at hj
  rcases hv with ⟨rfl, rfl⟩ | ⟨b, c, vs, rest, ty, rfl, hb, hB, hR, hc, hr⟩
  · exact key none (fun _ _ _ h => by cases h) ⟨by simp, .inl ⟨newG_self _ _ _, rfl⟩⟩ (.inl ⟨newG_self _ _ _, rfl⟩)
  · have hMb : g.M b = none := by
      cases e : g.M b with
      | none => rfl
      | some o => have := hlt b o e; omega
    refine key (some (b, c, l.length)) (fun b' c' n' h => ?_) ⟨hl, .inr ⟨b, c, vs, rest, ty, newG_self _ _ _, hB, hR, hc, hr, hMb⟩⟩ (.inr ⟨b, c, l.length, newG_self _ _ _, rfl⟩)
    simp only [Option.some.injEq, Prod.mk.injEq] at h
    omega

/-! ### Clone -/
end Go.Proofs.Ytgeijboidfadaaa.Fd

namespace Go.Proofs.Ytgeijboidfadaaa.Fd
set_option linter.all false
open Go

set_option maxHeartbeats 400000 in
theorem may1_up (l bd od bc oc bl ol : Nat) (vd vd2 : Addr) (lost : Int) (m : Nat) (fs : Option Addr) (fc : Nat) (R : Nat → Bool) (S : List Nat) (J : List Nat → World → Prop) (Q : World → Prop) (w : World)
    (hbd : ∀ w', Upd (l :: S) w w' → Cl w' bd od [.pointer (some vd)]) (hbc : ∀ w', Upd (l :: S) w w' → Cl w' bc oc [(.func (.func 38) #[.pointer (some vd2)] #[])]) (hbl : ∀ w', Upd (l :: S) w w' → Cl w' bl ol [.int .i64 lost])
    (hfo : ∀ w', Upd (l :: S) w w' → w'.cell? (vd.add 3) = some (.slice fs m fc))
    (hcan : ∀ (k : Nat) w', k < m → Upd (l :: S) w w' → Fn Try.prog 38 #[.pointer (some vd2), .int .i64 lost, .int .i64 (↑k : Int)] w' (fun v w2 => Ext w' w2 ∧ v = .bool (R k)))
    (hm : m ≤ 1000000) (hJ : J (mayF R m 0) w) (hxJ : ∀ r, Stays w.heap.size (J r))
    (hy : ∀ k r w1, k ∈ mayF R m 0 → J (k :: r) w1 → Upd (l :: S) w w1 → Yield Try.prog l #[.int .i64 ↑k] w1 (fun v w2 => Upd (l :: S) w w2 ∧ ((v = .bool true ∧ J r w2) ∨ (v = .bool false ∧ Q w2)))) :
    Fn Try.prog 71 #[(.func (.yield l) #[] #[]), (.pointer (some ⟨bd, od, none⟩)), (.pointer (some ⟨bc, oc, none⟩)), (.pointer (some ⟨bl, ol, none⟩))] w (fun _ w' => Upd (l :: S) w w' ∧ (J [] w' ∨ Q w')) := by
  refine Fn.ofSt (c := c123) 26 K123_0 [(0, (.func (.yield l) #[] #[])), (1, (.pointer (some ⟨bd, od, none⟩))), (2, (.pointer (some ⟨bc, oc, none⟩))), (3, (.pointer (some ⟨bl, ol, none⟩)))] Try.func71 (by kernel_rfl) ⟨⟨rfl, by kernel_rfl⟩, by kernel_rfl⟩ (by kernel_rfl) ?_
  intro cs
  refine St.reg K123_1 [(0, true), (1, true), (2, true), (3, true), (4, true), (5, true), (6, true)] (by kernel_rfl) (by kernel_rfl) ?_
  refine RX.q 7 [(0, true, (.pointer (some vd))), (4, true, (.slice fs m fc))] [(0, (.func (.yield l) #[] #[])), (1, (.pointer (some ⟨bd, od, none⟩))), (2, (.pointer (some ⟨bc, oc, none⟩))), (3, (.pointer (some ⟨bl, ol, none⟩))), (11, (.int .i64 (↑m : Int))), (12, (.int .i64 0))] [.cell ⟨bd, od + 0, none⟩ (.pointer (some vd)), .cell (vd.add 3) (.slice fs m fc)] (by kernel_rfl) ⟨Cl.cell (hbd w (Upd.refl _ w)) rfl, hfo w (Upd.refl _ w)⟩ ?_
  refine RX.done [(0, (.func (.yield l) #[] #[])), (1, (.pointer (some ⟨bd, od, none⟩))), (2, (.pointer (some ⟨bc, oc, none⟩))), (3, (.pointer (some ⟨bl, ol, none⟩))), (11, (.int .i64 (↑m : Int))), (12, (.int .i64 0))] (by kernel_rfl) (by kernel_rfl) ?_
  have loop1 : ∀ (N : Nat) (k : Nat) (w2 : World), k ≤ m → (J (mayF R m k) w2) → (Upd (l :: S) w w2) → N = m - k → St Try.prog (fctx Try.prog 71 (fun _ w' => Upd (l :: S) w w' ∧ (J [] w' ∨ Q w')) cs) 26 K123_1 [(12, (.int .i64 (↑k : Int))), (11, (.int .i64 (↑m : Int))), (0, (.func (.yield l) #[] #[])), (1, (.pointer (some ⟨bd, od, none⟩))), (2, (.pointer (some ⟨bc, oc, none⟩))), (3, (.pointer (some ⟨bl, ol, none⟩)))] [] w2 := by
    intro N3
    induction N3 using Nat.strongRecOn with
    | ind N3 ih4 => ?_
    intro k w2 hk hJk hE hN5
    refine St.reg K123_2 [(0, true)] (by kernel_rfl) (by kernel_rfl) ?_
    refine RX.q 1 [] [(0, (.func (.yield l) #[] #[])), (1, (.pointer (some ⟨bd, od, none⟩))), (2, (.pointer (some ⟨bc, oc, none⟩))), (3, (.pointer (some ⟨bl, ol, none⟩))), (11, (.int .i64 (↑m : Int))), (12, (.int .i64 (↑k : Int))), (13, (.bool (decide ((↑k : Int) < (↑m : Int)))))] [] (by kernel_rfl) trivial ?_
    refine RX.done [(0, (.func (.yield l) #[] #[])), (1, (.pointer (some ⟨bd, od, none⟩))), (2, (.pointer (some ⟨bc, oc, none⟩))), (3, (.pointer (some ⟨bl, ol, none⟩))), (11, (.int .i64 (↑m : Int))), (12, (.int .i64 (↑k : Int))), (13, (.bool (decide ((↑k : Int) < (↑m : Int)))))] (by kernel_rfl) (by kernel_rfl) ?_
    refine St.cond (k1 := K123_3) (k2 := K123_4) (decide ((↑k : Int) < (↑m : Int))) (by kernel_rfl) (fun hc7 => ?_) (fun hc7 => ?_)
    · have hh8 : (↑k : Int) < (↑m : Int) := by simpa using hc7
      clear hc7
      refine St.weak (L' := [(12, (.int .i64 (↑k : Int))), (11, (.int .i64 (↑m : Int))), (0, (.func (.yield l) #[] #[])), (1, (.pointer (some ⟨bd, od, none⟩))), (2, (.pointer (some ⟨bc, oc, none⟩))), (3, (.pointer (some ⟨bl, ol, none⟩)))]) (by kernel_rfl) ?_
      refine St.reg K123_5 [(0, true), (1, true)] (by kernel_rfl) (by kernel_rfl) ?_
      refine RX.q 2 [] [(0, (.func (.yield l) #[] #[])), (1, (.pointer (some ⟨bd, od, none⟩))), (2, (.pointer (some ⟨bc, oc, none⟩))), (3, (.pointer (some ⟨bl, ol, none⟩))), (11, (.int .i64 (↑m : Int))), (12, (.int .i64 (↑k : Int))), (5, (.int .i64 (↑k : Int)))] [] (by kernel_rfl) trivial ?_
      refine RX.done [(0, (.func (.yield l) #[] #[])), (1, (.pointer (some ⟨bd, od, none⟩))), (2, (.pointer (some ⟨bc, oc, none⟩))), (3, (.pointer (some ⟨bl, ol, none⟩))), (11, (.int .i64 (↑m : Int))), (12, (.int .i64 (↑k : Int))), (5, (.int .i64 (↑k : Int)))] (by kernel_rfl) (by kernel_rfl) ?_
      refine St.reg K123_6 [(0, true), (1, true), (2, true), (3, false), (4, true), (5, true), (6, true), (7, false), (8, true), (9, true)] (by kernel_rfl) (by kernel_rfl) ?_
      refine RX.q 3 [(0, true, (.func (.func 38) #[.pointer (some vd2)] #[])), (1, true, (.int .i64 lost))] [(0, (.func (.yield l) #[] #[])), (1, (.pointer (some ⟨bd, od, none⟩))), (2, (.pointer (some ⟨bc, oc, none⟩))), (3, (.pointer (some ⟨bl, ol, none⟩))), (11, (.int .i64 (↑m : Int))), (12, (.int .i64 (↑k : Int))), (5, (.int .i64 (↑k : Int))), (15, (.func (.func 38) #[.pointer (some vd2)] #[])), (16, (.int .i64 lost)), (17, (.int .i64 (↑k : Int)))] [.cell ⟨bc, oc + 0, none⟩ (.func (.func 38) #[.pointer (some vd2)] #[]), .cell ⟨bl, ol + 0, none⟩ (.int .i64 lost)] (by kernel_rfl) ⟨Cl.cell (hbc w2 hE) rfl, Cl.cell (hbl w2 hE) rfl⟩ ?_
      refine RX.call 18 38 #[.pointer (some vd2), (.int .i64 lost), (.int .i64 (↑k : Int))] [(0, (.func (.yield l) #[] #[])), (1, (.pointer (some ⟨bd, od, none⟩))), (2, (.pointer (some ⟨bc, oc, none⟩))), (3, (.pointer (some ⟨bl, ol, none⟩))), (11, (.int .i64 (↑m : Int))), (12, (.int .i64 (↑k : Int))), (5, (.int .i64 (↑k : Int))), (15, (.func (.func 38) #[.pointer (some vd2)] #[])), (16, (.int .i64 lost)), (17, (.int .i64 (↑k : Int)))] (fun _ => by kernel_rfl) (by kernel_rfl) ?_
      refine Fn.mono (hcan k w2 (by omega) hE) ?_
      rintro _ w4 ⟨hx4, rfl⟩
      have hE4 : Upd (l :: S) w w4 := Upd.ext hE hx4
      have hJ4 : J (mayF R m k) w4 := Stays.ext (hxJ _) hJk hx4
      cases hR : R k with
      | true =>
        refine RX.q 3 [] [(0, (.func (.yield l) #[] #[])), (1, (.pointer (some ⟨bd, od, none⟩))), (2, (.pointer (some ⟨bc, oc, none⟩))), (3, (.pointer (some ⟨bl, ol, none⟩))), (11, (.int .i64 (↑m : Int))), (12, (.int .i64 (↑k : Int))), (19, (.bool true)), (20, (.func (.yield l) #[] #[])), (21, (.int .i64 (↑k : Int)))] [] (by kernel_rfl) trivial ?_
        rw [mayF_yes (by omega) hR] at hJ4
        refine RX.yield 22 l #[(.int .i64 (↑k : Int))] [(0, (.func (.yield l) #[] #[])), (1, (.pointer (some ⟨bd, od, none⟩))), (2, (.pointer (some ⟨bc, oc, none⟩))), (3, (.pointer (some ⟨bl, ol, none⟩))), (11, (.int .i64 (↑m : Int))), (12, (.int .i64 (↑k : Int))), (19, (.bool true)), (20, (.func (.yield l) #[] #[])), (21, (.int .i64 (↑k : Int)))] (by kernel_rfl) ?_
        refine Yield.mono (hy k _ w4 (mem_mayF.2 ⟨by omega, by omega, hR⟩) hJ4 hE4) ?_
        rintro _ w5 ⟨hu5, ⟨rfl, hv⟩ | ⟨rfl, hv⟩⟩
        · refine RX.q 2 [] [(0, (.func (.yield l) #[] #[])), (1, (.pointer (some ⟨bd, od, none⟩))), (2, (.pointer (some ⟨bc, oc, none⟩))), (3, (.pointer (some ⟨bl, ol, none⟩))), (11, (.int .i64 (↑m : Int))), (12, (.int .i64 (↑k : Int))), (24, (.bool false))] [] (by kernel_rfl) trivial ?_
          refine RX.done [(0, (.func (.yield l) #[] #[])), (1, (.pointer (some ⟨bd, od, none⟩))), (2, (.pointer (some ⟨bc, oc, none⟩))), (3, (.pointer (some ⟨bl, ol, none⟩))), (11, (.int .i64 (↑m : Int))), (12, (.int .i64 (↑k : Int))), (24, (.bool false))] (by kernel_rfl) (by kernel_rfl) ?_
          refine St.cond (k1 := K123_7) (k2 := K123_8) false (by kernel_rfl) (fun hc => ?_) (fun hc => ?_)
          · cases hc
          · clear hc
            refine St.weak (L' := [(12, (.int .i64 (↑k : Int))), (11, (.int .i64 (↑m : Int))), (0, (.func (.yield l) #[] #[])), (1, (.pointer (some ⟨bd, od, none⟩))), (2, (.pointer (some ⟨bc, oc, none⟩))), (3, (.pointer (some ⟨bl, ol, none⟩)))]) (by kernel_rfl) ?_
            refine St.reg K123_1 [(0, true), (1, true)] (by kernel_rfl) (by kernel_rfl) ?_
            refine RX.q 2 [(0, false, (.int .i64 ((↑k : Int) + 1)))] [(0, (.func (.yield l) #[] #[])), (1, (.pointer (some ⟨bd, od, none⟩))), (2, (.pointer (some ⟨bc, oc, none⟩))), (3, (.pointer (some ⟨bl, ol, none⟩))), (11, (.int .i64 (↑m : Int))), (12, (.int .i64 ((↑k : Int) + 1)))] [.eq (.int .i64 (IntKind.i64.wrap ((↑k : Int) + 1))) (.int .i64 ((↑k : Int) + 1))] (by kernel_rfl) (int64 (by omega)) ?_
            refine RX.done [(0, (.func (.yield l) #[] #[])), (1, (.pointer (some ⟨bd, od, none⟩))), (2, (.pointer (some ⟨bc, oc, none⟩))), (3, (.pointer (some ⟨bl, ol, none⟩))), (11, (.int .i64 (↑m : Int))), (12, (.int .i64 ((↑k : Int) + 1)))] (by kernel_rfl) (by kernel_rfl) ?_
            refine St.weak (by kernel_rfl) (ih4 _ ?_ (k + 1) w5 (by omega) hv hu5 rfl)
            omega
        · refine RX.q 2 [] [(0, (.func (.yield l) #[] #[])), (1, (.pointer (some ⟨bd, od, none⟩))), (2, (.pointer (some ⟨bc, oc, none⟩))), (3, (.pointer (some ⟨bl, ol, none⟩))), (11, (.int .i64 (↑m : Int))), (12, (.int .i64 (↑k : Int))), (24, (.bool true))] [] (by kernel_rfl) trivial ?_
          refine RX.done [(0, (.func (.yield l) #[] #[])), (1, (.pointer (some ⟨bd, od, none⟩))), (2, (.pointer (some ⟨bc, oc, none⟩))), (3, (.pointer (some ⟨bl, ol, none⟩))), (11, (.int .i64 (↑m : Int))), (12, (.int .i64 (↑k : Int))), (24, (.bool true))] (by kernel_rfl) (by kernel_rfl) ?_
          refine St.cond (k1 := K123_7) (k2 := K123_8) true (by kernel_rfl) (fun hc => ?_) (fun hc => ?_)
          · clear hc
            refine St.weak (L' := []) (by kernel_rfl) ?_
            refine St.ret [] [] (by kernel_rfl) Try.func71 (by kernel_rfl) .nil ?_
            exact ⟨hu5, .inr hv⟩
          · cases hc
      | false =>
        refine RX.q 3 [] [(0, (.func (.yield l) #[] #[])), (1, (.pointer (some ⟨bd, od, none⟩))), (2, (.pointer (some ⟨bc, oc, none⟩))), (3, (.pointer (some ⟨bl, ol, none⟩))), (11, (.int .i64 (↑m : Int))), (12, (.int .i64 (↑k : Int))), (19, (.bool false)), (20, undef), (21, undef)] [] (by kernel_rfl) trivial ?_
        refine RX.skip [(0, (.func (.yield l) #[] #[])), (1, (.pointer (some ⟨bd, od, none⟩))), (2, (.pointer (some ⟨bc, oc, none⟩))), (3, (.pointer (some ⟨bl, ol, none⟩))), (11, (.int .i64 (↑m : Int))), (12, (.int .i64 (↑k : Int))), (19, (.bool false)), (20, undef), (21, undef), (22, undef)] (by kernel_rfl) ?_
        refine RX.q 2 [] [(0, (.func (.yield l) #[] #[])), (1, (.pointer (some ⟨bd, od, none⟩))), (2, (.pointer (some ⟨bc, oc, none⟩))), (3, (.pointer (some ⟨bl, ol, none⟩))), (11, (.int .i64 (↑m : Int))), (12, (.int .i64 (↑k : Int))), (24, (.bool false))] [] (by kernel_rfl) trivial ?_
        refine RX.done [(0, (.func (.yield l) #[] #[])), (1, (.pointer (some ⟨bd, od, none⟩))), (2, (.pointer (some ⟨bc, oc, none⟩))), (3, (.pointer (some ⟨bl, ol, none⟩))), (11, (.int .i64 (↑m : Int))), (12, (.int .i64 (↑k : Int))), (24, (.bool false))] (by kernel_rfl) (by kernel_rfl) ?_
        refine St.cond (k1 := K123_7) (k2 := K123_8) false (by kernel_rfl) (fun hc => ?_) (fun hc => ?_)
        · cases hc
        · clear hc
          refine St.weak (L' := [(12, (.int .i64 (↑k : Int))), (11, (.int .i64 (↑m : Int))), (0, (.func (.yield l) #[] #[])), (1, (.pointer (some ⟨bd, od, none⟩))), (2, (.pointer (some ⟨bc, oc, none⟩))), (3, (.pointer (some ⟨bl, ol, none⟩)))]) (by kernel_rfl) ?_
          refine St.reg K123_1 [(0, true), (1, true)] (by kernel_rfl) (by kernel_rfl) ?_
          refine RX.q 2 [(0, false, (.int .i64 ((↑k : Int) + 1)))] [(0, (.func (.yield l) #[] #[])), (1, (.pointer (some ⟨bd, od, none⟩))), (2, (.pointer (some ⟨bc, oc, none⟩))), (3, (.pointer (some ⟨bl, ol, none⟩))), (11, (.int .i64 (↑m : Int))), (12, (.int .i64 ((↑k : Int) + 1)))] [.eq (.int .i64 (IntKind.i64.wrap ((↑k : Int) + 1))) (.int .i64 ((↑k : Int) + 1))] (by kernel_rfl) (int64 (by omega)) ?_
          refine RX.done [(0, (.func (.yield l) #[] #[])), (1, (.pointer (some ⟨bd, od, none⟩))), (2, (.pointer (some ⟨bc, oc, none⟩))), (3, (.pointer (some ⟨bl, ol, none⟩))), (11, (.int .i64 (↑m : Int))), (12, (.int .i64 ((↑k : Int) + 1)))] (by kernel_rfl) (by kernel_rfl) ?_
          refine St.weak (by kernel_rfl) (ih4 _ ?_ (k + 1) w4 (by omega) (by rw [← mayF_no (by omega) hR]; exact hJ4) hE4 rfl)
          omega
    · have hh52 : (↑m : Int) ≤ (↑k : Int) := by simpa using hc7
      clear hc7
      refine St.weak (L' := []) (by kernel_rfl) ?_
      refine St.ret [] [] (by kernel_rfl) Try.func71 (by kernel_rfl) .nil ?_
      refine ⟨hE, .inl ?_⟩
      rw [← mayF_end (R := R) (m := m) (k := k) (by omega)]; exact hJk
  exact St.weak (by kernel_rfl) (loop1 _ 0 w (by omega) hJ (Upd.refl (l :: S) w) rfl)
/-- As the contract of may, but rounds may write what was new when the range began. -/
theorem is_may_up : ∀ (p : Shs.den is_may.cap) (es : List (Shs.den is_may.elem)), is_may.run p = some es → ∀ (g : Gh) (vs : List Value), RepVs g (encs id is_may.cap p) vs →
    ∀ (l : Nat) (S : List Nat) (J : List (Shs.den is_may.elem) → World → Prop) (Q : World → Prop) (w : World), (∀ b o, g.M b = some o → b ∉ l :: S ∧ w.heap[b]? = some o) → (∀ k ∈ l :: S, k < w.heap.size) → J es w → (∀ r, Stays w.heap.size (J r)) → Stays w.heap.size Q →
      (∀ m r w1 us, J (m :: r) w1 → Upd (l :: S) w w1 → RepVs g00 (encs id is_may.elem m) us → Yield Try.prog l us.toArray w1 (fun v w2 => Upd (l :: S) w w2 ∧ ((v = .bool true ∧ J r w2) ∨ (v = .bool false ∧ Q w2)))) →
      Fn Try.prog 71 (#[.func (.yield l) #[] #[]] ++ vs.toArray) w (fun _ w' => Upd (l :: S) w w' ∧ (J [] w' ∨ Q w')) := by
  intro p es hes g vs hvs l S J Q w hM hS hJ hxJ hxQ hy
  obtain ⟨⟨d, ⟨⟩⟩, ⟨⟨⟨d', ⟨⟩⟩, ⟨⟩⟩, ⟨⟩⟩, lost, ⟨⟩⟩ := p
  simp only [mayR] at hes
  split at hes
  rotate_left
  · cases hes
  rename_i hc
  simp only [Option.some.injEq] at hes
  subst hes
  obtain ⟨⟨ha0, ha1⟩, hf, hA, hS'⟩ := hc
  obtain ⟨i, rfl⟩ : ∃ n : Nat, lost = n := ⟨lost.toNat, (Int.toNat_of_nonneg ha0).symm⟩
  simp only [Int.toNat_natCast] at hJ ⊢
  simp only [encs, enc, RepVs, RepV] at hvs
  obtain ⟨v1, r1, rfl, ⟨bd, od, wd, td, ud, rfl, hbd, hsd, hcd⟩, v2, r2, rfl, ⟨bc, oc, wc, tc, uc, rfl, hbc, hsc, hcc⟩, v3, r3, rfl, ⟨bl, ol, wl, tl, ul, rfl, hbl, hsl, hcl⟩, rfl⟩ := hvs
  obtain ⟨rfl, hin⟩ := hcl
  obtain ⟨x1, x2, rfl, ⟨x3, rfl, hx⟩, rfl⟩ := hcd
  simp only [RepV] at hx
  obtain ⟨bo, oo, wo, to, uo, rfl, hbo, hso, hco⟩ := hx
  obtain ⟨y1, y2, rfl, ⟨y3, rfl, hy'⟩, rfl⟩ := hcc
  simp only [RepV, RepVs] at hy'
  obtain ⟨va, vc, rfl, ⟨z1, z2, rfl, ⟨be, oe, we, te, ue, rfl, hbe, hse, hce⟩, rfl⟩, rfl⟩ := hy'
  simp only [RepPs, PartOf, RepV] at hco
  obtain ⟨p1, q1, rfl, ⟨e1, rfl, h1⟩, p2, q2, rfl, ⟨e2, rfl, h2⟩, p3, q3, rfl, ⟨e3, rfl, h3⟩, p4, q4, rfl, ⟨e4, rfl, h4⟩, hrest⟩ := hco
  obtain ⟨hl4, fa, fc, rfl, hfc, hf4⟩ := h4
  have hmem : ∀ w', Upd (l :: S) w w' → ∀ b o, g.M b = some o → w'.heap[b]? = some o := fun w' hu b o hb => hu.blk (hM b o hb).2 (hM b o hb).1
  have hrd : RepV ⟨fun _ => none, g.M⟩ (enc id shD d') (.pointer (some ⟨be, oe, none⟩)) := ⟨be, oe, we, te, ue, rfl, hbe, hse, hce⟩
  have hfn := may1_up l bd od bc oc bl ol ⟨bo, oo, none⟩ ⟨be, oe, none⟩ (i : Int) d.2.2.2.1.length fa fc (canD d' i) S (fun r => J (r.map fun (j : Nat) => ((j : Int), ()))) Q w
    (fun w' hu => Cl.of_seg (hmem w' hu _ _ hbd) hsd) (fun w' hu => Cl.of_seg (hmem w' hu _ _ hbc) hsc) (fun w' hu => Cl.of_seg (hmem w' hu _ _ hbl) hsl)
    (fun w' hu => Cl.cell (Cl.of_seg (hmem w' hu _ _ hbo) hso) (i := 3) rfl)
    (fun k w' h1 hu => Fn.mono (call_pure (sp_can_ok 200) rfl (p := ((d', ((i : Int), ((k : Int), ()))), ())) (r := ((canD d' i k, ()), ())) (by
        show ((can_S 200 d' i k).bind fun r => some ((r, ()), ())) = _
        rw [can_v hA hS' (by omega) (by omega)]; rfl) (hmem w' hu) ⟨_, _, rfl, hrd, _, _, rfl, ⟨rfl, (show inR .i64 (i : Int) from inR_small (by omega))⟩, _, _, rfl, ⟨rfl, (show inR .i64 (k : Int) from inR_small (by omega))⟩, rfl⟩) (fun v w2 ⟨h1, g', h2⟩ => ⟨h1, by
      simp only [altOf, encs, enc, resVal, RepV] at h2
      exact h2⟩))
    (by omega) hJ (fun r => hxJ _) (fun m r w1 hm hj hu => hy ((m : Int), ()) (r.map fun (j : Nat) => ((j : Int), ())) w1 [.int .i64 (m : Int)] hj hu ⟨_, _, rfl, ⟨rfl, inR_small (by have := (mem_mayF.1 hm).2.1; omega)⟩, rfl⟩)
  exact hfn
noncomputable def c128 : Code := (Try.f70.body).getD .skip
noncomputable def K128_0 : List Item := [.code (sub c128 [0]), .code (sub c128 [1])]
noncomputable def K128_1 : List Item := [.code (sub c128 [1, 0, 0]), .code (sub c128 [1, 0, 1]), .code (sub c128 [1, 1])]
noncomputable def K128_2 : List Item := [.code (sub c128 [1, 0, 1, 0]), .inBlock 0, .code (sub c128 [1, 1])]
noncomputable def K128_3 : List Item := [.code (sub c128 [1, 1, 0]), .code (sub c128 [1, 1, 1])]
noncomputable def K128_4 : List Item := [.code (sub c128 [1, 1, 1])]
noncomputable def K128_a : List Item := [.code (sub c128 [1, 0, 1, 0, 0]), .beginRound, .code (sub c128 [1, 0, 1, 0, 1])]
noncomputable def K128_b : List Item := [.beginRound, .code (sub c128 [1, 0, 1, 0, 1])]
noncomputable def K128_c : List Item := [.code (sub c128 [1, 0, 1, 0, 1, 0]), .inBlock 1]
/-- What has been appended, and what is still to come. -/
def AppJ (all : List Int) (bc D lo : Nat) (tm : Array Value) (w0 : World) (es : List Int) (w : World) : Prop :=
  ∃ (l : List Int) (v : Value) (ab : List Nat), all = l ++ es ∧ Blk w bc [v] 23 ∧ Acc 3 1 lo w v l.length (l.map (.int .i64)) ab ∧
    w.heap[D + 1]? = some (.loop (lrec 70 tm #[7] (sub c128 [1, 0, 1, 0, 0]) (sub c128 [1, 0, 1, 0, 1]) D .ready none))
set_option maxHeartbeats 1000000 in
theorem appseq_fn {p : Shs.den is_may.cap} {es : List (Int × Unit)} (hes : is_may.run p = some es) (hlen : es.length ≤ 1000000) (g : Gh) (vc : List Value) (hvc : RepVs g (encs id is_may.cap p) vc) (w : World) (hM : ∀ b o, g.M b = some o → w.heap[b]? = some o) :
    Fn Try.prog 70 #[.slice none 0 0, .func (.func 71) #[] vc.toArray] w (fun v w' => Ext w w' ∧ ∃ ab, Acc 3 1 w.heap.size w' v es.length ((es.map (·.1)).map (.int .i64)) ab) := by
  have hMb : ∀ b o, g.M b = some o → b < w.heap.size := fun b o h => lt_of_blk (hM b o h)
  obtain ⟨hue, hel, by_, zv, hT, hZ⟩ := elemT_of (P := Try.prog) (t := 23) (e := 3) (y := .int .i64) (by kernel_rfl)
  have hT : ElemT Try.prog 23 3 1 by_ zv := hT
  refine Fn.ofSt (c := c128) 13 K128_0 [(0, .slice none 0 0), (1, .func (.func 71) #[] vc.toArray)] Try.func70 (by kernel_rfl) ⟨⟨rfl, by kernel_rfl⟩, by kernel_rfl⟩ (by kernel_rfl) ?_
  intro cs
  refine St.reg K128_1 [(0, false), (1, true)] (by kernel_rfl) (by kernel_rfl) ?_
  refine RX.new 2 (.cells #[.slice none 0 0] 23) .ptr [(0, .slice none 0 0), (1, .func (.func 71) #[] vc.toArray)] (by kernel_rfl) ?_
  intro bc w1 hn1
  have hsz1 := hn1.size; have hat1 := hn1.at_
  have hb1 : Blk w1 bc [.slice none 0 0] 23 := hn1.blk
  refine RX.q 1 [] [(1, .func (.func 71) #[] vc.toArray), (2, .pointer (some ⟨bc, 0, none⟩))] [] (by kernel_rfl) trivial ?_
  refine RX.done [(1, .func (.func 71) #[] vc.toArray), (2, .pointer (some ⟨bc, 0, none⟩))] (by kernel_rfl) (by kernel_rfl) ?_
  refine St.reg K128_2 [(0, true)] (by kernel_rfl) (by kernel_rfl) ?_
  refine RX.q 1 [] [(6, .func (.func 71) #[] vc.toArray), (2, .pointer (some ⟨bc, 0, none⟩))] [] (by kernel_rfl) trivial ?_
  refine RX.done [(6, .func (.func 71) #[] vc.toArray), (2, .pointer (some ⟨bc, 0, none⟩))] (by kernel_rfl) (by kernel_rfl) ?_
  refine St.rangeFunc (g := .tmp 6) (ps := #[7]) (assign := (sub c128 [1, 0, 1, 0, 0])) (body := (sub c128 [1, 0, 1, 0, 1])) (k := K128_2.tail) 71 #[] vc.toArray rfl (by kernel_rfl) (by kernel_rfl) (fun _ => by kernel_rfl) ?_
  intro tm w2 htm hx2 hsz2 hD hL
  obtain ⟨D, hDe⟩ : ∃ D, D = w1.heap.size := ⟨_, rfl⟩
  rw [← hDe] at hsz2 hD hL ⊢
  have hl : w2.heap[D + 1]? = some (.loop (lrec 70 tm #[7] (sub c128 [1, 0, 1, 0, 0]) (sub c128 [1, 0, 1, 0, 1]) D .ready none)) := hL
  have hb2 : Blk w2 bc [.slice none 0 0] 23 := Ext.blk hx2 hb1
  have hE2 : Ext w w2 := hn1.ext.trans hx2
  have hsz := hE2.size
  have hfn := is_may_up p es hes g vc hvc (D + 1) [bc] (fun r wv => AppJ (es.map (·.1)) bc D w2.heap.size tm w2 (r.map (·.1)) wv) (fun _ => False) w2
    (fun b o h => ⟨fun hm => by have := hMb b o h; simp at hm; omega, Ext.blk hE2 (hM b o h)⟩) (fun k hk => by simp at hk; omega)
    ⟨[], .slice none 0 0, [], rfl, hb2, Acc.nil 3 1 _ _, hl⟩ ?_ (fun _ _ _ h _ _ => h) ?_
  rotate_left
  · -- blocks that the function that is ranged over may change
    rintro r wa wb T ⟨l, v, ab, e1, h1, h2, h3⟩ hu hT
    refine ⟨l, v, ab, e1, hu.blk h1 (fun hk => by have := (hT _ hk).1; omega), h2.upd hu (fun k hk hkT => ?_), hu.blk h3 (fun hk => by have := (hT _ hk).1; omega)⟩
    obtain ⟨h4, h5⟩ := h2
    rcases h5 with ⟨_, _, rfl⟩ | ⟨b, cap, rest, _, rfl, _, _, _, ty, hB⟩
    · cases hk
    · simp at hk
      subst hk
      exact (hT _ hkT).2 _ _ _ hB
  · -- a round
    rintro ⟨x, ⟨⟩⟩ r wa us ⟨l, v, ab, e1, h1, h2, h3⟩ hU hus
    simp only [encs, enc, RepVs, RepV] at hus
    obtain ⟨v1, us', rfl, ⟨rfl, hx⟩, rfl⟩ := hus
    have hszU := hU.size
    have habl := h2.lt
    refine Yield.one K128_a [(7, .int .i64 x), (6, .func (.func 71) #[] vc.toArray), (2, .pointer (some ⟨bc, 0, none⟩))] h3 htm (by kernel_rfl) (by kernel_rfl) (fun c cs => ?_)
    refine St.reg K128_b [(0, true)] (by kernel_rfl) (by kernel_rfl) ?_
    refine RX.q 1 [] [(5, .int .i64 x), (2, .pointer (some ⟨bc, 0, none⟩))] [] (by kernel_rfl) trivial ?_
    refine RX.done [(5, .int .i64 x), (2, .pointer (some ⟨bc, 0, none⟩))] (by kernel_rfl) (by kernel_rfl) ?_
    refine St.beginRound (k' := K128_c) h3 rfl (by kernel_rfl) ?_
    intro wb hp
    have hlb : wb.heap[D + 1]? = some (.loop (lrec 70 tm #[7] (sub c128 [1, 0, 1, 0, 0]) (sub c128 [1, 0, 1, 0, 1]) D .busy none)) := hp.blk
    have hszb := hp.size
    have hab : ∀ k ∈ ab, k ∉ [D + 1] := fun k hk hk2 => by
      have h4 := (habl k hk).1
      simp at hk2; omega
    have hB1 : Blk wb bc [v] 23 := hp.upd.blk h1 (by simp; omega)
    have hA1 := h2.upd hp.upd hab
    refine St.reg [] [(0, true), (1, true), (2, false), (3, false), (4, false)] (by kernel_rfl) (by kernel_rfl) ?_
    refine RX.q 2 [(0, true, v)] [(8, v), (9, .int .i64 x), (2, .pointer (some ⟨bc, 0, none⟩))] [.cell ⟨bc, 0, none⟩ v] (by kernel_rfl) (Blk.cell hB1 rfl) ?_
    refine RX.new 10 (.cells #[.int .i64 x] 3) (.sl 1) [(8, v), (9, .int .i64 x), (2, .pointer (some ⟨bc, 0, none⟩))] (by kernel_rfl) ?_
    intro bx wc hnc
    have hszc := hnc.size; have hatc := hnc.at_
    have hBx : Blk wc bx [.int .i64 x] 3 := hnc.blk
    have hA2 := hA1.ext hnc.ext
    have hall : l.length + 1 ≤ 1000000 := by
      have : (es.map (·.1)).length = l.length + (x :: r.map (·.1)).length := by rw [e1]; simp
      simp at this; omega
    obtain ⟨v', wd, ab', hr, hA3, hU3, hab', -⟩ := append_run (P := Try.prog) (u := 23) (ty := 23) (lo2 := 0) (x := .slice (some ⟨bx, 0, none⟩) 1 1) (m := 1) (xs := [.int .i64 x]) hT (by kernel_rfl) hA2
      ⟨_, 1, rfl, Nat.le_refl _, rfl, .inr ⟨bx, 0, rfl, Nat.zero_le _, lt_of_blk hBx, fun i u hi => by rw [addr_add, Nat.zero_add]; exact Blk.cell hBx hi⟩⟩ (fun c hc => by simp at hc; subst hc; rfl) (by omega) (by omega)
    obtain ⟨av, cv, rfl⟩ := hA3.shape
    refine RX.run 11 (Builtin.append_ #[23, 23] 23 #[v, .slice (some ⟨bx, 0, none⟩) 1 1]) [(10, .slice (some ⟨bx, 0, none⟩) 1 1), (8, v), (9, .int .i64 x), (2, .pointer (some ⟨bc, 0, none⟩))] (by kernel_rfl) hr ?_
    have habc : ∀ k ∈ ab, k ∉ [bc] := fun k hk hk2 => by
      have h4 := (habl k hk).1
      simp at hk2; omega
    have hB3 : Blk wd bc [v] 23 := hU3.blk (Ext.blk hnc.ext hB1) (fun hk => habc _ hk (by simp))
    have hlc : wd.heap[D + 1]? = some (.loop (lrec 70 tm #[7] (sub c128 [1, 0, 1, 0, 0]) (sub c128 [1, 0, 1, 0, 1]) D .busy none)) := hU3.blk (Ext.blk hnc.ext hlb) (fun hk => hab _ hk (by simp))
    have hszd := hU3.size
    refine RX.store1 bc 0 (.slice av (l.length + 1) cv) [v] 23 (by kernel_rfl) rfl hB3 (by simp) ?_
    intro we hpe
    have hsze := hpe.size
    refine RX.done [] (by kernel_rfl) (by kernel_rfl) ?_
    have hab3 : ∀ k ∈ ab', w2.heap.size ≤ k := fun k hk => hA3.lt k hk |>.1
    have hBe : Blk we bc [.slice av (l.length + 1) cv] 23 := hpe.blk
    have hAe := hA3.upd hpe.upd (fun k hk hk2 => by have := hab3 k hk; simp at hk2; omega)
    have hle : we.heap[D + 1]? = some (.loop (lrec 70 tm #[7] (sub c128 [1, 0, 1, 0, 0]) (sub c128 [1, 0, 1, 0, 1]) D .busy none)) := hpe.upd.blk hlc (by simp; omega)
    refine St.roundEnd hle ?_
    intro wf hpf
    have hUf : Upd [D + 1, bc] w2 wf := by
      have u1 : Upd [D + 1, bc] w2 wd := ((hU.trans (hp.upd.mono (fun k hk => by simp at hk; simp [hk]))).trans hnc.ext.up).trans_old hU3 (fun k hk => (habl k hk).1)
      exact (u1.trans (hpe.upd.mono (fun k hk => by simp at hk; simp [hk]))).trans (hpf.upd.mono (fun k hk => by simp at hk; simp [hk]))
    refine ⟨hUf, .inl ⟨rfl, l ++ [x], .slice av (l.length + 1) cv, ab', by rw [e1]; simp, hpf.upd.blk hBe (by simp; omega), ?_, hpf.blk⟩⟩
    have := hAe.upd hpf.upd (fun k hk hk2 => by have := hab3 k hk; simp at hk2; omega)
    simpa using this
  refine Fn.mono hfn ?_
  rintro _ w3 ⟨hU3, ⟨l, v, ab, e1, h1, h2, h3⟩ | h⟩
  rotate_left
  · exact h.elim
  simp only [List.map_nil, List.append_nil] at e1
  subst e1
  refine ⟨_, h3, by simp [lrec], fun w4 hp4 => ?_⟩
  have hsz3 := hU3.size; have hsz4 := hp4.size
  have habl := h2.lt
  have hD4 : w4.heap[D]? = some (.deferred (some [])) := hp4.upd.blk (hU3.blk hD (by simp; omega)) (by simp)
  have hb4 : Blk w4 bc [v] 23 := hp4.upd.blk h1 (by simp; omega)
  have hA4 := h2.upd hp4.upd (fun k hk hk2 => by have := (habl k hk).1; simp at hk2; omega)
  refine At.norm 99 (k' := K128_3) (by kernel_rfl) ?_
  refine St.toAt (n := 13) (L := [(6, .func (.func 71) #[] vc.toArray), (2, .pointer (some ⟨bc, 0, none⟩))]) ?_ htm
  refine St.reg K128_4 [(0, true), (1, true)] (by kernel_rfl) (by kernel_rfl) ?_
  refine RX.q 2 [(0, true, v)] [(4, v)] [.cell ⟨bc, 0, none⟩ v] (by kernel_rfl) (Blk.cell hb4 rfl) ?_
  refine RX.done [(4, v)] (by kernel_rfl) (by kernel_rfl) ?_
  refine St.retMarks [D] [.tmp 4] [v] (by kernel_rfl) Try.func70 (by kernel_rfl) (by simp) (by simpa using hD4) (fun w5 hu5 hsz5 => ⟨.cons (.tmp (by kernel_rfl)) .nil, ?_, ab, ?_⟩)
  · exact (((hE2.trans_old hU3 (fun k hk => by simp at hk; omega)).trans_old hp4.upd (fun k hk => by simp at hk; omega))).trans_old hu5 (fun k hk => by simp at hk; omega)
  · have := hA4.upd hu5 (fun k hk hk2 => by have := (habl k hk).1; simp at hk2; omega)
    obtain ⟨q1, q2⟩ := this
    refine ⟨by simpa using q1, ?_⟩
    rcases q2 with ⟨q2, q3, q4⟩ | ⟨b, cap, rest, q2, q3, q4, q5⟩
    · exact .inl ⟨q2, by simpa using q3, q4⟩
    · exact .inr ⟨b, cap, rest, by rw [List.length_map] at q2; exact q2, q3, by omega, by simpa using q5⟩
def appseq_S (_N : Nat) (d d' : Dk) (i : Int) : Option Li := (mayR d d' i).map fun es => es.map (·.1)
noncomputable def sp_appseq (N : Nat) : Spec := { f := 70, ins := ⟨[.nils, .fn 71 [] is_may.cap], []⟩, outs := [⟨[.ols 0], [.lst (.int .i64)]⟩], run := fun p k => (appseq_S N p.1.2.1.2.1.1 p.1.2.1.2.2.1.1.1.1 p.1.2.1.2.2.2.1).bind fun r => k (((), ()), (r, ())) }
theorem mayR_small {d d' : Dk} {i : Int} {es : List (Int × Unit)} (h : mayR d d' i = some es) : es.length ≤ 6 ∧ ∀ x ∈ es.map (·.1), inR .i64 x := by
  unfold mayR at h
  split at h
  rotate_left
  · cases h
  rename_i hc
  simp only [Option.some.injEq] at h
  subst h
  refine ⟨?_, fun x hx => ?_⟩
  · have h1 := List.length_filter_le (canD d' i.toNat) (List.range' 0 (d.2.2.2.1.length - 0))
    rw [List.length_map]
    unfold mayF
    rw [List.length_range'] at h1
    omega
  · rw [List.map_map, List.mem_map] at hx
    obtain ⟨k, hk, rfl⟩ := hx
    have := (mem_mayF.1 hk).2.1
    exact inR_small (by show -1000000 ≤ (k : Int) ∧ (k : Int) ≤ 1000000; omega)
theorem sp_appseq_ok (N : Nat) : SpecOK Try.prog (sp_appseq N) := by
  refine ⟨fun Z p κ => ?_, fun args w => Sem.pv_run _ _ _ (by kernel_rfl) w, fun p r hpr g w vs hv hs hρ => ?_⟩
  · show ((appseq_S N _ _ _).bind _) = ((appseq_S N _ _ _).bind _).bind κ
    cases appseq_S N p.1.2.1.2.1.1 p.1.2.1.2.2.1.1.1.1 p.1.2.1.2.2.2.1 <;> rfl
  · obtain ⟨⟨⟨⟩, ⟨⟨⟩, q⟩, ⟨⟩⟩, ⟨⟩⟩ := p
    have hpr' : ((mayR q.1.1 q.2.1.1.1.1 q.2.2.1).map fun es => es.map (·.1)).bind (fun r : Li => some ((((), ()), (r, ())) : (Unit × Unit) × (Li × Unit))) = some r := hpr
    cases hes : mayR q.1.1 q.2.1.1.1.1 q.2.2.1 with
    | none => rw [hes] at hpr'; cases hpr'
    | some es =>
      rw [hes] at hpr'
      have e : ((((), ()), (es.map (·.1), ())) : (Unit × Unit) × (Li × Unit)) = r := Option.some.inj hpr'
      subst e
      have hv : RepVs g [.nils, .fn 71 [] (encs id is_may.cap q)] vs := hv
      simp only [RepVs] at hv
      obtain ⟨v, us, rfl, hv0, v2, us2, rfl, hv2, rfl⟩ := hv
      simp only [RepV, RepVs] at hv0 hv2
      obtain ⟨va, vc, rfl, rfl, hvc⟩ := hv2
      subst hv0
      obtain ⟨hl, hin⟩ := mayR_small hes
      refine Fn.mono (appseq_fn (p := q) hes (by omega) g vc hvc w hs.mem) ?_
      rintro v w' ⟨hE, ab, h1, h2⟩
      refine own_new (y := .int .i64) (l := es.map (·.1)) hs (fun i => hρ i (Nat.zero_le _)) hE (by show (es.map (·.1)).length ≤ 1000000; rw [List.length_map]; omega) ?_
      rcases h2 with ⟨rfl, h3, _⟩ | ⟨b, cap, rest, rfl, _, h3, h4, h5, ty, h6⟩
      · refine .inl ⟨rfl, ?_⟩
        have : es = [] := List.eq_nil_of_length_eq_zero h3
        rw [this]; rfl
      · refine .inr ⟨b, cap, (es.map (·.1)).map (.int .i64), rest, ty, ?_, h3, h6, (repL_i2 _ _).2 ⟨rfl, hin⟩, ?_, ?_⟩
        · show _ = Value.slice (some ⟨b, 0, none⟩) (es.map (·.1)).length cap
          rw [List.length_map]
        · show (es.map (·.1)).length ≤ cap ∧ _
          rw [List.length_map]; exact h4
        · show rest.length = (cap - (es.map (·.1)).length) * 1
          rw [List.length_map]; exact h5
end Go.Proofs.Ytgeijboidfadaaa.Fd

namespace Go.Proofs.Ytgeijboidfadaaa.Fd
set_option linter.all false
open Go

def may_S (N : Nat) (d : List Int × Int × List Qa × List Qa × List Int × List Int × List Int × Unit) (lost : Int) : Option (Qm × Qm × Int) :=
  some (d, d, lost)
noncomputable def may_sp (N : Nat) : List Spec := []
theorem may_all (N : Nat) : AllP (SpecOK Try.prog) (may_sp N) := trivial
noncomputable def may_c : Code := (Try.f36.body).getD .skip
noncomputable abbrev may_B : Body := { c := may_c, n := 9, res := [.tmp 4], outs := [⟨[.fn 71 [] [.fz [.fz [.sl (.int .i64), .i .i64, .sl Qb, .sl Qb, .sl (.int .i64), .arr (.int .i64) 36, .arr (.int .i64) 36]], .fz [.fn 38 [.fz [.sl (.int .i64), .i .i64, .sl Qb, .sl Qb, .sl (.int .i64), .arr (.int .i64) 36, .arr (.int .i64) 36]] []], .fe (.int .i64)]], []⟩], m0 := 0 }
abbrev may_rt : altD may_B.outs → Option (Qm × Qm × Int) := fun r => some (r.1.1.2.1.1, r.1.1.2.2.1.1.1.1, r.1.1.2.2.2.1)
abbrev may_st : Sta := ⟨[0, 1], ⟨[.fz [.sl (.int .i64), .i .i64, .sl Qb, .sl Qb, .sl (.int .i64), .arr (.int .i64) 36, .arr (.int .i64) 36], .i .i64], []⟩⟩
theorem may_eq (N : Nat) (d : List Int × Int × List Qa × List Qa × List Int × List Int × List Int × Unit) (lost : Int) : ev (Z := Qm × Qm × Int) Try.prog (may_sp N) may_B [] [] (some may_rt) 400 false [.c [0], .c [1]] (stL may_st ((d, lost, ()), ())) (stH may_st ((d, lost, ()), ())) = may_S N d lost := by kernel_rfl
noncomputable def sp_may (N : Nat) : Spec := { f := 36, ins := ⟨[.fz [.sl (.int .i64), .i .i64, .sl Qb, .sl Qb, .sl (.int .i64), .arr (.int .i64) 36, .arr (.int .i64) 36], .i .i64], []⟩, outs := [⟨[.fn 71 [] [.fz [.fz [.sl (.int .i64), .i .i64, .sl Qb, .sl Qb, .sl (.int .i64), .arr (.int .i64) 36, .arr (.int .i64) 36]], .fz [.fn 38 [.fz [.sl (.int .i64), .i .i64, .sl Qb, .sl Qb, .sl (.int .i64), .arr (.int .i64) 36, .arr (.int .i64) 36]] []], .fe (.int .i64)]], []⟩], run := fun p k => (may_S N p.1.1 p.1.2.1).bind fun r => k ((((), ((r.1, ()), (((r.2.1, ()), ()), ()), r.2.2, ())), ()), ()) }
theorem sp_may_ok (N : Nat) : SpecOK Try.prog (sp_may N) := fn_sound (B := may_B) (loops := []) (leaves := []) (fun p => may_S N p.1.1 p.1.2.1) (fun r => ((((), ((r.1, ()), (((r.2.1, ()), ()), ()), r.2.2, ())), ()), ())) may_rt (fun _ _ _ => rfl) (fun r z h => by cases h; rfl) Try.func36 (by kernel_rfl) (by kernel_rfl) (by kernel_rfl) rfl rfl (by kernel_rfl) (fun args w => Sem.pv_run _ _ _ (by kernel_rfl) w) (may_all N) mixed trivial (fun z E Xc hE hX hret => trivial) (fun p => may_eq N p.1.1 p.1.2.1)

def collect_S (N : Nat) (seq : List Int × Int × List Qa × List Qa × List Int × List Int × List Int × Unit) (seq2 : List Int × Int × List Qa × List Qa × List Int × List Int × List Int × Unit) (seq3 : Int) : Option Qa :=
  (appseq_S N seq seq2 seq3).bind fun x_1 =>
  some x_1
noncomputable def collect_sp (N : Nat) : List Spec := [sp_appseq N]
theorem collect_all (N : Nat) : AllP (SpecOK Try.prog) (collect_sp N) := ⟨sp_appseq_ok N, trivial⟩
noncomputable def collect_c : Code := (Try.f35.body).getD .skip
noncomputable abbrev collect_B : Body := { c := collect_c, n := 5, res := [.tmp 2], outs := [⟨[.sl (.int .i64)], []⟩], m0 := 0 }
abbrev collect_rt : altD collect_B.outs → Option Qa := fun r => some r.1.1
abbrev collect_st : Sta := ⟨[0], ⟨[.fn 71 [] [.fz [.fz [.sl (.int .i64), .i .i64, .sl Qb, .sl Qb, .sl (.int .i64), .arr (.int .i64) 36, .arr (.int .i64) 36]], .fz [.fn 38 [.fz [.sl (.int .i64), .i .i64, .sl Qb, .sl Qb, .sl (.int .i64), .arr (.int .i64) 36, .arr (.int .i64) 36]] []], .fe (.int .i64)]], []⟩⟩
theorem collect_eq (N : Nat) (seq : List Int × Int × List Qa × List Qa × List Int × List Int × List Int × Unit) (seq2 : List Int × Int × List Qa × List Qa × List Int × List Int × List Int × Unit) (seq3 : Int) : ev (Z := List Int) Try.prog (collect_sp N) collect_B [] [] (some collect_rt) 400 false [.c [0], .c [1]] (stL collect_st ((((), ((seq, ()), (((seq2, ()), ()), ()), seq3, ())), ()), ())) (stH collect_st ((((), ((seq, ()), (((seq2, ()), ()), ()), seq3, ())), ()), ())) = collect_S N seq seq2 seq3 := by kernel_rfl
noncomputable def sp_collect (N : Nat) : Spec := { f := 35, ins := ⟨[.fn 71 [] [.fz [.fz [.sl (.int .i64), .i .i64, .sl Qb, .sl Qb, .sl (.int .i64), .arr (.int .i64) 36, .arr (.int .i64) 36]], .fz [.fn 38 [.fz [.sl (.int .i64), .i .i64, .sl Qb, .sl Qb, .sl (.int .i64), .arr (.int .i64) 36, .arr (.int .i64) 36]] []], .fe (.int .i64)]], []⟩, outs := [⟨[.sl (.int .i64)], []⟩], run := fun p k => (collect_S N p.1.1.2.1.1 p.1.1.2.2.1.1.1.1 p.1.1.2.2.2.1).bind fun r => k ((r, ()), ()) }
theorem sp_collect_ok (N : Nat) : SpecOK Try.prog (sp_collect N) := fn_sound (B := collect_B) (loops := []) (leaves := []) (fun p => collect_S N p.1.1.2.1.1 p.1.1.2.2.1.1.1.1 p.1.1.2.2.2.1) (fun r => ((r, ()), ())) collect_rt (fun _ _ _ => rfl) (fun r z h => by cases h; rfl) Try.func35 (by kernel_rfl) (by kernel_rfl) (by kernel_rfl) rfl rfl (by kernel_rfl) (fun args w => Sem.pv_run _ _ _ (by kernel_rfl) w) (collect_all N) mixed trivial (fun z E Xc hE hX hret => trivial) (fun p => collect_eq N p.1.1.2.1.1 p.1.1.2.2.1.1.1.1 p.1.1.2.2.2.1)

def lmay_S (N : Nat) (d : List Int) (d2 : Int) (d3 : List Qa) (d4 : List Qa) (d5 : List Int) (lost : Int) : Option (List Int × Int) :=
  ((opened_S N d d2 d3 d4 d5).bind fun e => match e with
  | .inl (x_1, y_2) =>
    (br (!decide (y_2 = 0))
      (some ([], y_2))
      ((dlost_S N x_1 lost).bind fun x_3 =>
      br (!x_3)
        (some ([], 1))
        ((may_S N x_1 lost).bind fun (x_4, y_5, y_6) =>
        (collect_S N x_4 y_5 y_6).bind fun x_7 =>
        some (x_7, 0))))
  | .inr x_8 =>
    (br (!decide (x_8 = 0))
      (some ([], x_8))
      (none)))
noncomputable def lmay_sp (N : Nat) : List Spec := [sp_opened N, sp_dlost N, sp_may N, sp_collect N]
theorem lmay_all (N : Nat) : AllP (SpecOK Try.prog) (lmay_sp N) := ⟨sp_opened_ok N, sp_dlost_ok N, sp_may_ok N, sp_collect_ok N, trivial⟩
noncomputable def lmay_c : Code := (Try.f10.body).getD .skip
noncomputable abbrev lmay_B : Body := { c := lmay_c, n := 26, res := [.tmp 4, .tmp 5], outs := [⟨[.sl (.int .i64), .i .i64], []⟩], m0 := 0 }
abbrev lmay_rt : altD lmay_B.outs → Option (List Int × Int) := fun r => some (r.1.1, r.1.2.1)
abbrev lmay_st : Sta := ⟨[0, 1], ⟨[.agg [.sl (.int .i64), .i .i64, .sl Qb, .sl Qb, .sl (.int .i64)], .i .i64], []⟩⟩
theorem lmay_eq (N : Nat) (d : List Int) (d2 : Int) (d3 : List Qa) (d4 : List Qa) (d5 : List Int) (lost : Int) : ev (Z := List Int × Int) Try.prog (lmay_sp N) lmay_B [] [] (some lmay_rt) 400 false [.c [0], .c [1]] (stL lmay_st (((d, d2, d3, d4, d5, ()), lost, ()), ())) (stH lmay_st (((d, d2, d3, d4, d5, ()), lost, ()), ())) = lmay_S N d d2 d3 d4 d5 lost := by kernel_rfl
noncomputable def sp_lmay (N : Nat) : Spec := { f := 10, ins := ⟨[.agg [.sl (.int .i64), .i .i64, .sl Qb, .sl Qb, .sl (.int .i64)], .i .i64], []⟩, outs := [⟨[.sl (.int .i64), .i .i64], []⟩], run := fun p k => (lmay_S N p.1.1.1 p.1.1.2.1 p.1.1.2.2.1 p.1.1.2.2.2.1 p.1.1.2.2.2.2.1 p.1.2.1).bind fun r => k ((r.1, r.2, ()), ()) }
theorem sp_lmay_ok (N : Nat) : SpecOK Try.prog (sp_lmay N) := fn_sound (B := lmay_B) (loops := []) (leaves := []) (fun p => lmay_S N p.1.1.1 p.1.1.2.1 p.1.1.2.2.1 p.1.1.2.2.2.1 p.1.1.2.2.2.2.1 p.1.2.1) (fun r => ((r.1, r.2, ()), ())) lmay_rt (fun _ _ _ => rfl) (fun r z h => by cases h; rfl) Try.func10 (by kernel_rfl) (by kernel_rfl) (by kernel_rfl) rfl rfl (by kernel_rfl) (fun args w => Sem.pv_run _ _ _ (by kernel_rfl) w) (lmay_all N) mixed trivial (fun z E Xc hE hX hret => trivial) (fun p => lmay_eq N p.1.1.1 p.1.1.2.1 p.1.1.2.2.1 p.1.1.2.2.2.1 p.1.1.2.2.2.2.1 p.1.2.1)

end Go.Proofs.Ytgeijboidfadaaa.Fd

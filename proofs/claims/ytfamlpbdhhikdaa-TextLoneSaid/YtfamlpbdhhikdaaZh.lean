/-
  Parts of a proof, put together: X9, TM5, TM6, TM7.
  Conditions: none.
-/
import Derived.Test.YtfamlpbdhhikdaaZg
namespace Go.Proofs.Ytfamlpbdhhikdaa
set_option linter.all false
open Go

def lone11_S (N : Nat) (o : Int) (u : List Bool) (u2 : Int) : Option Bool :=
  rng o 12 <|
  rng u2 12 <|
  get u ((o.toNat * 12) + u2.toNat) fun x_1 =>
  some (!x_1)
noncomputable def lone11_sp (N : Nat) : List Spec := []
theorem lone11_all (N : Nat) : AllP (SpecOK Try.prog) (lone11_sp N) := trivial
noncomputable def lone11_c : Code := (Try.f129.body).getD .skip
noncomputable abbrev lone11_B : Body := { c := lone11_c, n := 11, res := [.tmp 4], outs := [⟨[.b], []⟩], m0 := 0 }
abbrev lone11_rt : altD lone11_B.outs → Option Bool := fun r => some r.1.1
abbrev lone11_st : Sta := ⟨[0, 1, 2], ⟨[.i .i64, .fz [.arr .bool 144], .fe (.int .i64)], []⟩⟩
theorem lone11_eq (N : Nat) (o : Int) (u : List Bool) (u2 : Int) : ev (Z := Bool) Try.prog (lone11_sp N) lone11_B [] [] (some lone11_rt) 400 false [.c [0], .c [1]] (stL lone11_st ((o, (u, ()), u2, ()), ())) (stH lone11_st ((o, (u, ()), u2, ()), ())) = lone11_S N o u u2 := by kernel_rfl
noncomputable def sp_lone11 (N : Nat) : Spec := { f := 129, ins := ⟨[.i .i64, .fz [.arr .bool 144], .fe (.int .i64)], []⟩, outs := [⟨[.b], []⟩], run := fun p k => (lone11_S N p.1.1 p.1.2.1.1 p.1.2.2.1).bind fun r => k ((r, ()), ()) }
theorem sp_lone11_ok (N : Nat) : SpecOK Try.prog (sp_lone11 N) := fn_sound (B := lone11_B) (loops := []) (leaves := []) (fun p => lone11_S N p.1.1 p.1.2.1.1 p.1.2.2.1) (fun r => ((r, ()), ())) lone11_rt (fun _ _ _ => rfl) (fun r z h => by cases h; rfl) Try.func129 (by kernel_rfl) (by kernel_rfl) (by kernel_rfl) rfl rfl (by kernel_rfl) (fun args w => Sem.pv_run _ _ _ (by kernel_rfl) w) (lone11_all N) mixed trivial (fun z E Xc hE hX hret => trivial) (fun p => lone11_eq N p.1.1 p.1.2.1.1 p.1.2.2.1)

def every1i4_S (N : Nat) (x : Int) (g : List Bool) (g2 : Int) : Option (Bool × List Bool × Int) :=
  (lone11_S N x g g2).bind fun x_1 =>
  some ((!x_1), g, g2)
noncomputable def every1i4_sp (N : Nat) : List Spec := [sp_lone11 N]
theorem every1i4_all (N : Nat) : AllP (SpecOK Try.prog) (every1i4_sp N) := ⟨sp_lone11_ok N, trivial⟩
noncomputable def every1i4_c : Code := (Try.f154.body).getD .skip
noncomputable abbrev every1i4_B : Body := { c := every1i4_c, n := 8, res := [.tmp 3], outs := [⟨[.b], [.segs [.fn 129 [] [.fz [.arr .bool 144], .fe (.int .i64)]]]⟩], m0 := 1 }
abbrev every1i4_rt : altD every1i4_B.outs → Option (Bool × List Bool × Int) := fun r => some (r.1.1, r.2.1.1.2.1.1, r.2.1.1.2.2.1)
abbrev every1i4_st : Sta := ⟨[0, 1], ⟨[.i .i64, .own 0 0], [.segs [.fn 129 [] [.fz [.arr .bool 144], .fe (.int .i64)]]]⟩⟩
theorem every1i4_eq (N : Nat) (x : Int) (g : List Bool) (g2 : Int) : ev (Z := Bool × List Bool × Int) Try.prog (every1i4_sp N) every1i4_B [] [] (some every1i4_rt) 400 false [.c [0], .c [1]] (stL every1i4_st ((x, (), ()), ((((), ((g, ()), g2, ())), ()), ()))) (stH every1i4_st ((x, (), ()), ((((), ((g, ()), g2, ())), ()), ()))) = every1i4_S N x g g2 := by kernel_rfl
noncomputable def sp_every1i4 (N : Nat) : Spec := { f := 154, ins := ⟨[.i .i64, .own 0 0], [.segs [.fn 129 [] [.fz [.arr .bool 144], .fe (.int .i64)]]]⟩, outs := [⟨[.b], [.segs [.fn 129 [] [.fz [.arr .bool 144], .fe (.int .i64)]]]⟩], run := fun p k => (every1i4_S N p.1.1 p.2.1.1.2.1.1 p.2.1.1.2.2.1).bind fun r => k ((r.1, ()), ((((), ((r.2.1, ()), r.2.2, ())), ()), ())) }
theorem sp_every1i4_ok (N : Nat) : SpecOK Try.prog (sp_every1i4 N) := fn_sound (B := every1i4_B) (loops := []) (leaves := []) (fun p => every1i4_S N p.1.1 p.2.1.1.2.1.1 p.2.1.1.2.2.1) (fun r => ((r.1, ()), ((((), ((r.2.1, ()), r.2.2, ())), ()), ()))) every1i4_rt (fun _ _ _ => rfl) (fun r z h => by cases h; rfl) Try.func154 (by kernel_rfl) (by kernel_rfl) (by kernel_rfl) rfl rfl (by kernel_rfl) (fun args w => Sem.pv_run _ _ _ (by kernel_rfl) w) (every1i4_all N) mixed trivial (fun z E Xc hE hX hret => trivial) (fun p => every1i4_eq N p.1.1 p.2.1.1.2.1.1 p.2.1.1.2.2.1)

def ixfi4_l1 (N : Nat) : Nat → (List Int) → Int → Int → (List Bool) → Int → Option ((Int × List Bool × Int) ⊕ (List Bool × Int))
  | 0, _, _, _, _, _ => none
  | n_ + 1, s, u, u2, f, f2 =>
    br (decide (u2 < u))
      (idx s u2 fun x_1 =>
      (every1i4_S N x_1 f f2).bind fun (x_2, y_3, y_4) =>
      br x_2
        (some (.inl (u2, y_3, y_4)))
        (chk (u2 + 1) <|
        ixfi4_l1 N n_ s u (u2 + 1) y_3 y_4))
      (some (.inr (f, f2)))
def ixfi4_S (N : Nat) (s : List Int) (f : List Bool) (f2 : Int) : Option (Int × List Bool × Int) :=
  (ixfi4_l1 N N s (s.length : Int) 0 f f2).bind fun e => match e with
  | .inl (i_5, g_6, g2_7) =>
    some (i_5, g_6, g2_7)
  | .inr (g_8, g2_9) =>
    some (-1, g_8, g2_9)
noncomputable def ixfi4_sp (N : Nat) : List Spec := [sp_every1i4 N]
theorem ixfi4_all (N : Nat) : AllP (SpecOK Try.prog) (ixfi4_sp N) := ⟨sp_every1i4_ok N, trivial⟩
noncomputable def ixfi4_c : Code := (Try.f113.body).getD .skip
noncomputable abbrev ixfi4_B : Body := { c := ixfi4_c, n := 19, res := [.tmp 4], outs := [⟨[.i .i64], [.segs [.fn 129 [] [.fz [.arr .bool 144], .fe (.int .i64)]]]⟩], m0 := 1 }
abbrev ixfi4_rt : altD ixfi4_B.outs → Option (Int × List Bool × Int) := fun r => some (r.1.1, r.2.1.1.2.1.1, r.2.1.1.2.2.1)
abbrev ixfi4_l1_at : List PI := [.c [1, 0, 1, 0, 0, 0], .c [1, 0, 1, 0, 0, 1], .l [1, 0, 1, 0, 0], .b 0, .c [1, 1]]
abbrev ixfi4_l1_st : Sta := ⟨[0, 1, 7, 8], ⟨[.sl (.int .i64), .fn 154 [] [.own 0 0], .i .i64, .i .i64], [.segs [.fn 129 [] [.fz [.arr .bool 144], .fe (.int .i64)]]]⟩⟩
abbrev ixfi4_l1_h (rec : (List Int) → Int → Int → (List Bool) → Int → Option ((Int × List Bool × Int) ⊕ (List Bool × Int))) : Leaf ((Int × List Bool × Int) ⊕ (List Bool × Int)) := ⟨ixfi4_l1_at, ixfi4_l1_st, fun p => rec p.1.1 p.1.2.2.1 p.1.2.2.2.1 p.2.1.1.2.1.1 p.2.1.1.2.2.1⟩
abbrev ixfi4_l1_e0 : Leaf ((Int × List Bool × Int) ⊕ (List Bool × Int)) := ⟨[.c [1, 0, 1, 0, 0, 1, 1, 0, 0, 1, 1, 0, 0], .c [1, 0, 1, 0, 0, 1, 1, 0, 0, 1, 1, 0, 1], .b 1, .c [1, 0, 1, 0, 0, 1, 1, 1], .l [1, 0, 1, 0, 0], .b 0, .c [1, 1]], ⟨[5], ⟨[.i .i64], [.segs [.fn 129 [] [.fz [.arr .bool 144], .fe (.int .i64)]]]⟩⟩, fun p => some (.inl (p.1.1, p.2.1.1.2.1.1, p.2.1.1.2.2.1))⟩
abbrev ixfi4_l1_e1 : Leaf ((Int × List Bool × Int) ⊕ (List Bool × Int)) := ⟨[.c [1, 1, 0], .c [1, 1, 1]], ⟨[], ⟨[], [.segs [.fn 129 [] [.fz [.arr .bool 144], .fe (.int .i64)]]]⟩⟩, fun p => some (.inr (p.2.1.1.2.1.1, p.2.1.1.2.2.1))⟩
noncomputable def ixfi4_l1_L (N : Nat) : LoopS := { at_ := ixfi4_l1_at, sta := ixfi4_l1_st, exits := [([.c [1, 0, 1, 0, 0, 1, 1, 0, 0, 1, 1, 0, 0], .c [1, 0, 1, 0, 0, 1, 1, 0, 0, 1, 1, 0, 1], .b 1, .c [1, 0, 1, 0, 0, 1, 1, 1], .l [1, 0, 1, 0, 0], .b 0, .c [1, 1]], ⟨[5], ⟨[.i .i64], [.segs [.fn 129 [] [.fz [.arr .bool 144], .fe (.int .i64)]]]⟩⟩), ([.c [1, 1, 0], .c [1, 1, 1]], ⟨[], ⟨[], [.segs [.fn 129 [] [.fz [.arr .bool 144], .fe (.int .i64)]]]⟩⟩)], run := fun p k => (ixfi4_l1 N N p.1.1 p.1.2.2.1 p.1.2.2.2.1 p.2.1.1.2.1.1 p.2.1.1.2.2.1).bind fun e => match e with | .inl x => k (.inl ((x.1, ()), ((((), ((x.2.1, ()), x.2.2, ())), ()), ()))) | .inr x => k (.inr (.inl ((), ((((), ((x.1, ()), x.2, ())), ()), ())))) }
theorem ixfi4_l1_eq (N n_ : Nat) (s : List Int) (u : Int) (u2 : Int) (f : List Bool) (f2 : Int) : ev (Z := (Int × List Bool × Int) ⊕ (List Bool × Int)) Try.prog (ixfi4_sp N) ixfi4_B [] [ixfi4_l1_h (ixfi4_l1 N n_), ixfi4_l1_e0, ixfi4_l1_e1] none 400 true ixfi4_l1_at (stL ixfi4_l1_st ((s, ((), ((), ())), u, u2, ()), ((((), ((f, ()), f2, ())), ()), ()))) (stH ixfi4_l1_st ((s, ((), ((), ())), u, u2, ()), ((((), ((f, ()), f2, ())), ()), ()))) = ixfi4_l1 N (n_ + 1) s u u2 f f2 := by kernel_rfl
theorem ixfi4_l1_ok (N : Nat) {top : Bool} : LoopOK Try.prog ixfi4_B.c ixfi4_B.n ixfi4_B.m0 top (ixfi4_l1_L N) := loop_of_ev (Z := (Int × List Bool × Int) ⊕ (List Bool × Int)) (N := N) (fun m p => ixfi4_l1 N m p.1.1 p.1.2.2.1 p.1.2.2.2.1 p.2.1.1.2.1.1 p.2.1.1.2.2.1) (fun e => match e with | .inl x => .inl ((x.1, ()), ((((), ((x.2.1, ()), x.2.2, ())), ()), ())) | .inr x => .inr (.inl ((), ((((), ((x.1, ()), x.2, ())), ()), ())))) (fun _ p k => bind_congr_ (ixfi4_l1 N N p.1.1 p.1.2.2.1 p.1.2.2.2.1 p.2.1.1.2.1.1 p.2.1.1.2.2.1) _ _ (fun e => by rcases e with x | x <;> rfl)) (fun _ => rfl) (fun m z E Xc hE hX hrec hx => leaf_of_ev (B := ixfi4_B) (loops := []) (leaves := [ixfi4_l1_h (ixfi4_l1 N m), ixfi4_l1_e0, ixfi4_l1_e1]) (ixfi4_all N) mixed trivial hE hX ⟨hrec, (fun p hp => by obtain rfl := Option.some.inj hp; exact hx), (fun p hp => by obtain rfl := Option.some.inj hp; exact hx), trivial⟩ RetOK.no (fun p => ixfi4_l1_eq N m p.1.1 p.1.2.2.1 p.1.2.2.2.1 p.2.1.1.2.1.1 p.2.1.1.2.2.1))
abbrev ixfi4_st : Sta := ⟨[0, 1], ⟨[.sl (.int .i64), .fn 154 [] [.own 0 0]], [.segs [.fn 129 [] [.fz [.arr .bool 144], .fe (.int .i64)]]]⟩⟩
theorem ixfi4_eq (N : Nat) (s : List Int) (f : List Bool) (f2 : Int) : ev (Z := Int × List Bool × Int) Try.prog (ixfi4_sp N) ixfi4_B [ixfi4_l1_L N] [] (some ixfi4_rt) 400 false [.c [0], .c [1]] (stL ixfi4_st ((s, ((), ((), ())), ()), ((((), ((f, ()), f2, ())), ()), ()))) (stH ixfi4_st ((s, ((), ((), ())), ()), ((((), ((f, ()), f2, ())), ()), ()))) = ixfi4_S N s f f2 := by kernel_rfl
noncomputable def sp_ixfi4 (N : Nat) : Spec := { f := 113, ins := ⟨[.sl (.int .i64), .fn 154 [] [.own 0 0]], [.segs [.fn 129 [] [.fz [.arr .bool 144], .fe (.int .i64)]]]⟩, outs := [⟨[.i .i64], [.segs [.fn 129 [] [.fz [.arr .bool 144], .fe (.int .i64)]]]⟩], run := fun p k => (ixfi4_S N p.1.1 p.2.1.1.2.1.1 p.2.1.1.2.2.1).bind fun r => k ((r.1, ()), ((((), ((r.2.1, ()), r.2.2, ())), ()), ())) }
theorem sp_ixfi4_ok (N : Nat) : SpecOK Try.prog (sp_ixfi4 N) := fn_sound (B := ixfi4_B) (loops := [ixfi4_l1_L N]) (leaves := []) (fun p => ixfi4_S N p.1.1 p.2.1.1.2.1.1 p.2.1.1.2.2.1) (fun r => ((r.1, ()), ((((), ((r.2.1, ()), r.2.2, ())), ()), ()))) ixfi4_rt (fun _ _ _ => rfl) (fun r z h => by cases h; rfl) Try.func113 (by kernel_rfl) (by kernel_rfl) (by kernel_rfl) rfl rfl (by kernel_rfl) (fun args w => Sem.pv_run _ _ _ (by kernel_rfl) w) (ixfi4_all N) mixed ⟨ixfi4_l1_ok N, trivial⟩ (fun z E Xc hE hX hret => trivial) (fun p => ixfi4_eq N p.1.1 p.2.1.1.2.1.1 p.2.1.1.2.2.1)

def cofi4_S (N : Nat) (s : List Int) (f : List Bool) (f2 : Int) : Option (Bool × List Bool × Int) :=
  (ixfi4_S N s f f2).bind fun (x_1, y_2, y_3) =>
  some ((decide (0 ≤ x_1)), y_2, y_3)
noncomputable def cofi4_sp (N : Nat) : List Spec := [sp_ixfi4 N]
theorem cofi4_all (N : Nat) : AllP (SpecOK Try.prog) (cofi4_sp N) := ⟨sp_ixfi4_ok N, trivial⟩
noncomputable def cofi4_c : Code := (Try.f46.body).getD .skip
noncomputable abbrev cofi4_B : Body := { c := cofi4_c, n := 9, res := [.tmp 4], outs := [⟨[.b], [.segs [.fn 129 [] [.fz [.arr .bool 144], .fe (.int .i64)]]]⟩], m0 := 1 }
abbrev cofi4_rt : altD cofi4_B.outs → Option (Bool × List Bool × Int) := fun r => some (r.1.1, r.2.1.1.2.1.1, r.2.1.1.2.2.1)
abbrev cofi4_st : Sta := ⟨[0, 1], ⟨[.sl (.int .i64), .fn 154 [] [.own 0 0]], [.segs [.fn 129 [] [.fz [.arr .bool 144], .fe (.int .i64)]]]⟩⟩
theorem cofi4_eq (N : Nat) (s : List Int) (f : List Bool) (f2 : Int) : ev (Z := Bool × List Bool × Int) Try.prog (cofi4_sp N) cofi4_B [] [] (some cofi4_rt) 400 false [.c [0], .c [1]] (stL cofi4_st ((s, ((), ((), ())), ()), ((((), ((f, ()), f2, ())), ()), ()))) (stH cofi4_st ((s, ((), ((), ())), ()), ((((), ((f, ()), f2, ())), ()), ()))) = cofi4_S N s f f2 := by kernel_rfl
noncomputable def sp_cofi4 (N : Nat) : Spec := { f := 46, ins := ⟨[.sl (.int .i64), .fn 154 [] [.own 0 0]], [.segs [.fn 129 [] [.fz [.arr .bool 144], .fe (.int .i64)]]]⟩, outs := [⟨[.b], [.segs [.fn 129 [] [.fz [.arr .bool 144], .fe (.int .i64)]]]⟩], run := fun p k => (cofi4_S N p.1.1 p.2.1.1.2.1.1 p.2.1.1.2.2.1).bind fun r => k ((r.1, ()), ((((), ((r.2.1, ()), r.2.2, ())), ()), ())) }
theorem sp_cofi4_ok (N : Nat) : SpecOK Try.prog (sp_cofi4 N) := fn_sound (B := cofi4_B) (loops := []) (leaves := []) (fun p => cofi4_S N p.1.1 p.2.1.1.2.1.1 p.2.1.1.2.2.1) (fun r => ((r.1, ()), ((((), ((r.2.1, ()), r.2.2, ())), ()), ()))) cofi4_rt (fun _ _ _ => rfl) (fun r z h => by cases h; rfl) Try.func46 (by kernel_rfl) (by kernel_rfl) (by kernel_rfl) rfl rfl (by kernel_rfl) (fun args w => Sem.pv_run _ _ _ (by kernel_rfl) w) (cofi4_all N) mixed trivial (fun z E Xc hE hX hret => trivial) (fun p => cofi4_eq N p.1.1 p.2.1.1.2.1.1 p.2.1.1.2.2.1)

def everyi4_S (N : Nat) (l : List Int) (holds : List Bool) (holds2 : Int) : Option Bool :=
  (cofi4_S N l holds holds2).bind fun (x_1, y_2, y_3) =>
  some (!x_1)
noncomputable def everyi4_sp (N : Nat) : List Spec := [sp_cofi4 N]
theorem everyi4_all (N : Nat) : AllP (SpecOK Try.prog) (everyi4_sp N) := ⟨sp_cofi4_ok N, trivial⟩
noncomputable def everyi4_c : Code := (Try.f128.body).getD .skip
noncomputable abbrev everyi4_B : Body := { c := everyi4_c, n := 9, res := [.tmp 4], outs := [⟨[.b], []⟩], m0 := 0 }
abbrev everyi4_rt : altD everyi4_B.outs → Option Bool := fun r => some r.1.1
abbrev everyi4_st : Sta := ⟨[0, 1], ⟨[.sl (.int .i64), .fn 129 [] [.fz [.arr .bool 144], .fe (.int .i64)]], []⟩⟩
theorem everyi4_eq (N : Nat) (l : List Int) (holds : List Bool) (holds2 : Int) : ev (Z := Bool) Try.prog (everyi4_sp N) everyi4_B [] [] (some everyi4_rt) 400 false [.c [0], .c [1]] (stL everyi4_st ((l, ((), ((holds, ()), holds2, ())), ()), ())) (stH everyi4_st ((l, ((), ((holds, ()), holds2, ())), ()), ())) = everyi4_S N l holds holds2 := by kernel_rfl
noncomputable def sp_everyi4 (N : Nat) : Spec := { f := 128, ins := ⟨[.sl (.int .i64), .fn 129 [] [.fz [.arr .bool 144], .fe (.int .i64)]], []⟩, outs := [⟨[.b], []⟩], run := fun p k => (everyi4_S N p.1.1 p.1.2.1.2.1.1 p.1.2.1.2.2.1).bind fun r => k ((r, ()), ()) }
theorem sp_everyi4_ok (N : Nat) : SpecOK Try.prog (sp_everyi4 N) := fn_sound (B := everyi4_B) (loops := []) (leaves := []) (fun p => everyi4_S N p.1.1 p.1.2.1.2.1.1 p.1.2.1.2.2.1) (fun r => ((r, ()), ())) everyi4_rt (fun _ _ _ => rfl) (fun r z h => by cases h; rfl) Try.func128 (by kernel_rfl) (by kernel_rfl) (by kernel_rfl) rfl rfl (by kernel_rfl) (fun args w => Sem.pv_run _ _ _ (by kernel_rfl) w) (everyi4_all N) mixed trivial (fun z E Xc hE hX hret => trivial) (fun p => everyi4_eq N p.1.1 p.1.2.1.2.1.1 p.1.2.1.2.2.1)

noncomputable abbrev lmore_self (self : (List Int) → Int → (((List (Int × (Int × Bool))) × ((List (Int × (Int × Int))) × Int))) → (List Bool) → (List Int) → (((List (Int × (Int × Bool))) × ((List (Int × (Int × Int))) × Int))) → (List Bool) → Option (List Int × ((List (Int × (Int × Bool))) × ((List (Int × (Int × Int))) × Int)) × List Bool)) : Spec := { f := 127, ins := ⟨[.sl (.int .i64), .i .i64, .own 0 0, .fe (.ptr (.pair (.sl (.pair (.int .i64) (.pair (.int .i64) .bool))) (.pair (.sl (.pair (.int .i64) (.pair (.int .i64) (.int .i64)))) (.int .i64)))), .fz [.arr .bool 144], .own 1 0], [.segs [.sl (.int .i64)], .segs [.fn 127 [] [.own 0 0, .fe (.ptr (.pair (.sl (.pair (.int .i64) (.pair (.int .i64) .bool))) (.pair (.sl (.pair (.int .i64) (.pair (.int .i64) (.int .i64)))) (.int .i64)))), .fz [.arr .bool 144], .own 1 0]]]⟩, outs := [⟨[], [.segs [.sl (.int .i64)], .segs [.fn 127 [] [.own 0 0, .fe (.ptr (.pair (.sl (.pair (.int .i64) (.pair (.int .i64) .bool))) (.pair (.sl (.pair (.int .i64) (.pair (.int .i64) (.int .i64)))) (.int .i64)))), .fz [.arr .bool 144], .own 1 0]]]⟩], run := fun p k => (self p.1.1 p.1.2.1 p.1.2.2.2.1 p.1.2.2.2.2.1.1 p.2.1.1 p.2.2.1.1.2.2.1 p.2.2.1.1.2.2.2.1.1).bind fun r => k ((), ((r.1, ()), (((), ((), r.2.1, (r.2.2, ()), (), ())), ()), ())) }
def lmore_j2 (N : Nat) (self : (List Int) → Int → (((List (Int × (Int × Bool))) × ((List (Int × (Int × Int))) × Int))) → (List Bool) → (List Int) → (((List (Int × (Int × Bool))) × ((List (Int × (Int × Int))) × Int))) → (List Bool) → Option (List Int × ((List (Int × (Int × Bool))) × ((List (Int × (Int × Int))) × Int)) × List Bool)) (rec : (List Int) → (((List (Int × (Int × Bool))) × ((List (Int × (Int × Int))) × Int))) → (List Bool) → (List Int) → (((List (Int × (Int × Bool))) × ((List (Int × (Int × Int))) × Int))) → (List Bool) → Int → Option (List Int × ((List (Int × (Int × Bool))) × ((List (Int × (Int × Int))) × Int)) × List Bool)) (l : List Int) (u : ((List (Int × (Int × Bool))) × ((List (Int × (Int × Int))) × Int))) (u2 : List Bool) (g : List Int) (g2 : ((List (Int × (Int × Bool))) × ((List (Int × (Int × Int))) × Int))) (g3 : List Bool) (w : Int) : Option (List Int × ((List (Int × (Int × Bool))) × ((List (Int × (Int × Int))) × Int)) × List Bool) :=
  chk (w + 1) <|
  rec l u u2 g g2 g3 (w + 1)
def lmore_l1 (N : Nat) (self : (List Int) → Int → (((List (Int × (Int × Bool))) × ((List (Int × (Int × Int))) × Int))) → (List Bool) → (List Int) → (((List (Int × (Int × Bool))) × ((List (Int × (Int × Int))) × Int))) → (List Bool) → Option (List Int × ((List (Int × (Int × Bool))) × ((List (Int × (Int × Int))) × Int)) × List Bool)) : Nat → (List Int) → (((List (Int × (Int × Bool))) × ((List (Int × (Int × Int))) × Int))) → (List Bool) → (List Int) → (((List (Int × (Int × Bool))) × ((List (Int × (Int × Int))) × Int))) → (List Bool) → Int → Option (List Int × ((List (Int × (Int × Bool))) × ((List (Int × (Int × Int))) × Int)) × List Bool)
  | 0, _, _, _, _, _, _, _ => none
  | n_ + 1, l, u, u2, g, g2, g3, w =>
    (end__S N u).bind fun x_2 =>
    br (decide (w < x_2))
      ((everyi4_S N l u2 w).bind fun x_3 =>
      br x_3
        ((cloneo_S N l).bind fun x_4 =>
        lim (x_4.length + [w].length) <|
        chk (w + 1) <|
        (self (x_4 ++ [w]) (w + 1) g2 g3 g g2 g3).bind fun (x_5, y_6, y_7) =>
        lmore_j2 N self (lmore_l1 N self n_) l u u2 x_5 y_6 y_7 w)
        (lmore_j2 N self (lmore_l1 N self n_) l u u2 g g2 g3 w))
      (some ((g, g2, g3)))
def lmore_j1 (N : Nat) (self : (List Int) → Int → (((List (Int × (Int × Bool))) × ((List (Int × (Int × Int))) × Int))) → (List Bool) → (List Int) → (((List (Int × (Int × Bool))) × ((List (Int × (Int × Int))) × Int))) → (List Bool) → Option (List Int × ((List (Int × (Int × Bool))) × ((List (Int × (Int × Int))) × Int)) × List Bool)) (l : List Int) (from_ : Int) (u : ((List (Int × (Int × Bool))) × ((List (Int × (Int × Int))) × Int))) (u2 : List Bool) (g : List Int) (g2 : ((List (Int × (Int × Bool))) × ((List (Int × (Int × Int))) × Int))) (g3 : List Bool) : Option (List Int × ((List (Int × (Int × Bool))) × ((List (Int × (Int × Int))) × Int)) × List Bool) :=
  (lmore_l1 N self N l u u2 g g2 g3 from_).bind fun (g_8, g2_9, g3_10) =>
  some (g_8, g2_9, g3_10)
def lmore_S (N : Nat) (self : (List Int) → Int → (((List (Int × (Int × Bool))) × ((List (Int × (Int × Int))) × Int))) → (List Bool) → (List Int) → (((List (Int × (Int × Bool))) × ((List (Int × (Int × Int))) × Int))) → (List Bool) → Option (List Int × ((List (Int × (Int × Bool))) × ((List (Int × (Int × Int))) × Int)) × List Bool)) (l : List Int) (from_ : Int) (u : ((List (Int × (Int × Bool))) × ((List (Int × (Int × Int))) × Int))) (u2 : List Bool) (g : List Int) (g2 : ((List (Int × (Int × Bool))) × ((List (Int × (Int × Int))) × Int))) (g3 : List Bool) : Option (List Int × ((List (Int × (Int × Bool))) × ((List (Int × (Int × Int))) × Int)) × List Bool) :=
  br (decide ((g.length : Int) < (l.length : Int)))
    ((cloneo_S N l).bind fun x_1 =>
    lmore_j1 N self l from_ u u2 x_1 g2 g3)
    (lmore_j1 N self l from_ u u2 g g2 g3)
noncomputable def lmore_sp (N : Nat) (self : (List Int) → Int → (((List (Int × (Int × Bool))) × ((List (Int × (Int × Int))) × Int))) → (List Bool) → (List Int) → (((List (Int × (Int × Bool))) × ((List (Int × (Int × Int))) × Int))) → (List Bool) → Option (List Int × ((List (Int × (Int × Bool))) × ((List (Int × (Int × Int))) × Int)) × List Bool)) : List Spec := [sp_cloneo N, sp_end_ N, sp_everyi4 N, lmore_self self]
theorem lmore_all (N : Nat) (self : (List Int) → Int → (((List (Int × (Int × Bool))) × ((List (Int × (Int × Int))) × Int))) → (List Bool) → (List Int) → (((List (Int × (Int × Bool))) × ((List (Int × (Int × Int))) × Int))) → (List Bool) → Option (List Int × ((List (Int × (Int × Bool))) × ((List (Int × (Int × Int))) × Int)) × List Bool)) (hself : SpecOK Try.prog (lmore_self self)) : AllP (SpecOK Try.prog) (lmore_sp N self) := ⟨sp_cloneo_ok N, sp_end__ok N, sp_everyi4_ok N, hself, trivial⟩
noncomputable def lmore_c : Code := (Try.f127.body).getD .skip
noncomputable abbrev lmore_B : Body := { c := lmore_c, n := 36, res := [], outs := [⟨[], [.segs [.sl (.int .i64)], .segs [.fn 127 [] [.own 0 0, .fe (.ptr (.pair (.sl (.pair (.int .i64) (.pair (.int .i64) .bool))) (.pair (.sl (.pair (.int .i64) (.pair (.int .i64) (.int .i64)))) (.int .i64)))), .fz [.arr .bool 144], .own 1 0]]]⟩], m0 := 2 }
abbrev lmore_rt : altD lmore_B.outs → Option (List Int × ((List (Int × (Int × Bool))) × ((List (Int × (Int × Int))) × Int)) × List Bool) := fun r => some (r.2.1.1, r.2.2.1.1.2.2.1, r.2.2.1.1.2.2.2.1.1)
abbrev lmore_l1_at : List PI := [.c [1, 1, 0, 0, 0, 0], .c [1, 1, 0, 0, 0, 1], .c [1, 1, 0, 0, 1], .l [1, 1, 0, 0], .b 0]
abbrev lmore_l1_st : Sta := ⟨[0, 3, 4, 5, 8], ⟨[.sl (.int .i64), .fe (.ptr (.pair (.sl (.pair (.int .i64) (.pair (.int .i64) .bool))) (.pair (.sl (.pair (.int .i64) (.pair (.int .i64) (.int .i64)))) (.int .i64)))), .fz [.arr .bool 144], .own 1 0, .own 2 0], [.segs [.sl (.int .i64)], .segs [.fn 127 [] [.own 0 0, .fe (.ptr (.pair (.sl (.pair (.int .i64) (.pair (.int .i64) .bool))) (.pair (.sl (.pair (.int .i64) (.pair (.int .i64) (.int .i64)))) (.int .i64)))), .fz [.arr .bool 144], .own 1 0]], .segs [.i .i64]]⟩⟩
abbrev lmore_l1_h (rec : (List Int) → (((List (Int × (Int × Bool))) × ((List (Int × (Int × Int))) × Int))) → (List Bool) → (List Int) → (((List (Int × (Int × Bool))) × ((List (Int × (Int × Int))) × Int))) → (List Bool) → Int → Option (List Int × ((List (Int × (Int × Bool))) × ((List (Int × (Int × Int))) × Int)) × List Bool)) : Leaf (List Int × ((List (Int × (Int × Bool))) × ((List (Int × (Int × Int))) × Int)) × List Bool) := ⟨lmore_l1_at, lmore_l1_st, fun p => rec p.1.1 p.1.2.1 p.1.2.2.1.1 p.2.1.1 p.2.2.1.1.2.2.1 p.2.2.1.1.2.2.2.1.1 p.2.2.2.1.1⟩
abbrev lmore_l1_e0 : Leaf (List Int × ((List (Int × (Int × Bool))) × ((List (Int × (Int × Int))) × Int)) × List Bool) := ⟨[], ⟨[], ⟨[], [.segs [.sl (.int .i64)], .segs [.fn 127 [] [.own 0 0, .fe (.ptr (.pair (.sl (.pair (.int .i64) (.pair (.int .i64) .bool))) (.pair (.sl (.pair (.int .i64) (.pair (.int .i64) (.int .i64)))) (.int .i64)))), .fz [.arr .bool 144], .own 1 0]]]⟩⟩, fun p => some ((p.2.1.1, p.2.2.1.1.2.2.1, p.2.2.1.1.2.2.2.1.1))⟩
abbrev lmore_j2_at : List PI := [.c [1, 1, 0, 0, 1, 1, 0, 0], .c [1, 1, 0, 0, 1, 1, 0, 1], .c [1, 1, 0, 0, 1, 1, 1], .l [1, 1, 0, 0], .b 0]
abbrev lmore_j2_st : Sta := ⟨[0, 3, 4, 5, 8], ⟨[.sl (.int .i64), .fe (.ptr (.pair (.sl (.pair (.int .i64) (.pair (.int .i64) .bool))) (.pair (.sl (.pair (.int .i64) (.pair (.int .i64) (.int .i64)))) (.int .i64)))), .fz [.arr .bool 144], .own 1 0, .own 2 0], [.segs [.sl (.int .i64)], .segs [.fn 127 [] [.own 0 0, .fe (.ptr (.pair (.sl (.pair (.int .i64) (.pair (.int .i64) .bool))) (.pair (.sl (.pair (.int .i64) (.pair (.int .i64) (.int .i64)))) (.int .i64)))), .fz [.arr .bool 144], .own 1 0]], .segs [.i .i64]]⟩⟩
abbrev lmore_j2_k (N : Nat) (self : (List Int) → Int → (((List (Int × (Int × Bool))) × ((List (Int × (Int × Int))) × Int))) → (List Bool) → (List Int) → (((List (Int × (Int × Bool))) × ((List (Int × (Int × Int))) × Int))) → (List Bool) → Option (List Int × ((List (Int × (Int × Bool))) × ((List (Int × (Int × Int))) × Int)) × List Bool)) (rec : (List Int) → (((List (Int × (Int × Bool))) × ((List (Int × (Int × Int))) × Int))) → (List Bool) → (List Int) → (((List (Int × (Int × Bool))) × ((List (Int × (Int × Int))) × Int))) → (List Bool) → Int → Option (List Int × ((List (Int × (Int × Bool))) × ((List (Int × (Int × Int))) × Int)) × List Bool)) : Leaf (List Int × ((List (Int × (Int × Bool))) × ((List (Int × (Int × Int))) × Int)) × List Bool) := ⟨lmore_j2_at, lmore_j2_st, fun p => lmore_j2 N self rec p.1.1 p.1.2.1 p.1.2.2.1.1 p.2.1.1 p.2.2.1.1.2.2.1 p.2.2.1.1.2.2.2.1.1 p.2.2.2.1.1⟩
theorem lmore_j2_eq (N : Nat) (self : (List Int) → Int → (((List (Int × (Int × Bool))) × ((List (Int × (Int × Int))) × Int))) → (List Bool) → (List Int) → (((List (Int × (Int × Bool))) × ((List (Int × (Int × Int))) × Int))) → (List Bool) → Option (List Int × ((List (Int × (Int × Bool))) × ((List (Int × (Int × Int))) × Int)) × List Bool)) (rec : (List Int) → (((List (Int × (Int × Bool))) × ((List (Int × (Int × Int))) × Int))) → (List Bool) → (List Int) → (((List (Int × (Int × Bool))) × ((List (Int × (Int × Int))) × Int))) → (List Bool) → Int → Option (List Int × ((List (Int × (Int × Bool))) × ((List (Int × (Int × Int))) × Int)) × List Bool)) (l : List Int) (u : ((List (Int × (Int × Bool))) × ((List (Int × (Int × Int))) × Int))) (u2 : List Bool) (g : List Int) (g2 : ((List (Int × (Int × Bool))) × ((List (Int × (Int × Int))) × Int))) (g3 : List Bool) (w : Int) : ev (Z := List Int × ((List (Int × (Int × Bool))) × ((List (Int × (Int × Int))) × Int)) × List Bool) Try.prog (lmore_sp N self) lmore_B [] [lmore_l1_h rec, lmore_l1_e0] none 400 true lmore_j2_at (stL lmore_j2_st ((l, u, (u2, ()), (), (), ()), ((g, ()), (((), ((), g2, (g3, ()), (), ())), ()), (w, ()), ()))) (stH lmore_j2_st ((l, u, (u2, ()), (), (), ()), ((g, ()), (((), ((), g2, (g3, ()), (), ())), ()), (w, ()), ()))) = lmore_j2 N self rec l u u2 g g2 g3 w := by kernel_rfl
theorem lmore_j2_lf (N : Nat) (self : (List Int) → Int → (((List (Int × (Int × Bool))) × ((List (Int × (Int × Int))) × Int))) → (List Bool) → (List Int) → (((List (Int × (Int × Bool))) × ((List (Int × (Int × Int))) × Int))) → (List Bool) → Option (List Int × ((List (Int × (Int × Bool))) × ((List (Int × (Int × Int))) × Int)) × List Bool)) (hself : SpecOK Try.prog (lmore_self self)) (rec : (List Int) → (((List (Int × (Int × Bool))) × ((List (Int × (Int × Int))) × Int))) → (List Bool) → (List Int) → (((List (Int × (Int × Bool))) × ((List (Int × (Int × Int))) × Int))) → (List Bool) → Int → Option (List Int × ((List (Int × (Int × Bool))) × ((List (Int × (Int × Int))) × Int)) × List Bool)) {z : List Int × ((List (Int × (Int × Bool))) × ((List (Int × (Int × Int))) × Int)) × List Bool} {top : Bool} {E : EE} {Xc : Ctx} (hE : EOK lmore_B.m0 E) (hX : CxOK top Xc) (hrec : LeafOK Try.prog lmore_B.c lmore_B.n lmore_B.m0 E Xc z (lmore_l1_h rec)) (h0 : LeafOK Try.prog lmore_B.c lmore_B.n lmore_B.m0 E Xc z lmore_l1_e0) : LeafOK Try.prog lmore_B.c lmore_B.n lmore_B.m0 E Xc z (lmore_j2_k N self rec) := leaf_of_ev (B := lmore_B) (loops := []) (leaves := [lmore_l1_h rec, lmore_l1_e0]) (lmore_all N self hself) mixed trivial hE hX ⟨hrec, h0, trivial⟩ RetOK.no (fun p => lmore_j2_eq N self rec p.1.1 p.1.2.1 p.1.2.2.1.1 p.2.1.1 p.2.2.1.1.2.2.1 p.2.2.1.1.2.2.2.1.1 p.2.2.2.1.1)
noncomputable def lmore_l1_L (N : Nat) (self : (List Int) → Int → (((List (Int × (Int × Bool))) × ((List (Int × (Int × Int))) × Int))) → (List Bool) → (List Int) → (((List (Int × (Int × Bool))) × ((List (Int × (Int × Int))) × Int))) → (List Bool) → Option (List Int × ((List (Int × (Int × Bool))) × ((List (Int × (Int × Int))) × Int)) × List Bool)) : LoopS := { at_ := lmore_l1_at, sta := lmore_l1_st, exits := [([], ⟨[], ⟨[], [.segs [.sl (.int .i64)], .segs [.fn 127 [] [.own 0 0, .fe (.ptr (.pair (.sl (.pair (.int .i64) (.pair (.int .i64) .bool))) (.pair (.sl (.pair (.int .i64) (.pair (.int .i64) (.int .i64)))) (.int .i64)))), .fz [.arr .bool 144], .own 1 0]]]⟩⟩)], run := fun p k => (lmore_l1 N self N p.1.1 p.1.2.1 p.1.2.2.1.1 p.2.1.1 p.2.2.1.1.2.2.1 p.2.2.1.1.2.2.2.1.1 p.2.2.2.1.1).bind fun e => k (.inl ((), ((e.1, ()), (((), ((), e.2.1, (e.2.2, ()), (), ())), ()), ()))) }
theorem lmore_l1_eq (N : Nat) (self : (List Int) → Int → (((List (Int × (Int × Bool))) × ((List (Int × (Int × Int))) × Int))) → (List Bool) → (List Int) → (((List (Int × (Int × Bool))) × ((List (Int × (Int × Int))) × Int))) → (List Bool) → Option (List Int × ((List (Int × (Int × Bool))) × ((List (Int × (Int × Int))) × Int)) × List Bool)) (n_ : Nat) (l : List Int) (u : ((List (Int × (Int × Bool))) × ((List (Int × (Int × Int))) × Int))) (u2 : List Bool) (g : List Int) (g2 : ((List (Int × (Int × Bool))) × ((List (Int × (Int × Int))) × Int))) (g3 : List Bool) (w : Int) : ev (Z := List Int × ((List (Int × (Int × Bool))) × ((List (Int × (Int × Int))) × Int)) × List Bool) Try.prog (lmore_sp N self) lmore_B [] [lmore_l1_h (lmore_l1 N self n_), lmore_l1_e0, lmore_j2_k N self (lmore_l1 N self n_)] none 400 true lmore_l1_at (stL lmore_l1_st ((l, u, (u2, ()), (), (), ()), ((g, ()), (((), ((), g2, (g3, ()), (), ())), ()), (w, ()), ()))) (stH lmore_l1_st ((l, u, (u2, ()), (), (), ()), ((g, ()), (((), ((), g2, (g3, ()), (), ())), ()), (w, ()), ()))) = lmore_l1 N self (n_ + 1) l u u2 g g2 g3 w := by kernel_rfl
theorem lmore_l1_ok (N : Nat) (self : (List Int) → Int → (((List (Int × (Int × Bool))) × ((List (Int × (Int × Int))) × Int))) → (List Bool) → (List Int) → (((List (Int × (Int × Bool))) × ((List (Int × (Int × Int))) × Int))) → (List Bool) → Option (List Int × ((List (Int × (Int × Bool))) × ((List (Int × (Int × Int))) × Int)) × List Bool)) (hself : SpecOK Try.prog (lmore_self self)) {top : Bool} : LoopOK Try.prog lmore_B.c lmore_B.n lmore_B.m0 top (lmore_l1_L N self) := loop_of_ev (Z := List Int × ((List (Int × (Int × Bool))) × ((List (Int × (Int × Int))) × Int)) × List Bool) (N := N) (fun m p => lmore_l1 N self m p.1.1 p.1.2.1 p.1.2.2.1.1 p.2.1.1 p.2.2.1.1.2.2.1 p.2.2.1.1.2.2.2.1.1 p.2.2.2.1.1) (fun e => .inl ((), ((e.1, ()), (((), ((), e.2.1, (e.2.2, ()), (), ())), ()), ()))) (fun _ _ _ => rfl) (fun _ => rfl) (fun m z E Xc hE hX hrec hx => leaf_of_ev (B := lmore_B) (loops := []) (leaves := [lmore_l1_h (lmore_l1 N self m), lmore_l1_e0, lmore_j2_k N self (lmore_l1 N self m)]) (lmore_all N self hself) mixed trivial hE hX ⟨hrec, (fun p hp => by obtain rfl := Option.some.inj hp; exact hx), lmore_j2_lf N self hself _ hE hX hrec (fun p hp => by obtain rfl := Option.some.inj hp; exact hx), trivial⟩ RetOK.no (fun p => lmore_l1_eq N self m p.1.1 p.1.2.1 p.1.2.2.1.1 p.2.1.1 p.2.2.1.1.2.2.1 p.2.2.1.1.2.2.2.1.1 p.2.2.2.1.1))
abbrev lmore_j1_at : List PI := [.c [1, 0], .c [1, 1]]
abbrev lmore_j1_st : Sta := ⟨[0, 1, 3, 4, 5], ⟨[.sl (.int .i64), .i .i64, .fe (.ptr (.pair (.sl (.pair (.int .i64) (.pair (.int .i64) .bool))) (.pair (.sl (.pair (.int .i64) (.pair (.int .i64) (.int .i64)))) (.int .i64)))), .fz [.arr .bool 144], .own 1 0], [.segs [.sl (.int .i64)], .segs [.fn 127 [] [.own 0 0, .fe (.ptr (.pair (.sl (.pair (.int .i64) (.pair (.int .i64) .bool))) (.pair (.sl (.pair (.int .i64) (.pair (.int .i64) (.int .i64)))) (.int .i64)))), .fz [.arr .bool 144], .own 1 0]]]⟩⟩
abbrev lmore_j1_k (N : Nat) (self : (List Int) → Int → (((List (Int × (Int × Bool))) × ((List (Int × (Int × Int))) × Int))) → (List Bool) → (List Int) → (((List (Int × (Int × Bool))) × ((List (Int × (Int × Int))) × Int))) → (List Bool) → Option (List Int × ((List (Int × (Int × Bool))) × ((List (Int × (Int × Int))) × Int)) × List Bool)) : Leaf (List Int × ((List (Int × (Int × Bool))) × ((List (Int × (Int × Int))) × Int)) × List Bool) := ⟨lmore_j1_at, lmore_j1_st, fun p => lmore_j1 N self p.1.1 p.1.2.1 p.1.2.2.1 p.1.2.2.2.1.1 p.2.1.1 p.2.2.1.1.2.2.1 p.2.2.1.1.2.2.2.1.1⟩
theorem lmore_j1_eq (N : Nat) (self : (List Int) → Int → (((List (Int × (Int × Bool))) × ((List (Int × (Int × Int))) × Int))) → (List Bool) → (List Int) → (((List (Int × (Int × Bool))) × ((List (Int × (Int × Int))) × Int))) → (List Bool) → Option (List Int × ((List (Int × (Int × Bool))) × ((List (Int × (Int × Int))) × Int)) × List Bool)) (l : List Int) (from_ : Int) (u : ((List (Int × (Int × Bool))) × ((List (Int × (Int × Int))) × Int))) (u2 : List Bool) (g : List Int) (g2 : ((List (Int × (Int × Bool))) × ((List (Int × (Int × Int))) × Int))) (g3 : List Bool) : ev (Z := List Int × ((List (Int × (Int × Bool))) × ((List (Int × (Int × Int))) × Int)) × List Bool) Try.prog (lmore_sp N self) lmore_B [lmore_l1_L N self] [] (some lmore_rt) 400 true lmore_j1_at (stL lmore_j1_st ((l, from_, u, (u2, ()), (), ()), ((g, ()), (((), ((), g2, (g3, ()), (), ())), ()), ()))) (stH lmore_j1_st ((l, from_, u, (u2, ()), (), ()), ((g, ()), (((), ((), g2, (g3, ()), (), ())), ()), ()))) = lmore_j1 N self l from_ u u2 g g2 g3 := by kernel_rfl
theorem lmore_j1_lf (N : Nat) (self : (List Int) → Int → (((List (Int × (Int × Bool))) × ((List (Int × (Int × Int))) × Int))) → (List Bool) → (List Int) → (((List (Int × (Int × Bool))) × ((List (Int × (Int × Int))) × Int))) → (List Bool) → Option (List Int × ((List (Int × (Int × Bool))) × ((List (Int × (Int × Int))) × Int)) × List Bool)) (hself : SpecOK Try.prog (lmore_self self)) {z : List Int × ((List (Int × (Int × Bool))) × ((List (Int × (Int × Int))) × Int)) × List Bool} {E : EE} {Xc : Ctx} (hE : EOK lmore_B.m0 E) (hX : CxOK true Xc) (hret : RetOK Try.prog lmore_B E Xc z (some lmore_rt)) : LeafOK Try.prog lmore_B.c lmore_B.n lmore_B.m0 E Xc z (lmore_j1_k N self) := leaf_of_ev (B := lmore_B) (loops := [lmore_l1_L N self]) (leaves := []) (lmore_all N self hself) mixed ⟨lmore_l1_ok N self hself, trivial⟩ hE hX trivial hret (fun p => lmore_j1_eq N self p.1.1 p.1.2.1 p.1.2.2.1 p.1.2.2.2.1.1 p.2.1.1 p.2.2.1.1.2.2.1 p.2.2.1.1.2.2.2.1.1)
abbrev lmore_st : Sta := ⟨[0, 1, 2, 3, 4, 5], ⟨[.sl (.int .i64), .i .i64, .own 0 0, .fe (.ptr (.pair (.sl (.pair (.int .i64) (.pair (.int .i64) .bool))) (.pair (.sl (.pair (.int .i64) (.pair (.int .i64) (.int .i64)))) (.int .i64)))), .fz [.arr .bool 144], .own 1 0], [.segs [.sl (.int .i64)], .segs [.fn 127 [] [.own 0 0, .fe (.ptr (.pair (.sl (.pair (.int .i64) (.pair (.int .i64) .bool))) (.pair (.sl (.pair (.int .i64) (.pair (.int .i64) (.int .i64)))) (.int .i64)))), .fz [.arr .bool 144], .own 1 0]]]⟩⟩
theorem lmore_eq (N : Nat) (self : (List Int) → Int → (((List (Int × (Int × Bool))) × ((List (Int × (Int × Int))) × Int))) → (List Bool) → (List Int) → (((List (Int × (Int × Bool))) × ((List (Int × (Int × Int))) × Int))) → (List Bool) → Option (List Int × ((List (Int × (Int × Bool))) × ((List (Int × (Int × Int))) × Int)) × List Bool)) (l : List Int) (from_ : Int) (u : ((List (Int × (Int × Bool))) × ((List (Int × (Int × Int))) × Int))) (u2 : List Bool) (g : List Int) (g2 : ((List (Int × (Int × Bool))) × ((List (Int × (Int × Int))) × Int))) (g3 : List Bool) : ev (Z := List Int × ((List (Int × (Int × Bool))) × ((List (Int × (Int × Int))) × Int)) × List Bool) Try.prog (lmore_sp N self) lmore_B [lmore_l1_L N self] [lmore_j1_k N self] (some lmore_rt) 400 false [.c [0, 0], .c [0, 1], .c [1]] (stL lmore_st ((l, from_, (), u, (u2, ()), (), ()), ((g, ()), (((), ((), g2, (g3, ()), (), ())), ()), ()))) (stH lmore_st ((l, from_, (), u, (u2, ()), (), ()), ((g, ()), (((), ((), g2, (g3, ()), (), ())), ()), ()))) = lmore_S N self l from_ u u2 g g2 g3 := by kernel_rfl
theorem lmore_self_ok (N : Nat) (self : (List Int) → Int → (((List (Int × (Int × Bool))) × ((List (Int × (Int × Int))) × Int))) → (List Bool) → (List Int) → (((List (Int × (Int × Bool))) × ((List (Int × (Int × Int))) × Int))) → (List Bool) → Option (List Int × ((List (Int × (Int × Bool))) × ((List (Int × (Int × Int))) × Int)) × List Bool)) (hself : SpecOK Try.prog (lmore_self self)) : SpecOK Try.prog (lmore_self (lmore_S N self)) := fn_sound (B := lmore_B) (loops := [lmore_l1_L N self]) (leaves := [lmore_j1_k N self]) (fun p => lmore_S N self p.1.1 p.1.2.1 p.1.2.2.2.1 p.1.2.2.2.2.1.1 p.2.1.1 p.2.2.1.1.2.2.1 p.2.2.1.1.2.2.2.1.1) (fun r => ((), ((r.1, ()), (((), ((), r.2.1, (r.2.2, ()), (), ())), ()), ()))) lmore_rt (fun _ _ _ => rfl) (fun r z h => by cases h; rfl) Try.func127 (by kernel_rfl) (by kernel_rfl) (by kernel_rfl) rfl rfl (by kernel_rfl) (fun args w => Sem.pv_run _ _ _ (by kernel_rfl) w) (lmore_all N self hself) mixed ⟨lmore_l1_ok N self hself, trivial⟩ (fun z E Xc hE hX hret => ⟨lmore_j1_lf N self hself hE hX hret, trivial⟩) (fun p => lmore_eq N self p.1.1 p.1.2.1 p.1.2.2.2.1 p.1.2.2.2.2.1.1 p.2.1.1 p.2.2.1.1.2.2.1 p.2.2.1.1.2.2.2.1.1)
def lmore_R (N : Nat) : Nat → (List Int) → Int → (((List (Int × (Int × Bool))) × ((List (Int × (Int × Int))) × Int))) → (List Bool) → (List Int) → (((List (Int × (Int × Bool))) × ((List (Int × (Int × Int))) × Int))) → (List Bool) → Option (List Int × ((List (Int × (Int × Bool))) × ((List (Int × (Int × Int))) × Int)) × List Bool)
  | 0 => fun _ _ _ _ _ _ _ => none
  | n + 1 => lmore_S N (lmore_R N n)
theorem lmore_R_ok (N : Nat) : ∀ n, SpecOK Try.prog (lmore_self (lmore_R N n))
  | 0 => SpecOK.none (fun _ _ _ => rfl) (fun args w => Sem.pv_run _ _ _ (by kernel_rfl) w)
  | n + 1 => lmore_self_ok N (lmore_R N n) (lmore_R_ok N n)
noncomputable abbrev sp_lmore (N : Nat) : Spec := lmore_self (lmore_R N N)
theorem sp_lmore_ok (N : Nat) : SpecOK Try.prog (sp_lmore N) := lmore_R_ok N N

def lmore0_j2 (N : Nat) (rec : (((List (Int × (Int × Bool))) × ((List (Int × (Int × Int))) × Int))) → (List Bool) → (List Int) → (((List (Int × (Int × Bool))) × ((List (Int × (Int × Int))) × Int))) → (List Bool) → Int → Option (List Int × ((List (Int × (Int × Bool))) × ((List (Int × (Int × Int))) × Int)) × List Bool)) (u : ((List (Int × (Int × Bool))) × ((List (Int × (Int × Int))) × Int))) (u2 : List Bool) (g : List Int) (g2 : ((List (Int × (Int × Bool))) × ((List (Int × (Int × Int))) × Int))) (g3 : List Bool) (w : Int) : Option (List Int × ((List (Int × (Int × Bool))) × ((List (Int × (Int × Int))) × Int)) × List Bool) :=
  chk (w + 1) <|
  rec u u2 g g2 g3 (w + 1)
def lmore0_l1 (N : Nat) : Nat → (((List (Int × (Int × Bool))) × ((List (Int × (Int × Int))) × Int))) → (List Bool) → (List Int) → (((List (Int × (Int × Bool))) × ((List (Int × (Int × Int))) × Int))) → (List Bool) → Int → Option (List Int × ((List (Int × (Int × Bool))) × ((List (Int × (Int × Int))) × Int)) × List Bool)
  | 0, _, _, _, _, _, _ => none
  | n_ + 1, u, u2, g, g2, g3, w =>
    (end__S N u).bind fun x_1 =>
    br (decide (w < x_1))
      ((everyi4_S N [] u2 w).bind fun x_2 =>
      br x_2
        ((clonen_S N).bind fun _ =>
        chk (w + 1) <|
        (lmore_R N N [w] (w + 1) g2 g3 g g2 g3).bind fun (x_3, y_4, y_5) =>
        lmore0_j2 N (lmore0_l1 N n_) u u2 x_3 y_4 y_5 w)
        (lmore0_j2 N (lmore0_l1 N n_) u u2 g g2 g3 w))
      (some ((g, g2, g3)))
def lmore0_j1 (N : Nat) (from_ : Int) (u : ((List (Int × (Int × Bool))) × ((List (Int × (Int × Int))) × Int))) (u2 : List Bool) (g : List Int) (g2 : ((List (Int × (Int × Bool))) × ((List (Int × (Int × Int))) × Int))) (g3 : List Bool) : Option (List Int × ((List (Int × (Int × Bool))) × ((List (Int × (Int × Int))) × Int)) × List Bool) :=
  (lmore0_l1 N N u u2 g g2 g3 from_).bind fun (g_6, g2_7, g3_8) =>
  some (g_6, g2_7, g3_8)
def lmore0_S (N : Nat) (from_ : Int) (u : ((List (Int × (Int × Bool))) × ((List (Int × (Int × Int))) × Int))) (u2 : List Bool) (g : List Int) (g2 : ((List (Int × (Int × Bool))) × ((List (Int × (Int × Int))) × Int))) (g3 : List Bool) : Option (List Int × ((List (Int × (Int × Bool))) × ((List (Int × (Int × Int))) × Int)) × List Bool) :=
  br (decide ((g.length : Int) < 0))
    ((clonen_S N).bind fun _ =>
    lmore0_j1 N from_ u u2 [] g2 g3)
    (lmore0_j1 N from_ u u2 g g2 g3)
noncomputable def lmore0_sp (N : Nat) : List Spec := [sp_clonen N, sp_lmore N, sp_end_ N, sp_everyi4 N]
theorem lmore0_all (N : Nat) : AllP (SpecOK Try.prog) (lmore0_sp N) := ⟨sp_clonen_ok N, sp_lmore_ok N, sp_end__ok N, sp_everyi4_ok N, trivial⟩
noncomputable def lmore0_c : Code := (Try.f127.body).getD .skip
noncomputable abbrev lmore0_B : Body := { c := lmore0_c, n := 36, res := [], outs := [⟨[], [.segs [.sl (.int .i64)], .segs [.fn 127 [] [.own 0 0, .fe (.ptr (.pair (.sl (.pair (.int .i64) (.pair (.int .i64) .bool))) (.pair (.sl (.pair (.int .i64) (.pair (.int .i64) (.int .i64)))) (.int .i64)))), .fz [.arr .bool 144], .own 1 0]]]⟩], m0 := 2 }
abbrev lmore0_rt : altD lmore0_B.outs → Option (List Int × ((List (Int × (Int × Bool))) × ((List (Int × (Int × Int))) × Int)) × List Bool) := fun r => some (r.2.1.1, r.2.2.1.1.2.2.1, r.2.2.1.1.2.2.2.1.1)
abbrev lmore0_l1_at : List PI := [.c [1, 1, 0, 0, 0, 0], .c [1, 1, 0, 0, 0, 1], .c [1, 1, 0, 0, 1], .l [1, 1, 0, 0], .b 0]
abbrev lmore0_l1_st : Sta := ⟨[0, 3, 4, 5, 8], ⟨[.nils, .fe (.ptr (.pair (.sl (.pair (.int .i64) (.pair (.int .i64) .bool))) (.pair (.sl (.pair (.int .i64) (.pair (.int .i64) (.int .i64)))) (.int .i64)))), .fz [.arr .bool 144], .own 1 0, .own 2 0], [.segs [.sl (.int .i64)], .segs [.fn 127 [] [.own 0 0, .fe (.ptr (.pair (.sl (.pair (.int .i64) (.pair (.int .i64) .bool))) (.pair (.sl (.pair (.int .i64) (.pair (.int .i64) (.int .i64)))) (.int .i64)))), .fz [.arr .bool 144], .own 1 0]], .segs [.i .i64]]⟩⟩
abbrev lmore0_l1_h (rec : (((List (Int × (Int × Bool))) × ((List (Int × (Int × Int))) × Int))) → (List Bool) → (List Int) → (((List (Int × (Int × Bool))) × ((List (Int × (Int × Int))) × Int))) → (List Bool) → Int → Option (List Int × ((List (Int × (Int × Bool))) × ((List (Int × (Int × Int))) × Int)) × List Bool)) : Leaf (List Int × ((List (Int × (Int × Bool))) × ((List (Int × (Int × Int))) × Int)) × List Bool) := ⟨lmore0_l1_at, lmore0_l1_st, fun p => rec p.1.2.1 p.1.2.2.1.1 p.2.1.1 p.2.2.1.1.2.2.1 p.2.2.1.1.2.2.2.1.1 p.2.2.2.1.1⟩
abbrev lmore0_l1_e0 : Leaf (List Int × ((List (Int × (Int × Bool))) × ((List (Int × (Int × Int))) × Int)) × List Bool) := ⟨[], ⟨[], ⟨[], [.segs [.sl (.int .i64)], .segs [.fn 127 [] [.own 0 0, .fe (.ptr (.pair (.sl (.pair (.int .i64) (.pair (.int .i64) .bool))) (.pair (.sl (.pair (.int .i64) (.pair (.int .i64) (.int .i64)))) (.int .i64)))), .fz [.arr .bool 144], .own 1 0]]]⟩⟩, fun p => some ((p.2.1.1, p.2.2.1.1.2.2.1, p.2.2.1.1.2.2.2.1.1))⟩
abbrev lmore0_j2_at : List PI := [.c [1, 1, 0, 0, 1, 1, 0, 0], .c [1, 1, 0, 0, 1, 1, 0, 1], .c [1, 1, 0, 0, 1, 1, 1], .l [1, 1, 0, 0], .b 0]
abbrev lmore0_j2_st : Sta := ⟨[0, 3, 4, 5, 8], ⟨[.nils, .fe (.ptr (.pair (.sl (.pair (.int .i64) (.pair (.int .i64) .bool))) (.pair (.sl (.pair (.int .i64) (.pair (.int .i64) (.int .i64)))) (.int .i64)))), .fz [.arr .bool 144], .own 1 0, .own 2 0], [.segs [.sl (.int .i64)], .segs [.fn 127 [] [.own 0 0, .fe (.ptr (.pair (.sl (.pair (.int .i64) (.pair (.int .i64) .bool))) (.pair (.sl (.pair (.int .i64) (.pair (.int .i64) (.int .i64)))) (.int .i64)))), .fz [.arr .bool 144], .own 1 0]], .segs [.i .i64]]⟩⟩
abbrev lmore0_j2_k (N : Nat) (rec : (((List (Int × (Int × Bool))) × ((List (Int × (Int × Int))) × Int))) → (List Bool) → (List Int) → (((List (Int × (Int × Bool))) × ((List (Int × (Int × Int))) × Int))) → (List Bool) → Int → Option (List Int × ((List (Int × (Int × Bool))) × ((List (Int × (Int × Int))) × Int)) × List Bool)) : Leaf (List Int × ((List (Int × (Int × Bool))) × ((List (Int × (Int × Int))) × Int)) × List Bool) := ⟨lmore0_j2_at, lmore0_j2_st, fun p => lmore0_j2 N rec p.1.2.1 p.1.2.2.1.1 p.2.1.1 p.2.2.1.1.2.2.1 p.2.2.1.1.2.2.2.1.1 p.2.2.2.1.1⟩
theorem lmore0_j2_eq (N : Nat) (rec : (((List (Int × (Int × Bool))) × ((List (Int × (Int × Int))) × Int))) → (List Bool) → (List Int) → (((List (Int × (Int × Bool))) × ((List (Int × (Int × Int))) × Int))) → (List Bool) → Int → Option (List Int × ((List (Int × (Int × Bool))) × ((List (Int × (Int × Int))) × Int)) × List Bool)) (u : ((List (Int × (Int × Bool))) × ((List (Int × (Int × Int))) × Int))) (u2 : List Bool) (g : List Int) (g2 : ((List (Int × (Int × Bool))) × ((List (Int × (Int × Int))) × Int))) (g3 : List Bool) (w : Int) : ev (Z := List Int × ((List (Int × (Int × Bool))) × ((List (Int × (Int × Int))) × Int)) × List Bool) Try.prog (lmore0_sp N) lmore0_B [] [lmore0_l1_h rec, lmore0_l1_e0] none 400 true lmore0_j2_at (stL lmore0_j2_st (((), u, (u2, ()), (), (), ()), ((g, ()), (((), ((), g2, (g3, ()), (), ())), ()), (w, ()), ()))) (stH lmore0_j2_st (((), u, (u2, ()), (), (), ()), ((g, ()), (((), ((), g2, (g3, ()), (), ())), ()), (w, ()), ()))) = lmore0_j2 N rec u u2 g g2 g3 w := by kernel_rfl
theorem lmore0_j2_lf (N : Nat) (rec : (((List (Int × (Int × Bool))) × ((List (Int × (Int × Int))) × Int))) → (List Bool) → (List Int) → (((List (Int × (Int × Bool))) × ((List (Int × (Int × Int))) × Int))) → (List Bool) → Int → Option (List Int × ((List (Int × (Int × Bool))) × ((List (Int × (Int × Int))) × Int)) × List Bool)) {z : List Int × ((List (Int × (Int × Bool))) × ((List (Int × (Int × Int))) × Int)) × List Bool} {top : Bool} {E : EE} {Xc : Ctx} (hE : EOK lmore0_B.m0 E) (hX : CxOK top Xc) (hrec : LeafOK Try.prog lmore0_B.c lmore0_B.n lmore0_B.m0 E Xc z (lmore0_l1_h rec)) (h0 : LeafOK Try.prog lmore0_B.c lmore0_B.n lmore0_B.m0 E Xc z lmore0_l1_e0) : LeafOK Try.prog lmore0_B.c lmore0_B.n lmore0_B.m0 E Xc z (lmore0_j2_k N rec) := leaf_of_ev (B := lmore0_B) (loops := []) (leaves := [lmore0_l1_h rec, lmore0_l1_e0]) (lmore0_all N) mixed trivial hE hX ⟨hrec, h0, trivial⟩ RetOK.no (fun p => lmore0_j2_eq N rec p.1.2.1 p.1.2.2.1.1 p.2.1.1 p.2.2.1.1.2.2.1 p.2.2.1.1.2.2.2.1.1 p.2.2.2.1.1)
noncomputable def lmore0_l1_L (N : Nat) : LoopS := { at_ := lmore0_l1_at, sta := lmore0_l1_st, exits := [([], ⟨[], ⟨[], [.segs [.sl (.int .i64)], .segs [.fn 127 [] [.own 0 0, .fe (.ptr (.pair (.sl (.pair (.int .i64) (.pair (.int .i64) .bool))) (.pair (.sl (.pair (.int .i64) (.pair (.int .i64) (.int .i64)))) (.int .i64)))), .fz [.arr .bool 144], .own 1 0]]]⟩⟩)], run := fun p k => (lmore0_l1 N N p.1.2.1 p.1.2.2.1.1 p.2.1.1 p.2.2.1.1.2.2.1 p.2.2.1.1.2.2.2.1.1 p.2.2.2.1.1).bind fun e => k (.inl ((), ((e.1, ()), (((), ((), e.2.1, (e.2.2, ()), (), ())), ()), ()))) }
theorem lmore0_l1_eq (N n_ : Nat) (u : ((List (Int × (Int × Bool))) × ((List (Int × (Int × Int))) × Int))) (u2 : List Bool) (g : List Int) (g2 : ((List (Int × (Int × Bool))) × ((List (Int × (Int × Int))) × Int))) (g3 : List Bool) (w : Int) : ev (Z := List Int × ((List (Int × (Int × Bool))) × ((List (Int × (Int × Int))) × Int)) × List Bool) Try.prog (lmore0_sp N) lmore0_B [] [lmore0_l1_h (lmore0_l1 N n_), lmore0_l1_e0, lmore0_j2_k N (lmore0_l1 N n_)] none 400 true lmore0_l1_at (stL lmore0_l1_st (((), u, (u2, ()), (), (), ()), ((g, ()), (((), ((), g2, (g3, ()), (), ())), ()), (w, ()), ()))) (stH lmore0_l1_st (((), u, (u2, ()), (), (), ()), ((g, ()), (((), ((), g2, (g3, ()), (), ())), ()), (w, ()), ()))) = lmore0_l1 N (n_ + 1) u u2 g g2 g3 w := by kernel_rfl
theorem lmore0_l1_ok (N : Nat) {top : Bool} : LoopOK Try.prog lmore0_B.c lmore0_B.n lmore0_B.m0 top (lmore0_l1_L N) := loop_of_ev (Z := List Int × ((List (Int × (Int × Bool))) × ((List (Int × (Int × Int))) × Int)) × List Bool) (N := N) (fun m p => lmore0_l1 N m p.1.2.1 p.1.2.2.1.1 p.2.1.1 p.2.2.1.1.2.2.1 p.2.2.1.1.2.2.2.1.1 p.2.2.2.1.1) (fun e => .inl ((), ((e.1, ()), (((), ((), e.2.1, (e.2.2, ()), (), ())), ()), ()))) (fun _ _ _ => rfl) (fun _ => rfl) (fun m z E Xc hE hX hrec hx => leaf_of_ev (B := lmore0_B) (loops := []) (leaves := [lmore0_l1_h (lmore0_l1 N m), lmore0_l1_e0, lmore0_j2_k N (lmore0_l1 N m)]) (lmore0_all N) mixed trivial hE hX ⟨hrec, (fun p hp => by obtain rfl := Option.some.inj hp; exact hx), lmore0_j2_lf N _ hE hX hrec (fun p hp => by obtain rfl := Option.some.inj hp; exact hx), trivial⟩ RetOK.no (fun p => lmore0_l1_eq N m p.1.2.1 p.1.2.2.1.1 p.2.1.1 p.2.2.1.1.2.2.1 p.2.2.1.1.2.2.2.1.1 p.2.2.2.1.1))
abbrev lmore0_j1_at : List PI := [.c [1, 0], .c [1, 1]]
abbrev lmore0_j1_st : Sta := ⟨[0, 1, 3, 4, 5], ⟨[.nils, .i .i64, .fe (.ptr (.pair (.sl (.pair (.int .i64) (.pair (.int .i64) .bool))) (.pair (.sl (.pair (.int .i64) (.pair (.int .i64) (.int .i64)))) (.int .i64)))), .fz [.arr .bool 144], .own 1 0], [.segs [.sl (.int .i64)], .segs [.fn 127 [] [.own 0 0, .fe (.ptr (.pair (.sl (.pair (.int .i64) (.pair (.int .i64) .bool))) (.pair (.sl (.pair (.int .i64) (.pair (.int .i64) (.int .i64)))) (.int .i64)))), .fz [.arr .bool 144], .own 1 0]]]⟩⟩
abbrev lmore0_j1_k (N : Nat) : Leaf (List Int × ((List (Int × (Int × Bool))) × ((List (Int × (Int × Int))) × Int)) × List Bool) := ⟨lmore0_j1_at, lmore0_j1_st, fun p => lmore0_j1 N p.1.2.1 p.1.2.2.1 p.1.2.2.2.1.1 p.2.1.1 p.2.2.1.1.2.2.1 p.2.2.1.1.2.2.2.1.1⟩
theorem lmore0_j1_eq (N : Nat) (from_ : Int) (u : ((List (Int × (Int × Bool))) × ((List (Int × (Int × Int))) × Int))) (u2 : List Bool) (g : List Int) (g2 : ((List (Int × (Int × Bool))) × ((List (Int × (Int × Int))) × Int))) (g3 : List Bool) : ev (Z := List Int × ((List (Int × (Int × Bool))) × ((List (Int × (Int × Int))) × Int)) × List Bool) Try.prog (lmore0_sp N) lmore0_B [lmore0_l1_L N] [] (some lmore0_rt) 400 true lmore0_j1_at (stL lmore0_j1_st (((), from_, u, (u2, ()), (), ()), ((g, ()), (((), ((), g2, (g3, ()), (), ())), ()), ()))) (stH lmore0_j1_st (((), from_, u, (u2, ()), (), ()), ((g, ()), (((), ((), g2, (g3, ()), (), ())), ()), ()))) = lmore0_j1 N from_ u u2 g g2 g3 := by kernel_rfl
theorem lmore0_j1_lf (N : Nat) {z : List Int × ((List (Int × (Int × Bool))) × ((List (Int × (Int × Int))) × Int)) × List Bool} {E : EE} {Xc : Ctx} (hE : EOK lmore0_B.m0 E) (hX : CxOK true Xc) (hret : RetOK Try.prog lmore0_B E Xc z (some lmore0_rt)) : LeafOK Try.prog lmore0_B.c lmore0_B.n lmore0_B.m0 E Xc z (lmore0_j1_k N) := leaf_of_ev (B := lmore0_B) (loops := [lmore0_l1_L N]) (leaves := []) (lmore0_all N) mixed ⟨lmore0_l1_ok N, trivial⟩ hE hX trivial hret (fun p => lmore0_j1_eq N p.1.2.1 p.1.2.2.1 p.1.2.2.2.1.1 p.2.1.1 p.2.2.1.1.2.2.1 p.2.2.1.1.2.2.2.1.1)
abbrev lmore0_st : Sta := ⟨[0, 1, 2, 3, 4, 5], ⟨[.nils, .i .i64, .own 0 0, .fe (.ptr (.pair (.sl (.pair (.int .i64) (.pair (.int .i64) .bool))) (.pair (.sl (.pair (.int .i64) (.pair (.int .i64) (.int .i64)))) (.int .i64)))), .fz [.arr .bool 144], .own 1 0], [.segs [.sl (.int .i64)], .segs [.fn 127 [] [.own 0 0, .fe (.ptr (.pair (.sl (.pair (.int .i64) (.pair (.int .i64) .bool))) (.pair (.sl (.pair (.int .i64) (.pair (.int .i64) (.int .i64)))) (.int .i64)))), .fz [.arr .bool 144], .own 1 0]]]⟩⟩
theorem lmore0_eq (N : Nat) (from_ : Int) (u : ((List (Int × (Int × Bool))) × ((List (Int × (Int × Int))) × Int))) (u2 : List Bool) (g : List Int) (g2 : ((List (Int × (Int × Bool))) × ((List (Int × (Int × Int))) × Int))) (g3 : List Bool) : ev (Z := List Int × ((List (Int × (Int × Bool))) × ((List (Int × (Int × Int))) × Int)) × List Bool) Try.prog (lmore0_sp N) lmore0_B [lmore0_l1_L N] [lmore0_j1_k N] (some lmore0_rt) 400 false [.c [0, 0], .c [0, 1], .c [1]] (stL lmore0_st (((), from_, (), u, (u2, ()), (), ()), ((g, ()), (((), ((), g2, (g3, ()), (), ())), ()), ()))) (stH lmore0_st (((), from_, (), u, (u2, ()), (), ()), ((g, ()), (((), ((), g2, (g3, ()), (), ())), ()), ()))) = lmore0_S N from_ u u2 g g2 g3 := by kernel_rfl
noncomputable def sp_lmore0 (N : Nat) : Spec := { f := 127, ins := ⟨[.nils, .i .i64, .own 0 0, .fe (.ptr (.pair (.sl (.pair (.int .i64) (.pair (.int .i64) .bool))) (.pair (.sl (.pair (.int .i64) (.pair (.int .i64) (.int .i64)))) (.int .i64)))), .fz [.arr .bool 144], .own 1 0], [.segs [.sl (.int .i64)], .segs [.fn 127 [] [.own 0 0, .fe (.ptr (.pair (.sl (.pair (.int .i64) (.pair (.int .i64) .bool))) (.pair (.sl (.pair (.int .i64) (.pair (.int .i64) (.int .i64)))) (.int .i64)))), .fz [.arr .bool 144], .own 1 0]]]⟩, outs := [⟨[], [.segs [.sl (.int .i64)], .segs [.fn 127 [] [.own 0 0, .fe (.ptr (.pair (.sl (.pair (.int .i64) (.pair (.int .i64) .bool))) (.pair (.sl (.pair (.int .i64) (.pair (.int .i64) (.int .i64)))) (.int .i64)))), .fz [.arr .bool 144], .own 1 0]]]⟩], run := fun p k => (lmore0_S N p.1.2.1 p.1.2.2.2.1 p.1.2.2.2.2.1.1 p.2.1.1 p.2.2.1.1.2.2.1 p.2.2.1.1.2.2.2.1.1).bind fun r => k ((), ((r.1, ()), (((), ((), r.2.1, (r.2.2, ()), (), ())), ()), ())) }
theorem sp_lmore0_ok (N : Nat) : SpecOK Try.prog (sp_lmore0 N) := fn_sound (B := lmore0_B) (loops := [lmore0_l1_L N]) (leaves := [lmore0_j1_k N]) (fun p => lmore0_S N p.1.2.1 p.1.2.2.2.1 p.1.2.2.2.2.1.1 p.2.1.1 p.2.2.1.1.2.2.1 p.2.2.1.1.2.2.2.1.1) (fun r => ((), ((r.1, ()), (((), ((), r.2.1, (r.2.2, ()), (), ())), ()), ()))) lmore0_rt (fun _ _ _ => rfl) (fun r z h => by cases h; rfl) Try.func127 (by kernel_rfl) (by kernel_rfl) (by kernel_rfl) rfl rfl (by kernel_rfl) (fun args w => Sem.pv_run _ _ _ (by kernel_rfl) w) (lmore0_all N) mixed ⟨lmore0_l1_ok N, trivial⟩ (fun z E Xc hE hX hret => ⟨lmore0_j1_lf N hE hX hret, trivial⟩) (fun p => lmore0_eq N p.1.2.1 p.1.2.2.2.1 p.1.2.2.2.2.1.1 p.2.1.1 p.2.2.1.1.2.2.1 p.2.2.1.1.2.2.2.1.1)

def lone_l4 (N : Nat) : Nat → Int → Int → Int → Int → (((List (Int × (Int × Bool))) × ((List (Int × (Int × Int))) × Int))) → (List Bool) → Int → Option (Int × Int × Int × ((List (Int × (Int × Bool))) × ((List (Int × (Int × Int))) × Int)) × List Bool × Int)
  | 0, _, _, _, _, _, _, _ => none
  | n_ + 1, u, to, a, b, g, joined, g2 =>
    br (decide (b < to))
      (rng a 12 <|
      rng b 12 <|
      get joined ((a.toNat * 12) + b.toNat) fun _ =>
      chk (b + 1) <|
      lone_l4 N n_ u to a (b + 1) g (joined.set ((a.toNat * 12) + b.toNat) true) g2)
      (some ((u, to, a, g, joined, g2)))
def lone_l3 (N : Nat) : Nat → Int → Int → Int → (((List (Int × (Int × Bool))) × ((List (Int × (Int × Int))) × Int))) → (List Bool) → Int → Option (Int × ((List (Int × (Int × Bool))) × ((List (Int × (Int × Int))) × Int)) × List Bool × Int)
  | 0, _, _, _, _, _, _ => none
  | n_ + 1, u, to, a, g, joined, g2 =>
    br (decide (a < to))
      (chk (a + 1) <|
      (lone_l4 N N u to a (a + 1) g joined g2).bind fun (u_7, to_8, a_9, g_10, joined_11, g2_12) =>
      chk (a_9 + 1) <|
      lone_l3 N n_ u_7 to_8 (a_9 + 1) g_10 joined_11 g2_12)
      (some ((u, g, joined, g2)))
def lone_l2_b (N : Nat) (rec : (((List (Int × (Int × Bool))) × ((List (Int × (Int × Int))) × Int))) → (List Bool) → Int → Option (Int × Int × Int × ((List (Int × (Int × Bool))) × ((List (Int × (Int × Int))) × Int)) × List Bool)) (u : Int) (u2 : Int) (u3 : Int) (u4 : Int) (u5 : ((List (Int × (Int × Bool))) × ((List (Int × (Int × Int))) × Int))) (u' : Int) (to' : Int) (g' : ((List (Int × (Int × Bool))) × ((List (Int × (Int × Int))) × Int))) (joined' : List Bool) (from_' : Int) : Option (Int × Int × Int × ((List (Int × (Int × Bool))) × ((List (Int × (Int × Int))) × Int)) × List Bool) :=
  (lone_l3 N N u' to' from_' g' joined' from_').bind fun (u_13, g_14, g2_15, g3_16) =>
  rec g_14 g2_15 g3_16
def lone_l2 (N : Nat) : List (Int × Unit) → Int → Int → Int → Int → (((List (Int × (Int × Bool))) × ((List (Int × (Int × Int))) × Int))) → (((List (Int × (Int × Bool))) × ((List (Int × (Int × Int))) × Int))) → (List Bool) → Int → Option (Int × Int × Int × ((List (Int × (Int × Bool))) × ((List (Int × (Int × Int))) × Int)) × List Bool)
  | [], u, u2, u3, u4, u5, d, joined, from_ =>
    some ((u, u2, u3, d, joined))
  | e :: es, u, u2, u3, u4, u5, d, joined, from_ =>
    lone_l2_b N (fun d_ joined_ from__ => lone_l2 N es u u2 u3 u4 u5 d_ joined_ from__) u u2 u3 u4 u5 u e.1 d joined from_
def lone_l1 (N : Nat) : Nat → Int → Int → Int → (((List (Int × (Int × Bool))) × ((List (Int × (Int × Int))) × Int))) → (List Bool) → Option (((List (Int × (Int × Bool))) × ((List (Int × (Int × Int))) × Int)) × List Bool)
  | 0, _, _, _, _, _ => none
  | n_ + 1, u, u2, u3, d, joined =>
    br (decide (u3 < u2))
      ((breaths_S N d u3).bind fun (x_4, y_5) =>
      ((breathsR x_4 y_5).bind fun es => lone_l2 N es u u2 u3 x_4 y_5 d joined u3).bind fun (u_17, u2_18, u3_19, d_20, joined_21) =>
      chk (u3_19 + 1) <|
      lone_l1 N n_ u_17 u2_18 (u3_19 + 1) d_20 joined_21)
      (some ((d, joined)))
def lone_S (N : Nat) (t : List (Int × (Int × Bool))) (t2 : List (Int × (Int × Int))) (t3 : Int) : Option (List Int × Int) :=
  ((opened_S N t t2 t3).bind fun e => match e with
  | .inl (x_1, y_2) =>
    (br (!decide (y_2 = 0))
      (some ([], y_2))
      ((end__S N x_1).bind fun x_3 =>
      (lone_l1 N N 0 x_3 0 x_1 (List.replicate 144 (false : Bool))).bind fun (d_22, joined_23) =>
      (lmore0_S N 0 d_22 joined_23 [] d_22 joined_23).bind fun (x_24, y_25, y_26) =>
      some (x_24, 0)))
  | .inr x_27 =>
    (br (!decide (x_27 = 0))
      (some ([], x_27))
      (none)))
noncomputable def lone_sp (N : Nat) : List Spec := [sp_lmore0 N, sp_opened N, sp_end_ N, sp_breaths N]
theorem lone_all (N : Nat) : AllP (SpecOK Try.prog) (lone_sp N) := ⟨sp_lmore0_ok N, sp_opened_ok N, sp_end__ok N, sp_breaths_ok N, trivial⟩
noncomputable def lone_c : Code := (Try.f63.body).getD .skip
noncomputable abbrev lone_B : Body := { c := lone_c, n := 52, res := [.tmp 2, .tmp 3], outs := [⟨[.sl (.int .i64), .i .i64], []⟩], m0 := 0 }
abbrev lone_rt : altD lone_B.outs → Option (List Int × Int) := fun r => some (r.1.1, r.1.2.1)
noncomputable abbrev lone_l2_Bk : Body := { c := lone_c, n := lone_B.n, res := lone_B.res, outs := lone_B.outs, m0 := 3 }
abbrev lone_l4_at : List PI := [.c [1, 1, 1, 1, 0, 1, 0, 0, 1, 1, 0, 0, 1, 1, 0, 1, 0, 1, 0, 0, 1, 0, 0, 1, 0, 0, 0, 0], .c [1, 1, 1, 1, 0, 1, 0, 0, 1, 1, 0, 0, 1, 1, 0, 1, 0, 1, 0, 0, 1, 0, 0, 1, 0, 0, 0, 1], .c [1, 1, 1, 1, 0, 1, 0, 0, 1, 1, 0, 0, 1, 1, 0, 1, 0, 1, 0, 0, 1, 0, 0, 1, 0, 0, 1], .l [1, 1, 1, 1, 0, 1, 0, 0, 1, 1, 0, 0, 1, 1, 0, 1, 0, 1, 0, 0, 1, 0, 0, 1, 0, 0], .b 6, .b 5, .c [1, 1, 1, 1, 0, 1, 0, 0, 1, 1, 0, 0, 1, 1, 0, 1, 0, 1, 0, 0, 1, 1], .l [1, 1, 1, 1, 0, 1, 0, 0, 1, 1, 0, 0, 1, 1, 0, 1, 0, 1, 0, 0], .b 4, .b 3]
abbrev lone_l4_st : Sta := ⟨[2, 3, 6, 8, 9, 10], ⟨[.nils, .i .i64, .own 1 0, .i .i64, .i .i64, .i .i64], [.segs [.fe (.pair (.sl (.pair (.int .i64) (.pair (.int .i64) .bool))) (.pair (.sl (.pair (.int .i64) (.pair (.int .i64) (.int .i64)))) (.int .i64)))], .segs [.arr .bool 144], .segs [.i .i64]]⟩⟩
abbrev lone_l4_h (rec : Int → Int → Int → Int → (((List (Int × (Int × Bool))) × ((List (Int × (Int × Int))) × Int))) → (List Bool) → Int → Option (Int × Int × Int × ((List (Int × (Int × Bool))) × ((List (Int × (Int × Int))) × Int)) × List Bool × Int)) : Leaf (Int × Int × Int × ((List (Int × (Int × Bool))) × ((List (Int × (Int × Int))) × Int)) × List Bool × Int) := ⟨lone_l4_at, lone_l4_st, fun p => rec p.1.2.1 p.1.2.2.2.1 p.1.2.2.2.2.1 p.1.2.2.2.2.2.1 p.2.1.1 p.2.2.1.1 p.2.2.2.1.1⟩
abbrev lone_l4_e0 : Leaf (Int × Int × Int × ((List (Int × (Int × Bool))) × ((List (Int × (Int × Int))) × Int)) × List Bool × Int) := ⟨[.c [1, 1, 1, 1, 0, 1, 0, 0, 1, 1, 0, 0, 1, 1, 0, 1, 0, 1, 0, 0, 1, 1], .l [1, 1, 1, 1, 0, 1, 0, 0, 1, 1, 0, 0, 1, 1, 0, 1, 0, 1, 0, 0], .b 4, .b 3], ⟨[2, 3, 6, 8, 9], ⟨[.nils, .i .i64, .own 1 0, .i .i64, .i .i64], [.segs [.fe (.pair (.sl (.pair (.int .i64) (.pair (.int .i64) .bool))) (.pair (.sl (.pair (.int .i64) (.pair (.int .i64) (.int .i64)))) (.int .i64)))], .segs [.arr .bool 144], .segs [.i .i64]]⟩⟩, fun p => some ((p.1.2.1, p.1.2.2.2.1, p.1.2.2.2.2.1, p.2.1.1, p.2.2.1.1, p.2.2.2.1.1))⟩
noncomputable def lone_l4_L (N : Nat) : LoopS := { at_ := lone_l4_at, sta := lone_l4_st, exits := [([.c [1, 1, 1, 1, 0, 1, 0, 0, 1, 1, 0, 0, 1, 1, 0, 1, 0, 1, 0, 0, 1, 1], .l [1, 1, 1, 1, 0, 1, 0, 0, 1, 1, 0, 0, 1, 1, 0, 1, 0, 1, 0, 0], .b 4, .b 3], ⟨[2, 3, 6, 8, 9], ⟨[.nils, .i .i64, .own 1 0, .i .i64, .i .i64], [.segs [.fe (.pair (.sl (.pair (.int .i64) (.pair (.int .i64) .bool))) (.pair (.sl (.pair (.int .i64) (.pair (.int .i64) (.int .i64)))) (.int .i64)))], .segs [.arr .bool 144], .segs [.i .i64]]⟩⟩)], run := fun p k => (lone_l4 N N p.1.2.1 p.1.2.2.2.1 p.1.2.2.2.2.1 p.1.2.2.2.2.2.1 p.2.1.1 p.2.2.1.1 p.2.2.2.1.1).bind fun e => k (.inl (((), e.1, (), e.2.1, e.2.2.1, ()), ((e.2.2.2.1, ()), (e.2.2.2.2.1, ()), (e.2.2.2.2.2, ()), ()))) }
theorem lone_l4_eq (N n_ : Nat) (u : Int) (to : Int) (a : Int) (b : Int) (g : ((List (Int × (Int × Bool))) × ((List (Int × (Int × Int))) × Int))) (joined : List Bool) (g2 : Int) : ev (Z := Int × Int × Int × ((List (Int × (Int × Bool))) × ((List (Int × (Int × Int))) × Int)) × List Bool × Int) Try.prog (lone_sp N) lone_l2_Bk [] [lone_l4_h (lone_l4 N n_), lone_l4_e0] none 400 true lone_l4_at (stL lone_l4_st (((), u, (), to, a, b, ()), ((g, ()), (joined, ()), (g2, ()), ()))) (stH lone_l4_st (((), u, (), to, a, b, ()), ((g, ()), (joined, ()), (g2, ()), ()))) = lone_l4 N (n_ + 1) u to a b g joined g2 := by kernel_rfl
theorem lone_l4_ok (N : Nat) {top : Bool} : LoopOK Try.prog lone_l2_Bk.c lone_l2_Bk.n lone_l2_Bk.m0 top (lone_l4_L N) := loop_of_ev (Z := Int × Int × Int × ((List (Int × (Int × Bool))) × ((List (Int × (Int × Int))) × Int)) × List Bool × Int) (N := N) (fun m p => lone_l4 N m p.1.2.1 p.1.2.2.2.1 p.1.2.2.2.2.1 p.1.2.2.2.2.2.1 p.2.1.1 p.2.2.1.1 p.2.2.2.1.1) (fun e => .inl (((), e.1, (), e.2.1, e.2.2.1, ()), ((e.2.2.2.1, ()), (e.2.2.2.2.1, ()), (e.2.2.2.2.2, ()), ()))) (fun _ _ _ => rfl) (fun _ => rfl) (fun m z E Xc hE hX hrec hx => leaf_of_ev (B := lone_l2_Bk) (loops := []) (leaves := [lone_l4_h (lone_l4 N m), lone_l4_e0]) (lone_all N) mixed trivial hE hX ⟨hrec, (fun p hp => by obtain rfl := Option.some.inj hp; exact hx), trivial⟩ RetOK.no (fun p => lone_l4_eq N m p.1.2.1 p.1.2.2.2.1 p.1.2.2.2.2.1 p.1.2.2.2.2.2.1 p.2.1.1 p.2.2.1.1 p.2.2.2.1.1))
abbrev lone_l3_at : List PI := [.c [1, 1, 1, 1, 0, 1, 0, 0, 1, 1, 0, 0, 1, 1, 0, 1, 0, 1, 0, 0, 0, 0], .c [1, 1, 1, 1, 0, 1, 0, 0, 1, 1, 0, 0, 1, 1, 0, 1, 0, 1, 0, 0, 0, 1], .c [1, 1, 1, 1, 0, 1, 0, 0, 1, 1, 0, 0, 1, 1, 0, 1, 0, 1, 0, 0, 1], .l [1, 1, 1, 1, 0, 1, 0, 0, 1, 1, 0, 0, 1, 1, 0, 1, 0, 1, 0, 0], .b 4, .b 3]
abbrev lone_l3_st : Sta := ⟨[2, 3, 6, 8, 9], ⟨[.nils, .i .i64, .own 1 0, .i .i64, .i .i64], [.segs [.fe (.pair (.sl (.pair (.int .i64) (.pair (.int .i64) .bool))) (.pair (.sl (.pair (.int .i64) (.pair (.int .i64) (.int .i64)))) (.int .i64)))], .segs [.arr .bool 144], .segs [.i .i64]]⟩⟩
abbrev lone_l3_h (rec : Int → Int → Int → (((List (Int × (Int × Bool))) × ((List (Int × (Int × Int))) × Int))) → (List Bool) → Int → Option (Int × ((List (Int × (Int × Bool))) × ((List (Int × (Int × Int))) × Int)) × List Bool × Int)) : Leaf (Int × ((List (Int × (Int × Bool))) × ((List (Int × (Int × Int))) × Int)) × List Bool × Int) := ⟨lone_l3_at, lone_l3_st, fun p => rec p.1.2.1 p.1.2.2.2.1 p.1.2.2.2.2.1 p.2.1.1 p.2.2.1.1 p.2.2.2.1.1⟩
abbrev lone_l3_e0 : Leaf (Int × ((List (Int × (Int × Bool))) × ((List (Int × (Int × Int))) × Int)) × List Bool × Int) := ⟨[], ⟨[2, 3], ⟨[.nils, .i .i64], [.segs [.fe (.pair (.sl (.pair (.int .i64) (.pair (.int .i64) .bool))) (.pair (.sl (.pair (.int .i64) (.pair (.int .i64) (.int .i64)))) (.int .i64)))], .segs [.arr .bool 144], .segs [.i .i64]]⟩⟩, fun p => some ((p.1.2.1, p.2.1.1, p.2.2.1.1, p.2.2.2.1.1))⟩
noncomputable def lone_l3_L (N : Nat) : LoopS := { at_ := lone_l3_at, sta := lone_l3_st, exits := [([], ⟨[2, 3], ⟨[.nils, .i .i64], [.segs [.fe (.pair (.sl (.pair (.int .i64) (.pair (.int .i64) .bool))) (.pair (.sl (.pair (.int .i64) (.pair (.int .i64) (.int .i64)))) (.int .i64)))], .segs [.arr .bool 144], .segs [.i .i64]]⟩⟩)], run := fun p k => (lone_l3 N N p.1.2.1 p.1.2.2.2.1 p.1.2.2.2.2.1 p.2.1.1 p.2.2.1.1 p.2.2.2.1.1).bind fun e => k (.inl (((), e.1, ()), ((e.2.1, ()), (e.2.2.1, ()), (e.2.2.2, ()), ()))) }
theorem lone_l3_eq (N n_ : Nat) (u : Int) (to : Int) (a : Int) (g : ((List (Int × (Int × Bool))) × ((List (Int × (Int × Int))) × Int))) (joined : List Bool) (g2 : Int) : ev (Z := Int × ((List (Int × (Int × Bool))) × ((List (Int × (Int × Int))) × Int)) × List Bool × Int) Try.prog (lone_sp N) lone_l2_Bk [lone_l4_L N] [lone_l3_h (lone_l3 N n_), lone_l3_e0] none 400 true lone_l3_at (stL lone_l3_st (((), u, (), to, a, ()), ((g, ()), (joined, ()), (g2, ()), ()))) (stH lone_l3_st (((), u, (), to, a, ()), ((g, ()), (joined, ()), (g2, ()), ()))) = lone_l3 N (n_ + 1) u to a g joined g2 := by kernel_rfl
theorem lone_l3_ok (N : Nat) {top : Bool} : LoopOK Try.prog lone_l2_Bk.c lone_l2_Bk.n lone_l2_Bk.m0 top (lone_l3_L N) := loop_of_ev (Z := Int × ((List (Int × (Int × Bool))) × ((List (Int × (Int × Int))) × Int)) × List Bool × Int) (N := N) (fun m p => lone_l3 N m p.1.2.1 p.1.2.2.2.1 p.1.2.2.2.2.1 p.2.1.1 p.2.2.1.1 p.2.2.2.1.1) (fun e => .inl (((), e.1, ()), ((e.2.1, ()), (e.2.2.1, ()), (e.2.2.2, ()), ()))) (fun _ _ _ => rfl) (fun _ => rfl) (fun m z E Xc hE hX hrec hx => leaf_of_ev (B := lone_l2_Bk) (loops := [lone_l4_L N]) (leaves := [lone_l3_h (lone_l3 N m), lone_l3_e0]) (lone_all N) mixed ⟨lone_l4_ok N, trivial⟩ hE hX ⟨hrec, (fun p hp => by obtain rfl := Option.some.inj hp; exact hx), trivial⟩ RetOK.no (fun p => lone_l3_eq N m p.1.2.1 p.1.2.2.2.1 p.1.2.2.2.2.1 p.2.1.1 p.2.2.1.1 p.2.2.2.1.1))
abbrev lone_l2_st : Sta := ⟨[2, 3, 4, 6, 7, 22, 23, 28], ⟨[.nils, .i .i64, .own 0 0, .own 1 0, .own 2 0, .i .i64, .i .i64, .fn 143 [] [.fe (.int .i64), .fe (.ptr (.pair (.sl (.pair (.int .i64) (.pair (.int .i64) .bool))) (.pair (.sl (.pair (.int .i64) (.pair (.int .i64) (.int .i64)))) (.int .i64))))]], [.segs [.fe (.pair (.sl (.pair (.int .i64) (.pair (.int .i64) .bool))) (.pair (.sl (.pair (.int .i64) (.pair (.int .i64) (.int .i64)))) (.int .i64)))], .segs [.arr .bool 144], .segs [.i .i64]]⟩⟩
abbrev lone_l2_stA : Sta := ⟨[2, 3, 6, 7, 8], ⟨[.nils, .i .i64, .own 1 0, .own 2 0, .i .i64], [.segs [.fe (.pair (.sl (.pair (.int .i64) (.pair (.int .i64) .bool))) (.pair (.sl (.pair (.int .i64) (.pair (.int .i64) (.int .i64)))) (.int .i64)))], .segs [.arr .bool 144], .segs [.i .i64]]⟩⟩
abbrev lone_l2_e0 : Leaf (Int × Int × Int × ((List (Int × (Int × Bool))) × ((List (Int × (Int × Int))) × Int)) × List Bool) := ⟨[.c [1, 1, 1, 1, 0, 1, 0, 0, 1, 1, 1], .l [1, 1, 1, 1, 0, 1, 0, 0], .b 0, .c [1, 1, 1, 1, 1]], ⟨[2, 3, 4, 6, 22, 23], ⟨[.nils, .i .i64, .own 0 0, .own 1 0, .i .i64, .i .i64], [.segs [.fe (.pair (.sl (.pair (.int .i64) (.pair (.int .i64) .bool))) (.pair (.sl (.pair (.int .i64) (.pair (.int .i64) (.int .i64)))) (.int .i64)))], .segs [.arr .bool 144]]⟩⟩, fun p => some ((p.1.2.1, p.1.2.2.2.2.1, p.1.2.2.2.2.2.1, p.2.1.1, p.2.2.1.1))⟩
noncomputable def lone_l2_L (N : Nat) : LoopS := { at_ := [.c [1, 1, 1, 1, 0, 1, 0, 0, 1, 1, 0, 0, 1, 1, 0], .b 2, .b 1, .c [1, 1, 1, 1, 0, 1, 0, 0, 1, 1, 1], .l [1, 1, 1, 1, 0, 1, 0, 0], .b 0, .c [1, 1, 1, 1, 1]], sta := lone_l2_st, exits := [([.c [1, 1, 1, 1, 0, 1, 0, 0, 1, 1, 1], .l [1, 1, 1, 1, 0, 1, 0, 0], .b 0, .c [1, 1, 1, 1, 1]], ⟨[2, 3, 4, 6, 22, 23], ⟨[.nils, .i .i64, .own 0 0, .own 1 0, .i .i64, .i .i64], [.segs [.fe (.pair (.sl (.pair (.int .i64) (.pair (.int .i64) .bool))) (.pair (.sl (.pair (.int .i64) (.pair (.int .i64) (.int .i64)))) (.int .i64)))], .segs [.arr .bool 144]]⟩⟩)], run := fun p k => ((breathsR p.1.2.2.2.2.2.2.2.1.2.1 p.1.2.2.2.2.2.2.2.1.2.2.1).bind fun es => lone_l2 N es p.1.2.1 p.1.2.2.2.2.2.1 p.1.2.2.2.2.2.2.1 p.1.2.2.2.2.2.2.2.1.2.1 p.1.2.2.2.2.2.2.2.1.2.2.1 p.2.1.1 p.2.2.1.1 p.2.2.2.1.1).bind fun e => k (.inl (((), e.1, (), (), e.2.1, e.2.2.1, ()), ((e.2.2.2.1, ()), (e.2.2.2.2, ()), ()))) }
theorem lone_l2_end (N : Nat) (u : Int) (u2 : Int) (u3 : Int) (u4 : Int) (u5 : ((List (Int × (Int × Bool))) × ((List (Int × (Int × Int))) × Int))) (d : ((List (Int × (Int × Bool))) × ((List (Int × (Int × Int))) × Int))) (joined : List Bool) (from_ : Int) : ev (Z := Int × Int × Int × ((List (Int × (Int × Bool))) × ((List (Int × (Int × Int))) × Int)) × List Bool) Try.prog (lone_sp N) lone_B [] [lone_l2_e0] none 400 false (nrm lone_B.c 99 [.b 2, .b 1, .c [1, 1, 1, 1, 0, 1, 0, 0, 1, 1, 1], .l [1, 1, 1, 1, 0, 1, 0, 0], .b 0, .c [1, 1, 1, 1, 1]]) (stL lone_l2_st (((), u, (), (), (), u2, u3, ((), (u4, u5, ())), ()), ((d, ()), (joined, ()), (from_, ()), ()))) (stH lone_l2_st (((), u, (), (), (), u2, u3, ((), (u4, u5, ())), ()), ((d, ()), (joined, ()), (from_, ()), ()))) = lone_l2 N [] u u2 u3 u4 u5 d joined from_ := by kernel_rfl
theorem lone_l2_asg (N : Nat) (e : Int × Unit) (es : List (Int × Unit)) (u : Int) (u2 : Int) (u3 : Int) (u4 : Int) (u5 : ((List (Int × (Int × Bool))) × ((List (Int × (Int × Int))) × Int))) (d : ((List (Int × (Int × Bool))) × ((List (Int × (Int × Int))) × Int))) (joined : List Bool) (from_ : Int) : ev (Z := Int × Int × Int × ((List (Int × (Int × Bool))) × ((List (Int × (Int × Int))) × Int)) × List Bool) Try.prog (lone_sp N) lone_l2_Bk [] [⟨[.r, .c [1, 1, 1, 1, 0, 1, 0, 0, 1, 1, 0, 0, 1, 1, 0, 1]], lone_l2_stA, fun p => lone_l2_b N (fun d_ joined_ from__ => lone_l2 N es u u2 u3 u4 u5 d_ joined_ from__) u u2 u3 u4 u5 p.1.2.1 p.1.2.2.2.2.1 p.2.1.1 p.2.2.1.1 p.2.2.2.1.1⟩] none 400 false (nrm lone_B.c 99 [.c [1, 1, 1, 1, 0, 1, 0, 0, 1, 1, 0, 0, 1, 1, 0, 0], .r, .c [1, 1, 1, 1, 0, 1, 0, 0, 1, 1, 0, 0, 1, 1, 0, 1]]) (pars [29] (encs id is_breaths.elem e) (stL lone_l2_st (((), u, (), (), (), u2, u3, ((), (u4, u5, ())), ()), ((d, ()), (joined, ()), (from_, ()), ())))) (stH lone_l2_st (((), u, (), (), (), u2, u3, ((), (u4, u5, ())), ()), ((d, ()), (joined, ()), (from_, ()), ()))) = lone_l2 N (e :: es) u u2 u3 u4 u5 d joined from_ := by kernel_rfl
theorem lone_l2_bod (N : Nat) (rec : (((List (Int × (Int × Bool))) × ((List (Int × (Int × Int))) × Int))) → (List Bool) → Int → Option (Int × Int × Int × ((List (Int × (Int × Bool))) × ((List (Int × (Int × Int))) × Int)) × List Bool)) (u : Int) (u2 : Int) (u3 : Int) (u4 : Int) (u5 : ((List (Int × (Int × Bool))) × ((List (Int × (Int × Int))) × Int))) (u' : Int) (to' : Int) (g' : ((List (Int × (Int × Bool))) × ((List (Int × (Int × Int))) × Int))) (joined' : List Bool) (from_' : Int) : ev (Z := Int × Int × Int × ((List (Int × (Int × Bool))) × ((List (Int × (Int × Int))) × Int)) × List Bool) Try.prog (lone_sp N) lone_l2_Bk [lone_l4_L N, lone_l3_L N] [⟨[], ⟨[], ⟨[], [.segs [.fe (.pair (.sl (.pair (.int .i64) (.pair (.int .i64) .bool))) (.pair (.sl (.pair (.int .i64) (.pair (.int .i64) (.int .i64)))) (.int .i64)))], .segs [.arr .bool 144], .segs [.i .i64]]⟩⟩, fun p => rec p.2.1.1 p.2.2.1.1 p.2.2.2.1.1⟩] none 400 false (nrm lone_B.c 99 [.c [1, 1, 1, 1, 0, 1, 0, 0, 1, 1, 0, 0, 1, 1, 0, 1]]) (stL lone_l2_stA (((), u', (), (), to', ()), ((g', ()), (joined', ()), (from_', ()), ()))) (stH lone_l2_stA (((), u', (), (), to', ()), ((g', ()), (joined', ()), (from_', ()), ()))) = lone_l2_b N rec u u2 u3 u4 u5 u' to' g' joined' from_' := by kernel_rfl
theorem lone_l2_ok (N : Nat) : LoopOK Try.prog lone_B.c lone_B.n lone_B.m0 true (lone_l2_L N) := by
  refine range_ok (B := lone_B) (is := is_breaths) (g := .tmp 28) (ps := #[29]) (assign := sub lone_c [1, 1, 1, 1, 0, 1, 0, 0, 1, 1, 0, 0, 1, 1, 0, 0]) (body := sub lone_c [1, 1, 1, 1, 0, 1, 0, 0, 1, 1, 0, 0, 1, 1, 0, 1]) (Z := Int × Int × Int × ((List (Int × (Int × Bool))) × ((List (Int × (Int × Int))) × Int)) × List Bool) (x := lone_l2_L N) (fun p => (p.1.2.2.2.2.2.2.2.1.2.1, p.1.2.2.2.2.2.2.2.1.2.2.1, ())) (fun es p => lone_l2 N es p.1.2.1 p.1.2.2.2.2.2.1 p.1.2.2.2.2.2.2.1 p.1.2.2.2.2.2.2.2.1.2.1 p.1.2.2.2.2.2.2.2.1.2.2.1 p.2.1.1 p.2.2.1.1 p.2.2.2.1.1) (staA := lone_l2_stA) (fun es q p => lone_l2_b N (fun d_ joined_ from__ => lone_l2 N es q.2.1 q.2.2.2.2.2.1 q.2.2.2.2.2.2.1 q.2.2.2.2.2.2.2.1.2.1 q.2.2.2.2.2.2.2.1.2.2.1 d_ joined_ from__) q.2.1 q.2.2.2.2.2.1 q.2.2.2.2.2.2.1 q.2.2.2.2.2.2.2.1.2.1 q.2.2.2.2.2.2.2.1.2.2.1 p.1.2.1 p.1.2.2.2.2.1 p.2.1.1 p.2.2.1.1 p.2.2.2.1.1) [] (fun e => .inl (((), e.1, (), (), e.2.1, e.2.2.1, ()), ((e.2.2.2.1, ()), (e.2.2.2.2, ()), ()))) (fun _ _ _ => rfl) rfl (by kernel_rfl) (fun _ => by kernel_rfl) (by kernel_rfl) is_breaths_ok (Nat.le_of_ble_eq_true (by kernel_rfl)) (by kernel_rfl) ?_ ?_ ?_ ?_
  · exact fun z E Xc hE hX hx p hp a w hS => ev_sound (z := z) (B := lone_B) (loops := []) (leaves := [lone_l2_e0]) (top := true) (lone_all N) mixed trivial hE hX ⟨(fun p hp => by obtain rfl := Option.some.inj hp; exact hx), trivial⟩ RetOK.no 400 false _ _ _ ((lone_l2_end N p.1.2.1 p.1.2.2.2.2.2.1 p.1.2.2.2.2.2.2.1 p.1.2.2.2.2.2.2.2.1.2.1 p.1.2.2.2.2.2.2.2.1.2.2.1 p.2.1.1 p.2.2.1.1 p.2.2.2.1.1).trans hp) a w hS
  · intro z E Xc hE hX hx e he q b hb a w hS
    simp only [List.not_mem_nil] at he
  · exact fun z E Xc hE hX e es p hl hp a w hS => ev_sound (z := z) (B := lone_l2_Bk) (loops := []) (leaves := [_]) (top := false) (lone_all N) mixed trivial hE hX ⟨hl, trivial⟩ RetOK.no 400 false _ _ _ ((lone_l2_asg N e es p.1.2.1 p.1.2.2.2.2.2.1 p.1.2.2.2.2.2.2.1 p.1.2.2.2.2.2.2.2.1.2.1 p.1.2.2.2.2.2.2.2.1.2.2.1 p.2.1.1 p.2.2.1.1 p.2.2.2.1.1).trans hp) a w hS
  · exact fun z E Xc hE hX es q he hs p hp a w hS => ev_sound (z := z) (B := lone_l2_Bk) (loops := [lone_l4_L N, lone_l3_L N]) (leaves := [_]) (top := false) (lone_all N) mixed ⟨lone_l4_ok N, lone_l3_ok N, trivial⟩ hE hX ⟨he, trivial⟩ RetOK.no 400 false _ _ _ ((lone_l2_bod N (fun d_ joined_ from__ => lone_l2 N es q.2.1 q.2.2.2.2.2.1 q.2.2.2.2.2.2.1 q.2.2.2.2.2.2.2.1.2.1 q.2.2.2.2.2.2.2.1.2.2.1 d_ joined_ from__) q.2.1 q.2.2.2.2.2.1 q.2.2.2.2.2.2.1 q.2.2.2.2.2.2.2.1.2.1 q.2.2.2.2.2.2.2.1.2.2.1 p.1.2.1 p.1.2.2.2.2.1 p.2.1.1 p.2.2.1.1 p.2.2.2.1.1).trans hp) a w hS
abbrev lone_l1_at : List PI := [.c [1, 1, 1, 1, 0, 1, 0, 0, 0], .c [1, 1, 1, 1, 0, 1, 0, 0, 1], .l [1, 1, 1, 1, 0, 1, 0, 0], .b 0, .c [1, 1, 1, 1, 1]]
abbrev lone_l1_st : Sta := ⟨[2, 3, 4, 6, 22, 23], ⟨[.nils, .i .i64, .own 0 0, .own 1 0, .i .i64, .i .i64], [.segs [.fe (.pair (.sl (.pair (.int .i64) (.pair (.int .i64) .bool))) (.pair (.sl (.pair (.int .i64) (.pair (.int .i64) (.int .i64)))) (.int .i64)))], .segs [.arr .bool 144]]⟩⟩
abbrev lone_l1_h (rec : Int → Int → Int → (((List (Int × (Int × Bool))) × ((List (Int × (Int × Int))) × Int))) → (List Bool) → Option (((List (Int × (Int × Bool))) × ((List (Int × (Int × Int))) × Int)) × List Bool)) : Leaf (((List (Int × (Int × Bool))) × ((List (Int × (Int × Int))) × Int)) × List Bool) := ⟨lone_l1_at, lone_l1_st, fun p => rec p.1.2.1 p.1.2.2.2.2.1 p.1.2.2.2.2.2.1 p.2.1.1 p.2.2.1.1⟩
abbrev lone_l1_e0 : Leaf (((List (Int × (Int × Bool))) × ((List (Int × (Int × Int))) × Int)) × List Bool) := ⟨[.c [1, 1, 1, 1, 1, 0], .c [1, 1, 1, 1, 1, 1]], ⟨[4, 6], ⟨[.own 0 0, .own 1 0], [.segs [.fe (.pair (.sl (.pair (.int .i64) (.pair (.int .i64) .bool))) (.pair (.sl (.pair (.int .i64) (.pair (.int .i64) (.int .i64)))) (.int .i64)))], .segs [.arr .bool 144]]⟩⟩, fun p => some ((p.2.1.1, p.2.2.1.1))⟩
noncomputable def lone_l1_L (N : Nat) : LoopS := { at_ := lone_l1_at, sta := lone_l1_st, exits := [([.c [1, 1, 1, 1, 1, 0], .c [1, 1, 1, 1, 1, 1]], ⟨[4, 6], ⟨[.own 0 0, .own 1 0], [.segs [.fe (.pair (.sl (.pair (.int .i64) (.pair (.int .i64) .bool))) (.pair (.sl (.pair (.int .i64) (.pair (.int .i64) (.int .i64)))) (.int .i64)))], .segs [.arr .bool 144]]⟩⟩)], run := fun p k => (lone_l1 N N p.1.2.1 p.1.2.2.2.2.1 p.1.2.2.2.2.2.1 p.2.1.1 p.2.2.1.1).bind fun e => k (.inl (((), (), ()), ((e.1, ()), (e.2, ()), ()))) }
theorem lone_l1_eq (N n_ : Nat) (u : Int) (u2 : Int) (u3 : Int) (d : ((List (Int × (Int × Bool))) × ((List (Int × (Int × Int))) × Int))) (joined : List Bool) : ev (Z := ((List (Int × (Int × Bool))) × ((List (Int × (Int × Int))) × Int)) × List Bool) Try.prog (lone_sp N) lone_B [lone_l2_L N] [lone_l1_h (lone_l1 N n_), lone_l1_e0] none 400 true lone_l1_at (stL lone_l1_st (((), u, (), (), u2, u3, ()), ((d, ()), (joined, ()), ()))) (stH lone_l1_st (((), u, (), (), u2, u3, ()), ((d, ()), (joined, ()), ()))) = lone_l1 N (n_ + 1) u u2 u3 d joined := by kernel_rfl
theorem lone_l1_ok (N : Nat) : LoopOK Try.prog lone_B.c lone_B.n lone_B.m0 true (lone_l1_L N) := loop_of_ev (Z := ((List (Int × (Int × Bool))) × ((List (Int × (Int × Int))) × Int)) × List Bool) (N := N) (fun m p => lone_l1 N m p.1.2.1 p.1.2.2.2.2.1 p.1.2.2.2.2.2.1 p.2.1.1 p.2.2.1.1) (fun e => .inl (((), (), ()), ((e.1, ()), (e.2, ()), ()))) (fun _ _ _ => rfl) (fun _ => rfl) (fun m z E Xc hE hX hrec hx => leaf_of_ev (B := lone_B) (loops := [lone_l2_L N]) (leaves := [lone_l1_h (lone_l1 N m), lone_l1_e0]) (lone_all N) mixed ⟨lone_l2_ok N, trivial⟩ hE hX ⟨hrec, (fun p hp => by obtain rfl := Option.some.inj hp; exact hx), trivial⟩ RetOK.no (fun p => lone_l1_eq N m p.1.2.1 p.1.2.2.2.2.1 p.1.2.2.2.2.2.1 p.2.1.1 p.2.2.1.1))
abbrev lone_st : Sta := ⟨[0], ⟨[.agg [.sl (.pair (.int .i64) (.pair (.int .i64) .bool)), .sl (.pair (.int .i64) (.pair (.int .i64) (.int .i64))), .i .i64]], []⟩⟩
theorem lone_eq (N : Nat) (t : List (Int × (Int × Bool))) (t2 : List (Int × (Int × Int))) (t3 : Int) : ev (Z := List Int × Int) Try.prog (lone_sp N) lone_B [lone_l2_L N, lone_l1_L N] [] (some lone_rt) 400 false [.c [0], .c [1]] (stL lone_st (((t, t2, t3, ()), ()), ())) (stH lone_st (((t, t2, t3, ()), ()), ())) = lone_S N t t2 t3 := by kernel_rfl
noncomputable def sp_lone (N : Nat) : Spec := { f := 63, ins := ⟨[.agg [.sl (.pair (.int .i64) (.pair (.int .i64) .bool)), .sl (.pair (.int .i64) (.pair (.int .i64) (.int .i64))), .i .i64]], []⟩, outs := [⟨[.sl (.int .i64), .i .i64], []⟩], run := fun p k => (lone_S N p.1.1.1 p.1.1.2.1 p.1.1.2.2.1).bind fun r => k ((r.1, r.2, ()), ()) }
theorem sp_lone_ok (N : Nat) : SpecOK Try.prog (sp_lone N) := fn_sound (B := lone_B) (loops := [lone_l2_L N, lone_l1_L N]) (leaves := []) (fun p => lone_S N p.1.1.1 p.1.1.2.1 p.1.1.2.2.1) (fun r => ((r.1, r.2, ()), ())) lone_rt (fun _ _ _ => rfl) (fun r z h => by cases h; rfl) Try.func63 (by kernel_rfl) (by kernel_rfl) (by kernel_rfl) rfl rfl (by kernel_rfl) (fun args w => Sem.pv_run _ _ _ (by kernel_rfl) w) (lone_all N) mixed ⟨lone_l2_ok N, lone_l1_ok N, trivial⟩ (fun z E Xc hE hX hret => trivial) (fun p => lone_eq N p.1.1.1 p.1.1.2.1 p.1.1.2.2.1)

def tlone_l2 (N : Nat) : Nat → (List Int) → Int → Int → (List Int) → Int → Int → (List (Int × (Int × Bool))) → (List (Int × (Int × Int))) → Int → (List ((List (Int × (Int × Bool))) × ((List (Int × (Int × Int))) × Int))) → Option ((Unit) ⊕ (List Int × Int × Int × (List (Int × (Int × Bool))) × (List (Int × (Int × Int))) × Int × (List ((List (Int × (Int × Bool))) × ((List (Int × (Int × Int))) × Int)))))
  | 0, _, _, _, _, _, _, _, _, _, _ => none
  | n_ + 1, lone, u, u2, u3, u4, u5, x, x2, x3, g =>
    br (decide (u5 < u4))
      (idx u3 u5 fun x_18 =>
      br (decide (x_18 < 0))
        (some (.inl ()))
        (br (decide ((x.length : Int) ≤ x_18))
          (some (.inl ()))
          (br (decide (0 < u5))
            (chk (u5 - 1) <|
            idx lone (u5 - 1) fun x_19 =>
            br (decide (x_18 ≤ x_19))
              (some (.inl ()))
              (chk (u5 + 1) <|
              tlone_l2 N n_ lone u u2 u3 u4 (u5 + 1) x x2 x3 g))
            (chk (u5 + 1) <|
            tlone_l2 N n_ lone u u2 u3 u4 (u5 + 1) x x2 x3 g))))
      (some (.inr (lone, u, u2, x, x2, x3, g)))
def tlone_l5 (N : Nat) : Nat → (List Int) → Int → Int → Int → Int → Int → Int → Int → Int → Int → (List (Int × (Int × Bool))) → (List (Int × (Int × Int))) → Int → (List ((List (Int × (Int × Bool))) × ((List (Int × (Int × Int))) × Int))) → Option ((Unit) ⊕ (List Int × Int × Int × Int × Int × Int × Int × Int × (List (Int × (Int × Bool))) × (List (Int × (Int × Int))) × Int × (List ((List (Int × (Int × Bool))) × ((List (Int × (Int × Int))) × Int)))))
  | 0, _, _, _, _, _, _, _, _, _, _, _, _, _, _ => none
  | n_ + 1, lone, i, from_, to, u, u2, u3, u4, u5, u6, x, x2, x3, g =>
    br (decide (to ≤ (x.length : Int)))
      ((fits_S N x x2 x3 from_ to).bind fun x_29 =>
      br x_29
        (some (.inl ()))
        (chk (to + 1) <|
        tlone_l5 N n_ lone i from_ (to + 1) u u2 u3 u4 u5 u6 x x2 x3 g))
      (some (.inr (lone, i, u, u2, u3, u4, u5, u6, x, x2, x3, g)))
def tlone_l4 (N : Nat) : Nat → (List Int) → Int → Int → Int → Int → Int → Int → Int → (List (Int × (Int × Bool))) → (List (Int × (Int × Int))) → Int → (List ((List (Int × (Int × Bool))) × ((List (Int × (Int × Int))) × Int))) → Option ((Unit) ⊕ (List Int × Int × Int × Int × Int × (List (Int × (Int × Bool))) × (List (Int × (Int × Int))) × Int × (List ((List (Int × (Int × Bool))) × ((List (Int × (Int × Int))) × Int)))))
  | 0, _, _, _, _, _, _, _, _, _, _, _, _ => none
  | n_ + 1, lone, i, u, u2, u3, u4, u5, u6, x, x2, x3, g =>
    br (decide (u6 < u5))
      (chk (i + 1) <|
      idx lone (i + 1) fun x_28 =>
      chk (x_28 + 1) <|
      (tlone_l5 N N lone i u6 (x_28 + 1) u u2 u3 u4 u5 u6 x x2 x3 g).bind fun e => match e with
      | .inl _ =>
        some (.inl ())
      | .inr (lone_30, i_31, u_32, u2_33, u3_34, u4_35, u5_36, u6_37, x_38, x2_39, x3_40, g_41) =>
        chk (u6_37 + 1) <|
        tlone_l4 N n_ lone_30 i_31 u_32 u2_33 u3_34 u4_35 u5_36 (u6_37 + 1) x_38 x2_39 x3_40 g_41)
      (some (.inr (lone, u, u2, u3, u4, x, x2, x3, g)))
def tlone_l3 (N : Nat) : Nat → (List Int) → Int → Int → Int → Int → (List (Int × (Int × Bool))) → (List (Int × (Int × Int))) → Int → (List ((List (Int × (Int × Bool))) × ((List (Int × (Int × Int))) × Int))) → Option ((Unit) ⊕ (Int × Int × (List ((List (Int × (Int × Bool))) × ((List (Int × (Int × Int))) × Int)))))
  | 0, _, _, _, _, _, _, _, _, _ => none
  | n_ + 1, lone, u, u2, u3, u4, x, x2, x3, g =>
    br (decide (u4 < u3))
      (idx lone u4 fun x_27 =>
      chk (x_27 + 1) <|
      (tlone_l4 N N lone u4 u u2 u3 u4 (x_27 + 1) 0 x x2 x3 g).bind fun e => match e with
      | .inl _ =>
        some (.inl ())
      | .inr (lone_42, u_43, u2_44, u3_45, u4_46, x_47, x2_48, x3_49, g_50) =>
        chk (u4_46 + 1) <|
        tlone_l3 N n_ lone_42 u_43 u2_44 u3_45 (u4_46 + 1) x_47 x2_48 x3_49 g_50)
      (some (.inr (u, u2, g)))
def tlone_l1 (N : Nat) : Nat → Int → Int → (List ((List (Int × (Int × Bool))) × ((List (Int × (Int × Int))) × Int))) → Option ((Unit) ⊕ ((Unit) ⊕ ((Unit) ⊕ (Unit))))
  | 0, _, _, _ => none
  | n_ + 1, u, u2, g =>
    br (decide (u2 < u))
      (rng u2 g.length <|
      get g u2.toNat fun x_13 =>
      (lone_S N x_13.1 x_13.2.1 x_13.2.2).bind fun (x_14, y_15) =>
      (fewest_S N x_13.1 x_13.2.1 x_13.2.2).bind fun (x_16, y_17) =>
      br (!decide (y_15 = 0))
        (some (.inl ()))
        (br (!decide (y_17 = 0))
          (br (!decide (y_17 = 6))
            (some (.inl ()))
            (br (decide ((x_14.length : Int) < 1))
              (some (.inl ()))
              (br (decide (y_17 = 0))
                (br (decide ((x_16.length : Int) < (x_14.length : Int)))
                  (some (.inl ()))
                  (br (decide ((x_13.2.1.length : Int) = 0))
                    (br (!decide ((x_14.length : Int) = (x_16.length : Int)))
                      (some (.inl ()))
                      ((tlone_l2 N N x_14 u u2 x_14 (x_14.length : Int) 0 x_13.1 x_13.2.1 x_13.2.2 g).bind fun e => match e with
                      | .inl _ =>
                        some (.inr (.inl ()))
                      | .inr (lone_20, u_21, u2_22, x_23, x2_24, x3_25, g_26) =>
                        grd (decide ((0 : Int) ≤ 1 ∧ 1 ≤ (lone_20.length : Int))) <|
                        (tlone_l3 N N lone_20 u_21 u2_22 ((lone_20.drop 1).length : Int) 0 x_23 x2_24 x3_25 g_26).bind fun e => match e with
                        | .inl _ =>
                          some (.inr (.inr (.inl ())))
                        | .inr (u_51, u2_52, g_53) =>
                          chk (u2_52 + 1) <|
                          tlone_l1 N n_ u_51 (u2_52 + 1) g_53))
                    ((tlone_l2 N N x_14 u u2 x_14 (x_14.length : Int) 0 x_13.1 x_13.2.1 x_13.2.2 g).bind fun e => match e with
                    | .inl _ =>
                      some (.inr (.inl ()))
                    | .inr (lone_54, u_55, u2_56, x_57, x2_58, x3_59, g_60) =>
                      grd (decide ((0 : Int) ≤ 1 ∧ 1 ≤ (lone_54.length : Int))) <|
                      (tlone_l3 N N lone_54 u_55 u2_56 ((lone_54.drop 1).length : Int) 0 x_57 x2_58 x3_59 g_60).bind fun e => match e with
                      | .inl _ =>
                        some (.inr (.inr (.inl ())))
                      | .inr (u_61, u2_62, g_63) =>
                        chk (u2_62 + 1) <|
                        tlone_l1 N n_ u_61 (u2_62 + 1) g_63)))
                ((tlone_l2 N N x_14 u u2 x_14 (x_14.length : Int) 0 x_13.1 x_13.2.1 x_13.2.2 g).bind fun e => match e with
                | .inl _ =>
                  some (.inr (.inl ()))
                | .inr (lone_64, u_65, u2_66, x_67, x2_68, x3_69, g_70) =>
                  grd (decide ((0 : Int) ≤ 1 ∧ 1 ≤ (lone_64.length : Int))) <|
                  (tlone_l3 N N lone_64 u_65 u2_66 ((lone_64.drop 1).length : Int) 0 x_67 x2_68 x3_69 g_70).bind fun e => match e with
                  | .inl _ =>
                    some (.inr (.inr (.inl ())))
                  | .inr (u_71, u2_72, g_73) =>
                    chk (u2_72 + 1) <|
                    tlone_l1 N n_ u_71 (u2_72 + 1) g_73))))
          (br (decide ((x_14.length : Int) < 1))
            (some (.inl ()))
            (br (decide (y_17 = 0))
              (br (decide ((x_16.length : Int) < (x_14.length : Int)))
                (some (.inl ()))
                (br (decide ((x_13.2.1.length : Int) = 0))
                  (br (!decide ((x_14.length : Int) = (x_16.length : Int)))
                    (some (.inl ()))
                    ((tlone_l2 N N x_14 u u2 x_14 (x_14.length : Int) 0 x_13.1 x_13.2.1 x_13.2.2 g).bind fun e => match e with
                    | .inl _ =>
                      some (.inr (.inl ()))
                    | .inr (lone_74, u_75, u2_76, x_77, x2_78, x3_79, g_80) =>
                      grd (decide ((0 : Int) ≤ 1 ∧ 1 ≤ (lone_74.length : Int))) <|
                      (tlone_l3 N N lone_74 u_75 u2_76 ((lone_74.drop 1).length : Int) 0 x_77 x2_78 x3_79 g_80).bind fun e => match e with
                      | .inl _ =>
                        some (.inr (.inr (.inl ())))
                      | .inr (u_81, u2_82, g_83) =>
                        chk (u2_82 + 1) <|
                        tlone_l1 N n_ u_81 (u2_82 + 1) g_83))
                  ((tlone_l2 N N x_14 u u2 x_14 (x_14.length : Int) 0 x_13.1 x_13.2.1 x_13.2.2 g).bind fun e => match e with
                  | .inl _ =>
                    some (.inr (.inl ()))
                  | .inr (lone_84, u_85, u2_86, x_87, x2_88, x3_89, g_90) =>
                    grd (decide ((0 : Int) ≤ 1 ∧ 1 ≤ (lone_84.length : Int))) <|
                    (tlone_l3 N N lone_84 u_85 u2_86 ((lone_84.drop 1).length : Int) 0 x_87 x2_88 x3_89 g_90).bind fun e => match e with
                    | .inl _ =>
                      some (.inr (.inr (.inl ())))
                    | .inr (u_91, u2_92, g_93) =>
                      chk (u2_92 + 1) <|
                      tlone_l1 N n_ u_91 (u2_92 + 1) g_93)))
              ((tlone_l2 N N x_14 u u2 x_14 (x_14.length : Int) 0 x_13.1 x_13.2.1 x_13.2.2 g).bind fun e => match e with
              | .inl _ =>
                some (.inr (.inl ()))
              | .inr (lone_94, u_95, u2_96, x_97, x2_98, x3_99, g_100) =>
                grd (decide ((0 : Int) ≤ 1 ∧ 1 ≤ (lone_94.length : Int))) <|
                (tlone_l3 N N lone_94 u_95 u2_96 ((lone_94.drop 1).length : Int) 0 x_97 x2_98 x3_99 g_100).bind fun e => match e with
                | .inl _ =>
                  some (.inr (.inr (.inl ())))
                | .inr (u_101, u2_102, g_103) =>
                  chk (u2_102 + 1) <|
                  tlone_l1 N n_ u_101 (u2_102 + 1) g_103)))))
      (some (.inr (.inr (.inr ()))))
def tlone_S (N : Nat) (numbers : List Int) : Option Bool :=
  (hang_S N numbers).bind fun (x_1, y_2, y_3) =>
  (made_S N 10 3 x_1 y_2 y_3).bind fun (x_4, y_5, y_6, y_7, y_8, y_9) =>
  (copyx_S N x_4 y_5 y_6).bind fun (x_10, y_11, y_12) =>
  (tlone_l1 N N (([(x_4, y_5, y_6), (x_10, [], y_12)]).length : Int) 0 ([(x_4, y_5, y_6), (x_10, [], y_12)])).bind fun e => match e with
  | .inl _ =>
    some false
  | .inr (.inl _) =>
    some false
  | .inr (.inr (.inl _)) =>
    some false
  | .inr (.inr (.inr _)) =>
    (awake_S N).bind fun x_104 =>
    some x_104
noncomputable def tlone_sp (N : Nat) : List Spec := [sp_hang N, sp_fewest N, sp_awake N, sp_copyx N, sp_made N, sp_fits N, sp_lone N]
theorem tlone_all (N : Nat) : AllP (SpecOK Try.prog) (tlone_sp N) := ⟨sp_hang_ok N, sp_fewest_ok N, sp_awake_ok N, sp_copyx_ok N, sp_made_ok N, sp_fits_ok N, sp_lone_ok N, trivial⟩
noncomputable def tlone_c : Code := (Try.f12.body).getD .skip
noncomputable abbrev tlone_B : Body := { c := tlone_c, n := 144, res := [.tmp 2], outs := [⟨[.b], []⟩], m0 := 0 }
abbrev tlone_rt : altD tlone_B.outs → Option Bool := fun r => some r.1.1
abbrev tlone_l2_at : List PI := [.c [1, 1, 1, 1, 0, 1, 0, 0, 1, 1, 0, 0, 1, 1, 1, 1, 0, 1, 0, 0, 0], .c [1, 1, 1, 1, 0, 1, 0, 0, 1, 1, 0, 0, 1, 1, 1, 1, 0, 1, 0, 0, 1], .l [1, 1, 1, 1, 0, 1, 0, 0, 1, 1, 0, 0, 1, 1, 1, 1, 0, 1, 0, 0], .b 2, .c [1, 1, 1, 1, 0, 1, 0, 0, 1, 1, 0, 0, 1, 1, 1, 1, 1], .b 1, .c [1, 1, 1, 1, 0, 1, 0, 0, 1, 1, 1], .l [1, 1, 1, 1, 0, 1, 0, 0], .b 0, .c [1, 1, 1, 1, 1]]
abbrev tlone_l2_st : Sta := ⟨[6, 7, 24, 25, 26, 79, 80, 81], ⟨[.own 0 0, .sl (.int .i64), .ols 1, .i .i64, .i .i64, .sl (.int .i64), .i .i64, .i .i64], [.segs [.sl (.pair (.int .i64) (.pair (.int .i64) .bool)), .sl (.pair (.int .i64) (.pair (.int .i64) (.int .i64))), .i .i64], .lst (.pair (.sl (.pair (.int .i64) (.pair (.int .i64) .bool))) (.pair (.sl (.pair (.int .i64) (.pair (.int .i64) (.int .i64)))) (.int .i64)))]⟩⟩
abbrev tlone_l2_h (rec : (List Int) → Int → Int → (List Int) → Int → Int → (List (Int × (Int × Bool))) → (List (Int × (Int × Int))) → Int → (List ((List (Int × (Int × Bool))) × ((List (Int × (Int × Int))) × Int))) → Option ((Unit) ⊕ (List Int × Int × Int × (List (Int × (Int × Bool))) × (List (Int × (Int × Int))) × Int × (List ((List (Int × (Int × Bool))) × ((List (Int × (Int × Int))) × Int)))))) : Leaf ((Unit) ⊕ (List Int × Int × Int × (List (Int × (Int × Bool))) × (List (Int × (Int × Int))) × Int × (List ((List (Int × (Int × Bool))) × ((List (Int × (Int × Int))) × Int))))) := ⟨tlone_l2_at, tlone_l2_st, fun p => rec p.1.2.1 p.1.2.2.2.1 p.1.2.2.2.2.1 p.1.2.2.2.2.2.1 p.1.2.2.2.2.2.2.1 p.1.2.2.2.2.2.2.2.1 p.2.1.1 p.2.1.2.1 p.2.1.2.2.1 p.2.2.1⟩
abbrev tlone_l2_e0 : Leaf ((Unit) ⊕ (List Int × Int × Int × (List (Int × (Int × Bool))) × (List (Int × (Int × Int))) × Int × (List ((List (Int × (Int × Bool))) × ((List (Int × (Int × Int))) × Int))))) := ⟨[.c [1, 1, 1, 1, 0, 1, 0, 0, 1, 1, 0, 0, 1, 1, 1, 1, 0, 1, 0, 0, 1, 1, 0, 0, 1, 1, 0, 0], .c [1, 1, 1, 1, 0, 1, 0, 0, 1, 1, 0, 0, 1, 1, 1, 1, 0, 1, 0, 0, 1, 1, 0, 0, 1, 1, 0, 1], .b 3, .c [1, 1, 1, 1, 0, 1, 0, 0, 1, 1, 0, 0, 1, 1, 1, 1, 0, 1, 0, 0, 1, 1, 1], .l [1, 1, 1, 1, 0, 1, 0, 0, 1, 1, 0, 0, 1, 1, 1, 1, 0, 1, 0, 0], .b 2, .c [1, 1, 1, 1, 0, 1, 0, 0, 1, 1, 0, 0, 1, 1, 1, 1, 1], .b 1, .c [1, 1, 1, 1, 0, 1, 0, 0, 1, 1, 1], .l [1, 1, 1, 1, 0, 1, 0, 0], .b 0, .c [1, 1, 1, 1, 1]], ⟨[], ⟨[], []⟩⟩, fun p => some (.inl ())⟩
abbrev tlone_l2_e1 : Leaf ((Unit) ⊕ (List Int × Int × Int × (List (Int × (Int × Bool))) × (List (Int × (Int × Int))) × Int × (List ((List (Int × (Int × Bool))) × ((List (Int × (Int × Int))) × Int))))) := ⟨[.c [1, 1, 1, 1, 0, 1, 0, 0, 1, 1, 0, 0, 1, 1, 1, 1, 1, 0], .c [1, 1, 1, 1, 0, 1, 0, 0, 1, 1, 0, 0, 1, 1, 1, 1, 1, 1], .b 1, .c [1, 1, 1, 1, 0, 1, 0, 0, 1, 1, 1], .l [1, 1, 1, 1, 0, 1, 0, 0], .b 0, .c [1, 1, 1, 1, 1]], ⟨[6, 7, 24, 25, 26], ⟨[.own 0 0, .sl (.int .i64), .ols 1, .i .i64, .i .i64], [.segs [.sl (.pair (.int .i64) (.pair (.int .i64) .bool)), .sl (.pair (.int .i64) (.pair (.int .i64) (.int .i64))), .i .i64], .lst (.pair (.sl (.pair (.int .i64) (.pair (.int .i64) .bool))) (.pair (.sl (.pair (.int .i64) (.pair (.int .i64) (.int .i64)))) (.int .i64)))]⟩⟩, fun p => some (.inr (p.1.2.1, p.1.2.2.2.1, p.1.2.2.2.2.1, p.2.1.1, p.2.1.2.1, p.2.1.2.2.1, p.2.2.1))⟩
noncomputable def tlone_l2_L (N : Nat) : LoopS := { at_ := tlone_l2_at, sta := tlone_l2_st, exits := [([.c [1, 1, 1, 1, 0, 1, 0, 0, 1, 1, 0, 0, 1, 1, 1, 1, 0, 1, 0, 0, 1, 1, 0, 0, 1, 1, 0, 0], .c [1, 1, 1, 1, 0, 1, 0, 0, 1, 1, 0, 0, 1, 1, 1, 1, 0, 1, 0, 0, 1, 1, 0, 0, 1, 1, 0, 1], .b 3, .c [1, 1, 1, 1, 0, 1, 0, 0, 1, 1, 0, 0, 1, 1, 1, 1, 0, 1, 0, 0, 1, 1, 1], .l [1, 1, 1, 1, 0, 1, 0, 0, 1, 1, 0, 0, 1, 1, 1, 1, 0, 1, 0, 0], .b 2, .c [1, 1, 1, 1, 0, 1, 0, 0, 1, 1, 0, 0, 1, 1, 1, 1, 1], .b 1, .c [1, 1, 1, 1, 0, 1, 0, 0, 1, 1, 1], .l [1, 1, 1, 1, 0, 1, 0, 0], .b 0, .c [1, 1, 1, 1, 1]], ⟨[], ⟨[], []⟩⟩), ([.c [1, 1, 1, 1, 0, 1, 0, 0, 1, 1, 0, 0, 1, 1, 1, 1, 1, 0], .c [1, 1, 1, 1, 0, 1, 0, 0, 1, 1, 0, 0, 1, 1, 1, 1, 1, 1], .b 1, .c [1, 1, 1, 1, 0, 1, 0, 0, 1, 1, 1], .l [1, 1, 1, 1, 0, 1, 0, 0], .b 0, .c [1, 1, 1, 1, 1]], ⟨[6, 7, 24, 25, 26], ⟨[.own 0 0, .sl (.int .i64), .ols 1, .i .i64, .i .i64], [.segs [.sl (.pair (.int .i64) (.pair (.int .i64) .bool)), .sl (.pair (.int .i64) (.pair (.int .i64) (.int .i64))), .i .i64], .lst (.pair (.sl (.pair (.int .i64) (.pair (.int .i64) .bool))) (.pair (.sl (.pair (.int .i64) (.pair (.int .i64) (.int .i64)))) (.int .i64)))]⟩⟩)], run := fun p k => (tlone_l2 N N p.1.2.1 p.1.2.2.2.1 p.1.2.2.2.2.1 p.1.2.2.2.2.2.1 p.1.2.2.2.2.2.2.1 p.1.2.2.2.2.2.2.2.1 p.2.1.1 p.2.1.2.1 p.2.1.2.2.1 p.2.2.1).bind fun e => match e with | .inl x => k (.inl ((), ())) | .inr x => k (.inr (.inl (((), x.1, (), x.2.1, x.2.2.1, ()), ((x.2.2.2.1, x.2.2.2.2.1, x.2.2.2.2.2.1, ()), x.2.2.2.2.2.2, ())))) }
theorem tlone_l2_eq (N n_ : Nat) (lone : List Int) (u : Int) (u2 : Int) (u3 : List Int) (u4 : Int) (u5 : Int) (x : List (Int × (Int × Bool))) (x2 : List (Int × (Int × Int))) (x3 : Int) (g : List ((List (Int × (Int × Bool))) × ((List (Int × (Int × Int))) × Int))) : ev (Z := (Unit) ⊕ (List Int × Int × Int × (List (Int × (Int × Bool))) × (List (Int × (Int × Int))) × Int × (List ((List (Int × (Int × Bool))) × ((List (Int × (Int × Int))) × Int))))) Try.prog (tlone_sp N) tlone_B [] [tlone_l2_h (tlone_l2 N n_), tlone_l2_e0, tlone_l2_e1] none 400 true tlone_l2_at (stL tlone_l2_st (((), lone, (), u, u2, u3, u4, u5, ()), ((x, x2, x3, ()), g, ()))) (stH tlone_l2_st (((), lone, (), u, u2, u3, u4, u5, ()), ((x, x2, x3, ()), g, ()))) = tlone_l2 N (n_ + 1) lone u u2 u3 u4 u5 x x2 x3 g := by kernel_rfl
theorem tlone_l2_ok (N : Nat) {top : Bool} : LoopOK Try.prog tlone_B.c tlone_B.n tlone_B.m0 top (tlone_l2_L N) := loop_of_ev (Z := (Unit) ⊕ (List Int × Int × Int × (List (Int × (Int × Bool))) × (List (Int × (Int × Int))) × Int × (List ((List (Int × (Int × Bool))) × ((List (Int × (Int × Int))) × Int))))) (N := N) (fun m p => tlone_l2 N m p.1.2.1 p.1.2.2.2.1 p.1.2.2.2.2.1 p.1.2.2.2.2.2.1 p.1.2.2.2.2.2.2.1 p.1.2.2.2.2.2.2.2.1 p.2.1.1 p.2.1.2.1 p.2.1.2.2.1 p.2.2.1) (fun e => match e with | .inl x => .inl ((), ()) | .inr x => .inr (.inl (((), x.1, (), x.2.1, x.2.2.1, ()), ((x.2.2.2.1, x.2.2.2.2.1, x.2.2.2.2.2.1, ()), x.2.2.2.2.2.2, ())))) (fun _ p k => bind_congr_ (tlone_l2 N N p.1.2.1 p.1.2.2.2.1 p.1.2.2.2.2.1 p.1.2.2.2.2.2.1 p.1.2.2.2.2.2.2.1 p.1.2.2.2.2.2.2.2.1 p.2.1.1 p.2.1.2.1 p.2.1.2.2.1 p.2.2.1) _ _ (fun e => by rcases e with x | x <;> rfl)) (fun _ => rfl) (fun m z E Xc hE hX hrec hx => leaf_of_ev (B := tlone_B) (loops := []) (leaves := [tlone_l2_h (tlone_l2 N m), tlone_l2_e0, tlone_l2_e1]) (tlone_all N) mixed trivial hE hX ⟨hrec, (fun p hp => by obtain rfl := Option.some.inj hp; exact hx), (fun p hp => by obtain rfl := Option.some.inj hp; exact hx), trivial⟩ RetOK.no (fun p => tlone_l2_eq N m p.1.2.1 p.1.2.2.2.1 p.1.2.2.2.2.1 p.1.2.2.2.2.2.1 p.1.2.2.2.2.2.2.1 p.1.2.2.2.2.2.2.2.1 p.2.1.1 p.2.1.2.1 p.2.1.2.2.1 p.2.2.1))
abbrev tlone_l5_at : List PI := [.c [1, 1, 1, 1, 0, 1, 0, 0, 1, 1, 0, 0, 1, 1, 1, 1, 1, 1, 0, 0, 1, 1, 0, 0, 1, 1, 0, 0, 1, 1, 0, 0, 1, 1, 0, 0, 0, 0], .c [1, 1, 1, 1, 0, 1, 0, 0, 1, 1, 0, 0, 1, 1, 1, 1, 1, 1, 0, 0, 1, 1, 0, 0, 1, 1, 0, 0, 1, 1, 0, 0, 1, 1, 0, 0, 0, 1], .c [1, 1, 1, 1, 0, 1, 0, 0, 1, 1, 0, 0, 1, 1, 1, 1, 1, 1, 0, 0, 1, 1, 0, 0, 1, 1, 0, 0, 1, 1, 0, 0, 1, 1, 0, 0, 1], .l [1, 1, 1, 1, 0, 1, 0, 0, 1, 1, 0, 0, 1, 1, 1, 1, 1, 1, 0, 0, 1, 1, 0, 0, 1, 1, 0, 0, 1, 1, 0, 0, 1, 1, 0, 0], .b 8, .b 7, .c [1, 1, 1, 1, 0, 1, 0, 0, 1, 1, 0, 0, 1, 1, 1, 1, 1, 1, 0, 0, 1, 1, 0, 0, 1, 1, 0, 0, 1, 1, 1], .l [1, 1, 1, 1, 0, 1, 0, 0, 1, 1, 0, 0, 1, 1, 1, 1, 1, 1, 0, 0, 1, 1, 0, 0, 1, 1, 0, 0], .b 6, .b 5, .c [1, 1, 1, 1, 0, 1, 0, 0, 1, 1, 0, 0, 1, 1, 1, 1, 1, 1, 0, 0, 1, 1, 1], .l [1, 1, 1, 1, 0, 1, 0, 0, 1, 1, 0, 0, 1, 1, 1, 1, 1, 1, 0, 0], .b 4, .b 1, .c [1, 1, 1, 1, 0, 1, 0, 0, 1, 1, 1], .l [1, 1, 1, 1, 0, 1, 0, 0], .b 0, .c [1, 1, 1, 1, 1]]
abbrev tlone_l5_st : Sta := ⟨[6, 7, 13, 14, 15, 24, 25, 26, 111, 112, 119, 120], ⟨[.own 0 0, .sl (.int .i64), .i .i64, .i .i64, .i .i64, .ols 1, .i .i64, .i .i64, .i .i64, .i .i64, .i .i64, .i .i64], [.segs [.sl (.pair (.int .i64) (.pair (.int .i64) .bool)), .sl (.pair (.int .i64) (.pair (.int .i64) (.int .i64))), .i .i64], .lst (.pair (.sl (.pair (.int .i64) (.pair (.int .i64) .bool))) (.pair (.sl (.pair (.int .i64) (.pair (.int .i64) (.int .i64)))) (.int .i64)))]⟩⟩
abbrev tlone_l5_h (rec : (List Int) → Int → Int → Int → Int → Int → Int → Int → Int → Int → (List (Int × (Int × Bool))) → (List (Int × (Int × Int))) → Int → (List ((List (Int × (Int × Bool))) × ((List (Int × (Int × Int))) × Int))) → Option ((Unit) ⊕ (List Int × Int × Int × Int × Int × Int × Int × Int × (List (Int × (Int × Bool))) × (List (Int × (Int × Int))) × Int × (List ((List (Int × (Int × Bool))) × ((List (Int × (Int × Int))) × Int)))))) : Leaf ((Unit) ⊕ (List Int × Int × Int × Int × Int × Int × Int × Int × (List (Int × (Int × Bool))) × (List (Int × (Int × Int))) × Int × (List ((List (Int × (Int × Bool))) × ((List (Int × (Int × Int))) × Int))))) := ⟨tlone_l5_at, tlone_l5_st, fun p => rec p.1.2.1 p.1.2.2.1 p.1.2.2.2.1 p.1.2.2.2.2.1 p.1.2.2.2.2.2.2.1 p.1.2.2.2.2.2.2.2.1 p.1.2.2.2.2.2.2.2.2.1 p.1.2.2.2.2.2.2.2.2.2.1 p.1.2.2.2.2.2.2.2.2.2.2.1 p.1.2.2.2.2.2.2.2.2.2.2.2.1 p.2.1.1 p.2.1.2.1 p.2.1.2.2.1 p.2.2.1⟩
abbrev tlone_l5_e0 : Leaf ((Unit) ⊕ (List Int × Int × Int × Int × Int × Int × Int × Int × (List (Int × (Int × Bool))) × (List (Int × (Int × Int))) × Int × (List ((List (Int × (Int × Bool))) × ((List (Int × (Int × Int))) × Int))))) := ⟨[.c [1, 1, 1, 1, 0, 1, 0, 0, 1, 1, 0, 0, 1, 1, 1, 1, 1, 1, 0, 0, 1, 1, 0, 0, 1, 1, 0, 0, 1, 1, 0, 0, 1, 1, 0, 0, 1, 0, 0, 1, 0, 0], .c [1, 1, 1, 1, 0, 1, 0, 0, 1, 1, 0, 0, 1, 1, 1, 1, 1, 1, 0, 0, 1, 1, 0, 0, 1, 1, 0, 0, 1, 1, 0, 0, 1, 1, 0, 0, 1, 0, 0, 1, 0, 1], .b 9, .c [1, 1, 1, 1, 0, 1, 0, 0, 1, 1, 0, 0, 1, 1, 1, 1, 1, 1, 0, 0, 1, 1, 0, 0, 1, 1, 0, 0, 1, 1, 0, 0, 1, 1, 0, 0, 1, 1], .l [1, 1, 1, 1, 0, 1, 0, 0, 1, 1, 0, 0, 1, 1, 1, 1, 1, 1, 0, 0, 1, 1, 0, 0, 1, 1, 0, 0, 1, 1, 0, 0, 1, 1, 0, 0], .b 8, .b 7, .c [1, 1, 1, 1, 0, 1, 0, 0, 1, 1, 0, 0, 1, 1, 1, 1, 1, 1, 0, 0, 1, 1, 0, 0, 1, 1, 0, 0, 1, 1, 1], .l [1, 1, 1, 1, 0, 1, 0, 0, 1, 1, 0, 0, 1, 1, 1, 1, 1, 1, 0, 0, 1, 1, 0, 0, 1, 1, 0, 0], .b 6, .b 5, .c [1, 1, 1, 1, 0, 1, 0, 0, 1, 1, 0, 0, 1, 1, 1, 1, 1, 1, 0, 0, 1, 1, 1], .l [1, 1, 1, 1, 0, 1, 0, 0, 1, 1, 0, 0, 1, 1, 1, 1, 1, 1, 0, 0], .b 4, .b 1, .c [1, 1, 1, 1, 0, 1, 0, 0, 1, 1, 1], .l [1, 1, 1, 1, 0, 1, 0, 0], .b 0, .c [1, 1, 1, 1, 1]], ⟨[], ⟨[], []⟩⟩, fun p => some (.inl ())⟩
abbrev tlone_l5_e1 : Leaf ((Unit) ⊕ (List Int × Int × Int × Int × Int × Int × Int × Int × (List (Int × (Int × Bool))) × (List (Int × (Int × Int))) × Int × (List ((List (Int × (Int × Bool))) × ((List (Int × (Int × Int))) × Int))))) := ⟨[.c [1, 1, 1, 1, 0, 1, 0, 0, 1, 1, 0, 0, 1, 1, 1, 1, 1, 1, 0, 0, 1, 1, 0, 0, 1, 1, 0, 0, 1, 1, 1], .l [1, 1, 1, 1, 0, 1, 0, 0, 1, 1, 0, 0, 1, 1, 1, 1, 1, 1, 0, 0, 1, 1, 0, 0, 1, 1, 0, 0], .b 6, .b 5, .c [1, 1, 1, 1, 0, 1, 0, 0, 1, 1, 0, 0, 1, 1, 1, 1, 1, 1, 0, 0, 1, 1, 1], .l [1, 1, 1, 1, 0, 1, 0, 0, 1, 1, 0, 0, 1, 1, 1, 1, 1, 1, 0, 0], .b 4, .b 1, .c [1, 1, 1, 1, 0, 1, 0, 0, 1, 1, 1], .l [1, 1, 1, 1, 0, 1, 0, 0], .b 0, .c [1, 1, 1, 1, 1]], ⟨[6, 7, 13, 24, 25, 26, 111, 112, 119, 120], ⟨[.own 0 0, .sl (.int .i64), .i .i64, .ols 1, .i .i64, .i .i64, .i .i64, .i .i64, .i .i64, .i .i64], [.segs [.sl (.pair (.int .i64) (.pair (.int .i64) .bool)), .sl (.pair (.int .i64) (.pair (.int .i64) (.int .i64))), .i .i64], .lst (.pair (.sl (.pair (.int .i64) (.pair (.int .i64) .bool))) (.pair (.sl (.pair (.int .i64) (.pair (.int .i64) (.int .i64)))) (.int .i64)))]⟩⟩, fun p => some (.inr (p.1.2.1, p.1.2.2.1, p.1.2.2.2.2.1, p.1.2.2.2.2.2.1, p.1.2.2.2.2.2.2.1, p.1.2.2.2.2.2.2.2.1, p.1.2.2.2.2.2.2.2.2.1, p.1.2.2.2.2.2.2.2.2.2.1, p.2.1.1, p.2.1.2.1, p.2.1.2.2.1, p.2.2.1))⟩
noncomputable def tlone_l5_L (N : Nat) : LoopS := { at_ := tlone_l5_at, sta := tlone_l5_st, exits := [([.c [1, 1, 1, 1, 0, 1, 0, 0, 1, 1, 0, 0, 1, 1, 1, 1, 1, 1, 0, 0, 1, 1, 0, 0, 1, 1, 0, 0, 1, 1, 0, 0, 1, 1, 0, 0, 1, 0, 0, 1, 0, 0], .c [1, 1, 1, 1, 0, 1, 0, 0, 1, 1, 0, 0, 1, 1, 1, 1, 1, 1, 0, 0, 1, 1, 0, 0, 1, 1, 0, 0, 1, 1, 0, 0, 1, 1, 0, 0, 1, 0, 0, 1, 0, 1], .b 9, .c [1, 1, 1, 1, 0, 1, 0, 0, 1, 1, 0, 0, 1, 1, 1, 1, 1, 1, 0, 0, 1, 1, 0, 0, 1, 1, 0, 0, 1, 1, 0, 0, 1, 1, 0, 0, 1, 1], .l [1, 1, 1, 1, 0, 1, 0, 0, 1, 1, 0, 0, 1, 1, 1, 1, 1, 1, 0, 0, 1, 1, 0, 0, 1, 1, 0, 0, 1, 1, 0, 0, 1, 1, 0, 0], .b 8, .b 7, .c [1, 1, 1, 1, 0, 1, 0, 0, 1, 1, 0, 0, 1, 1, 1, 1, 1, 1, 0, 0, 1, 1, 0, 0, 1, 1, 0, 0, 1, 1, 1], .l [1, 1, 1, 1, 0, 1, 0, 0, 1, 1, 0, 0, 1, 1, 1, 1, 1, 1, 0, 0, 1, 1, 0, 0, 1, 1, 0, 0], .b 6, .b 5, .c [1, 1, 1, 1, 0, 1, 0, 0, 1, 1, 0, 0, 1, 1, 1, 1, 1, 1, 0, 0, 1, 1, 1], .l [1, 1, 1, 1, 0, 1, 0, 0, 1, 1, 0, 0, 1, 1, 1, 1, 1, 1, 0, 0], .b 4, .b 1, .c [1, 1, 1, 1, 0, 1, 0, 0, 1, 1, 1], .l [1, 1, 1, 1, 0, 1, 0, 0], .b 0, .c [1, 1, 1, 1, 1]], ⟨[], ⟨[], []⟩⟩), ([.c [1, 1, 1, 1, 0, 1, 0, 0, 1, 1, 0, 0, 1, 1, 1, 1, 1, 1, 0, 0, 1, 1, 0, 0, 1, 1, 0, 0, 1, 1, 1], .l [1, 1, 1, 1, 0, 1, 0, 0, 1, 1, 0, 0, 1, 1, 1, 1, 1, 1, 0, 0, 1, 1, 0, 0, 1, 1, 0, 0], .b 6, .b 5, .c [1, 1, 1, 1, 0, 1, 0, 0, 1, 1, 0, 0, 1, 1, 1, 1, 1, 1, 0, 0, 1, 1, 1], .l [1, 1, 1, 1, 0, 1, 0, 0, 1, 1, 0, 0, 1, 1, 1, 1, 1, 1, 0, 0], .b 4, .b 1, .c [1, 1, 1, 1, 0, 1, 0, 0, 1, 1, 1], .l [1, 1, 1, 1, 0, 1, 0, 0], .b 0, .c [1, 1, 1, 1, 1]], ⟨[6, 7, 13, 24, 25, 26, 111, 112, 119, 120], ⟨[.own 0 0, .sl (.int .i64), .i .i64, .ols 1, .i .i64, .i .i64, .i .i64, .i .i64, .i .i64, .i .i64], [.segs [.sl (.pair (.int .i64) (.pair (.int .i64) .bool)), .sl (.pair (.int .i64) (.pair (.int .i64) (.int .i64))), .i .i64], .lst (.pair (.sl (.pair (.int .i64) (.pair (.int .i64) .bool))) (.pair (.sl (.pair (.int .i64) (.pair (.int .i64) (.int .i64)))) (.int .i64)))]⟩⟩)], run := fun p k => (tlone_l5 N N p.1.2.1 p.1.2.2.1 p.1.2.2.2.1 p.1.2.2.2.2.1 p.1.2.2.2.2.2.2.1 p.1.2.2.2.2.2.2.2.1 p.1.2.2.2.2.2.2.2.2.1 p.1.2.2.2.2.2.2.2.2.2.1 p.1.2.2.2.2.2.2.2.2.2.2.1 p.1.2.2.2.2.2.2.2.2.2.2.2.1 p.2.1.1 p.2.1.2.1 p.2.1.2.2.1 p.2.2.1).bind fun e => match e with | .inl x => k (.inl ((), ())) | .inr x => k (.inr (.inl (((), x.1, x.2.1, (), x.2.2.1, x.2.2.2.1, x.2.2.2.2.1, x.2.2.2.2.2.1, x.2.2.2.2.2.2.1, x.2.2.2.2.2.2.2.1, ()), ((x.2.2.2.2.2.2.2.2.1, x.2.2.2.2.2.2.2.2.2.1, x.2.2.2.2.2.2.2.2.2.2.1, ()), x.2.2.2.2.2.2.2.2.2.2.2, ())))) }
theorem tlone_l5_eq (N n_ : Nat) (lone : List Int) (i : Int) (from_ : Int) (to : Int) (u : Int) (u2 : Int) (u3 : Int) (u4 : Int) (u5 : Int) (u6 : Int) (x : List (Int × (Int × Bool))) (x2 : List (Int × (Int × Int))) (x3 : Int) (g : List ((List (Int × (Int × Bool))) × ((List (Int × (Int × Int))) × Int))) : ev (Z := (Unit) ⊕ (List Int × Int × Int × Int × Int × Int × Int × Int × (List (Int × (Int × Bool))) × (List (Int × (Int × Int))) × Int × (List ((List (Int × (Int × Bool))) × ((List (Int × (Int × Int))) × Int))))) Try.prog (tlone_sp N) tlone_B [tlone_l2_L N] [tlone_l5_h (tlone_l5 N n_), tlone_l5_e0, tlone_l5_e1] none 400 true tlone_l5_at (stL tlone_l5_st (((), lone, i, from_, to, (), u, u2, u3, u4, u5, u6, ()), ((x, x2, x3, ()), g, ()))) (stH tlone_l5_st (((), lone, i, from_, to, (), u, u2, u3, u4, u5, u6, ()), ((x, x2, x3, ()), g, ()))) = tlone_l5 N (n_ + 1) lone i from_ to u u2 u3 u4 u5 u6 x x2 x3 g := by kernel_rfl
theorem tlone_l5_ok (N : Nat) {top : Bool} : LoopOK Try.prog tlone_B.c tlone_B.n tlone_B.m0 top (tlone_l5_L N) := loop_of_ev (Z := (Unit) ⊕ (List Int × Int × Int × Int × Int × Int × Int × Int × (List (Int × (Int × Bool))) × (List (Int × (Int × Int))) × Int × (List ((List (Int × (Int × Bool))) × ((List (Int × (Int × Int))) × Int))))) (N := N) (fun m p => tlone_l5 N m p.1.2.1 p.1.2.2.1 p.1.2.2.2.1 p.1.2.2.2.2.1 p.1.2.2.2.2.2.2.1 p.1.2.2.2.2.2.2.2.1 p.1.2.2.2.2.2.2.2.2.1 p.1.2.2.2.2.2.2.2.2.2.1 p.1.2.2.2.2.2.2.2.2.2.2.1 p.1.2.2.2.2.2.2.2.2.2.2.2.1 p.2.1.1 p.2.1.2.1 p.2.1.2.2.1 p.2.2.1) (fun e => match e with | .inl x => .inl ((), ()) | .inr x => .inr (.inl (((), x.1, x.2.1, (), x.2.2.1, x.2.2.2.1, x.2.2.2.2.1, x.2.2.2.2.2.1, x.2.2.2.2.2.2.1, x.2.2.2.2.2.2.2.1, ()), ((x.2.2.2.2.2.2.2.2.1, x.2.2.2.2.2.2.2.2.2.1, x.2.2.2.2.2.2.2.2.2.2.1, ()), x.2.2.2.2.2.2.2.2.2.2.2, ())))) (fun _ p k => bind_congr_ (tlone_l5 N N p.1.2.1 p.1.2.2.1 p.1.2.2.2.1 p.1.2.2.2.2.1 p.1.2.2.2.2.2.2.1 p.1.2.2.2.2.2.2.2.1 p.1.2.2.2.2.2.2.2.2.1 p.1.2.2.2.2.2.2.2.2.2.1 p.1.2.2.2.2.2.2.2.2.2.2.1 p.1.2.2.2.2.2.2.2.2.2.2.2.1 p.2.1.1 p.2.1.2.1 p.2.1.2.2.1 p.2.2.1) _ _ (fun e => by rcases e with x | x <;> rfl)) (fun _ => rfl) (fun m z E Xc hE hX hrec hx => leaf_of_ev (B := tlone_B) (loops := [tlone_l2_L N]) (leaves := [tlone_l5_h (tlone_l5 N m), tlone_l5_e0, tlone_l5_e1]) (tlone_all N) mixed ⟨tlone_l2_ok N, trivial⟩ hE hX ⟨hrec, (fun p hp => by obtain rfl := Option.some.inj hp; exact hx), (fun p hp => by obtain rfl := Option.some.inj hp; exact hx), trivial⟩ RetOK.no (fun p => tlone_l5_eq N m p.1.2.1 p.1.2.2.1 p.1.2.2.2.1 p.1.2.2.2.2.1 p.1.2.2.2.2.2.2.1 p.1.2.2.2.2.2.2.2.1 p.1.2.2.2.2.2.2.2.2.1 p.1.2.2.2.2.2.2.2.2.2.1 p.1.2.2.2.2.2.2.2.2.2.2.1 p.1.2.2.2.2.2.2.2.2.2.2.2.1 p.2.1.1 p.2.1.2.1 p.2.1.2.2.1 p.2.2.1))
abbrev tlone_l4_at : List PI := [.c [1, 1, 1, 1, 0, 1, 0, 0, 1, 1, 0, 0, 1, 1, 1, 1, 1, 1, 0, 0, 1, 1, 0, 0, 1, 1, 0, 0, 0], .c [1, 1, 1, 1, 0, 1, 0, 0, 1, 1, 0, 0, 1, 1, 1, 1, 1, 1, 0, 0, 1, 1, 0, 0, 1, 1, 0, 0, 1], .l [1, 1, 1, 1, 0, 1, 0, 0, 1, 1, 0, 0, 1, 1, 1, 1, 1, 1, 0, 0, 1, 1, 0, 0, 1, 1, 0, 0], .b 6, .b 5, .c [1, 1, 1, 1, 0, 1, 0, 0, 1, 1, 0, 0, 1, 1, 1, 1, 1, 1, 0, 0, 1, 1, 1], .l [1, 1, 1, 1, 0, 1, 0, 0, 1, 1, 0, 0, 1, 1, 1, 1, 1, 1, 0, 0], .b 4, .b 1, .c [1, 1, 1, 1, 0, 1, 0, 0, 1, 1, 1], .l [1, 1, 1, 1, 0, 1, 0, 0], .b 0, .c [1, 1, 1, 1, 1]]
abbrev tlone_l4_st : Sta := ⟨[6, 7, 13, 24, 25, 26, 111, 112, 119, 120], ⟨[.own 0 0, .sl (.int .i64), .i .i64, .ols 1, .i .i64, .i .i64, .i .i64, .i .i64, .i .i64, .i .i64], [.segs [.sl (.pair (.int .i64) (.pair (.int .i64) .bool)), .sl (.pair (.int .i64) (.pair (.int .i64) (.int .i64))), .i .i64], .lst (.pair (.sl (.pair (.int .i64) (.pair (.int .i64) .bool))) (.pair (.sl (.pair (.int .i64) (.pair (.int .i64) (.int .i64)))) (.int .i64)))]⟩⟩
abbrev tlone_l4_h (rec : (List Int) → Int → Int → Int → Int → Int → Int → Int → (List (Int × (Int × Bool))) → (List (Int × (Int × Int))) → Int → (List ((List (Int × (Int × Bool))) × ((List (Int × (Int × Int))) × Int))) → Option ((Unit) ⊕ (List Int × Int × Int × Int × Int × (List (Int × (Int × Bool))) × (List (Int × (Int × Int))) × Int × (List ((List (Int × (Int × Bool))) × ((List (Int × (Int × Int))) × Int)))))) : Leaf ((Unit) ⊕ (List Int × Int × Int × Int × Int × (List (Int × (Int × Bool))) × (List (Int × (Int × Int))) × Int × (List ((List (Int × (Int × Bool))) × ((List (Int × (Int × Int))) × Int))))) := ⟨tlone_l4_at, tlone_l4_st, fun p => rec p.1.2.1 p.1.2.2.1 p.1.2.2.2.2.1 p.1.2.2.2.2.2.1 p.1.2.2.2.2.2.2.1 p.1.2.2.2.2.2.2.2.1 p.1.2.2.2.2.2.2.2.2.1 p.1.2.2.2.2.2.2.2.2.2.1 p.2.1.1 p.2.1.2.1 p.2.1.2.2.1 p.2.2.1⟩
abbrev tlone_l4_e0 : Leaf ((Unit) ⊕ (List Int × Int × Int × Int × Int × (List (Int × (Int × Bool))) × (List (Int × (Int × Int))) × Int × (List ((List (Int × (Int × Bool))) × ((List (Int × (Int × Int))) × Int))))) := ⟨[.c [1, 1, 1, 1, 0, 1, 0, 0, 1, 1, 0, 0, 1, 1, 1, 1, 1, 1, 0, 0, 1, 1, 0, 0, 1, 1, 0, 0, 1, 1, 0, 0, 1, 1, 0, 0, 1, 0, 0, 1, 0, 0], .c [1, 1, 1, 1, 0, 1, 0, 0, 1, 1, 0, 0, 1, 1, 1, 1, 1, 1, 0, 0, 1, 1, 0, 0, 1, 1, 0, 0, 1, 1, 0, 0, 1, 1, 0, 0, 1, 0, 0, 1, 0, 1], .b 9, .c [1, 1, 1, 1, 0, 1, 0, 0, 1, 1, 0, 0, 1, 1, 1, 1, 1, 1, 0, 0, 1, 1, 0, 0, 1, 1, 0, 0, 1, 1, 0, 0, 1, 1, 0, 0, 1, 1], .l [1, 1, 1, 1, 0, 1, 0, 0, 1, 1, 0, 0, 1, 1, 1, 1, 1, 1, 0, 0, 1, 1, 0, 0, 1, 1, 0, 0, 1, 1, 0, 0, 1, 1, 0, 0], .b 8, .b 7, .c [1, 1, 1, 1, 0, 1, 0, 0, 1, 1, 0, 0, 1, 1, 1, 1, 1, 1, 0, 0, 1, 1, 0, 0, 1, 1, 0, 0, 1, 1, 1], .l [1, 1, 1, 1, 0, 1, 0, 0, 1, 1, 0, 0, 1, 1, 1, 1, 1, 1, 0, 0, 1, 1, 0, 0, 1, 1, 0, 0], .b 6, .b 5, .c [1, 1, 1, 1, 0, 1, 0, 0, 1, 1, 0, 0, 1, 1, 1, 1, 1, 1, 0, 0, 1, 1, 1], .l [1, 1, 1, 1, 0, 1, 0, 0, 1, 1, 0, 0, 1, 1, 1, 1, 1, 1, 0, 0], .b 4, .b 1, .c [1, 1, 1, 1, 0, 1, 0, 0, 1, 1, 1], .l [1, 1, 1, 1, 0, 1, 0, 0], .b 0, .c [1, 1, 1, 1, 1]], ⟨[], ⟨[], []⟩⟩, fun p => some (.inl ())⟩
abbrev tlone_l4_e1 : Leaf ((Unit) ⊕ (List Int × Int × Int × Int × Int × (List (Int × (Int × Bool))) × (List (Int × (Int × Int))) × Int × (List ((List (Int × (Int × Bool))) × ((List (Int × (Int × Int))) × Int))))) := ⟨[.c [1, 1, 1, 1, 0, 1, 0, 0, 1, 1, 0, 0, 1, 1, 1, 1, 1, 1, 0, 0, 1, 1, 1], .l [1, 1, 1, 1, 0, 1, 0, 0, 1, 1, 0, 0, 1, 1, 1, 1, 1, 1, 0, 0], .b 4, .b 1, .c [1, 1, 1, 1, 0, 1, 0, 0, 1, 1, 1], .l [1, 1, 1, 1, 0, 1, 0, 0], .b 0, .c [1, 1, 1, 1, 1]], ⟨[6, 7, 24, 25, 26, 111, 112], ⟨[.own 0 0, .sl (.int .i64), .ols 1, .i .i64, .i .i64, .i .i64, .i .i64], [.segs [.sl (.pair (.int .i64) (.pair (.int .i64) .bool)), .sl (.pair (.int .i64) (.pair (.int .i64) (.int .i64))), .i .i64], .lst (.pair (.sl (.pair (.int .i64) (.pair (.int .i64) .bool))) (.pair (.sl (.pair (.int .i64) (.pair (.int .i64) (.int .i64)))) (.int .i64)))]⟩⟩, fun p => some (.inr (p.1.2.1, p.1.2.2.2.1, p.1.2.2.2.2.1, p.1.2.2.2.2.2.1, p.1.2.2.2.2.2.2.1, p.2.1.1, p.2.1.2.1, p.2.1.2.2.1, p.2.2.1))⟩
noncomputable def tlone_l4_L (N : Nat) : LoopS := { at_ := tlone_l4_at, sta := tlone_l4_st, exits := [([.c [1, 1, 1, 1, 0, 1, 0, 0, 1, 1, 0, 0, 1, 1, 1, 1, 1, 1, 0, 0, 1, 1, 0, 0, 1, 1, 0, 0, 1, 1, 0, 0, 1, 1, 0, 0, 1, 0, 0, 1, 0, 0], .c [1, 1, 1, 1, 0, 1, 0, 0, 1, 1, 0, 0, 1, 1, 1, 1, 1, 1, 0, 0, 1, 1, 0, 0, 1, 1, 0, 0, 1, 1, 0, 0, 1, 1, 0, 0, 1, 0, 0, 1, 0, 1], .b 9, .c [1, 1, 1, 1, 0, 1, 0, 0, 1, 1, 0, 0, 1, 1, 1, 1, 1, 1, 0, 0, 1, 1, 0, 0, 1, 1, 0, 0, 1, 1, 0, 0, 1, 1, 0, 0, 1, 1], .l [1, 1, 1, 1, 0, 1, 0, 0, 1, 1, 0, 0, 1, 1, 1, 1, 1, 1, 0, 0, 1, 1, 0, 0, 1, 1, 0, 0, 1, 1, 0, 0, 1, 1, 0, 0], .b 8, .b 7, .c [1, 1, 1, 1, 0, 1, 0, 0, 1, 1, 0, 0, 1, 1, 1, 1, 1, 1, 0, 0, 1, 1, 0, 0, 1, 1, 0, 0, 1, 1, 1], .l [1, 1, 1, 1, 0, 1, 0, 0, 1, 1, 0, 0, 1, 1, 1, 1, 1, 1, 0, 0, 1, 1, 0, 0, 1, 1, 0, 0], .b 6, .b 5, .c [1, 1, 1, 1, 0, 1, 0, 0, 1, 1, 0, 0, 1, 1, 1, 1, 1, 1, 0, 0, 1, 1, 1], .l [1, 1, 1, 1, 0, 1, 0, 0, 1, 1, 0, 0, 1, 1, 1, 1, 1, 1, 0, 0], .b 4, .b 1, .c [1, 1, 1, 1, 0, 1, 0, 0, 1, 1, 1], .l [1, 1, 1, 1, 0, 1, 0, 0], .b 0, .c [1, 1, 1, 1, 1]], ⟨[], ⟨[], []⟩⟩), ([.c [1, 1, 1, 1, 0, 1, 0, 0, 1, 1, 0, 0, 1, 1, 1, 1, 1, 1, 0, 0, 1, 1, 1], .l [1, 1, 1, 1, 0, 1, 0, 0, 1, 1, 0, 0, 1, 1, 1, 1, 1, 1, 0, 0], .b 4, .b 1, .c [1, 1, 1, 1, 0, 1, 0, 0, 1, 1, 1], .l [1, 1, 1, 1, 0, 1, 0, 0], .b 0, .c [1, 1, 1, 1, 1]], ⟨[6, 7, 24, 25, 26, 111, 112], ⟨[.own 0 0, .sl (.int .i64), .ols 1, .i .i64, .i .i64, .i .i64, .i .i64], [.segs [.sl (.pair (.int .i64) (.pair (.int .i64) .bool)), .sl (.pair (.int .i64) (.pair (.int .i64) (.int .i64))), .i .i64], .lst (.pair (.sl (.pair (.int .i64) (.pair (.int .i64) .bool))) (.pair (.sl (.pair (.int .i64) (.pair (.int .i64) (.int .i64)))) (.int .i64)))]⟩⟩)], run := fun p k => (tlone_l4 N N p.1.2.1 p.1.2.2.1 p.1.2.2.2.2.1 p.1.2.2.2.2.2.1 p.1.2.2.2.2.2.2.1 p.1.2.2.2.2.2.2.2.1 p.1.2.2.2.2.2.2.2.2.1 p.1.2.2.2.2.2.2.2.2.2.1 p.2.1.1 p.2.1.2.1 p.2.1.2.2.1 p.2.2.1).bind fun e => match e with | .inl x => k (.inl ((), ())) | .inr x => k (.inr (.inl (((), x.1, (), x.2.1, x.2.2.1, x.2.2.2.1, x.2.2.2.2.1, ()), ((x.2.2.2.2.2.1, x.2.2.2.2.2.2.1, x.2.2.2.2.2.2.2.1, ()), x.2.2.2.2.2.2.2.2, ())))) }
theorem tlone_l4_eq (N n_ : Nat) (lone : List Int) (i : Int) (u : Int) (u2 : Int) (u3 : Int) (u4 : Int) (u5 : Int) (u6 : Int) (x : List (Int × (Int × Bool))) (x2 : List (Int × (Int × Int))) (x3 : Int) (g : List ((List (Int × (Int × Bool))) × ((List (Int × (Int × Int))) × Int))) : ev (Z := (Unit) ⊕ (List Int × Int × Int × Int × Int × (List (Int × (Int × Bool))) × (List (Int × (Int × Int))) × Int × (List ((List (Int × (Int × Bool))) × ((List (Int × (Int × Int))) × Int))))) Try.prog (tlone_sp N) tlone_B [tlone_l2_L N, tlone_l5_L N] [tlone_l4_h (tlone_l4 N n_), tlone_l4_e0, tlone_l4_e1] none 400 true tlone_l4_at (stL tlone_l4_st (((), lone, i, (), u, u2, u3, u4, u5, u6, ()), ((x, x2, x3, ()), g, ()))) (stH tlone_l4_st (((), lone, i, (), u, u2, u3, u4, u5, u6, ()), ((x, x2, x3, ()), g, ()))) = tlone_l4 N (n_ + 1) lone i u u2 u3 u4 u5 u6 x x2 x3 g := by kernel_rfl
theorem tlone_l4_ok (N : Nat) {top : Bool} : LoopOK Try.prog tlone_B.c tlone_B.n tlone_B.m0 top (tlone_l4_L N) := loop_of_ev (Z := (Unit) ⊕ (List Int × Int × Int × Int × Int × (List (Int × (Int × Bool))) × (List (Int × (Int × Int))) × Int × (List ((List (Int × (Int × Bool))) × ((List (Int × (Int × Int))) × Int))))) (N := N) (fun m p => tlone_l4 N m p.1.2.1 p.1.2.2.1 p.1.2.2.2.2.1 p.1.2.2.2.2.2.1 p.1.2.2.2.2.2.2.1 p.1.2.2.2.2.2.2.2.1 p.1.2.2.2.2.2.2.2.2.1 p.1.2.2.2.2.2.2.2.2.2.1 p.2.1.1 p.2.1.2.1 p.2.1.2.2.1 p.2.2.1) (fun e => match e with | .inl x => .inl ((), ()) | .inr x => .inr (.inl (((), x.1, (), x.2.1, x.2.2.1, x.2.2.2.1, x.2.2.2.2.1, ()), ((x.2.2.2.2.2.1, x.2.2.2.2.2.2.1, x.2.2.2.2.2.2.2.1, ()), x.2.2.2.2.2.2.2.2, ())))) (fun _ p k => bind_congr_ (tlone_l4 N N p.1.2.1 p.1.2.2.1 p.1.2.2.2.2.1 p.1.2.2.2.2.2.1 p.1.2.2.2.2.2.2.1 p.1.2.2.2.2.2.2.2.1 p.1.2.2.2.2.2.2.2.2.1 p.1.2.2.2.2.2.2.2.2.2.1 p.2.1.1 p.2.1.2.1 p.2.1.2.2.1 p.2.2.1) _ _ (fun e => by rcases e with x | x <;> rfl)) (fun _ => rfl) (fun m z E Xc hE hX hrec hx => leaf_of_ev (B := tlone_B) (loops := [tlone_l2_L N, tlone_l5_L N]) (leaves := [tlone_l4_h (tlone_l4 N m), tlone_l4_e0, tlone_l4_e1]) (tlone_all N) mixed ⟨tlone_l2_ok N, tlone_l5_ok N, trivial⟩ hE hX ⟨hrec, (fun p hp => by obtain rfl := Option.some.inj hp; exact hx), (fun p hp => by obtain rfl := Option.some.inj hp; exact hx), trivial⟩ RetOK.no (fun p => tlone_l4_eq N m p.1.2.1 p.1.2.2.1 p.1.2.2.2.2.1 p.1.2.2.2.2.2.1 p.1.2.2.2.2.2.2.1 p.1.2.2.2.2.2.2.2.1 p.1.2.2.2.2.2.2.2.2.1 p.1.2.2.2.2.2.2.2.2.2.1 p.2.1.1 p.2.1.2.1 p.2.1.2.2.1 p.2.2.1))
abbrev tlone_l3_at : List PI := [.c [1, 1, 1, 1, 0, 1, 0, 0, 1, 1, 0, 0, 1, 1, 1, 1, 1, 1, 0, 0, 0], .c [1, 1, 1, 1, 0, 1, 0, 0, 1, 1, 0, 0, 1, 1, 1, 1, 1, 1, 0, 0, 1], .l [1, 1, 1, 1, 0, 1, 0, 0, 1, 1, 0, 0, 1, 1, 1, 1, 1, 1, 0, 0], .b 4, .b 1, .c [1, 1, 1, 1, 0, 1, 0, 0, 1, 1, 1], .l [1, 1, 1, 1, 0, 1, 0, 0], .b 0, .c [1, 1, 1, 1, 1]]
abbrev tlone_l3_st : Sta := ⟨[6, 7, 24, 25, 26, 111, 112], ⟨[.own 0 0, .sl (.int .i64), .ols 1, .i .i64, .i .i64, .i .i64, .i .i64], [.segs [.sl (.pair (.int .i64) (.pair (.int .i64) .bool)), .sl (.pair (.int .i64) (.pair (.int .i64) (.int .i64))), .i .i64], .lst (.pair (.sl (.pair (.int .i64) (.pair (.int .i64) .bool))) (.pair (.sl (.pair (.int .i64) (.pair (.int .i64) (.int .i64)))) (.int .i64)))]⟩⟩
abbrev tlone_l3_h (rec : (List Int) → Int → Int → Int → Int → (List (Int × (Int × Bool))) → (List (Int × (Int × Int))) → Int → (List ((List (Int × (Int × Bool))) × ((List (Int × (Int × Int))) × Int))) → Option ((Unit) ⊕ (Int × Int × (List ((List (Int × (Int × Bool))) × ((List (Int × (Int × Int))) × Int)))))) : Leaf ((Unit) ⊕ (Int × Int × (List ((List (Int × (Int × Bool))) × ((List (Int × (Int × Int))) × Int))))) := ⟨tlone_l3_at, tlone_l3_st, fun p => rec p.1.2.1 p.1.2.2.2.1 p.1.2.2.2.2.1 p.1.2.2.2.2.2.1 p.1.2.2.2.2.2.2.1 p.2.1.1 p.2.1.2.1 p.2.1.2.2.1 p.2.2.1⟩
abbrev tlone_l3_e0 : Leaf ((Unit) ⊕ (Int × Int × (List ((List (Int × (Int × Bool))) × ((List (Int × (Int × Int))) × Int))))) := ⟨[.c [1, 1, 1, 1, 0, 1, 0, 0, 1, 1, 0, 0, 1, 1, 1, 1, 1, 1, 0, 0, 1, 1, 0, 0, 1, 1, 0, 0, 1, 1, 0, 0, 1, 1, 0, 0, 1, 0, 0, 1, 0, 0], .c [1, 1, 1, 1, 0, 1, 0, 0, 1, 1, 0, 0, 1, 1, 1, 1, 1, 1, 0, 0, 1, 1, 0, 0, 1, 1, 0, 0, 1, 1, 0, 0, 1, 1, 0, 0, 1, 0, 0, 1, 0, 1], .b 9, .c [1, 1, 1, 1, 0, 1, 0, 0, 1, 1, 0, 0, 1, 1, 1, 1, 1, 1, 0, 0, 1, 1, 0, 0, 1, 1, 0, 0, 1, 1, 0, 0, 1, 1, 0, 0, 1, 1], .l [1, 1, 1, 1, 0, 1, 0, 0, 1, 1, 0, 0, 1, 1, 1, 1, 1, 1, 0, 0, 1, 1, 0, 0, 1, 1, 0, 0, 1, 1, 0, 0, 1, 1, 0, 0], .b 8, .b 7, .c [1, 1, 1, 1, 0, 1, 0, 0, 1, 1, 0, 0, 1, 1, 1, 1, 1, 1, 0, 0, 1, 1, 0, 0, 1, 1, 0, 0, 1, 1, 1], .l [1, 1, 1, 1, 0, 1, 0, 0, 1, 1, 0, 0, 1, 1, 1, 1, 1, 1, 0, 0, 1, 1, 0, 0, 1, 1, 0, 0], .b 6, .b 5, .c [1, 1, 1, 1, 0, 1, 0, 0, 1, 1, 0, 0, 1, 1, 1, 1, 1, 1, 0, 0, 1, 1, 1], .l [1, 1, 1, 1, 0, 1, 0, 0, 1, 1, 0, 0, 1, 1, 1, 1, 1, 1, 0, 0], .b 4, .b 1, .c [1, 1, 1, 1, 0, 1, 0, 0, 1, 1, 1], .l [1, 1, 1, 1, 0, 1, 0, 0], .b 0, .c [1, 1, 1, 1, 1]], ⟨[], ⟨[], []⟩⟩, fun p => some (.inl ())⟩
abbrev tlone_l3_e1 : Leaf ((Unit) ⊕ (Int × Int × (List ((List (Int × (Int × Bool))) × ((List (Int × (Int × Int))) × Int))))) := ⟨[.c [1, 1, 1, 1, 0, 1, 0, 0, 1, 1, 1], .l [1, 1, 1, 1, 0, 1, 0, 0], .b 0, .c [1, 1, 1, 1, 1]], ⟨[24, 25, 26], ⟨[.ols 0, .i .i64, .i .i64], [.lst (.pair (.sl (.pair (.int .i64) (.pair (.int .i64) .bool))) (.pair (.sl (.pair (.int .i64) (.pair (.int .i64) (.int .i64)))) (.int .i64)))]⟩⟩, fun p => some (.inr (p.1.2.1, p.1.2.2.1, p.2.1))⟩
noncomputable def tlone_l3_L (N : Nat) : LoopS := { at_ := tlone_l3_at, sta := tlone_l3_st, exits := [([.c [1, 1, 1, 1, 0, 1, 0, 0, 1, 1, 0, 0, 1, 1, 1, 1, 1, 1, 0, 0, 1, 1, 0, 0, 1, 1, 0, 0, 1, 1, 0, 0, 1, 1, 0, 0, 1, 0, 0, 1, 0, 0], .c [1, 1, 1, 1, 0, 1, 0, 0, 1, 1, 0, 0, 1, 1, 1, 1, 1, 1, 0, 0, 1, 1, 0, 0, 1, 1, 0, 0, 1, 1, 0, 0, 1, 1, 0, 0, 1, 0, 0, 1, 0, 1], .b 9, .c [1, 1, 1, 1, 0, 1, 0, 0, 1, 1, 0, 0, 1, 1, 1, 1, 1, 1, 0, 0, 1, 1, 0, 0, 1, 1, 0, 0, 1, 1, 0, 0, 1, 1, 0, 0, 1, 1], .l [1, 1, 1, 1, 0, 1, 0, 0, 1, 1, 0, 0, 1, 1, 1, 1, 1, 1, 0, 0, 1, 1, 0, 0, 1, 1, 0, 0, 1, 1, 0, 0, 1, 1, 0, 0], .b 8, .b 7, .c [1, 1, 1, 1, 0, 1, 0, 0, 1, 1, 0, 0, 1, 1, 1, 1, 1, 1, 0, 0, 1, 1, 0, 0, 1, 1, 0, 0, 1, 1, 1], .l [1, 1, 1, 1, 0, 1, 0, 0, 1, 1, 0, 0, 1, 1, 1, 1, 1, 1, 0, 0, 1, 1, 0, 0, 1, 1, 0, 0], .b 6, .b 5, .c [1, 1, 1, 1, 0, 1, 0, 0, 1, 1, 0, 0, 1, 1, 1, 1, 1, 1, 0, 0, 1, 1, 1], .l [1, 1, 1, 1, 0, 1, 0, 0, 1, 1, 0, 0, 1, 1, 1, 1, 1, 1, 0, 0], .b 4, .b 1, .c [1, 1, 1, 1, 0, 1, 0, 0, 1, 1, 1], .l [1, 1, 1, 1, 0, 1, 0, 0], .b 0, .c [1, 1, 1, 1, 1]], ⟨[], ⟨[], []⟩⟩), ([.c [1, 1, 1, 1, 0, 1, 0, 0, 1, 1, 1], .l [1, 1, 1, 1, 0, 1, 0, 0], .b 0, .c [1, 1, 1, 1, 1]], ⟨[24, 25, 26], ⟨[.ols 0, .i .i64, .i .i64], [.lst (.pair (.sl (.pair (.int .i64) (.pair (.int .i64) .bool))) (.pair (.sl (.pair (.int .i64) (.pair (.int .i64) (.int .i64)))) (.int .i64)))]⟩⟩)], run := fun p k => (tlone_l3 N N p.1.2.1 p.1.2.2.2.1 p.1.2.2.2.2.1 p.1.2.2.2.2.2.1 p.1.2.2.2.2.2.2.1 p.2.1.1 p.2.1.2.1 p.2.1.2.2.1 p.2.2.1).bind fun e => match e with | .inl x => k (.inl ((), ())) | .inr x => k (.inr (.inl (((), x.1, x.2.1, ()), (x.2.2, ())))) }
theorem tlone_l3_eq (N n_ : Nat) (lone : List Int) (u : Int) (u2 : Int) (u3 : Int) (u4 : Int) (x : List (Int × (Int × Bool))) (x2 : List (Int × (Int × Int))) (x3 : Int) (g : List ((List (Int × (Int × Bool))) × ((List (Int × (Int × Int))) × Int))) : ev (Z := (Unit) ⊕ (Int × Int × (List ((List (Int × (Int × Bool))) × ((List (Int × (Int × Int))) × Int))))) Try.prog (tlone_sp N) tlone_B [tlone_l2_L N, tlone_l5_L N, tlone_l4_L N] [tlone_l3_h (tlone_l3 N n_), tlone_l3_e0, tlone_l3_e1] none 400 true tlone_l3_at (stL tlone_l3_st (((), lone, (), u, u2, u3, u4, ()), ((x, x2, x3, ()), g, ()))) (stH tlone_l3_st (((), lone, (), u, u2, u3, u4, ()), ((x, x2, x3, ()), g, ()))) = tlone_l3 N (n_ + 1) lone u u2 u3 u4 x x2 x3 g := by kernel_rfl
theorem tlone_l3_ok (N : Nat) {top : Bool} : LoopOK Try.prog tlone_B.c tlone_B.n tlone_B.m0 top (tlone_l3_L N) := loop_of_ev (Z := (Unit) ⊕ (Int × Int × (List ((List (Int × (Int × Bool))) × ((List (Int × (Int × Int))) × Int))))) (N := N) (fun m p => tlone_l3 N m p.1.2.1 p.1.2.2.2.1 p.1.2.2.2.2.1 p.1.2.2.2.2.2.1 p.1.2.2.2.2.2.2.1 p.2.1.1 p.2.1.2.1 p.2.1.2.2.1 p.2.2.1) (fun e => match e with | .inl x => .inl ((), ()) | .inr x => .inr (.inl (((), x.1, x.2.1, ()), (x.2.2, ())))) (fun _ p k => bind_congr_ (tlone_l3 N N p.1.2.1 p.1.2.2.2.1 p.1.2.2.2.2.1 p.1.2.2.2.2.2.1 p.1.2.2.2.2.2.2.1 p.2.1.1 p.2.1.2.1 p.2.1.2.2.1 p.2.2.1) _ _ (fun e => by rcases e with x | x <;> rfl)) (fun _ => rfl) (fun m z E Xc hE hX hrec hx => leaf_of_ev (B := tlone_B) (loops := [tlone_l2_L N, tlone_l5_L N, tlone_l4_L N]) (leaves := [tlone_l3_h (tlone_l3 N m), tlone_l3_e0, tlone_l3_e1]) (tlone_all N) mixed ⟨tlone_l2_ok N, tlone_l5_ok N, tlone_l4_ok N, trivial⟩ hE hX ⟨hrec, (fun p hp => by obtain rfl := Option.some.inj hp; exact hx), (fun p hp => by obtain rfl := Option.some.inj hp; exact hx), trivial⟩ RetOK.no (fun p => tlone_l3_eq N m p.1.2.1 p.1.2.2.2.1 p.1.2.2.2.2.1 p.1.2.2.2.2.2.1 p.1.2.2.2.2.2.2.1 p.2.1.1 p.2.1.2.1 p.2.1.2.2.1 p.2.2.1))
abbrev tlone_l1_at : List PI := [.c [1, 1, 1, 1, 0, 1, 0, 0, 0], .c [1, 1, 1, 1, 0, 1, 0, 0, 1], .l [1, 1, 1, 1, 0, 1, 0, 0], .b 0, .c [1, 1, 1, 1, 1]]
abbrev tlone_l1_st : Sta := ⟨[24, 25, 26], ⟨[.ols 0, .i .i64, .i .i64], [.lst (.pair (.sl (.pair (.int .i64) (.pair (.int .i64) .bool))) (.pair (.sl (.pair (.int .i64) (.pair (.int .i64) (.int .i64)))) (.int .i64)))]⟩⟩
abbrev tlone_l1_h (rec : Int → Int → (List ((List (Int × (Int × Bool))) × ((List (Int × (Int × Int))) × Int))) → Option ((Unit) ⊕ ((Unit) ⊕ ((Unit) ⊕ (Unit))))) : Leaf ((Unit) ⊕ ((Unit) ⊕ ((Unit) ⊕ (Unit)))) := ⟨tlone_l1_at, tlone_l1_st, fun p => rec p.1.2.1 p.1.2.2.1 p.2.1⟩
abbrev tlone_l1_e0 : Leaf ((Unit) ⊕ ((Unit) ⊕ ((Unit) ⊕ (Unit)))) := ⟨[.c [1, 1, 1, 1, 0, 1, 0, 0, 1, 1, 0, 0, 1, 1, 1, 0, 1, 0, 0], .c [1, 1, 1, 1, 0, 1, 0, 0, 1, 1, 0, 0, 1, 1, 1, 0, 1, 0, 1], .c [1, 1, 1, 1, 0, 1, 0, 0, 1, 1, 0, 0, 1, 1, 1, 1], .b 1, .c [1, 1, 1, 1, 0, 1, 0, 0, 1, 1, 1], .l [1, 1, 1, 1, 0, 1, 0, 0], .b 0, .c [1, 1, 1, 1, 1]], ⟨[], ⟨[], []⟩⟩, fun p => some (.inl ())⟩
abbrev tlone_l1_e1 : Leaf ((Unit) ⊕ ((Unit) ⊕ ((Unit) ⊕ (Unit)))) := ⟨[.c [1, 1, 1, 1, 0, 1, 0, 0, 1, 1, 0, 0, 1, 1, 1, 1, 0, 1, 0, 0, 1, 1, 0, 0, 1, 1, 0, 0], .c [1, 1, 1, 1, 0, 1, 0, 0, 1, 1, 0, 0, 1, 1, 1, 1, 0, 1, 0, 0, 1, 1, 0, 0, 1, 1, 0, 1], .b 3, .c [1, 1, 1, 1, 0, 1, 0, 0, 1, 1, 0, 0, 1, 1, 1, 1, 0, 1, 0, 0, 1, 1, 1], .l [1, 1, 1, 1, 0, 1, 0, 0, 1, 1, 0, 0, 1, 1, 1, 1, 0, 1, 0, 0], .b 2, .c [1, 1, 1, 1, 0, 1, 0, 0, 1, 1, 0, 0, 1, 1, 1, 1, 1], .b 1, .c [1, 1, 1, 1, 0, 1, 0, 0, 1, 1, 1], .l [1, 1, 1, 1, 0, 1, 0, 0], .b 0, .c [1, 1, 1, 1, 1]], ⟨[], ⟨[], []⟩⟩, fun p => some (.inr (.inl ()))⟩
abbrev tlone_l1_e2 : Leaf ((Unit) ⊕ ((Unit) ⊕ ((Unit) ⊕ (Unit)))) := ⟨[.c [1, 1, 1, 1, 0, 1, 0, 0, 1, 1, 0, 0, 1, 1, 1, 1, 1, 1, 0, 0, 1, 1, 0, 0, 1, 1, 0, 0, 1, 1, 0, 0, 1, 1, 0, 0, 1, 0, 0, 1, 0, 0], .c [1, 1, 1, 1, 0, 1, 0, 0, 1, 1, 0, 0, 1, 1, 1, 1, 1, 1, 0, 0, 1, 1, 0, 0, 1, 1, 0, 0, 1, 1, 0, 0, 1, 1, 0, 0, 1, 0, 0, 1, 0, 1], .b 9, .c [1, 1, 1, 1, 0, 1, 0, 0, 1, 1, 0, 0, 1, 1, 1, 1, 1, 1, 0, 0, 1, 1, 0, 0, 1, 1, 0, 0, 1, 1, 0, 0, 1, 1, 0, 0, 1, 1], .l [1, 1, 1, 1, 0, 1, 0, 0, 1, 1, 0, 0, 1, 1, 1, 1, 1, 1, 0, 0, 1, 1, 0, 0, 1, 1, 0, 0, 1, 1, 0, 0, 1, 1, 0, 0], .b 8, .b 7, .c [1, 1, 1, 1, 0, 1, 0, 0, 1, 1, 0, 0, 1, 1, 1, 1, 1, 1, 0, 0, 1, 1, 0, 0, 1, 1, 0, 0, 1, 1, 1], .l [1, 1, 1, 1, 0, 1, 0, 0, 1, 1, 0, 0, 1, 1, 1, 1, 1, 1, 0, 0, 1, 1, 0, 0, 1, 1, 0, 0], .b 6, .b 5, .c [1, 1, 1, 1, 0, 1, 0, 0, 1, 1, 0, 0, 1, 1, 1, 1, 1, 1, 0, 0, 1, 1, 1], .l [1, 1, 1, 1, 0, 1, 0, 0, 1, 1, 0, 0, 1, 1, 1, 1, 1, 1, 0, 0], .b 4, .b 1, .c [1, 1, 1, 1, 0, 1, 0, 0, 1, 1, 1], .l [1, 1, 1, 1, 0, 1, 0, 0], .b 0, .c [1, 1, 1, 1, 1]], ⟨[], ⟨[], []⟩⟩, fun p => some (.inr (.inr (.inl ())))⟩
abbrev tlone_l1_e3 : Leaf ((Unit) ⊕ ((Unit) ⊕ ((Unit) ⊕ (Unit)))) := ⟨[.c [1, 1, 1, 1, 1, 0], .c [1, 1, 1, 1, 1, 1]], ⟨[], ⟨[], []⟩⟩, fun p => some (.inr (.inr (.inr ())))⟩
noncomputable def tlone_l1_L (N : Nat) : LoopS := { at_ := tlone_l1_at, sta := tlone_l1_st, exits := [([.c [1, 1, 1, 1, 0, 1, 0, 0, 1, 1, 0, 0, 1, 1, 1, 0, 1, 0, 0], .c [1, 1, 1, 1, 0, 1, 0, 0, 1, 1, 0, 0, 1, 1, 1, 0, 1, 0, 1], .c [1, 1, 1, 1, 0, 1, 0, 0, 1, 1, 0, 0, 1, 1, 1, 1], .b 1, .c [1, 1, 1, 1, 0, 1, 0, 0, 1, 1, 1], .l [1, 1, 1, 1, 0, 1, 0, 0], .b 0, .c [1, 1, 1, 1, 1]], ⟨[], ⟨[], []⟩⟩), ([.c [1, 1, 1, 1, 0, 1, 0, 0, 1, 1, 0, 0, 1, 1, 1, 1, 0, 1, 0, 0, 1, 1, 0, 0, 1, 1, 0, 0], .c [1, 1, 1, 1, 0, 1, 0, 0, 1, 1, 0, 0, 1, 1, 1, 1, 0, 1, 0, 0, 1, 1, 0, 0, 1, 1, 0, 1], .b 3, .c [1, 1, 1, 1, 0, 1, 0, 0, 1, 1, 0, 0, 1, 1, 1, 1, 0, 1, 0, 0, 1, 1, 1], .l [1, 1, 1, 1, 0, 1, 0, 0, 1, 1, 0, 0, 1, 1, 1, 1, 0, 1, 0, 0], .b 2, .c [1, 1, 1, 1, 0, 1, 0, 0, 1, 1, 0, 0, 1, 1, 1, 1, 1], .b 1, .c [1, 1, 1, 1, 0, 1, 0, 0, 1, 1, 1], .l [1, 1, 1, 1, 0, 1, 0, 0], .b 0, .c [1, 1, 1, 1, 1]], ⟨[], ⟨[], []⟩⟩), ([.c [1, 1, 1, 1, 0, 1, 0, 0, 1, 1, 0, 0, 1, 1, 1, 1, 1, 1, 0, 0, 1, 1, 0, 0, 1, 1, 0, 0, 1, 1, 0, 0, 1, 1, 0, 0, 1, 0, 0, 1, 0, 0], .c [1, 1, 1, 1, 0, 1, 0, 0, 1, 1, 0, 0, 1, 1, 1, 1, 1, 1, 0, 0, 1, 1, 0, 0, 1, 1, 0, 0, 1, 1, 0, 0, 1, 1, 0, 0, 1, 0, 0, 1, 0, 1], .b 9, .c [1, 1, 1, 1, 0, 1, 0, 0, 1, 1, 0, 0, 1, 1, 1, 1, 1, 1, 0, 0, 1, 1, 0, 0, 1, 1, 0, 0, 1, 1, 0, 0, 1, 1, 0, 0, 1, 1], .l [1, 1, 1, 1, 0, 1, 0, 0, 1, 1, 0, 0, 1, 1, 1, 1, 1, 1, 0, 0, 1, 1, 0, 0, 1, 1, 0, 0, 1, 1, 0, 0, 1, 1, 0, 0], .b 8, .b 7, .c [1, 1, 1, 1, 0, 1, 0, 0, 1, 1, 0, 0, 1, 1, 1, 1, 1, 1, 0, 0, 1, 1, 0, 0, 1, 1, 0, 0, 1, 1, 1], .l [1, 1, 1, 1, 0, 1, 0, 0, 1, 1, 0, 0, 1, 1, 1, 1, 1, 1, 0, 0, 1, 1, 0, 0, 1, 1, 0, 0], .b 6, .b 5, .c [1, 1, 1, 1, 0, 1, 0, 0, 1, 1, 0, 0, 1, 1, 1, 1, 1, 1, 0, 0, 1, 1, 1], .l [1, 1, 1, 1, 0, 1, 0, 0, 1, 1, 0, 0, 1, 1, 1, 1, 1, 1, 0, 0], .b 4, .b 1, .c [1, 1, 1, 1, 0, 1, 0, 0, 1, 1, 1], .l [1, 1, 1, 1, 0, 1, 0, 0], .b 0, .c [1, 1, 1, 1, 1]], ⟨[], ⟨[], []⟩⟩), ([.c [1, 1, 1, 1, 1, 0], .c [1, 1, 1, 1, 1, 1]], ⟨[], ⟨[], []⟩⟩)], run := fun p k => (tlone_l1 N N p.1.2.1 p.1.2.2.1 p.2.1).bind fun e => match e with | .inl x => k (.inl ((), ())) | .inr (.inl x) => k (.inr (.inl ((), ()))) | .inr (.inr (.inl x)) => k (.inr (.inr (.inl ((), ())))) | .inr (.inr (.inr x)) => k (.inr (.inr (.inr (.inl ((), ()))))) }
theorem tlone_l1_eq (N n_ : Nat) (u : Int) (u2 : Int) (g : List ((List (Int × (Int × Bool))) × ((List (Int × (Int × Int))) × Int))) : ev (Z := (Unit) ⊕ ((Unit) ⊕ ((Unit) ⊕ (Unit)))) Try.prog (tlone_sp N) tlone_B [tlone_l2_L N, tlone_l5_L N, tlone_l4_L N, tlone_l3_L N] [tlone_l1_h (tlone_l1 N n_), tlone_l1_e0, tlone_l1_e1, tlone_l1_e2, tlone_l1_e3] none 400 true tlone_l1_at (stL tlone_l1_st (((), u, u2, ()), (g, ()))) (stH tlone_l1_st (((), u, u2, ()), (g, ()))) = tlone_l1 N (n_ + 1) u u2 g := by kernel_rfl
theorem tlone_l1_ok (N : Nat) {top : Bool} : LoopOK Try.prog tlone_B.c tlone_B.n tlone_B.m0 top (tlone_l1_L N) := loop_of_ev (Z := (Unit) ⊕ ((Unit) ⊕ ((Unit) ⊕ (Unit)))) (N := N) (fun m p => tlone_l1 N m p.1.2.1 p.1.2.2.1 p.2.1) (fun e => match e with | .inl x => .inl ((), ()) | .inr (.inl x) => .inr (.inl ((), ())) | .inr (.inr (.inl x)) => .inr (.inr (.inl ((), ()))) | .inr (.inr (.inr x)) => .inr (.inr (.inr (.inl ((), ()))))) (fun _ p k => bind_congr_ (tlone_l1 N N p.1.2.1 p.1.2.2.1 p.2.1) _ _ (fun e => by rcases e with x | x | x | x <;> rfl)) (fun _ => rfl) (fun m z E Xc hE hX hrec hx => leaf_of_ev (B := tlone_B) (loops := [tlone_l2_L N, tlone_l5_L N, tlone_l4_L N, tlone_l3_L N]) (leaves := [tlone_l1_h (tlone_l1 N m), tlone_l1_e0, tlone_l1_e1, tlone_l1_e2, tlone_l1_e3]) (tlone_all N) mixed ⟨tlone_l2_ok N, tlone_l5_ok N, tlone_l4_ok N, tlone_l3_ok N, trivial⟩ hE hX ⟨hrec, (fun p hp => by obtain rfl := Option.some.inj hp; exact hx), (fun p hp => by obtain rfl := Option.some.inj hp; exact hx), (fun p hp => by obtain rfl := Option.some.inj hp; exact hx), (fun p hp => by obtain rfl := Option.some.inj hp; exact hx), trivial⟩ RetOK.no (fun p => tlone_l1_eq N m p.1.2.1 p.1.2.2.1 p.2.1))
abbrev tlone_st : Sta := ⟨[0], ⟨[.sl (.int .u8)], []⟩⟩
theorem tlone_eq (N : Nat) (numbers : List Int) : ev (Z := Bool) Try.prog (tlone_sp N) tlone_B [tlone_l2_L N, tlone_l5_L N, tlone_l4_L N, tlone_l3_L N, tlone_l1_L N] [] (some tlone_rt) 400 false [.c [0], .c [1]] (stL tlone_st ((numbers, ()), ())) (stH tlone_st ((numbers, ()), ())) = tlone_S N numbers := by kernel_rfl
noncomputable def sp_tlone (N : Nat) : Spec := { f := 12, ins := ⟨[.sl (.int .u8)], []⟩, outs := [⟨[.b], []⟩], run := fun p k => (tlone_S N p.1.1).bind fun r => k ((r, ()), ()) }
theorem sp_tlone_ok (N : Nat) : SpecOK Try.prog (sp_tlone N) := fn_sound (B := tlone_B) (loops := [tlone_l2_L N, tlone_l5_L N, tlone_l4_L N, tlone_l3_L N, tlone_l1_L N]) (leaves := []) (fun p => tlone_S N p.1.1) (fun r => ((r, ()), ())) tlone_rt (fun _ _ _ => rfl) (fun r z h => by cases h; rfl) Try.func12 (by kernel_rfl) (by kernel_rfl) (by kernel_rfl) rfl rfl (by kernel_rfl) (fun args w => Sem.pv_run _ _ _ (by kernel_rfl) w) (tlone_all N) mixed ⟨tlone_l2_ok N, tlone_l5_ok N, tlone_l4_ok N, tlone_l3_ok N, tlone_l1_ok N, trivial⟩ (fun z E Xc hE hX hret => trivial) (fun p => tlone_eq N p.1.1)

end Go.Proofs.Ytfamlpbdhhikdaa

namespace Go.Proofs.Ytfamlpbdhhikdaa
set_option linter.all false
open Go

/-- Two words lie in the same right breath. -/
def Jn (R : Nat → Nat → Bool) (m : Nat) (x y : Nat) : Prop := ∃ f t, f ≤ x ∧ x < y ∧ y < t ∧ t ≤ m ∧ R f t = true
/-- What a table of pairs says. -/
def Jt (J : List Bool) (P : Nat → Nat → Prop) : Prop := J.length = 144 ∧ ∀ a b, a < 12 → b < 12 → (J.getD (a * 12 + b) false = true ↔ P a b)
theorem Jt.mono {J : List Bool} {P Q : Nat → Nat → Prop} (h : Jt J P) (hpq : ∀ a b, a < 12 → b < 12 → (P a b ↔ Q a b)) : Jt J Q := ⟨h.1, fun a b x y => (h.2 a b x y).trans (hpq a b x y)⟩
theorem Jt.set {J : List Bool} {P : Nat → Nat → Prop} (h : Jt J P) {a b : Nat} (ha : a < 12) (hb : b < 12) : Jt (J.set (a * 12 + b) true) (fun x y => P x y ∨ x = a ∧ y = b) := by
  refine ⟨by rw [List.length_set]; exact h.1, fun x y hx hy => ?_⟩
  have hl := h.1
  rw [getD_set' (by omega)]
  by_cases e : a * 12 + b = x * 12 + y
  · have e1 : x = a := by omega
    have e2 : y = b := by omega
    simp [e1, e2]
  · rw [if_neg e, h.2 x y hx hy]
    constructor
    · exact fun h => .inl h
    · rintro (h | ⟨h1, h2⟩)
      · exact h
      · exact absurd (by rw [h1, h2]) e
section
variable {N : Nat} {ws : List Wd} {ts : List Tn} {br_ : Int}
theorem lone_l4_p {a t : Nat} {u g2 : Int} {d : Tx} (ht : t ≤ 12) (ha : a < t) : ∀ (n k : Nat) (J : List Bool) (P : Nat → Nat → Prop), t < n + k → k ≤ t → Jt J P →
    ∃ J', lone_l4 N n u t a k d J g2 = some (u, (t : Int), (a : Int), d, J', g2) ∧ Jt J' (fun x y => P x y ∨ x = a ∧ k ≤ y ∧ y < t)
  | 0, k, J, P, h, hk, _ => by omega
  | n + 1, k, J, P, h, hk, hJ => by
    unfold lone_l4
    by_cases c : k < t
    · obtain ⟨J', e1, e2⟩ := lone_l4_p ht ha n (k + 1) _ _ (by omega) (by omega) (hJ.set (a := a) (b := k) (by omega) (by omega))
      rw [show ((k + 1 : Nat) : Int) = (k : Int) + 1 by omega] at e1
      have hl := hJ.1
      rw [br_dec (by omega), rng_eq (by omega), rng_eq (by omega)]
      simp only [Int.toNat_natCast]
      rw [get_get false (by omega), chk_eq (by omega), e1]
      refine ⟨J', rfl, e2.mono fun x y _ _ => ?_⟩
      constructor
      · rintro ((h | ⟨h1, h2⟩) | ⟨h1, h2, h3⟩)
        · exact .inl h
        · exact .inr ⟨h1, by omega, by omega⟩
        · exact .inr ⟨h1, by omega, h3⟩
      · rintro (h | ⟨h1, h2, h3⟩)
        · exact .inl (.inl h)
        · by_cases e : y = k
          · exact .inl (.inr ⟨h1, e⟩)
          · exact .inr ⟨h1, by omega, h3⟩
    · rw [br_ndec (by omega)]
      refine ⟨J, rfl, hJ.mono fun x y _ _ => ⟨fun h => .inl h, ?_⟩⟩
      rintro (h | ⟨_, h2, h3⟩)
      · exact h
      · omega
theorem lone_l3_p (hN : 110 ≤ N) {t : Nat} {u g2 : Int} {d : Tx} (ht : t ≤ 12) : ∀ (n a : Nat) (J : List Bool) (P : Nat → Nat → Prop), t < n + a → a ≤ t → Jt J P →
    ∃ J', lone_l3 N n u t a d J g2 = some (u, d, J', g2) ∧ Jt J' (fun x y => P x y ∨ a ≤ x ∧ x < y ∧ y < t)
  | 0, a, J, P, h, hk, _ => by omega
  | n + 1, a, J, P, h, hk, hJ => by
    unfold lone_l3
    by_cases c : a < t
    · obtain ⟨J1, e1, hJ1⟩ := lone_l4_p (N := N) (u := u) (g2 := g2) (d := d) ht c N (a + 1) J P (by omega) (by omega) hJ
      obtain ⟨J2, e2, hJ2⟩ := lone_l3_p hN ht n (a + 1) J1 _ (by omega) (by omega) hJ1 (u := u) (g2 := g2) (d := d)
      rw [show ((a + 1 : Nat) : Int) = (a : Int) + 1 by omega] at e1 e2
      rw [br_dec (by omega), chk_eq (by omega), e1]
      simp only [Option.bind_some]
      rw [chk_eq (by omega), e2]
      refine ⟨J2, rfl, hJ2.mono fun x y _ _ => ?_⟩
      constructor
      · rintro ((h | ⟨h1, h2, h3⟩) | ⟨h1, h2, h3⟩)
        · exact .inl h
        · exact .inr ⟨by omega, by omega, h3⟩
        · exact .inr ⟨by omega, h2, h3⟩
      · rintro (h | ⟨h1, h2, h3⟩)
        · exact .inl (.inl h)
        · by_cases e : x = a
          · exact .inl (.inr ⟨e, by omega, h3⟩)
          · exact .inr ⟨by omega, h2, h3⟩
    · rw [br_ndec (by omega)]
      refine ⟨J, rfl, hJ.mono fun x y _ _ => ⟨fun h => .inl h, ?_⟩⟩
      rintro (h | ⟨h1, h2, h3⟩)
      · exact h
      · omega
theorem lone_l2_p (hN : 110 ≤ N) {f m : Nat} {u u2 u3 u4 : Int} {d u5 : Tx} (hm : m ≤ 12) : ∀ (es : List Nat) (J : List Bool) (P : Nat → Nat → Prop), (∀ q ∈ es, f < q ∧ q ≤ m) → Jt J P →
    ∃ J', lone_l2 N (es.map fun (j : Nat) => ((j : Int), ())) u u2 u3 u4 u5 d J f = some (u, u2, u3, d, J') ∧ Jt J' (fun x y => P x y ∨ ∃ t, t ∈ es ∧ f ≤ x ∧ x < y ∧ y < t)
  | [], J, P, _, hJ => ⟨J, rfl, hJ.mono fun x y _ _ => ⟨fun h => .inl h, fun h => h.elim id (fun ⟨t, h, _⟩ => by cases h)⟩⟩
  | t :: es, J, P, he, hJ => by
    obtain ⟨h1, h2⟩ := he t (by simp)
    obtain ⟨J1, e1, hJ1⟩ := lone_l3_p (N := N) hN (t := t) (u := u) (g2 := (f : Int)) (d := d) (by omega) N f J P (by omega) (by omega) hJ
    obtain ⟨J2, e2, hJ2⟩ := lone_l2_p hN (f := f) (u := u) (u2 := u2) (u3 := u3) (u4 := u4) (d := d) (u5 := u5) hm es J1 _ (fun q hq => he q (by simp [hq])) hJ1
    refine ⟨J2, ?_, hJ2.mono fun x y _ _ => ?_⟩
    · rw [List.map_cons, lone_l2]
      unfold lone_l2_b
      rw [e1]
      simp only [Option.bind_some]
      exact e2
    · constructor
      · rintro ((h | h) | ⟨q, hq, h⟩)
        · exact .inl h
        · exact .inr ⟨t, by simp, h⟩
        · exact .inr ⟨q, by simp [hq], h⟩
      · rintro (h | ⟨q, hq, h⟩)
        · exact .inl (.inl h)
        · rcases List.mem_cons.1 hq with rfl | hq
          · exact .inl (.inr h)
          · exact .inr ⟨q, hq, h⟩
variable (hN : 110 ≤ N) (hF : TFine ws ts br_)
include hN hF
theorem lone_l1_p {u : Int} : ∀ (n k : Nat) (J : List Bool) (P : Nat → Nat → Prop), ws.length < n + k → k ≤ ws.length → Jt J P →
    ∃ J', lone_l1 N n u ws.length k (ws, ts, br_) J = some ((ws, ts, br_), J') ∧ Jt J' (fun x y => P x y ∨ ∃ f t, k ≤ f ∧ f ≤ x ∧ x < y ∧ y < t ∧ t ≤ ws.length ∧ rightR ws ts br_ f t = true)
  | 0, k, J, P, h, hk, _ => by omega
  | n + 1, k, J, P, h, hk, hJ => by
    have hn := hF.n
    unfold lone_l1
    by_cases c : k < ws.length
    · obtain ⟨J1, e1, hJ1⟩ := lone_l2_p (N := N) hN (f := k) (m := ws.length) (u := u) (u2 := (ws.length : Int)) (u3 := (k : Int)) (u4 := (k : Int)) (d := (ws, ts, br_)) (u5 := (ws, ts, br_)) hn (endsL ws ts br_ k) J P (fun q hq => by
        obtain ⟨a1, a2, _⟩ := mem_toL.1 hq; omega) hJ
      obtain ⟨J2, e2, hJ2⟩ := lone_l1_p (u := u) n (k + 1) J1 _ (by omega) (by omega) hJ1
      rw [show ((k + 1 : Nat) : Int) = (k : Int) + 1 by omega] at e2
      rw [br_dec (by omega)]
      unfold breaths_S
      simp only [Option.bind_some]
      rw [breathsR_v hF (by omega)]
      simp only [Option.bind_some]
      rw [e1]
      simp only [Option.bind_some]
      rw [chk_eq (by omega), e2]
      refine ⟨J2, rfl, hJ2.mono fun x y _ _ => ?_⟩
      constructor
      · rintro ((h | ⟨t, h1, h2, h3, h4⟩) | ⟨f, t, h1, h2⟩)
        · exact .inl h
        · obtain ⟨a1, a2, a3⟩ := mem_toL.1 h1
          exact .inr ⟨k, t, by omega, h2, h3, h4, a2, a3⟩
        · exact .inr ⟨f, t, by omega, h2⟩
      · rintro (h | ⟨f, t, h1, h2, h3, h4, h5, h6⟩)
        · exact .inl (.inl h)
        · by_cases e : f = k
          · subst e
            exact .inl (.inr ⟨t, mem_toL.2 ⟨by omega, h5, h6⟩, h2, h3, h4⟩)
          · exact .inr ⟨f, t, by omega, h2, h3, h4, h5, h6⟩
    · rw [br_ndec (by omega)]
      refine ⟨J, rfl, hJ.mono fun x y _ _ => ⟨fun h => .inl h, ?_⟩⟩
      rintro (h | ⟨f, t, h1, h2, h3, h4, h5, _⟩)
      · exact h
      · omega
end
/-! ### Lists of words, no two of which are joined -/
def jb (J : List Bool) (o w : Int) : Bool := J.getD (o.toNat * 12 + w.toNat) false
theorem ixfi4_p {N : Nat} {J : List Bool} {w : Int} (hJ : J.length = 144) (hw : 0 ≤ w ∧ w < 12) {s : List Int} (hs : ∀ x ∈ s, 0 ≤ x ∧ x < 12) (hl : s.length ≤ 1000) : ∀ (n k : Nat), s.length < n + k → k ≤ s.length →
    ∃ r, ixfi4_l1 N n s (s.length : Int) k J w = some r ∧ match r with
      | .inl x => x.2 = (J, w) ∧ 0 ≤ x.1 ∧ (s.drop k).any (fun o => jb J o w) = true
      | .inr x => x = (J, w) ∧ (s.drop k).any (fun o => jb J o w) = false
  | 0, k, h, _ => by omega
  | n + 1, k, h, hk => by
    unfold ixfi4_l1
    by_cases c : k < s.length
    · have hx := hs _ (getD_mem c (d := 0))
      have hd := drop_cons c 0
      rw [br_dec (by omega), idx_eq (by omega) (gets c 0)]
      unfold every1i4_S lone11_S
      rw [rng_eq (by omega), rng_eq (by omega), get_get false (by omega)]
      simp only [Option.bind_some, Bool.not_not]
      cases hj : jb J (s.getD k 0) w
      · unfold jb at hj
        rw [hj, br_false, chk_eq (by omega)]
        obtain ⟨r, e, hr⟩ := ixfi4_p hJ hw hs hl n (k + 1) (by omega) (by omega)
        rw [show ((k + 1 : Nat) : Int) = (k : Int) + 1 by omega] at e
        have hjb : jb J (s.getD k 0) w = false := hj
        refine ⟨r, e, ?_⟩
        rw [hd, List.any_cons, hjb, Bool.false_or]
        exact hr
      · have hjb : jb J (s.getD k 0) w = true := hj
        unfold jb at hj
        rw [hj, br_true]
        exact ⟨_, rfl, rfl, by dsimp only; omega, by rw [hd, List.any_cons, hjb, Bool.true_or]⟩
    · rw [br_ndec (by omega), List.drop_of_length_le (by omega)]
      exact ⟨_, rfl, rfl, rfl⟩
theorem everyi4_v {N : Nat} (hN : 110 ≤ N) {J : List Bool} {w : Int} (hJ : J.length = 144) (hw : 0 ≤ w ∧ w < 12) {s : List Int} (hs : ∀ x ∈ s, 0 ≤ x ∧ x < 12) (hl : s.length ≤ 100) : everyi4_S N s J w = some (s.all fun o => !jb J o w) := by
  obtain ⟨r, e, hr⟩ := ixfi4_p (N := N) hJ hw hs (by omega) N 0 (by omega) (by omega)
  simp only [Int.natCast_zero] at e
  unfold everyi4_S cofi4_S ixfi4_S
  rw [e]
  rw [← any_not, ]
  simp only [Bool.not_not]
  cases r with
  | inl x =>
    obtain ⟨x1, x2, x3⟩ := x
    obtain ⟨h1, h2, h3⟩ := hr
    simp only [Prod.mk.injEq] at h1
    dsimp only at h2
    simp only [List.drop_zero] at h3
    simp [h2, h3]
  | inr x =>
    obtain ⟨rfl, h3⟩ := hr
    simp only [List.drop_zero] at h3
    simp [h3]
/-- What the search comes to: of lists that go on from one, a longer one, the first of the longest ones. -/
def LnF (m : Int) (V : List Int → Prop) (e0 : Bool) (l : List Int) (lo : Int) (g g' : List Int) : Prop :=
  (g' = g ∨ g.length < g'.length ∧ ∃ c, okC m lo c ∧ (e0 = true → c ≠ []) ∧ g' = l ++ c ∧ V g') ∧ g.length ≤ g'.length ∧
  ∀ c, okC m lo c → (e0 = true → c ≠ []) → V (l ++ c) → (l ++ c).length ≤ g'.length ∧ (g.length < (l ++ c).length → (l ++ c).length = g'.length → bef (l ++ c) g' = false)
theorem bef_app (l : List Int) (a b : List Int) : bef (l ++ a) (l ++ b) = bef a b := by
  induction l with
  | nil => rfl
  | cons x l ih =>
    show (if x = x then bef (l ++ a) (l ++ b) else decide (x < x)) = _
    rw [if_pos rfl, ih]
theorem LnF.none {m : Int} {V : List Int → Prop} {l : List Int} {w : Int} {g : List Int} (h : m ≤ w) : LnF m V true l w g g := by
  refine ⟨.inl rfl, Nat.le_refl _, fun c hc hn => ?_⟩
  have := okC_len hc (hn rfl)
  have : c.length = 0 := by omega
  exact absurd (List.eq_nil_of_length_eq_zero this) (hn rfl)
theorem LnF.skip {m : Int} {V : List Int → Prop} {l : List Int} {w : Int} {g g' : List Int} (hV : ∀ r, ¬ V (l ++ w :: r)) (h : LnF m V true l (w + 1) g g') : LnF m V true l w g g' := by
  obtain ⟨h1, h2, h3⟩ := h
  refine ⟨?_, h2, fun c hc hn hv => ?_⟩
  · rcases h1 with h1 | ⟨h1, c, c1, c2⟩
    · exact .inl h1
    · exact .inr ⟨h1, c, okC_mono (by omega) c1, c2⟩
  · cases c with
    | nil => exact absurd rfl (hn rfl)
    | cons a r =>
      obtain ⟨⟨a1, a2⟩, a3⟩ := hc
      by_cases e : a = w
      · subst e; exact absurd hv (hV r)
      · exact h3 (a :: r) ⟨⟨by omega, a2⟩, a3⟩ hn hv
theorem LnF.step {m : Int} {V : List Int → Prop} {l : List Int} {w : Int} {g g1 g' : List Int} (hw : w < m) (h : LnF m V false (l ++ [w]) (w + 1) g g1) (h' : LnF m V true l (w + 1) g1 g') : LnF m V true l w g g' := by
  obtain ⟨h1, h2, h3⟩ := h
  obtain ⟨k1, k2, k3⟩ := h'
  have e1 : ∀ r, l ++ [w] ++ r = l ++ w :: r := fun r => by simp
  refine ⟨?_, by omega, fun c hc hn hv => ?_⟩
  · rcases k1 with rfl | ⟨k1, c, c1, c2⟩
    · rcases h1 with rfl | ⟨h1, c, c1, _, c3⟩
      · exact .inl rfl
      · exact .inr ⟨h1, w :: c, ⟨⟨by omega, hw⟩, c1⟩, fun _ => by simp, by rw [← e1]; exact c3.1, c3.2⟩
    · exact .inr ⟨by omega, c, okC_mono (by omega) c1, c2⟩
  · cases c with
    | nil => exact absurd rfl (hn rfl)
    | cons a r =>
      obtain ⟨⟨a1, a2⟩, a3⟩ := hc
      by_cases e : a = w
      · subst e
        have := h3 r a3 (fun h => by cases h) (by rw [e1]; exact hv)
        rw [e1] at this
        refine ⟨by omega, fun q1 q2 => ?_⟩
        have hgl : g1.length = g'.length := by omega
        rcases k1 with rfl | ⟨k1, _⟩
        · exact this.2 q1 (by omega)
        · omega
      · have := k3 (a :: r) ⟨⟨by omega, a2⟩, a3⟩ (fun _ => by simp) hv
        refine ⟨this.1, fun q1 q2 => ?_⟩
        by_cases d : g1.length < (l ++ a :: r).length
        · exact this.2 d q2
        · rcases k1 with rfl | ⟨k1, _⟩
          · rcases h1 with rfl | ⟨_, c, _, _, c3, _⟩
            · omega
            · rw [c3, e1, bef_app]
              unfold bef
              rw [if_neg e, decide_eq_false (by omega)]
          · omega
theorem LnF.begin {m : Int} {V : List Int → Prop} {l : List Int} {lo : Int} {g g1 g' : List Int} (hV : V l) (hg : g1 = if g.length < l.length then l else g) (h : LnF m V true l lo g1 g') : LnF m V false l lo g g' := by
  obtain ⟨k1, k2, k3⟩ := h
  have hle : g.length ≤ g1.length := by rw [hg]; split <;> omega
  have hl : l.length ≤ g1.length := by rw [hg]; split <;> omega
  refine ⟨?_, by omega, fun c hc _ hv => ?_⟩
  · rcases k1 with rfl | ⟨k1, c, c1, c2, c3⟩
    · split at hg
      · rename_i d
        subst hg
        exact .inr ⟨d, [], trivial, (fun h => by cases h), by simp, hV⟩
      · exact .inl hg
    · exact .inr ⟨by omega, c, c1, (fun h => by cases h), c3⟩
  · by_cases e : c = []
    · subst e
      simp only [List.append_nil]
      refine ⟨by omega, fun q1 q2 => ?_⟩
      rw [if_pos q1] at hg
      subst hg
      rcases k1 with rfl | ⟨k1, _⟩
      · exact bef_self _
      · omega
    · have := k3 c hc (fun _ => e) hv
      refine ⟨this.1, fun q1 q2 => ?_⟩
      have hcl : 0 < c.length := List.length_pos_iff.2 e
      have hlc : (l ++ c).length = l.length + c.length := by simp
      refine this.2 ?_ q2
      rw [hg]; split <;> omega
/-- No two words of a list are joined. -/
def VL (J : List Bool) (l : List Int) : Prop := l.Pairwise fun a b => jb J a b = false
theorem VL_snoc {J : List Bool} {l : List Int} {w : Int} : VL J (l ++ [w]) ↔ VL J l ∧ (l.all fun o => !jb J o w) = true := by
  unfold VL
  rw [List.pairwise_append]
  simp [List.all_eq_true]
theorem VL_pre {J : List Bool} {l c : List Int} (h : VL J (l ++ c)) : VL J l := (List.pairwise_append.1 h).1
section
variable {N : Nat} {ws : List Wd} {ts : List Tn} {br_ : Int}
variable (hN : 110 ≤ N) (hF : TFine ws ts br_)
include hN hF
theorem lmore_l1_p {J : List Bool} (hJ : J.length = 144) {self : List Int → Int → Tx → List Bool → List Int → Tx → List Bool → Option (List Int × Tx × List Bool)} {l : List Int} (hl : l ≠ [])
    (hb : ∀ x ∈ l, 0 ≤ x ∧ x < ws.length) (hll : l.length ≤ ws.length) {lo : Int}
    (hrec : ∀ (w : Int) (g : List Int), lo ≤ w → w < ws.length → VL J (l ++ [w]) → g.length ≤ 100 → ∃ g', self (l ++ [w]) (w + 1) (ws, ts, br_) J g (ws, ts, br_) J = some (g', (ws, ts, br_), J) ∧ g'.length ≤ 100 ∧ LnF ws.length (VL J) false (l ++ [w]) (w + 1) g g') (hV : VL J l) :
    ∀ (n : Nat) (w : Int) (g : List Int), (ws.length + 1 - w).toNat < n → lo ≤ w → 0 ≤ w → w ≤ ws.length → g.length ≤ 100 → ∃ g', lmore_l1 N self n l (ws, ts, br_) J g (ws, ts, br_) J w = some (g', (ws, ts, br_), J) ∧ g'.length ≤ 100 ∧ LnF ws.length (VL J) true l w g g'
  | 0, w, g, h, _, _, _, _ => by omega
  | n + 1, w, g, h, hlo, h0, h1, hg => by
    have hn := hF.n
    unfold lmore_l1 end__S
    simp only [Option.bind_some]
    by_cases c : w < ws.length
    · have hj : ∀ g1 : List Int, g1.length ≤ 100 → ∃ g', lmore_j2 N self (lmore_l1 N self n) l (ws, ts, br_) J g1 (ws, ts, br_) J w = some (g', (ws, ts, br_), J) ∧ g'.length ≤ 100 ∧ LnF ws.length (VL J) true l (w + 1) g1 g' := by
        intro g1 hg1
        unfold lmore_j2
        rw [chk_eq (by omega)]
        exact lmore_l1_p hJ hl hb hll hrec hV n (w + 1) g1 (by omega) (by omega) (by omega) (by omega) hg1
      rw [br_dec c, everyi4_v hN hJ (by omega) (fun x hx => by have := hb x hx; omega) (by omega)]
      simp only [Option.bind_some]
      cases ha : l.all fun o => !jb J o w
      · rw [br_false]
        obtain ⟨g', e, e0, h2⟩ := hj g hg
        refine ⟨g', e, e0, h2.skip fun r hr => ?_⟩
        have := (VL_snoc.1 (VL_pre (l := l ++ [w]) (c := r) (by simpa using hr))).2
        rw [ha] at this; cases this
      · rw [br_true, cloneo_v hl (by omega)]
        simp only [Option.bind_some]
        rw [lim_eq (by simp; omega), chk_eq (by omega)]
        obtain ⟨g1, e1, hg1, h1⟩ := hrec w g hlo c (VL_snoc.2 ⟨hV, ha⟩) hg
        rw [e1]
        simp only [Option.bind_some]
        obtain ⟨g', e, e0, h2⟩ := hj g1 hg1
        exact ⟨g', e, e0, h1.step c h2⟩
    · rw [br_ndec c]
      exact ⟨g, rfl, hg, LnF.none (by omega)⟩
theorem lmore_v {J : List Bool} (hJ : J.length = 144) : ∀ (n : Nat) (l : List Int) (lo : Int) (g : List Int), (ws.length + 1 - lo).toNat < n → l ≠ [] → (∀ x ∈ l, 0 ≤ x ∧ x < ws.length) → (l.length : Int) ≤ lo → 0 ≤ lo → lo ≤ ws.length → VL J l → g.length ≤ 100 →
    ∃ g', lmore_R N n l lo (ws, ts, br_) J g (ws, ts, br_) J = some (g', (ws, ts, br_), J) ∧ g'.length ≤ 100 ∧ LnF ws.length (VL J) false l lo g g'
  | 0, l, lo, g, h, _, _, _, _, _, _, _ => by omega
  | n + 1, l, lo, g, h, hl, hb, hll, h0, h1, hV, hg => by
    have hn := hF.n
    unfold lmore_R lmore_S
    have hj : ∀ g1 : List Int, g1.length ≤ 100 → ∃ g', lmore_j1 N (lmore_R N n) l lo (ws, ts, br_) J g1 (ws, ts, br_) J = some (g', (ws, ts, br_), J) ∧ g'.length ≤ 100 ∧ LnF ws.length (VL J) true l lo g1 g' := by
      intro g1 hg1
      obtain ⟨g', e, e0, h2⟩ := lmore_l1_p hN hF hJ (self := lmore_R N n) (l := l) hl hb (by omega) (lo := lo) (fun w g2 a1 a2 a3 a4 => lmore_v hJ n (l ++ [w]) (w + 1) g2 (by omega) (by simp) (fun x hx => by
        rcases List.mem_append.1 hx with hx | hx
        · exact hb x hx
        · rw [List.mem_singleton] at hx; omega) (by simp; omega) (by omega) (by omega) a3 a4) hV N lo g1 (by omega) (by omega) h0 h1 hg1
      unfold lmore_j1
      rw [e]
      exact ⟨g', rfl, e0, h2⟩
    by_cases c : (g.length : Int) < (l.length : Int)
    · rw [br_dec c, cloneo_v hl (by omega)]
      simp only [Option.bind_some]
      obtain ⟨g', e, e0, h2⟩ := hj l (by omega)
      exact ⟨g', e, e0, h2.begin hV (by rw [if_pos (by omega)])⟩
    · rw [br_ndec c]
      obtain ⟨g', e, e0, h2⟩ := hj g hg
      exact ⟨g', e, e0, h2.begin hV (by rw [if_neg (by omega)])⟩
theorem lmore0_l1_p {J : List Bool} (hJ : J.length = 144) :
    ∀ (n : Nat) (w : Int) (g : List Int), (ws.length + 1 - w).toNat < n → 0 ≤ w → w ≤ ws.length → g.length ≤ 100 → ∃ g', lmore0_l1 N n (ws, ts, br_) J g (ws, ts, br_) J w = some (g', (ws, ts, br_), J) ∧ g'.length ≤ 100 ∧ LnF ws.length (VL J) true [] w g g'
  | 0, w, g, h, _, _, _ => by omega
  | n + 1, w, g, h, h0, h1, hg => by
    have hn := hF.n
    unfold lmore0_l1 end__S
    simp only [Option.bind_some]
    by_cases c : w < ws.length
    · have hj : ∀ g1 : List Int, g1.length ≤ 100 → ∃ g', lmore0_j2 N (lmore0_l1 N n) (ws, ts, br_) J g1 (ws, ts, br_) J w = some (g', (ws, ts, br_), J) ∧ g'.length ≤ 100 ∧ LnF ws.length (VL J) true [] (w + 1) g1 g' := by
        intro g1 hg1
        unfold lmore0_j2
        rw [chk_eq (by omega)]
        exact lmore0_l1_p hJ n (w + 1) g1 (by omega) (by omega) (by omega) hg1
      rw [br_dec c, everyi4_v hN hJ (by omega) (fun x hx => by cases hx) (by simp)]
      simp only [Option.bind_some, List.all_nil]
      rw [br_true]
      unfold clonen_S
      simp only [Option.bind_some]
      rw [chk_eq (by omega)]
      obtain ⟨g1, e1, hg1, h1⟩ := lmore_v hN hF hJ N [w] (w + 1) g (by omega) (by simp) (fun x hx => by rw [List.mem_singleton] at hx; omega) (by simp; omega) (by omega) (by omega) (List.pairwise_singleton _ _) hg
      rw [e1]
      simp only [Option.bind_some]
      obtain ⟨g', e, e0, h2⟩ := hj g1 hg1
      exact ⟨g', e, e0, LnF.step (l := []) c h1 h2⟩
    · rw [br_ndec c]
      exact ⟨g, rfl, hg, LnF.none (by omega)⟩
/-- As many words as can be, no two of which are joined: of such lists the first one. -/
def LoneW (m : Nat) (R : Nat → Nat → Bool) (l : List Int) : Prop :=
  okC m 0 l ∧ l.Pairwise (fun a b => ¬ Jn R m a.toNat b.toNat) ∧ ∀ c, okC m 0 c → c.Pairwise (fun a b => ¬ Jn R m a.toNat b.toNat) → c.length ≤ l.length ∧ (c.length = l.length → bef c l = false)
omit hN in
theorem VL_iff {J : List Bool} (hJ : Jt J (Jn (rightR ws ts br_) ws.length)) {l : List Int} (hl : okC ws.length 0 l) : VL J l ↔ l.Pairwise (fun a b => ¬ Jn (rightR ws ts br_) ws.length a.toNat b.toNat) := by
  have hn := hF.n
  have hm := okC_mem hl
  have key : ∀ a ∈ l, ∀ b ∈ l, (jb J a b = false ↔ ¬ Jn (rightR ws ts br_) ws.length a.toNat b.toNat) := by
    intro a ha b hb
    have h1 := hm a ha
    have h2 := hm b hb
    have := hJ.2 a.toNat b.toNat (by omega) (by omega)
    unfold jb
    rw [← this]
    simp
  unfold VL
  constructor
  · intro h
    exact h.imp_of_mem (fun ha hb hp => (key _ ha _ hb).1 hp)
  · intro h
    exact h.imp_of_mem (fun ha hb hp => (key _ ha _ hb).2 hp)
theorem lone_in : ∃ l, lone_S N ws ts br_ = some (l, 0) ∧ LoneW ws.length (rightR ws ts br_) l := by
  have hn := hF.n; have ht := hF.t
  have hc := checkT_of hF
  unfold lone_S
  rw [opened_v (by omega) (by omega) (by omega), if_pos hc]
  simp only [Option.bind_some]
  rw [br_nd (by first | trivial | rfl)]
  unfold end__S
  simp only [Option.bind_some]
  obtain ⟨J, e1, hJ⟩ := lone_l1_p hN hF (u := 0) N 0 (List.replicate 144 false) (fun _ _ => False) (by omega) (by omega) ⟨by simp, fun a b ha hb => by
    simp only [List.getD, List.getElem?_replicate]
    split <;> simp⟩
  simp only [Int.natCast_zero] at e1
  rw [e1]
  simp only [Option.bind_some]
  have hJ' : Jt J (Jn (rightR ws ts br_) ws.length) := hJ.mono fun x y _ _ => by
    unfold Jn
    constructor
    · rintro (h | ⟨f, t, _, h⟩)
      · exact h.elim
      · exact ⟨f, t, h⟩
    · rintro ⟨f, t, h⟩
      exact .inr ⟨f, t, by omega, h⟩
  unfold lmore0_S
  rw [br_ndec (by simp)]
  unfold lmore0_j1
  obtain ⟨g, e2, hg, h2⟩ := lmore0_l1_p hN hF hJ.1 N 0 [] (by omega) (by omega) (by omega) (by simp)
  rw [e2]
  simp only [Option.bind_some]
  refine ⟨g, rfl, ?_⟩
  have h3 : LnF ws.length (VL J) false [] 0 [] g := h2.begin .nil (by simp)
  obtain ⟨k1, _, k3⟩ := h3
  have hok : okC ws.length 0 g ∧ VL J g := by
    rcases k1 with rfl | ⟨_, c, c1, _, c3, c4⟩
    · exact ⟨trivial, .nil⟩
    · rw [List.nil_append] at c3
      subst c3
      exact ⟨c1, c4⟩
  refine ⟨hok.1, (VL_iff hF hJ' hok.1).1 hok.2, fun c hc hp => ?_⟩
  have := k3 c hc (fun h => by cases h) (by rw [List.nil_append]; exact (VL_iff hF hJ' hc).2 hp)
  rw [List.nil_append] at this
  refine ⟨this.1, fun e => ?_⟩
  by_cases d : 0 < c.length
  · exact this.2 (by simpa using d) e
  · have : c = [] := List.eq_nil_of_length_eq_zero (by omega)
    subst this; rfl
end
end Go.Proofs.Ytfamlpbdhhikdaa

namespace Go.Proofs.Ytfamlpbdhhikdaa
set_option linter.all false
open Go

/-! ### The reference's lone words -/
section
variable {N : Nat} {ws : List Wd} {ts : List Tn} {br_ : Int}
variable (hN : 110 ≤ N) (hF : TFine ws ts br_)
include hN hF
omit hN hF
/-- Longer, or as long and ahead. -/
def betr (a b : List Int) : Prop := b.length < a.length ∨ a.length = b.length ∧ bef a b = true
theorem betr_trans {a b c : List Int} : betr a b → betr b c → betr a c := by
  rintro (h | ⟨h, h2⟩) (g | ⟨g, g2⟩)
  · exact .inl (by omega)
  · exact .inl (by omega)
  · exact .inl (by omega)
  · exact .inr ⟨by omega, bef_trans h2 g2⟩
theorem betr_self (l : List Int) : ¬ betr l l := by
  rintro (h | ⟨_, h⟩)
  · omega
  · rw [bef_self] at h; cases h
def BestL (m : Nat) (R : Nat → Nat → Bool) (k : Nat) (best : List Int) : Prop :=
  (okC m 0 best ∧ best.Pairwise (fun a b => ¬ Jn R m a.toNat b.toNat)) ∧ ∀ i, i < k → (lst m 0 i).Pairwise (fun a b => ¬ Jn R m a.toNat b.toNat) → ¬ betr (lst m 0 i) best
theorem BestL.skip {m : Nat} {R : Nat → Nat → Bool} {k : Nat} {best : List Int} (h : BestL m R k best) (hp : (lst m 0 k).Pairwise (fun a b => ¬ Jn R m a.toNat b.toNat) → ¬ betr (lst m 0 k) best) : BestL m R (k + 1) best :=
  ⟨h.1, fun i a b => by
    by_cases e : i = k
    · rw [e] at b ⊢; exact hp b
    · exact h.2 i (by omega) b⟩
theorem BestL.take {m : Nat} {R : Nat → Nat → Bool} {k : Nat} {best : List Int} (h : BestL m R k best) (hp : (lst m 0 k).Pairwise (fun a b => ¬ Jn R m a.toNat b.toNat)) (hb : betr (lst m 0 k) best) : BestL m R (k + 1) (lst m 0 k) := by
  have ho := lst_ok m 0 k
  rw [Int.zero_add] at ho
  refine ⟨⟨ho, hp⟩, fun i a b c => ?_⟩
  by_cases e : i = k
  · rw [e] at c; exact betr_self _ c
  · exact h.2 i (by omega) b (betr_trans c hb)
theorem BestL.done {m : Nat} {R : Nat → Nat → Bool} {best : List Int} (h : BestL m R (2 ^ m) best) : LoneW m R best := by
  refine ⟨h.1.1, h.1.2, fun c hc hp => ?_⟩
  obtain ⟨n, h1, rfl⟩ := lst_all m 0 c (by rw [Int.zero_add]; exact hc)
  have := h.2 n h1 hp
  unfold betr at this
  refine ⟨?_, fun e => ?_⟩
  · rcases Nat.lt_or_ge best.length (lst m 0 n).length with d | d
    · exact absurd (.inl d) this
    · exact d
  · cases hb : bef (lst m 0 n) best
    · rfl
    · exact absurd (.inr ⟨e, hb⟩) this
include hN hF
/-! ### The reference's marks -/
end
end Go.Proofs.Ytfamlpbdhhikdaa

namespace Go.Proofs.Ytfamlpbdhhikdaa
set_option linter.all false
open Go

/-! ### As many words as breaths -/
section
variable {R : Nat → Nat → Bool} {m : Nat}
/-- No more words than breaths. -/
theorem lone_le : ∀ {l : List Int} {p : Nat} {W : List Int}, goodB R m p l = true → okC m p W → W.Pairwise (fun a b => ¬ Jn R m a.toNat b.toNat) → W.length ≤ l.length
  | [], p, W, h, hW, _ => by
    have := good_nil.1 h
    cases W with
    | nil => simp
    | cons a r => have := hW.1; omega
  | x :: l, p, W, h, hW, hP => by
    obtain ⟨⟨b1, b2⟩, b3, b4⟩ := good_cons.1 h
    cases W with
    | nil => simp
    | cons a r =>
      obtain ⟨⟨a1, a2⟩, a3⟩ := hW
      by_cases c : a < ((p + x.toNat : Nat) : Int)
      · have hr : okC m ((p + x.toNat : Nat) : Int) r := by
          cases r with
          | nil => trivial
          | cons b r =>
            obtain ⟨⟨c1, c2⟩, c3⟩ := a3
            refine ⟨⟨?_, c2⟩, c3⟩
            have hj := (List.pairwise_cons.1 hP).1 b (by simp)
            rcases Int.lt_or_le b ((p + x.toNat : Nat) : Int) with d | d
            · exact absurd ⟨p, p + x.toNat, by omega, by omega, by omega, b2, b3⟩ hj
            · exact d
        have := lone_le b4 hr (List.pairwise_cons.1 hP).2
        simp only [List.length_cons]; omega
      · have := lone_le b4 (W := a :: r) ⟨⟨by omega, a2⟩, a3⟩ hP
        simp only [List.length_cons] at this ⊢; omega
theorem exMax {p : Nat} : ∀ (d q : Nat), m - q ≤ d → p < q → q ≤ m → R p q = true → ∃ q, p < q ∧ q ≤ m ∧ R p q = true ∧ ∀ t, q < t → t ≤ m → R p t = false
  | 0, q, h, h1, h2, h3 => ⟨q, h1, h2, h3, fun t a b => by omega⟩
  | d + 1, q, h, h1, h2, h3 => by
    by_cases c : ∃ t, q < t ∧ t ≤ m ∧ R p t = true
    · obtain ⟨t, c1, c2, c3⟩ := c
      exact exMax d t (by omega) (by omega) c2 c3
    · refine ⟨q, h1, h2, h3, fun t a b => ?_⟩
      cases hR : R p t
      · rfl
      · exact absurd ⟨t, a, b, hR⟩ c
theorem good_sub {S : Nat → Bool} (hb : ∀ f p t, f ≤ p → p < t → t ≤ m → R f t = true → S p = true → R p t = true) : ∀ {l : List Int} {p q : Nat}, goodB R m p l = true → p ≤ q → q ≤ m → S q = true → ∃ l', goodB R m q l' = true
  | [], p, q, h, h1, h2, _ => by
    have := good_nil.1 h
    exact ⟨[], good_nil.2 (by omega)⟩
  | x :: l, p, q, h, h1, h2, hS => by
    obtain ⟨⟨b1, b2⟩, b3, b4⟩ := good_cons.1 h
    by_cases c : q < p + x.toNat
    · exact ⟨_, good_step c b2 (hb p q _ h1 c b2 b3 hS) b4⟩
    · exact good_sub hb b4 (by omega) h2 hS
/-- As many words as the breaths of some reading. -/
theorem greedy {S : Nat → Bool} (ha : ∀ f t, f < t → t ≤ m → R f t = true → S t = true) (hb : ∀ f p t, f ≤ p → p < t → t ≤ m → R f t = true → S p = true → R p t = true) :
    ∀ (d p : Nat), m - p ≤ d → p ≤ m → S p = true → (∃ l, goodB R m p l = true) → ∃ l W, goodB R m p l = true ∧ okC m p W ∧ W.length = l.length ∧ W.Pairwise (fun a b => ¬ Jn R m a.toNat b.toNat)
  | 0, p, h, h1, _, _ => by
    obtain rfl : p = m := by omega
    exact ⟨[], [], good_nil.2 rfl, trivial, rfl, .nil⟩
  | d + 1, p, h, h1, hS, ⟨l, hl⟩ => by
    by_cases e : p = m
    · subst e
      exact ⟨[], [], good_nil.2 rfl, trivial, rfl, .nil⟩
    have hq : ∃ q, p < q ∧ q ≤ m ∧ R p q = true := by
      cases l with
      | nil => exact absurd (good_nil.1 hl) e
      | cons x l =>
        obtain ⟨⟨b1, b2⟩, b3, _⟩ := good_cons.1 hl
        exact ⟨_, by omega, b2, b3⟩
    obtain ⟨q0, q1, q2, q3⟩ := hq
    obtain ⟨q, r1, r2, r3, r4⟩ := exMax (m - q0) q0 (Nat.le_refl _) q1 q2 q3
    have hSq := ha p q r1 r2 r3
    obtain ⟨l', W, g1, g2, g3, g4⟩ := greedy ha hb d q (by omega) r2 hSq (good_sub hb hl (by omega) r2 hSq)
    refine ⟨_, (p : Int) :: W, good_step r1 r2 r3 g1, ⟨by omega, okC_mono (by omega) g2⟩, by simp [g3], .cons (fun w hw => ?_) g4⟩
    rintro ⟨f, t, j1, j2, j3, j4, j5⟩
    have hw' := okC_mem g2 w hw
    have h6 := hb f p t (by omega) (by omega) j4 j5 hS
    rw [r4 t (by omega) j4] at h6
    cases h6
end
theorem sylR_le {ws : List Wd} (h : okW ws = true) {a b c : Nat} (hab : a ≤ b) : sylR ws b c ≤ sylR ws a c := by
  have hm := take_drop_mem (okW_iff.1 h).2 a c
  unfold sylR
  have e : (ws.take c).drop b = ((ws.take c).drop a).drop (b - a) := by rw [List.drop_drop]; congr 1; omega
  rw [e]
  generalize (ws.take c).drop a = L at hm
  generalize b - a = k
  have : (L.map (·.1)).sum = ((L.take k).map (·.1)).sum + ((L.drop k).map (·.1)).sum := by
    rw [← List.sum_append, ← List.map_append, List.take_append_drop]
  have := sum_bound (l := L.take k) (fun w hw => hm w (List.mem_of_mem_take hw))
  omega
theorem plain_right {ws : List Wd} {br_ : Int} {a b : Nat} : rightR ws [] br_ a b = true ↔ sylR ws a b ≤ br_ ∧ stopR ws a = true ∧ stopR ws b = true := by
  unfold rightR faultR
  by_cases c : br_ < sylR ws a b
  · rw [if_pos c]; simp; omega
  · rw [if_neg c]
    cases stopR ws a <;> cases stopR ws b <;> simp [turnL, turnK] <;> omega
section
variable {N : Nat} {ws : List Wd} {ts : List Tn} {br_ : Int}
theorem tlone_l2_p {L : List Int} {u u2 : Int} {g : List Tx} (hL : okC ws.length 0 L) (hn : ws.length ≤ 12) (hl : L.length ≤ 12) : ∀ (n k : Nat), L.length < n + k → k ≤ L.length →
    tlone_l2 N n L u u2 L L.length k ws ts br_ g = some (.inr (L, u, u2, ws, ts, br_, g))
  | 0, k, h, _ => by omega
  | n + 1, k, h, hk => by
    unfold tlone_l2
    by_cases c : k < L.length
    · have hm := okC_mem hL _ (getD_mem (d := 0) c)
      have ih := tlone_l2_p (u := u) (u2 := u2) (g := g) hL hn hl n (k + 1) (by omega) (by omega)
      rw [show ((k + 1 : Nat) : Int) = (k : Int) + 1 by omega] at ih
      rw [br_dec (by omega), idx_eq (by omega) (gets c 0), br_ndec (by omega), br_ndec (by omega)]
      by_cases d : 0 < k
      · have ha := asc_step (okC_asc hL) (k - 1) (by omega)
        rw [show k - 1 + 1 = k by omega] at ha
        rw [br_dec (by omega), chk_eq (by omega), show (k : Int) - 1 = ((k - 1 : Nat) : Int) by omega, idx_eq (by omega) (gets (l := L) (k := k - 1) (by omega) 0), br_ndec (by omega), chk_eq (by omega), ih]
      · rw [br_ndec (by omega), chk_eq (by omega), ih]
    · rw [br_ndec (by omega)]
variable (hN : 110 ≤ N) (hF : TFine ws ts br_)
include hN hF
theorem tlone_l5_p {L : List Int} {i u u2 u3 u4 u5 : Int} {f : Nat} {g : List Tx} {b : Nat} (hf : f < b) (hR : ∀ t, b ≤ t → t ≤ ws.length → rightR ws ts br_ f t = false) : ∀ (n k : Nat), ws.length + 1 < n + k → b ≤ k → k ≤ ws.length + 1 →
    tlone_l5 N n L i f k u u2 u3 u4 u5 f ws ts br_ g = some (.inr (L, i, u, u2, u3, u4, u5, (f : Int), ws, ts, br_, g))
  | 0, k, h, _, _ => by omega
  | n + 1, k, h, hb, hk => by
    have hn := hF.n
    unfold tlone_l5
    by_cases c : k ≤ ws.length
    · have ih := tlone_l5_p (L := L) (i := i) (u := u) (u2 := u2) (u3 := u3) (u4 := u4) (u5 := u5) (g := g) hf hR n (k + 1) (by omega) (by omega) (by omega)
      rw [show ((k + 1 : Nat) : Int) = (k : Int) + 1 by omega] at ih
      rw [br_dec (by omega), fits_v hN hF (by omega) c]
      simp only [Option.bind_some]
      rw [hR k hb c, br_false, chk_eq (by omega), ih]
    · rw [br_ndec (by omega)]
theorem tlone_l4_p {L : List Int} {u u2 u3 : Int} {g : List Tx} (hL : okC ws.length 0 L) (hl : L.length ≤ 12) {i : Nat} (hi : i + 1 < L.length) (hj : ¬ Jn (rightR ws ts br_) ws.length (L.getD i 0).toNat (L.getD (i + 1) 0).toNat) {a : Nat} (ha : L.getD i 0 = a) : ∀ (n k : Nat), a + 1 < n + k → k ≤ a + 1 →
    tlone_l4 N n L i u u2 u3 i ((a : Int) + 1) k ws ts br_ g = some (.inr (L, u, u2, u3, (i : Int), ws, ts, br_, g))
  | 0, k, h, _ => by omega
  | n + 1, k, h, hk => by
    have hn := hF.n
    unfold tlone_l4
    by_cases c : k < a + 1
    · have hm := okC_mem hL _ (getD_mem (d := 0) hi)
      have hs := asc_step (okC_asc hL) i hi
      have hm0 := okC_mem hL _ (getD_mem (d := 0) (i := i) (by omega))
      obtain ⟨b, hb⟩ : ∃ b : Nat, L.getD (i + 1) 0 = b := ⟨(L.getD (i + 1) 0).toNat, by omega⟩
      have ih := tlone_l4_p (u := u) (u2 := u2) (u3 := u3) (g := g) hL hl hi hj ha n (k + 1) (by omega) (by omega)
      rw [show ((k + 1 : Nat) : Int) = (k : Int) + 1 by omega] at ih
      have e5 := tlone_l5_p hN hF (L := L) (i := (i : Int)) (u := u) (u2 := u2) (u3 := u3) (u4 := (i : Int)) (u5 := (a : Int) + 1) (f := k) (g := g) (b := b + 1) (by omega) (fun t t1 t2 => by
        cases hr : rightR ws ts br_ k t
        · rfl
        · exact absurd ⟨k, t, by omega, by omega, by omega, t2, hr⟩ hj) N (b + 1) (by omega) (by omega) (by omega)
      rw [show ((b + 1 : Nat) : Int) = (b : Int) + 1 by omega] at e5
      rw [br_dec (by omega), chk_eq (by omega), show (i : Int) + 1 = ((i + 1 : Nat) : Int) by omega, idx_eq (by omega) (gets hi 0), hb, chk_eq (by omega), e5]
      simp only [Option.bind_some]
      rw [chk_eq (by omega), ih]
    · rw [br_ndec (by omega)]
theorem tlone_l3_p {L : List Int} {u u2 : Int} {g : List Tx} (hL : okC ws.length 0 L) (hl : L.length ≤ 12) (hP : L.Pairwise (fun a b => ¬ Jn (rightR ws ts br_) ws.length a.toNat b.toNat)) : ∀ (n k : Nat), L.length < n + k → k ≤ L.length - 1 →
    tlone_l3 N n L u u2 ((L.length - 1 : Nat) : Int) k ws ts br_ g = some (.inr (u, u2, g))
  | 0, k, h, _ => by omega
  | n + 1, k, h, hk => by
    have hn := hF.n
    unfold tlone_l3
    by_cases c : k < L.length - 1
    · have hm := okC_mem hL _ (getD_mem (d := 0) (i := k) (by omega))
      obtain ⟨a, ha⟩ : ∃ a : Nat, L.getD k 0 = a := ⟨(L.getD k 0).toNat, by omega⟩
      have hj : ¬ Jn (rightR ws ts br_) ws.length (L.getD k 0).toNat (L.getD (k + 1) 0).toNat := by
        have := List.pairwise_iff_getElem.1 hP k (k + 1) (by omega) (by omega) (by omega)
        simpa [List.getD, show k < L.length by omega, show k + 1 < L.length by omega] using this
      have ih := tlone_l3_p (u := u) (u2 := u2) (g := g) hL hl hP n (k + 1) (by omega) (by omega)
      rw [show ((k + 1 : Nat) : Int) = (k : Int) + 1 by omega] at ih
      have e4 := tlone_l4_p hN hF (u := u) (u2 := u2) (u3 := ((L.length - 1 : Nat) : Int)) (g := g) hL hl (i := k) (by omega) hj ha N 0 (by omega) (by omega)
      simp only [Int.natCast_zero] at e4
      rw [br_dec (by omega), idx_eq (by omega) (gets (by omega) 0), ha, chk_eq (by omega), e4]
      simp only [Option.bind_some]
      rw [chk_eq (by omega), ih]
    · rw [br_ndec (by omega)]
theorem tlone_step {n k : Nat} {g : List Tx} {u : Int} (hg : g.getD k ([], [], 0) = (ws, ts, br_)) (hk : k < g.length) (hk2 : k < 10) (hu : (k : Int) < u) : tlone_l1 N (n + 1) u k g = tlone_l1 N n u ((k : Int) + 1) g := by
  have hn := hF.n; have ht := hF.t; have hn0 := hF.n0
  have c0 := checkT_of hF
  obtain ⟨L, e1, hL⟩ := lone_in hN hF
  obtain ⟨h1, h2, h3⟩ := hL
  have hlpos : 1 ≤ L.length := (h3 [0] ⟨by omega, trivial⟩ (List.pairwise_singleton _ _)).1
  have hlne : L ≠ [] := by intro e; subst e; simp at hlpos
  have hll := okC_len h1 hlne
  have t2 := tlone_l2_p (N := N) (ts := ts) (br_ := br_) (u := u) (u2 := (k : Int)) (g := g) h1 hn (by omega) N 0 (by omega) (by omega)
  have t3 := tlone_l3_p hN hF (u := u) (u2 := (k : Int)) (g := g) h1 (by omega) h2 N 0 (by omega) (by omega)
  simp only [Int.natCast_zero] at t2 t3
  have hdl : ((L.drop 1).length : Int) = ((L.length - 1 : Nat) : Int) := by simp
  rw [← hdl] at t3
  rw [tlone_l1, br_dec hu, rng_eq (by omega), Int.toNat_natCast, get_get ([], [], 0) hk, hg]
  dsimp only
  rw [e1]
  simp only [Option.bind_some]
  rcases fewest_v (N := N) (by omega) (ws := ws) (ts := ts) (br_ := br_) (by omega) (by omega) with ⟨c, _⟩ | ⟨_, ⟨l, ee, hl, hmin⟩ | ⟨ee, hno⟩⟩
  · exact absurd c0 c
  · have hle := lone_le hl h1 h2
    rw [ee]
    simp only [Option.bind_some]
    rw [br_nd (by first | trivial | rfl), br_nd (by first | trivial | rfl), br_ndec (by omega), br_dec (by first | trivial | rfl), br_ndec (by omega)]
    by_cases c : (ts.length : Int) = 0
    · have : ts = [] := List.eq_nil_of_length_eq_zero (by omega)
      subst this
      obtain ⟨l', W, g1, g2, g3, g4⟩ := greedy (R := rightR ws [] br_) (m := ws.length) (S := stopR ws) (fun f t _ _ h => (plain_right.1 h).2.2) (fun f p t q1 q2 q3 h hs => by
        have h1 := plain_right.1 h
        have h2 := sylR_le (c := t) hF.okW q1
        exact plain_right.2 ⟨by omega, hs, h1.2.2⟩) ws.length 0 (by omega) (by omega) (by simp [stopR]) ⟨l, hl⟩
      have q1 := (h3 W (by simpa using g2) g4).1
      have q2 := hmin.le l' g1
      rw [br_dec c, br_nd (by omega), t2]
      simp only [Option.bind_some]
      rw [grd_eq (by simp; omega), t3]
      simp only [Option.bind_some]
      rw [chk_eq (by omega)]
    · rw [br_ndec c, t2]
      simp only [Option.bind_some]
      rw [grd_eq (by simp; omega), t3]
      simp only [Option.bind_some]
      rw [chk_eq (by omega)]
  · rw [ee]
    simp only [Option.bind_some]
    rw [br_nd (by first | trivial | rfl), br_nnd (by decide), br_nd (by first | trivial | rfl), br_ndec (by omega), br_ndec (by decide), t2]
    simp only [Option.bind_some]
    rw [grd_eq (by simp; omega), t3]
    simp only [Option.bind_some]
    rw [chk_eq (by omega)]
end
theorem tlone_true {ns : List Int} (h1 : Ty.inB (.sl (.int .u8)) ns) : tlone_S 1100 ns = some true := by
  have aw : ((awake_S 1100).bind fun x => some x) = some true := by rw [awake_v]; rfl
  have l1 : ns.length ≤ 9223372036854775807 := h1.1
  unfold tlone_S hang_S
  simp only [Option.bind_some]
  obtain ⟨⟨ws, ts, br_, b, b2, b3⟩, em, hF, hm, hb⟩ := made_v (N := 1100) (b := ns) (by omega) (words := 10) (turns := 3) (b2 := 0) (b3 := 0) (by omega) (by omega) ⟨l1, by omega, by omega⟩
  dsimp only at hF hm hb
  rw [em]
  simp only [Option.bind_some]
  have hn := hF.n; have ht := hF.t; have hn0 := hF.n0
  have hF2 : TFine ws [] br_ := ⟨hF.n0, hF.n, by simp, hF.b0, hF.b1, hF.w, fun x hx => by cases hx⟩
  rw [copyx_v (by omega) (by omega)]
  simp only [Option.bind_some]
  have s0 := tlone_step (N := 1100) (by omega) hF (n := 1099) (k := 0) (g := [(ws, ts, br_), (ws, [], br_)]) (u := 2) rfl (by simp) (by omega) (by omega)
  have s1 := tlone_step (N := 1100) (by omega) hF2 (n := 1098) (k := 1) (g := [(ws, ts, br_), (ws, [], br_)]) (u := 2) rfl (by simp) (by omega) (by omega)
  simp only [Int.natCast_zero, Int.natCast_one, Int.zero_add] at s0 s1
  rw [show ((([(ws, ts, br_), (ws, [], br_)] : List Tx).length : Nat) : Int) = 2 from rfl, s0, s1, tlone_l1, br_ndec (by omega)]
  exact aw
end Go.Proofs.Ytfamlpbdhhikdaa

/-
  Parts of a proof, put together: X9, TM5, TM6.
  Conditions: none.
-/
import Derived.Test.YtfamlpbdhhikdaaZg
namespace Go.Proofs.Ytfamlpbdhhikdaa
set_option linter.all false
open Go

def lone11_S (N : Nat) (o : Int) (u : List Bool) (u2 : Int) : Option Bool :=
  rng o 12 <|
  rng u2 12 <|
  get u ((o.toNat * 12) + u2.toNat) fun x_1 =>
  some (!x_1)
noncomputable def lone11_sp (N : Nat) : List Spec := []
theorem lone11_all (N : Nat) : AllP (SpecOK Try.prog) (lone11_sp N) := trivial
noncomputable def lone11_c : Code := (Try.f129.body).getD .skip
noncomputable abbrev lone11_B : Body := { c := lone11_c, n := 11, res := [.tmp 4], outs := [⟨[.b], []⟩], m0 := 0 }
abbrev lone11_rt : altD lone11_B.outs → Option Bool := fun r => some r.1.1
abbrev lone11_st : Sta := ⟨[0, 1, 2], ⟨[.i .i64, .fz [.arr .bool 144], .fe (.int .i64)], []⟩⟩
theorem lone11_eq (N : Nat) (o : Int) (u : List Bool) (u2 : Int) : ev (Z := Bool) Try.prog (lone11_sp N) lone11_B [] [] (some lone11_rt) 400 false [.c [0], .c [1]] (stL lone11_st ((o, (u, ()), u2, ()), ())) (stH lone11_st ((o, (u, ()), u2, ()), ())) = lone11_S N o u u2 := by kernel_rfl
noncomputable def sp_lone11 (N : Nat) : Spec := { f := 129, ins := ⟨[.i .i64, .fz [.arr .bool 144], .fe (.int .i64)], []⟩, outs := [⟨[.b], []⟩], run := fun p k => (lone11_S N p.1.1 p.1.2.1.1 p.1.2.2.1).bind fun r => k ((r, ()), ()) }
theorem sp_lone11_ok (N : Nat) : SpecOK Try.prog (sp_lone11 N) := fn_sound (B := lone11_B) (loops := []) (leaves := []) (fun p => lone11_S N p.1.1 p.1.2.1.1 p.1.2.2.1) (fun r => ((r, ()), ())) lone11_rt (fun _ _ _ => rfl) (fun r z h => by cases h; rfl) Try.func129 (by kernel_rfl) (by kernel_rfl) (by kernel_rfl) rfl rfl (by kernel_rfl) (fun args w => Sem.pv_run _ _ _ (by kernel_rfl) w) (lone11_all N) mixed trivial (fun z E Xc hE hX hret => trivial) (fun p => lone11_eq N p.1.1 p.1.2.1.1 p.1.2.2.1)

def every1i4_S (N : Nat) (x : Int) (g : List Bool) (g2 : Int) : Option (Bool × List Bool × Int) :=
  (lone11_S N x g g2).bind fun x_1 =>
  some ((!x_1), g, g2)
noncomputable def every1i4_sp (N : Nat) : List Spec := [sp_lone11 N]
theorem every1i4_all (N : Nat) : AllP (SpecOK Try.prog) (every1i4_sp N) := ⟨sp_lone11_ok N, trivial⟩
noncomputable def every1i4_c : Code := (Try.f154.body).getD .skip
noncomputable abbrev every1i4_B : Body := { c := every1i4_c, n := 8, res := [.tmp 3], outs := [⟨[.b], [.segs [.fn 129 [] [.fz [.arr .bool 144], .fe (.int .i64)]]]⟩], m0 := 1 }
abbrev every1i4_rt : altD every1i4_B.outs → Option (Bool × List Bool × Int) := fun r => some (r.1.1, r.2.1.1.2.1.1, r.2.1.1.2.2.1)
abbrev every1i4_st : Sta := ⟨[0, 1], ⟨[.i .i64, .own 0 0], [.segs [.fn 129 [] [.fz [.arr .bool 144], .fe (.int .i64)]]]⟩⟩
theorem every1i4_eq (N : Nat) (x : Int) (g : List Bool) (g2 : Int) : ev (Z := Bool × List Bool × Int) Try.prog (every1i4_sp N) every1i4_B [] [] (some every1i4_rt) 400 false [.c [0], .c [1]] (stL every1i4_st ((x, (), ()), ((((), ((g, ()), g2, ())), ()), ()))) (stH every1i4_st ((x, (), ()), ((((), ((g, ()), g2, ())), ()), ()))) = every1i4_S N x g g2 := by kernel_rfl
noncomputable def sp_every1i4 (N : Nat) : Spec := { f := 154, ins := ⟨[.i .i64, .own 0 0], [.segs [.fn 129 [] [.fz [.arr .bool 144], .fe (.int .i64)]]]⟩, outs := [⟨[.b], [.segs [.fn 129 [] [.fz [.arr .bool 144], .fe (.int .i64)]]]⟩], run := fun p k => (every1i4_S N p.1.1 p.2.1.1.2.1.1 p.2.1.1.2.2.1).bind fun r => k ((r.1, ()), ((((), ((r.2.1, ()), r.2.2, ())), ()), ())) }
theorem sp_every1i4_ok (N : Nat) : SpecOK Try.prog (sp_every1i4 N) := fn_sound (B := every1i4_B) (loops := []) (leaves := []) (fun p => every1i4_S N p.1.1 p.2.1.1.2.1.1 p.2.1.1.2.2.1) (fun r => ((r.1, ()), ((((), ((r.2.1, ()), r.2.2, ())), ()), ()))) every1i4_rt (fun _ _ _ => rfl) (fun r z h => by cases h; rfl) Try.func154 (by kernel_rfl) (by kernel_rfl) (by kernel_rfl) rfl rfl (by kernel_rfl) (fun args w => Sem.pv_run _ _ _ (by kernel_rfl) w) (every1i4_all N) mixed trivial (fun z E Xc hE hX hret => trivial) (fun p => every1i4_eq N p.1.1 p.2.1.1.2.1.1 p.2.1.1.2.2.1)

def ixfi4_l1 (N : Nat) : Nat → (List Int) → Int → Int → (List Bool) → Int → Option ((Int × List Bool × Int) ⊕ (List Bool × Int))
  | 0, _, _, _, _, _ => none
  | n_ + 1, s, u, u2, f, f2 =>
    br (decide (u2 < u))
      (idx s u2 fun x_1 =>
      (every1i4_S N x_1 f f2).bind fun (x_2, y_3, y_4) =>
      br x_2
        (some (.inl (u2, y_3, y_4)))
        (chk (u2 + 1) <|
        ixfi4_l1 N n_ s u (u2 + 1) y_3 y_4))
      (some (.inr (f, f2)))
def ixfi4_S (N : Nat) (s : List Int) (f : List Bool) (f2 : Int) : Option (Int × List Bool × Int) :=
  (ixfi4_l1 N N s (s.length : Int) 0 f f2).bind fun e => match e with
  | .inl (i_5, g_6, g2_7) =>
    some (i_5, g_6, g2_7)
  | .inr (g_8, g2_9) =>
    some (-1, g_8, g2_9)
noncomputable def ixfi4_sp (N : Nat) : List Spec := [sp_every1i4 N]
theorem ixfi4_all (N : Nat) : AllP (SpecOK Try.prog) (ixfi4_sp N) := ⟨sp_every1i4_ok N, trivial⟩
noncomputable def ixfi4_c : Code := (Try.f113.body).getD .skip
noncomputable abbrev ixfi4_B : Body := { c := ixfi4_c, n := 19, res := [.tmp 4], outs := [⟨[.i .i64], [.segs [.fn 129 [] [.fz [.arr .bool 144], .fe (.int .i64)]]]⟩], m0 := 1 }
abbrev ixfi4_rt : altD ixfi4_B.outs → Option (Int × List Bool × Int) := fun r => some (r.1.1, r.2.1.1.2.1.1, r.2.1.1.2.2.1)
abbrev ixfi4_l1_at : List PI := [.c [1, 0, 1, 0, 0, 0], .c [1, 0, 1, 0, 0, 1], .l [1, 0, 1, 0, 0], .b 0, .c [1, 1]]
abbrev ixfi4_l1_st : Sta := ⟨[0, 1, 7, 8], ⟨[.sl (.int .i64), .fn 154 [] [.own 0 0], .i .i64, .i .i64], [.segs [.fn 129 [] [.fz [.arr .bool 144], .fe (.int .i64)]]]⟩⟩
abbrev ixfi4_l1_h (rec : (List Int) → Int → Int → (List Bool) → Int → Option ((Int × List Bool × Int) ⊕ (List Bool × Int))) : Leaf ((Int × List Bool × Int) ⊕ (List Bool × Int)) := ⟨ixfi4_l1_at, ixfi4_l1_st, fun p => rec p.1.1 p.1.2.2.1 p.1.2.2.2.1 p.2.1.1.2.1.1 p.2.1.1.2.2.1⟩
abbrev ixfi4_l1_e0 : Leaf ((Int × List Bool × Int) ⊕ (List Bool × Int)) := ⟨[.c [1, 0, 1, 0, 0, 1, 1, 0, 0, 1, 1, 0, 0], .c [1, 0, 1, 0, 0, 1, 1, 0, 0, 1, 1, 0, 1], .b 1, .c [1, 0, 1, 0, 0, 1, 1, 1], .l [1, 0, 1, 0, 0], .b 0, .c [1, 1]], ⟨[5], ⟨[.i .i64], [.segs [.fn 129 [] [.fz [.arr .bool 144], .fe (.int .i64)]]]⟩⟩, fun p => some (.inl (p.1.1, p.2.1.1.2.1.1, p.2.1.1.2.2.1))⟩
abbrev ixfi4_l1_e1 : Leaf ((Int × List Bool × Int) ⊕ (List Bool × Int)) := ⟨[.c [1, 1, 0], .c [1, 1, 1]], ⟨[], ⟨[], [.segs [.fn 129 [] [.fz [.arr .bool 144], .fe (.int .i64)]]]⟩⟩, fun p => some (.inr (p.2.1.1.2.1.1, p.2.1.1.2.2.1))⟩
noncomputable def ixfi4_l1_L (N : Nat) : LoopS := { at_ := ixfi4_l1_at, sta := ixfi4_l1_st, exits := [([.c [1, 0, 1, 0, 0, 1, 1, 0, 0, 1, 1, 0, 0], .c [1, 0, 1, 0, 0, 1, 1, 0, 0, 1, 1, 0, 1], .b 1, .c [1, 0, 1, 0, 0, 1, 1, 1], .l [1, 0, 1, 0, 0], .b 0, .c [1, 1]], ⟨[5], ⟨[.i .i64], [.segs [.fn 129 [] [.fz [.arr .bool 144], .fe (.int .i64)]]]⟩⟩), ([.c [1, 1, 0], .c [1, 1, 1]], ⟨[], ⟨[], [.segs [.fn 129 [] [.fz [.arr .bool 144], .fe (.int .i64)]]]⟩⟩)], run := fun p k => (ixfi4_l1 N N p.1.1 p.1.2.2.1 p.1.2.2.2.1 p.2.1.1.2.1.1 p.2.1.1.2.2.1).bind fun e => match e with | .inl x => k (.inl ((x.1, ()), ((((), ((x.2.1, ()), x.2.2, ())), ()), ()))) | .inr x => k (.inr (.inl ((), ((((), ((x.1, ()), x.2, ())), ()), ())))) }
theorem ixfi4_l1_eq (N n_ : Nat) (s : List Int) (u : Int) (u2 : Int) (f : List Bool) (f2 : Int) : ev (Z := (Int × List Bool × Int) ⊕ (List Bool × Int)) Try.prog (ixfi4_sp N) ixfi4_B [] [ixfi4_l1_h (ixfi4_l1 N n_), ixfi4_l1_e0, ixfi4_l1_e1] none 400 true ixfi4_l1_at (stL ixfi4_l1_st ((s, ((), ((), ())), u, u2, ()), ((((), ((f, ()), f2, ())), ()), ()))) (stH ixfi4_l1_st ((s, ((), ((), ())), u, u2, ()), ((((), ((f, ()), f2, ())), ()), ()))) = ixfi4_l1 N (n_ + 1) s u u2 f f2 := by kernel_rfl
theorem ixfi4_l1_ok (N : Nat) {top : Bool} : LoopOK Try.prog ixfi4_B.c ixfi4_B.n ixfi4_B.m0 top (ixfi4_l1_L N) := loop_of_ev (Z := (Int × List Bool × Int) ⊕ (List Bool × Int)) (N := N) (fun m p => ixfi4_l1 N m p.1.1 p.1.2.2.1 p.1.2.2.2.1 p.2.1.1.2.1.1 p.2.1.1.2.2.1) (fun e => match e with | .inl x => .inl ((x.1, ()), ((((), ((x.2.1, ()), x.2.2, ())), ()), ())) | .inr x => .inr (.inl ((), ((((), ((x.1, ()), x.2, ())), ()), ())))) (fun _ p k => bind_congr_ (ixfi4_l1 N N p.1.1 p.1.2.2.1 p.1.2.2.2.1 p.2.1.1.2.1.1 p.2.1.1.2.2.1) _ _ (fun e => by rcases e with x | x <;> rfl)) (fun _ => rfl) (fun m z E Xc hE hX hrec hx => leaf_of_ev (B := ixfi4_B) (loops := []) (leaves := [ixfi4_l1_h (ixfi4_l1 N m), ixfi4_l1_e0, ixfi4_l1_e1]) (ixfi4_all N) mixed trivial hE hX ⟨hrec, (fun p hp => by obtain rfl := Option.some.inj hp; exact hx), (fun p hp => by obtain rfl := Option.some.inj hp; exact hx), trivial⟩ RetOK.no (fun p => ixfi4_l1_eq N m p.1.1 p.1.2.2.1 p.1.2.2.2.1 p.2.1.1.2.1.1 p.2.1.1.2.2.1))
abbrev ixfi4_st : Sta := ⟨[0, 1], ⟨[.sl (.int .i64), .fn 154 [] [.own 0 0]], [.segs [.fn 129 [] [.fz [.arr .bool 144], .fe (.int .i64)]]]⟩⟩
theorem ixfi4_eq (N : Nat) (s : List Int) (f : List Bool) (f2 : Int) : ev (Z := Int × List Bool × Int) Try.prog (ixfi4_sp N) ixfi4_B [ixfi4_l1_L N] [] (some ixfi4_rt) 400 false [.c [0], .c [1]] (stL ixfi4_st ((s, ((), ((), ())), ()), ((((), ((f, ()), f2, ())), ()), ()))) (stH ixfi4_st ((s, ((), ((), ())), ()), ((((), ((f, ()), f2, ())), ()), ()))) = ixfi4_S N s f f2 := by kernel_rfl
noncomputable def sp_ixfi4 (N : Nat) : Spec := { f := 113, ins := ⟨[.sl (.int .i64), .fn 154 [] [.own 0 0]], [.segs [.fn 129 [] [.fz [.arr .bool 144], .fe (.int .i64)]]]⟩, outs := [⟨[.i .i64], [.segs [.fn 129 [] [.fz [.arr .bool 144], .fe (.int .i64)]]]⟩], run := fun p k => (ixfi4_S N p.1.1 p.2.1.1.2.1.1 p.2.1.1.2.2.1).bind fun r => k ((r.1, ()), ((((), ((r.2.1, ()), r.2.2, ())), ()), ())) }
theorem sp_ixfi4_ok (N : Nat) : SpecOK Try.prog (sp_ixfi4 N) := fn_sound (B := ixfi4_B) (loops := [ixfi4_l1_L N]) (leaves := []) (fun p => ixfi4_S N p.1.1 p.2.1.1.2.1.1 p.2.1.1.2.2.1) (fun r => ((r.1, ()), ((((), ((r.2.1, ()), r.2.2, ())), ()), ()))) ixfi4_rt (fun _ _ _ => rfl) (fun r z h => by cases h; rfl) Try.func113 (by kernel_rfl) (by kernel_rfl) (by kernel_rfl) rfl rfl (by kernel_rfl) (fun args w => Sem.pv_run _ _ _ (by kernel_rfl) w) (ixfi4_all N) mixed ⟨ixfi4_l1_ok N, trivial⟩ (fun z E Xc hE hX hret => trivial) (fun p => ixfi4_eq N p.1.1 p.2.1.1.2.1.1 p.2.1.1.2.2.1)

def cofi4_S (N : Nat) (s : List Int) (f : List Bool) (f2 : Int) : Option (Bool × List Bool × Int) :=
  (ixfi4_S N s f f2).bind fun (x_1, y_2, y_3) =>
  some ((decide (0 ≤ x_1)), y_2, y_3)
noncomputable def cofi4_sp (N : Nat) : List Spec := [sp_ixfi4 N]
theorem cofi4_all (N : Nat) : AllP (SpecOK Try.prog) (cofi4_sp N) := ⟨sp_ixfi4_ok N, trivial⟩
noncomputable def cofi4_c : Code := (Try.f46.body).getD .skip
noncomputable abbrev cofi4_B : Body := { c := cofi4_c, n := 9, res := [.tmp 4], outs := [⟨[.b], [.segs [.fn 129 [] [.fz [.arr .bool 144], .fe (.int .i64)]]]⟩], m0 := 1 }
abbrev cofi4_rt : altD cofi4_B.outs → Option (Bool × List Bool × Int) := fun r => some (r.1.1, r.2.1.1.2.1.1, r.2.1.1.2.2.1)
abbrev cofi4_st : Sta := ⟨[0, 1], ⟨[.sl (.int .i64), .fn 154 [] [.own 0 0]], [.segs [.fn 129 [] [.fz [.arr .bool 144], .fe (.int .i64)]]]⟩⟩
theorem cofi4_eq (N : Nat) (s : List Int) (f : List Bool) (f2 : Int) : ev (Z := Bool × List Bool × Int) Try.prog (cofi4_sp N) cofi4_B [] [] (some cofi4_rt) 400 false [.c [0], .c [1]] (stL cofi4_st ((s, ((), ((), ())), ()), ((((), ((f, ()), f2, ())), ()), ()))) (stH cofi4_st ((s, ((), ((), ())), ()), ((((), ((f, ()), f2, ())), ()), ()))) = cofi4_S N s f f2 := by kernel_rfl
noncomputable def sp_cofi4 (N : Nat) : Spec := { f := 46, ins := ⟨[.sl (.int .i64), .fn 154 [] [.own 0 0]], [.segs [.fn 129 [] [.fz [.arr .bool 144], .fe (.int .i64)]]]⟩, outs := [⟨[.b], [.segs [.fn 129 [] [.fz [.arr .bool 144], .fe (.int .i64)]]]⟩], run := fun p k => (cofi4_S N p.1.1 p.2.1.1.2.1.1 p.2.1.1.2.2.1).bind fun r => k ((r.1, ()), ((((), ((r.2.1, ()), r.2.2, ())), ()), ())) }
theorem sp_cofi4_ok (N : Nat) : SpecOK Try.prog (sp_cofi4 N) := fn_sound (B := cofi4_B) (loops := []) (leaves := []) (fun p => cofi4_S N p.1.1 p.2.1.1.2.1.1 p.2.1.1.2.2.1) (fun r => ((r.1, ()), ((((), ((r.2.1, ()), r.2.2, ())), ()), ()))) cofi4_rt (fun _ _ _ => rfl) (fun r z h => by cases h; rfl) Try.func46 (by kernel_rfl) (by kernel_rfl) (by kernel_rfl) rfl rfl (by kernel_rfl) (fun args w => Sem.pv_run _ _ _ (by kernel_rfl) w) (cofi4_all N) mixed trivial (fun z E Xc hE hX hret => trivial) (fun p => cofi4_eq N p.1.1 p.2.1.1.2.1.1 p.2.1.1.2.2.1)

def everyi4_S (N : Nat) (l : List Int) (holds : List Bool) (holds2 : Int) : Option Bool :=
  (cofi4_S N l holds holds2).bind fun (x_1, y_2, y_3) =>
  some (!x_1)
noncomputable def everyi4_sp (N : Nat) : List Spec := [sp_cofi4 N]
theorem everyi4_all (N : Nat) : AllP (SpecOK Try.prog) (everyi4_sp N) := ⟨sp_cofi4_ok N, trivial⟩
noncomputable def everyi4_c : Code := (Try.f128.body).getD .skip
noncomputable abbrev everyi4_B : Body := { c := everyi4_c, n := 9, res := [.tmp 4], outs := [⟨[.b], []⟩], m0 := 0 }
abbrev everyi4_rt : altD everyi4_B.outs → Option Bool := fun r => some r.1.1
abbrev everyi4_st : Sta := ⟨[0, 1], ⟨[.sl (.int .i64), .fn 129 [] [.fz [.arr .bool 144], .fe (.int .i64)]], []⟩⟩
theorem everyi4_eq (N : Nat) (l : List Int) (holds : List Bool) (holds2 : Int) : ev (Z := Bool) Try.prog (everyi4_sp N) everyi4_B [] [] (some everyi4_rt) 400 false [.c [0], .c [1]] (stL everyi4_st ((l, ((), ((holds, ()), holds2, ())), ()), ())) (stH everyi4_st ((l, ((), ((holds, ()), holds2, ())), ()), ())) = everyi4_S N l holds holds2 := by kernel_rfl
noncomputable def sp_everyi4 (N : Nat) : Spec := { f := 128, ins := ⟨[.sl (.int .i64), .fn 129 [] [.fz [.arr .bool 144], .fe (.int .i64)]], []⟩, outs := [⟨[.b], []⟩], run := fun p k => (everyi4_S N p.1.1 p.1.2.1.2.1.1 p.1.2.1.2.2.1).bind fun r => k ((r, ()), ()) }
theorem sp_everyi4_ok (N : Nat) : SpecOK Try.prog (sp_everyi4 N) := fn_sound (B := everyi4_B) (loops := []) (leaves := []) (fun p => everyi4_S N p.1.1 p.1.2.1.2.1.1 p.1.2.1.2.2.1) (fun r => ((r, ()), ())) everyi4_rt (fun _ _ _ => rfl) (fun r z h => by cases h; rfl) Try.func128 (by kernel_rfl) (by kernel_rfl) (by kernel_rfl) rfl rfl (by kernel_rfl) (fun args w => Sem.pv_run _ _ _ (by kernel_rfl) w) (everyi4_all N) mixed trivial (fun z E Xc hE hX hret => trivial) (fun p => everyi4_eq N p.1.1 p.1.2.1.2.1.1 p.1.2.1.2.2.1)

noncomputable abbrev lmore_self (self : (List Int) → Int → (((List (Int × (Int × Bool))) × ((List (Int × (Int × Int))) × Int))) → (List Bool) → (List Int) → (((List (Int × (Int × Bool))) × ((List (Int × (Int × Int))) × Int))) → (List Bool) → Option (List Int × ((List (Int × (Int × Bool))) × ((List (Int × (Int × Int))) × Int)) × List Bool)) : Spec := { f := 127, ins := ⟨[.sl (.int .i64), .i .i64, .own 0 0, .fe (.ptr (.pair (.sl (.pair (.int .i64) (.pair (.int .i64) .bool))) (.pair (.sl (.pair (.int .i64) (.pair (.int .i64) (.int .i64)))) (.int .i64)))), .fz [.arr .bool 144], .own 1 0], [.segs [.sl (.int .i64)], .segs [.fn 127 [] [.own 0 0, .fe (.ptr (.pair (.sl (.pair (.int .i64) (.pair (.int .i64) .bool))) (.pair (.sl (.pair (.int .i64) (.pair (.int .i64) (.int .i64)))) (.int .i64)))), .fz [.arr .bool 144], .own 1 0]]]⟩, outs := [⟨[], [.segs [.sl (.int .i64)], .segs [.fn 127 [] [.own 0 0, .fe (.ptr (.pair (.sl (.pair (.int .i64) (.pair (.int .i64) .bool))) (.pair (.sl (.pair (.int .i64) (.pair (.int .i64) (.int .i64)))) (.int .i64)))), .fz [.arr .bool 144], .own 1 0]]]⟩], run := fun p k => (self p.1.1 p.1.2.1 p.1.2.2.2.1 p.1.2.2.2.2.1.1 p.2.1.1 p.2.2.1.1.2.2.1 p.2.2.1.1.2.2.2.1.1).bind fun r => k ((), ((r.1, ()), (((), ((), r.2.1, (r.2.2, ()), (), ())), ()), ())) }
def lmore_j2 (N : Nat) (self : (List Int) → Int → (((List (Int × (Int × Bool))) × ((List (Int × (Int × Int))) × Int))) → (List Bool) → (List Int) → (((List (Int × (Int × Bool))) × ((List (Int × (Int × Int))) × Int))) → (List Bool) → Option (List Int × ((List (Int × (Int × Bool))) × ((List (Int × (Int × Int))) × Int)) × List Bool)) (rec : (List Int) → (((List (Int × (Int × Bool))) × ((List (Int × (Int × Int))) × Int))) → (List Bool) → (List Int) → (((List (Int × (Int × Bool))) × ((List (Int × (Int × Int))) × Int))) → (List Bool) → Int → Option (List Int × ((List (Int × (Int × Bool))) × ((List (Int × (Int × Int))) × Int)) × List Bool)) (l : List Int) (u : ((List (Int × (Int × Bool))) × ((List (Int × (Int × Int))) × Int))) (u2 : List Bool) (g : List Int) (g2 : ((List (Int × (Int × Bool))) × ((List (Int × (Int × Int))) × Int))) (g3 : List Bool) (w : Int) : Option (List Int × ((List (Int × (Int × Bool))) × ((List (Int × (Int × Int))) × Int)) × List Bool) :=
  chk (w + 1) <|
  rec l u u2 g g2 g3 (w + 1)
def lmore_l1 (N : Nat) (self : (List Int) → Int → (((List (Int × (Int × Bool))) × ((List (Int × (Int × Int))) × Int))) → (List Bool) → (List Int) → (((List (Int × (Int × Bool))) × ((List (Int × (Int × Int))) × Int))) → (List Bool) → Option (List Int × ((List (Int × (Int × Bool))) × ((List (Int × (Int × Int))) × Int)) × List Bool)) : Nat → (List Int) → (((List (Int × (Int × Bool))) × ((List (Int × (Int × Int))) × Int))) → (List Bool) → (List Int) → (((List (Int × (Int × Bool))) × ((List (Int × (Int × Int))) × Int))) → (List Bool) → Int → Option (List Int × ((List (Int × (Int × Bool))) × ((List (Int × (Int × Int))) × Int)) × List Bool)
  | 0, _, _, _, _, _, _, _ => none
  | n_ + 1, l, u, u2, g, g2, g3, w =>
    (end__S N u).bind fun x_2 =>
    br (decide (w < x_2))
      ((everyi4_S N l u2 w).bind fun x_3 =>
      br x_3
        ((cloneo_S N l).bind fun x_4 =>
        lim (x_4.length + [w].length) <|
        chk (w + 1) <|
        (self (x_4 ++ [w]) (w + 1) g2 g3 g g2 g3).bind fun (x_5, y_6, y_7) =>
        lmore_j2 N self (lmore_l1 N self n_) l u u2 x_5 y_6 y_7 w)
        (lmore_j2 N self (lmore_l1 N self n_) l u u2 g g2 g3 w))
      (some ((g, g2, g3)))
def lmore_j1 (N : Nat) (self : (List Int) → Int → (((List (Int × (Int × Bool))) × ((List (Int × (Int × Int))) × Int))) → (List Bool) → (List Int) → (((List (Int × (Int × Bool))) × ((List (Int × (Int × Int))) × Int))) → (List Bool) → Option (List Int × ((List (Int × (Int × Bool))) × ((List (Int × (Int × Int))) × Int)) × List Bool)) (l : List Int) (from_ : Int) (u : ((List (Int × (Int × Bool))) × ((List (Int × (Int × Int))) × Int))) (u2 : List Bool) (g : List Int) (g2 : ((List (Int × (Int × Bool))) × ((List (Int × (Int × Int))) × Int))) (g3 : List Bool) : Option (List Int × ((List (Int × (Int × Bool))) × ((List (Int × (Int × Int))) × Int)) × List Bool) :=
  (lmore_l1 N self N l u u2 g g2 g3 from_).bind fun (g_8, g2_9, g3_10) =>
  some (g_8, g2_9, g3_10)
def lmore_S (N : Nat) (self : (List Int) → Int → (((List (Int × (Int × Bool))) × ((List (Int × (Int × Int))) × Int))) → (List Bool) → (List Int) → (((List (Int × (Int × Bool))) × ((List (Int × (Int × Int))) × Int))) → (List Bool) → Option (List Int × ((List (Int × (Int × Bool))) × ((List (Int × (Int × Int))) × Int)) × List Bool)) (l : List Int) (from_ : Int) (u : ((List (Int × (Int × Bool))) × ((List (Int × (Int × Int))) × Int))) (u2 : List Bool) (g : List Int) (g2 : ((List (Int × (Int × Bool))) × ((List (Int × (Int × Int))) × Int))) (g3 : List Bool) : Option (List Int × ((List (Int × (Int × Bool))) × ((List (Int × (Int × Int))) × Int)) × List Bool) :=
  br (decide ((g.length : Int) < (l.length : Int)))
    ((cloneo_S N l).bind fun x_1 =>
    lmore_j1 N self l from_ u u2 x_1 g2 g3)
    (lmore_j1 N self l from_ u u2 g g2 g3)
noncomputable def lmore_sp (N : Nat) (self : (List Int) → Int → (((List (Int × (Int × Bool))) × ((List (Int × (Int × Int))) × Int))) → (List Bool) → (List Int) → (((List (Int × (Int × Bool))) × ((List (Int × (Int × Int))) × Int))) → (List Bool) → Option (List Int × ((List (Int × (Int × Bool))) × ((List (Int × (Int × Int))) × Int)) × List Bool)) : List Spec := [sp_cloneo N, sp_end_ N, sp_everyi4 N, lmore_self self]
theorem lmore_all (N : Nat) (self : (List Int) → Int → (((List (Int × (Int × Bool))) × ((List (Int × (Int × Int))) × Int))) → (List Bool) → (List Int) → (((List (Int × (Int × Bool))) × ((List (Int × (Int × Int))) × Int))) → (List Bool) → Option (List Int × ((List (Int × (Int × Bool))) × ((List (Int × (Int × Int))) × Int)) × List Bool)) (hself : SpecOK Try.prog (lmore_self self)) : AllP (SpecOK Try.prog) (lmore_sp N self) := ⟨sp_cloneo_ok N, sp_end__ok N, sp_everyi4_ok N, hself, trivial⟩
noncomputable def lmore_c : Code := (Try.f127.body).getD .skip
noncomputable abbrev lmore_B : Body := { c := lmore_c, n := 36, res := [], outs := [⟨[], [.segs [.sl (.int .i64)], .segs [.fn 127 [] [.own 0 0, .fe (.ptr (.pair (.sl (.pair (.int .i64) (.pair (.int .i64) .bool))) (.pair (.sl (.pair (.int .i64) (.pair (.int .i64) (.int .i64)))) (.int .i64)))), .fz [.arr .bool 144], .own 1 0]]]⟩], m0 := 2 }
abbrev lmore_rt : altD lmore_B.outs → Option (List Int × ((List (Int × (Int × Bool))) × ((List (Int × (Int × Int))) × Int)) × List Bool) := fun r => some (r.2.1.1, r.2.2.1.1.2.2.1, r.2.2.1.1.2.2.2.1.1)
abbrev lmore_l1_at : List PI := [.c [1, 1, 0, 0, 0, 0], .c [1, 1, 0, 0, 0, 1], .c [1, 1, 0, 0, 1], .l [1, 1, 0, 0], .b 0]
abbrev lmore_l1_st : Sta := ⟨[0, 3, 4, 5, 8], ⟨[.sl (.int .i64), .fe (.ptr (.pair (.sl (.pair (.int .i64) (.pair (.int .i64) .bool))) (.pair (.sl (.pair (.int .i64) (.pair (.int .i64) (.int .i64)))) (.int .i64)))), .fz [.arr .bool 144], .own 1 0, .own 2 0], [.segs [.sl (.int .i64)], .segs [.fn 127 [] [.own 0 0, .fe (.ptr (.pair (.sl (.pair (.int .i64) (.pair (.int .i64) .bool))) (.pair (.sl (.pair (.int .i64) (.pair (.int .i64) (.int .i64)))) (.int .i64)))), .fz [.arr .bool 144], .own 1 0]], .segs [.i .i64]]⟩⟩
abbrev lmore_l1_h (rec : (List Int) → (((List (Int × (Int × Bool))) × ((List (Int × (Int × Int))) × Int))) → (List Bool) → (List Int) → (((List (Int × (Int × Bool))) × ((List (Int × (Int × Int))) × Int))) → (List Bool) → Int → Option (List Int × ((List (Int × (Int × Bool))) × ((List (Int × (Int × Int))) × Int)) × List Bool)) : Leaf (List Int × ((List (Int × (Int × Bool))) × ((List (Int × (Int × Int))) × Int)) × List Bool) := ⟨lmore_l1_at, lmore_l1_st, fun p => rec p.1.1 p.1.2.1 p.1.2.2.1.1 p.2.1.1 p.2.2.1.1.2.2.1 p.2.2.1.1.2.2.2.1.1 p.2.2.2.1.1⟩
abbrev lmore_l1_e0 : Leaf (List Int × ((List (Int × (Int × Bool))) × ((List (Int × (Int × Int))) × Int)) × List Bool) := ⟨[], ⟨[], ⟨[], [.segs [.sl (.int .i64)], .segs [.fn 127 [] [.own 0 0, .fe (.ptr (.pair (.sl (.pair (.int .i64) (.pair (.int .i64) .bool))) (.pair (.sl (.pair (.int .i64) (.pair (.int .i64) (.int .i64)))) (.int .i64)))), .fz [.arr .bool 144], .own 1 0]]]⟩⟩, fun p => some ((p.2.1.1, p.2.2.1.1.2.2.1, p.2.2.1.1.2.2.2.1.1))⟩
abbrev lmore_j2_at : List PI := [.c [1, 1, 0, 0, 1, 1, 0, 0], .c [1, 1, 0, 0, 1, 1, 0, 1], .c [1, 1, 0, 0, 1, 1, 1], .l [1, 1, 0, 0], .b 0]
abbrev lmore_j2_st : Sta := ⟨[0, 3, 4, 5, 8], ⟨[.sl (.int .i64), .fe (.ptr (.pair (.sl (.pair (.int .i64) (.pair (.int .i64) .bool))) (.pair (.sl (.pair (.int .i64) (.pair (.int .i64) (.int .i64)))) (.int .i64)))), .fz [.arr .bool 144], .own 1 0, .own 2 0], [.segs [.sl (.int .i64)], .segs [.fn 127 [] [.own 0 0, .fe (.ptr (.pair (.sl (.pair (.int .i64) (.pair (.int .i64) .bool))) (.pair (.sl (.pair (.int .i64) (.pair (.int .i64) (.int .i64)))) (.int .i64)))), .fz [.arr .bool 144], .own 1 0]], .segs [.i .i64]]⟩⟩
abbrev lmore_j2_k (N : Nat) (self : (List Int) → Int → (((List (Int × (Int × Bool))) × ((List (Int × (Int × Int))) × Int))) → (List Bool) → (List Int) → (((List (Int × (Int × Bool))) × ((List (Int × (Int × Int))) × Int))) → (List Bool) → Option (List Int × ((List (Int × (Int × Bool))) × ((List (Int × (Int × Int))) × Int)) × List Bool)) (rec : (List Int) → (((List (Int × (Int × Bool))) × ((List (Int × (Int × Int))) × Int))) → (List Bool) → (List Int) → (((List (Int × (Int × Bool))) × ((List (Int × (Int × Int))) × Int))) → (List Bool) → Int → Option (List Int × ((List (Int × (Int × Bool))) × ((List (Int × (Int × Int))) × Int)) × List Bool)) : Leaf (List Int × ((List (Int × (Int × Bool))) × ((List (Int × (Int × Int))) × Int)) × List Bool) := ⟨lmore_j2_at, lmore_j2_st, fun p => lmore_j2 N self rec p.1.1 p.1.2.1 p.1.2.2.1.1 p.2.1.1 p.2.2.1.1.2.2.1 p.2.2.1.1.2.2.2.1.1 p.2.2.2.1.1⟩
theorem lmore_j2_eq (N : Nat) (self : (List Int) → Int → (((List (Int × (Int × Bool))) × ((List (Int × (Int × Int))) × Int))) → (List Bool) → (List Int) → (((List (Int × (Int × Bool))) × ((List (Int × (Int × Int))) × Int))) → (List Bool) → Option (List Int × ((List (Int × (Int × Bool))) × ((List (Int × (Int × Int))) × Int)) × List Bool)) (rec : (List Int) → (((List (Int × (Int × Bool))) × ((List (Int × (Int × Int))) × Int))) → (List Bool) → (List Int) → (((List (Int × (Int × Bool))) × ((List (Int × (Int × Int))) × Int))) → (List Bool) → Int → Option (List Int × ((List (Int × (Int × Bool))) × ((List (Int × (Int × Int))) × Int)) × List Bool)) (l : List Int) (u : ((List (Int × (Int × Bool))) × ((List (Int × (Int × Int))) × Int))) (u2 : List Bool) (g : List Int) (g2 : ((List (Int × (Int × Bool))) × ((List (Int × (Int × Int))) × Int))) (g3 : List Bool) (w : Int) : ev (Z := List Int × ((List (Int × (Int × Bool))) × ((List (Int × (Int × Int))) × Int)) × List Bool) Try.prog (lmore_sp N self) lmore_B [] [lmore_l1_h rec, lmore_l1_e0] none 400 true lmore_j2_at (stL lmore_j2_st ((l, u, (u2, ()), (), (), ()), ((g, ()), (((), ((), g2, (g3, ()), (), ())), ()), (w, ()), ()))) (stH lmore_j2_st ((l, u, (u2, ()), (), (), ()), ((g, ()), (((), ((), g2, (g3, ()), (), ())), ()), (w, ()), ()))) = lmore_j2 N self rec l u u2 g g2 g3 w := by kernel_rfl
theorem lmore_j2_lf (N : Nat) (self : (List Int) → Int → (((List (Int × (Int × Bool))) × ((List (Int × (Int × Int))) × Int))) → (List Bool) → (List Int) → (((List (Int × (Int × Bool))) × ((List (Int × (Int × Int))) × Int))) → (List Bool) → Option (List Int × ((List (Int × (Int × Bool))) × ((List (Int × (Int × Int))) × Int)) × List Bool)) (hself : SpecOK Try.prog (lmore_self self)) (rec : (List Int) → (((List (Int × (Int × Bool))) × ((List (Int × (Int × Int))) × Int))) → (List Bool) → (List Int) → (((List (Int × (Int × Bool))) × ((List (Int × (Int × Int))) × Int))) → (List Bool) → Int → Option (List Int × ((List (Int × (Int × Bool))) × ((List (Int × (Int × Int))) × Int)) × List Bool)) {z : List Int × ((List (Int × (Int × Bool))) × ((List (Int × (Int × Int))) × Int)) × List Bool} {top : Bool} {E : EE} {Xc : Ctx} (hE : EOK lmore_B.m0 E) (hX : CxOK top Xc) (hrec : LeafOK Try.prog lmore_B.c lmore_B.n lmore_B.m0 E Xc z (lmore_l1_h rec)) (h0 : LeafOK Try.prog lmore_B.c lmore_B.n lmore_B.m0 E Xc z lmore_l1_e0) : LeafOK Try.prog lmore_B.c lmore_B.n lmore_B.m0 E Xc z (lmore_j2_k N self rec) := leaf_of_ev (B := lmore_B) (loops := []) (leaves := [lmore_l1_h rec, lmore_l1_e0]) (lmore_all N self hself) mixed trivial hE hX ⟨hrec, h0, trivial⟩ RetOK.no (fun p => lmore_j2_eq N self rec p.1.1 p.1.2.1 p.1.2.2.1.1 p.2.1.1 p.2.2.1.1.2.2.1 p.2.2.1.1.2.2.2.1.1 p.2.2.2.1.1)
noncomputable def lmore_l1_L (N : Nat) (self : (List Int) → Int → (((List (Int × (Int × Bool))) × ((List (Int × (Int × Int))) × Int))) → (List Bool) → (List Int) → (((List (Int × (Int × Bool))) × ((List (Int × (Int × Int))) × Int))) → (List Bool) → Option (List Int × ((List (Int × (Int × Bool))) × ((List (Int × (Int × Int))) × Int)) × List Bool)) : LoopS := { at_ := lmore_l1_at, sta := lmore_l1_st, exits := [([], ⟨[], ⟨[], [.segs [.sl (.int .i64)], .segs [.fn 127 [] [.own 0 0, .fe (.ptr (.pair (.sl (.pair (.int .i64) (.pair (.int .i64) .bool))) (.pair (.sl (.pair (.int .i64) (.pair (.int .i64) (.int .i64)))) (.int .i64)))), .fz [.arr .bool 144], .own 1 0]]]⟩⟩)], run := fun p k => (lmore_l1 N self N p.1.1 p.1.2.1 p.1.2.2.1.1 p.2.1.1 p.2.2.1.1.2.2.1 p.2.2.1.1.2.2.2.1.1 p.2.2.2.1.1).bind fun e => k (.inl ((), ((e.1, ()), (((), ((), e.2.1, (e.2.2, ()), (), ())), ()), ()))) }
theorem lmore_l1_eq (N : Nat) (self : (List Int) → Int → (((List (Int × (Int × Bool))) × ((List (Int × (Int × Int))) × Int))) → (List Bool) → (List Int) → (((List (Int × (Int × Bool))) × ((List (Int × (Int × Int))) × Int))) → (List Bool) → Option (List Int × ((List (Int × (Int × Bool))) × ((List (Int × (Int × Int))) × Int)) × List Bool)) (n_ : Nat) (l : List Int) (u : ((List (Int × (Int × Bool))) × ((List (Int × (Int × Int))) × Int))) (u2 : List Bool) (g : List Int) (g2 : ((List (Int × (Int × Bool))) × ((List (Int × (Int × Int))) × Int))) (g3 : List Bool) (w : Int) : ev (Z := List Int × ((List (Int × (Int × Bool))) × ((List (Int × (Int × Int))) × Int)) × List Bool) Try.prog (lmore_sp N self) lmore_B [] [lmore_l1_h (lmore_l1 N self n_), lmore_l1_e0, lmore_j2_k N self (lmore_l1 N self n_)] none 400 true lmore_l1_at (stL lmore_l1_st ((l, u, (u2, ()), (), (), ()), ((g, ()), (((), ((), g2, (g3, ()), (), ())), ()), (w, ()), ()))) (stH lmore_l1_st ((l, u, (u2, ()), (), (), ()), ((g, ()), (((), ((), g2, (g3, ()), (), ())), ()), (w, ()), ()))) = lmore_l1 N self (n_ + 1) l u u2 g g2 g3 w := by kernel_rfl
theorem lmore_l1_ok (N : Nat) (self : (List Int) → Int → (((List (Int × (Int × Bool))) × ((List (Int × (Int × Int))) × Int))) → (List Bool) → (List Int) → (((List (Int × (Int × Bool))) × ((List (Int × (Int × Int))) × Int))) → (List Bool) → Option (List Int × ((List (Int × (Int × Bool))) × ((List (Int × (Int × Int))) × Int)) × List Bool)) (hself : SpecOK Try.prog (lmore_self self)) {top : Bool} : LoopOK Try.prog lmore_B.c lmore_B.n lmore_B.m0 top (lmore_l1_L N self) := loop_of_ev (Z := List Int × ((List (Int × (Int × Bool))) × ((List (Int × (Int × Int))) × Int)) × List Bool) (N := N) (fun m p => lmore_l1 N self m p.1.1 p.1.2.1 p.1.2.2.1.1 p.2.1.1 p.2.2.1.1.2.2.1 p.2.2.1.1.2.2.2.1.1 p.2.2.2.1.1) (fun e => .inl ((), ((e.1, ()), (((), ((), e.2.1, (e.2.2, ()), (), ())), ()), ()))) (fun _ _ _ => rfl) (fun _ => rfl) (fun m z E Xc hE hX hrec hx => leaf_of_ev (B := lmore_B) (loops := []) (leaves := [lmore_l1_h (lmore_l1 N self m), lmore_l1_e0, lmore_j2_k N self (lmore_l1 N self m)]) (lmore_all N self hself) mixed trivial hE hX ⟨hrec, (fun p hp => by obtain rfl := Option.some.inj hp; exact hx), lmore_j2_lf N self hself _ hE hX hrec (fun p hp => by obtain rfl := Option.some.inj hp; exact hx), trivial⟩ RetOK.no (fun p => lmore_l1_eq N self m p.1.1 p.1.2.1 p.1.2.2.1.1 p.2.1.1 p.2.2.1.1.2.2.1 p.2.2.1.1.2.2.2.1.1 p.2.2.2.1.1))
abbrev lmore_j1_at : List PI := [.c [1, 0], .c [1, 1]]
abbrev lmore_j1_st : Sta := ⟨[0, 1, 3, 4, 5], ⟨[.sl (.int .i64), .i .i64, .fe (.ptr (.pair (.sl (.pair (.int .i64) (.pair (.int .i64) .bool))) (.pair (.sl (.pair (.int .i64) (.pair (.int .i64) (.int .i64)))) (.int .i64)))), .fz [.arr .bool 144], .own 1 0], [.segs [.sl (.int .i64)], .segs [.fn 127 [] [.own 0 0, .fe (.ptr (.pair (.sl (.pair (.int .i64) (.pair (.int .i64) .bool))) (.pair (.sl (.pair (.int .i64) (.pair (.int .i64) (.int .i64)))) (.int .i64)))), .fz [.arr .bool 144], .own 1 0]]]⟩⟩
abbrev lmore_j1_k (N : Nat) (self : (List Int) → Int → (((List (Int × (Int × Bool))) × ((List (Int × (Int × Int))) × Int))) → (List Bool) → (List Int) → (((List (Int × (Int × Bool))) × ((List (Int × (Int × Int))) × Int))) → (List Bool) → Option (List Int × ((List (Int × (Int × Bool))) × ((List (Int × (Int × Int))) × Int)) × List Bool)) : Leaf (List Int × ((List (Int × (Int × Bool))) × ((List (Int × (Int × Int))) × Int)) × List Bool) := ⟨lmore_j1_at, lmore_j1_st, fun p => lmore_j1 N self p.1.1 p.1.2.1 p.1.2.2.1 p.1.2.2.2.1.1 p.2.1.1 p.2.2.1.1.2.2.1 p.2.2.1.1.2.2.2.1.1⟩
theorem lmore_j1_eq (N : Nat) (self : (List Int) → Int → (((List (Int × (Int × Bool))) × ((List (Int × (Int × Int))) × Int))) → (List Bool) → (List Int) → (((List (Int × (Int × Bool))) × ((List (Int × (Int × Int))) × Int))) → (List Bool) → Option (List Int × ((List (Int × (Int × Bool))) × ((List (Int × (Int × Int))) × Int)) × List Bool)) (l : List Int) (from_ : Int) (u : ((List (Int × (Int × Bool))) × ((List (Int × (Int × Int))) × Int))) (u2 : List Bool) (g : List Int) (g2 : ((List (Int × (Int × Bool))) × ((List (Int × (Int × Int))) × Int))) (g3 : List Bool) : ev (Z := List Int × ((List (Int × (Int × Bool))) × ((List (Int × (Int × Int))) × Int)) × List Bool) Try.prog (lmore_sp N self) lmore_B [lmore_l1_L N self] [] (some lmore_rt) 400 true lmore_j1_at (stL lmore_j1_st ((l, from_, u, (u2, ()), (), ()), ((g, ()), (((), ((), g2, (g3, ()), (), ())), ()), ()))) (stH lmore_j1_st ((l, from_, u, (u2, ()), (), ()), ((g, ()), (((), ((), g2, (g3, ()), (), ())), ()), ()))) = lmore_j1 N self l from_ u u2 g g2 g3 := by kernel_rfl
theorem lmore_j1_lf (N : Nat) (self : (List Int) → Int → (((List (Int × (Int × Bool))) × ((List (Int × (Int × Int))) × Int))) → (List Bool) → (List Int) → (((List (Int × (Int × Bool))) × ((List (Int × (Int × Int))) × Int))) → (List Bool) → Option (List Int × ((List (Int × (Int × Bool))) × ((List (Int × (Int × Int))) × Int)) × List Bool)) (hself : SpecOK Try.prog (lmore_self self)) {z : List Int × ((List (Int × (Int × Bool))) × ((List (Int × (Int × Int))) × Int)) × List Bool} {E : EE} {Xc : Ctx} (hE : EOK lmore_B.m0 E) (hX : CxOK true Xc) (hret : RetOK Try.prog lmore_B E Xc z (some lmore_rt)) : LeafOK Try.prog lmore_B.c lmore_B.n lmore_B.m0 E Xc z (lmore_j1_k N self) := leaf_of_ev (B := lmore_B) (loops := [lmore_l1_L N self]) (leaves := []) (lmore_all N self hself) mixed ⟨lmore_l1_ok N self hself, trivial⟩ hE hX trivial hret (fun p => lmore_j1_eq N self p.1.1 p.1.2.1 p.1.2.2.1 p.1.2.2.2.1.1 p.2.1.1 p.2.2.1.1.2.2.1 p.2.2.1.1.2.2.2.1.1)
abbrev lmore_st : Sta := ⟨[0, 1, 2, 3, 4, 5], ⟨[.sl (.int .i64), .i .i64, .own 0 0, .fe (.ptr (.pair (.sl (.pair (.int .i64) (.pair (.int .i64) .bool))) (.pair (.sl (.pair (.int .i64) (.pair (.int .i64) (.int .i64)))) (.int .i64)))), .fz [.arr .bool 144], .own 1 0], [.segs [.sl (.int .i64)], .segs [.fn 127 [] [.own 0 0, .fe (.ptr (.pair (.sl (.pair (.int .i64) (.pair (.int .i64) .bool))) (.pair (.sl (.pair (.int .i64) (.pair (.int .i64) (.int .i64)))) (.int .i64)))), .fz [.arr .bool 144], .own 1 0]]]⟩⟩
theorem lmore_eq (N : Nat) (self : (List Int) → Int → (((List (Int × (Int × Bool))) × ((List (Int × (Int × Int))) × Int))) → (List Bool) → (List Int) → (((List (Int × (Int × Bool))) × ((List (Int × (Int × Int))) × Int))) → (List Bool) → Option (List Int × ((List (Int × (Int × Bool))) × ((List (Int × (Int × Int))) × Int)) × List Bool)) (l : List Int) (from_ : Int) (u : ((List (Int × (Int × Bool))) × ((List (Int × (Int × Int))) × Int))) (u2 : List Bool) (g : List Int) (g2 : ((List (Int × (Int × Bool))) × ((List (Int × (Int × Int))) × Int))) (g3 : List Bool) : ev (Z := List Int × ((List (Int × (Int × Bool))) × ((List (Int × (Int × Int))) × Int)) × List Bool) Try.prog (lmore_sp N self) lmore_B [lmore_l1_L N self] [lmore_j1_k N self] (some lmore_rt) 400 false [.c [0, 0], .c [0, 1], .c [1]] (stL lmore_st ((l, from_, (), u, (u2, ()), (), ()), ((g, ()), (((), ((), g2, (g3, ()), (), ())), ()), ()))) (stH lmore_st ((l, from_, (), u, (u2, ()), (), ()), ((g, ()), (((), ((), g2, (g3, ()), (), ())), ()), ()))) = lmore_S N self l from_ u u2 g g2 g3 := by kernel_rfl
theorem lmore_self_ok (N : Nat) (self : (List Int) → Int → (((List (Int × (Int × Bool))) × ((List (Int × (Int × Int))) × Int))) → (List Bool) → (List Int) → (((List (Int × (Int × Bool))) × ((List (Int × (Int × Int))) × Int))) → (List Bool) → Option (List Int × ((List (Int × (Int × Bool))) × ((List (Int × (Int × Int))) × Int)) × List Bool)) (hself : SpecOK Try.prog (lmore_self self)) : SpecOK Try.prog (lmore_self (lmore_S N self)) := fn_sound (B := lmore_B) (loops := [lmore_l1_L N self]) (leaves := [lmore_j1_k N self]) (fun p => lmore_S N self p.1.1 p.1.2.1 p.1.2.2.2.1 p.1.2.2.2.2.1.1 p.2.1.1 p.2.2.1.1.2.2.1 p.2.2.1.1.2.2.2.1.1) (fun r => ((), ((r.1, ()), (((), ((), r.2.1, (r.2.2, ()), (), ())), ()), ()))) lmore_rt (fun _ _ _ => rfl) (fun r z h => by cases h; rfl) Try.func127 (by kernel_rfl) (by kernel_rfl) (by kernel_rfl) rfl rfl (by kernel_rfl) (fun args w => Sem.pv_run _ _ _ (by kernel_rfl) w) (lmore_all N self hself) mixed ⟨lmore_l1_ok N self hself, trivial⟩ (fun z E Xc hE hX hret => ⟨lmore_j1_lf N self hself hE hX hret, trivial⟩) (fun p => lmore_eq N self p.1.1 p.1.2.1 p.1.2.2.2.1 p.1.2.2.2.2.1.1 p.2.1.1 p.2.2.1.1.2.2.1 p.2.2.1.1.2.2.2.1.1)
def lmore_R (N : Nat) : Nat → (List Int) → Int → (((List (Int × (Int × Bool))) × ((List (Int × (Int × Int))) × Int))) → (List Bool) → (List Int) → (((List (Int × (Int × Bool))) × ((List (Int × (Int × Int))) × Int))) → (List Bool) → Option (List Int × ((List (Int × (Int × Bool))) × ((List (Int × (Int × Int))) × Int)) × List Bool)
  | 0 => fun _ _ _ _ _ _ _ => none
  | n + 1 => lmore_S N (lmore_R N n)
theorem lmore_R_ok (N : Nat) : ∀ n, SpecOK Try.prog (lmore_self (lmore_R N n))
  | 0 => SpecOK.none (fun _ _ _ => rfl) (fun args w => Sem.pv_run _ _ _ (by kernel_rfl) w)
  | n + 1 => lmore_self_ok N (lmore_R N n) (lmore_R_ok N n)
noncomputable abbrev sp_lmore (N : Nat) : Spec := lmore_self (lmore_R N N)
theorem sp_lmore_ok (N : Nat) : SpecOK Try.prog (sp_lmore N) := lmore_R_ok N N

def lmore0_j2 (N : Nat) (rec : (((List (Int × (Int × Bool))) × ((List (Int × (Int × Int))) × Int))) → (List Bool) → (List Int) → (((List (Int × (Int × Bool))) × ((List (Int × (Int × Int))) × Int))) → (List Bool) → Int → Option (List Int × ((List (Int × (Int × Bool))) × ((List (Int × (Int × Int))) × Int)) × List Bool)) (u : ((List (Int × (Int × Bool))) × ((List (Int × (Int × Int))) × Int))) (u2 : List Bool) (g : List Int) (g2 : ((List (Int × (Int × Bool))) × ((List (Int × (Int × Int))) × Int))) (g3 : List Bool) (w : Int) : Option (List Int × ((List (Int × (Int × Bool))) × ((List (Int × (Int × Int))) × Int)) × List Bool) :=
  chk (w + 1) <|
  rec u u2 g g2 g3 (w + 1)
def lmore0_l1 (N : Nat) : Nat → (((List (Int × (Int × Bool))) × ((List (Int × (Int × Int))) × Int))) → (List Bool) → (List Int) → (((List (Int × (Int × Bool))) × ((List (Int × (Int × Int))) × Int))) → (List Bool) → Int → Option (List Int × ((List (Int × (Int × Bool))) × ((List (Int × (Int × Int))) × Int)) × List Bool)
  | 0, _, _, _, _, _, _ => none
  | n_ + 1, u, u2, g, g2, g3, w =>
    (end__S N u).bind fun x_1 =>
    br (decide (w < x_1))
      ((everyi4_S N [] u2 w).bind fun x_2 =>
      br x_2
        ((clonen_S N).bind fun _ =>
        chk (w + 1) <|
        (lmore_R N N [w] (w + 1) g2 g3 g g2 g3).bind fun (x_3, y_4, y_5) =>
        lmore0_j2 N (lmore0_l1 N n_) u u2 x_3 y_4 y_5 w)
        (lmore0_j2 N (lmore0_l1 N n_) u u2 g g2 g3 w))
      (some ((g, g2, g3)))
def lmore0_j1 (N : Nat) (from_ : Int) (u : ((List (Int × (Int × Bool))) × ((List (Int × (Int × Int))) × Int))) (u2 : List Bool) (g : List Int) (g2 : ((List (Int × (Int × Bool))) × ((List (Int × (Int × Int))) × Int))) (g3 : List Bool) : Option (List Int × ((List (Int × (Int × Bool))) × ((List (Int × (Int × Int))) × Int)) × List Bool) :=
  (lmore0_l1 N N u u2 g g2 g3 from_).bind fun (g_6, g2_7, g3_8) =>
  some (g_6, g2_7, g3_8)
def lmore0_S (N : Nat) (from_ : Int) (u : ((List (Int × (Int × Bool))) × ((List (Int × (Int × Int))) × Int))) (u2 : List Bool) (g : List Int) (g2 : ((List (Int × (Int × Bool))) × ((List (Int × (Int × Int))) × Int))) (g3 : List Bool) : Option (List Int × ((List (Int × (Int × Bool))) × ((List (Int × (Int × Int))) × Int)) × List Bool) :=
  br (decide ((g.length : Int) < 0))
    ((clonen_S N).bind fun _ =>
    lmore0_j1 N from_ u u2 [] g2 g3)
    (lmore0_j1 N from_ u u2 g g2 g3)
noncomputable def lmore0_sp (N : Nat) : List Spec := [sp_clonen N, sp_lmore N, sp_end_ N, sp_everyi4 N]
theorem lmore0_all (N : Nat) : AllP (SpecOK Try.prog) (lmore0_sp N) := ⟨sp_clonen_ok N, sp_lmore_ok N, sp_end__ok N, sp_everyi4_ok N, trivial⟩
noncomputable def lmore0_c : Code := (Try.f127.body).getD .skip
noncomputable abbrev lmore0_B : Body := { c := lmore0_c, n := 36, res := [], outs := [⟨[], [.segs [.sl (.int .i64)], .segs [.fn 127 [] [.own 0 0, .fe (.ptr (.pair (.sl (.pair (.int .i64) (.pair (.int .i64) .bool))) (.pair (.sl (.pair (.int .i64) (.pair (.int .i64) (.int .i64)))) (.int .i64)))), .fz [.arr .bool 144], .own 1 0]]]⟩], m0 := 2 }
abbrev lmore0_rt : altD lmore0_B.outs → Option (List Int × ((List (Int × (Int × Bool))) × ((List (Int × (Int × Int))) × Int)) × List Bool) := fun r => some (r.2.1.1, r.2.2.1.1.2.2.1, r.2.2.1.1.2.2.2.1.1)
abbrev lmore0_l1_at : List PI := [.c [1, 1, 0, 0, 0, 0], .c [1, 1, 0, 0, 0, 1], .c [1, 1, 0, 0, 1], .l [1, 1, 0, 0], .b 0]
abbrev lmore0_l1_st : Sta := ⟨[0, 3, 4, 5, 8], ⟨[.nils, .fe (.ptr (.pair (.sl (.pair (.int .i64) (.pair (.int .i64) .bool))) (.pair (.sl (.pair (.int .i64) (.pair (.int .i64) (.int .i64)))) (.int .i64)))), .fz [.arr .bool 144], .own 1 0, .own 2 0], [.segs [.sl (.int .i64)], .segs [.fn 127 [] [.own 0 0, .fe (.ptr (.pair (.sl (.pair (.int .i64) (.pair (.int .i64) .bool))) (.pair (.sl (.pair (.int .i64) (.pair (.int .i64) (.int .i64)))) (.int .i64)))), .fz [.arr .bool 144], .own 1 0]], .segs [.i .i64]]⟩⟩
abbrev lmore0_l1_h (rec : (((List (Int × (Int × Bool))) × ((List (Int × (Int × Int))) × Int))) → (List Bool) → (List Int) → (((List (Int × (Int × Bool))) × ((List (Int × (Int × Int))) × Int))) → (List Bool) → Int → Option (List Int × ((List (Int × (Int × Bool))) × ((List (Int × (Int × Int))) × Int)) × List Bool)) : Leaf (List Int × ((List (Int × (Int × Bool))) × ((List (Int × (Int × Int))) × Int)) × List Bool) := ⟨lmore0_l1_at, lmore0_l1_st, fun p => rec p.1.2.1 p.1.2.2.1.1 p.2.1.1 p.2.2.1.1.2.2.1 p.2.2.1.1.2.2.2.1.1 p.2.2.2.1.1⟩
abbrev lmore0_l1_e0 : Leaf (List Int × ((List (Int × (Int × Bool))) × ((List (Int × (Int × Int))) × Int)) × List Bool) := ⟨[], ⟨[], ⟨[], [.segs [.sl (.int .i64)], .segs [.fn 127 [] [.own 0 0, .fe (.ptr (.pair (.sl (.pair (.int .i64) (.pair (.int .i64) .bool))) (.pair (.sl (.pair (.int .i64) (.pair (.int .i64) (.int .i64)))) (.int .i64)))), .fz [.arr .bool 144], .own 1 0]]]⟩⟩, fun p => some ((p.2.1.1, p.2.2.1.1.2.2.1, p.2.2.1.1.2.2.2.1.1))⟩
abbrev lmore0_j2_at : List PI := [.c [1, 1, 0, 0, 1, 1, 0, 0], .c [1, 1, 0, 0, 1, 1, 0, 1], .c [1, 1, 0, 0, 1, 1, 1], .l [1, 1, 0, 0], .b 0]
abbrev lmore0_j2_st : Sta := ⟨[0, 3, 4, 5, 8], ⟨[.nils, .fe (.ptr (.pair (.sl (.pair (.int .i64) (.pair (.int .i64) .bool))) (.pair (.sl (.pair (.int .i64) (.pair (.int .i64) (.int .i64)))) (.int .i64)))), .fz [.arr .bool 144], .own 1 0, .own 2 0], [.segs [.sl (.int .i64)], .segs [.fn 127 [] [.own 0 0, .fe (.ptr (.pair (.sl (.pair (.int .i64) (.pair (.int .i64) .bool))) (.pair (.sl (.pair (.int .i64) (.pair (.int .i64) (.int .i64)))) (.int .i64)))), .fz [.arr .bool 144], .own 1 0]], .segs [.i .i64]]⟩⟩
abbrev lmore0_j2_k (N : Nat) (rec : (((List (Int × (Int × Bool))) × ((List (Int × (Int × Int))) × Int))) → (List Bool) → (List Int) → (((List (Int × (Int × Bool))) × ((List (Int × (Int × Int))) × Int))) → (List Bool) → Int → Option (List Int × ((List (Int × (Int × Bool))) × ((List (Int × (Int × Int))) × Int)) × List Bool)) : Leaf (List Int × ((List (Int × (Int × Bool))) × ((List (Int × (Int × Int))) × Int)) × List Bool) := ⟨lmore0_j2_at, lmore0_j2_st, fun p => lmore0_j2 N rec p.1.2.1 p.1.2.2.1.1 p.2.1.1 p.2.2.1.1.2.2.1 p.2.2.1.1.2.2.2.1.1 p.2.2.2.1.1⟩
theorem lmore0_j2_eq (N : Nat) (rec : (((List (Int × (Int × Bool))) × ((List (Int × (Int × Int))) × Int))) → (List Bool) → (List Int) → (((List (Int × (Int × Bool))) × ((List (Int × (Int × Int))) × Int))) → (List Bool) → Int → Option (List Int × ((List (Int × (Int × Bool))) × ((List (Int × (Int × Int))) × Int)) × List Bool)) (u : ((List (Int × (Int × Bool))) × ((List (Int × (Int × Int))) × Int))) (u2 : List Bool) (g : List Int) (g2 : ((List (Int × (Int × Bool))) × ((List (Int × (Int × Int))) × Int))) (g3 : List Bool) (w : Int) : ev (Z := List Int × ((List (Int × (Int × Bool))) × ((List (Int × (Int × Int))) × Int)) × List Bool) Try.prog (lmore0_sp N) lmore0_B [] [lmore0_l1_h rec, lmore0_l1_e0] none 400 true lmore0_j2_at (stL lmore0_j2_st (((), u, (u2, ()), (), (), ()), ((g, ()), (((), ((), g2, (g3, ()), (), ())), ()), (w, ()), ()))) (stH lmore0_j2_st (((), u, (u2, ()), (), (), ()), ((g, ()), (((), ((), g2, (g3, ()), (), ())), ()), (w, ()), ()))) = lmore0_j2 N rec u u2 g g2 g3 w := by kernel_rfl
theorem lmore0_j2_lf (N : Nat) (rec : (((List (Int × (Int × Bool))) × ((List (Int × (Int × Int))) × Int))) → (List Bool) → (List Int) → (((List (Int × (Int × Bool))) × ((List (Int × (Int × Int))) × Int))) → (List Bool) → Int → Option (List Int × ((List (Int × (Int × Bool))) × ((List (Int × (Int × Int))) × Int)) × List Bool)) {z : List Int × ((List (Int × (Int × Bool))) × ((List (Int × (Int × Int))) × Int)) × List Bool} {top : Bool} {E : EE} {Xc : Ctx} (hE : EOK lmore0_B.m0 E) (hX : CxOK top Xc) (hrec : LeafOK Try.prog lmore0_B.c lmore0_B.n lmore0_B.m0 E Xc z (lmore0_l1_h rec)) (h0 : LeafOK Try.prog lmore0_B.c lmore0_B.n lmore0_B.m0 E Xc z lmore0_l1_e0) : LeafOK Try.prog lmore0_B.c lmore0_B.n lmore0_B.m0 E Xc z (lmore0_j2_k N rec) := leaf_of_ev (B := lmore0_B) (loops := []) (leaves := [lmore0_l1_h rec, lmore0_l1_e0]) (lmore0_all N) mixed trivial hE hX ⟨hrec, h0, trivial⟩ RetOK.no (fun p => lmore0_j2_eq N rec p.1.2.1 p.1.2.2.1.1 p.2.1.1 p.2.2.1.1.2.2.1 p.2.2.1.1.2.2.2.1.1 p.2.2.2.1.1)
noncomputable def lmore0_l1_L (N : Nat) : LoopS := { at_ := lmore0_l1_at, sta := lmore0_l1_st, exits := [([], ⟨[], ⟨[], [.segs [.sl (.int .i64)], .segs [.fn 127 [] [.own 0 0, .fe (.ptr (.pair (.sl (.pair (.int .i64) (.pair (.int .i64) .bool))) (.pair (.sl (.pair (.int .i64) (.pair (.int .i64) (.int .i64)))) (.int .i64)))), .fz [.arr .bool 144], .own 1 0]]]⟩⟩)], run := fun p k => (lmore0_l1 N N p.1.2.1 p.1.2.2.1.1 p.2.1.1 p.2.2.1.1.2.2.1 p.2.2.1.1.2.2.2.1.1 p.2.2.2.1.1).bind fun e => k (.inl ((), ((e.1, ()), (((), ((), e.2.1, (e.2.2, ()), (), ())), ()), ()))) }
theorem lmore0_l1_eq (N n_ : Nat) (u : ((List (Int × (Int × Bool))) × ((List (Int × (Int × Int))) × Int))) (u2 : List Bool) (g : List Int) (g2 : ((List (Int × (Int × Bool))) × ((List (Int × (Int × Int))) × Int))) (g3 : List Bool) (w : Int) : ev (Z := List Int × ((List (Int × (Int × Bool))) × ((List (Int × (Int × Int))) × Int)) × List Bool) Try.prog (lmore0_sp N) lmore0_B [] [lmore0_l1_h (lmore0_l1 N n_), lmore0_l1_e0, lmore0_j2_k N (lmore0_l1 N n_)] none 400 true lmore0_l1_at (stL lmore0_l1_st (((), u, (u2, ()), (), (), ()), ((g, ()), (((), ((), g2, (g3, ()), (), ())), ()), (w, ()), ()))) (stH lmore0_l1_st (((), u, (u2, ()), (), (), ()), ((g, ()), (((), ((), g2, (g3, ()), (), ())), ()), (w, ()), ()))) = lmore0_l1 N (n_ + 1) u u2 g g2 g3 w := by kernel_rfl
theorem lmore0_l1_ok (N : Nat) {top : Bool} : LoopOK Try.prog lmore0_B.c lmore0_B.n lmore0_B.m0 top (lmore0_l1_L N) := loop_of_ev (Z := List Int × ((List (Int × (Int × Bool))) × ((List (Int × (Int × Int))) × Int)) × List Bool) (N := N) (fun m p => lmore0_l1 N m p.1.2.1 p.1.2.2.1.1 p.2.1.1 p.2.2.1.1.2.2.1 p.2.2.1.1.2.2.2.1.1 p.2.2.2.1.1) (fun e => .inl ((), ((e.1, ()), (((), ((), e.2.1, (e.2.2, ()), (), ())), ()), ()))) (fun _ _ _ => rfl) (fun _ => rfl) (fun m z E Xc hE hX hrec hx => leaf_of_ev (B := lmore0_B) (loops := []) (leaves := [lmore0_l1_h (lmore0_l1 N m), lmore0_l1_e0, lmore0_j2_k N (lmore0_l1 N m)]) (lmore0_all N) mixed trivial hE hX ⟨hrec, (fun p hp => by obtain rfl := Option.some.inj hp; exact hx), lmore0_j2_lf N _ hE hX hrec (fun p hp => by obtain rfl := Option.some.inj hp; exact hx), trivial⟩ RetOK.no (fun p => lmore0_l1_eq N m p.1.2.1 p.1.2.2.1.1 p.2.1.1 p.2.2.1.1.2.2.1 p.2.2.1.1.2.2.2.1.1 p.2.2.2.1.1))
abbrev lmore0_j1_at : List PI := [.c [1, 0], .c [1, 1]]
abbrev lmore0_j1_st : Sta := ⟨[0, 1, 3, 4, 5], ⟨[.nils, .i .i64, .fe (.ptr (.pair (.sl (.pair (.int .i64) (.pair (.int .i64) .bool))) (.pair (.sl (.pair (.int .i64) (.pair (.int .i64) (.int .i64)))) (.int .i64)))), .fz [.arr .bool 144], .own 1 0], [.segs [.sl (.int .i64)], .segs [.fn 127 [] [.own 0 0, .fe (.ptr (.pair (.sl (.pair (.int .i64) (.pair (.int .i64) .bool))) (.pair (.sl (.pair (.int .i64) (.pair (.int .i64) (.int .i64)))) (.int .i64)))), .fz [.arr .bool 144], .own 1 0]]]⟩⟩
abbrev lmore0_j1_k (N : Nat) : Leaf (List Int × ((List (Int × (Int × Bool))) × ((List (Int × (Int × Int))) × Int)) × List Bool) := ⟨lmore0_j1_at, lmore0_j1_st, fun p => lmore0_j1 N p.1.2.1 p.1.2.2.1 p.1.2.2.2.1.1 p.2.1.1 p.2.2.1.1.2.2.1 p.2.2.1.1.2.2.2.1.1⟩
theorem lmore0_j1_eq (N : Nat) (from_ : Int) (u : ((List (Int × (Int × Bool))) × ((List (Int × (Int × Int))) × Int))) (u2 : List Bool) (g : List Int) (g2 : ((List (Int × (Int × Bool))) × ((List (Int × (Int × Int))) × Int))) (g3 : List Bool) : ev (Z := List Int × ((List (Int × (Int × Bool))) × ((List (Int × (Int × Int))) × Int)) × List Bool) Try.prog (lmore0_sp N) lmore0_B [lmore0_l1_L N] [] (some lmore0_rt) 400 true lmore0_j1_at (stL lmore0_j1_st (((), from_, u, (u2, ()), (), ()), ((g, ()), (((), ((), g2, (g3, ()), (), ())), ()), ()))) (stH lmore0_j1_st (((), from_, u, (u2, ()), (), ()), ((g, ()), (((), ((), g2, (g3, ()), (), ())), ()), ()))) = lmore0_j1 N from_ u u2 g g2 g3 := by kernel_rfl
theorem lmore0_j1_lf (N : Nat) {z : List Int × ((List (Int × (Int × Bool))) × ((List (Int × (Int × Int))) × Int)) × List Bool} {E : EE} {Xc : Ctx} (hE : EOK lmore0_B.m0 E) (hX : CxOK true Xc) (hret : RetOK Try.prog lmore0_B E Xc z (some lmore0_rt)) : LeafOK Try.prog lmore0_B.c lmore0_B.n lmore0_B.m0 E Xc z (lmore0_j1_k N) := leaf_of_ev (B := lmore0_B) (loops := [lmore0_l1_L N]) (leaves := []) (lmore0_all N) mixed ⟨lmore0_l1_ok N, trivial⟩ hE hX trivial hret (fun p => lmore0_j1_eq N p.1.2.1 p.1.2.2.1 p.1.2.2.2.1.1 p.2.1.1 p.2.2.1.1.2.2.1 p.2.2.1.1.2.2.2.1.1)
abbrev lmore0_st : Sta := ⟨[0, 1, 2, 3, 4, 5], ⟨[.nils, .i .i64, .own 0 0, .fe (.ptr (.pair (.sl (.pair (.int .i64) (.pair (.int .i64) .bool))) (.pair (.sl (.pair (.int .i64) (.pair (.int .i64) (.int .i64)))) (.int .i64)))), .fz [.arr .bool 144], .own 1 0], [.segs [.sl (.int .i64)], .segs [.fn 127 [] [.own 0 0, .fe (.ptr (.pair (.sl (.pair (.int .i64) (.pair (.int .i64) .bool))) (.pair (.sl (.pair (.int .i64) (.pair (.int .i64) (.int .i64)))) (.int .i64)))), .fz [.arr .bool 144], .own 1 0]]]⟩⟩
theorem lmore0_eq (N : Nat) (from_ : Int) (u : ((List (Int × (Int × Bool))) × ((List (Int × (Int × Int))) × Int))) (u2 : List Bool) (g : List Int) (g2 : ((List (Int × (Int × Bool))) × ((List (Int × (Int × Int))) × Int))) (g3 : List Bool) : ev (Z := List Int × ((List (Int × (Int × Bool))) × ((List (Int × (Int × Int))) × Int)) × List Bool) Try.prog (lmore0_sp N) lmore0_B [lmore0_l1_L N] [lmore0_j1_k N] (some lmore0_rt) 400 false [.c [0, 0], .c [0, 1], .c [1]] (stL lmore0_st (((), from_, (), u, (u2, ()), (), ()), ((g, ()), (((), ((), g2, (g3, ()), (), ())), ()), ()))) (stH lmore0_st (((), from_, (), u, (u2, ()), (), ()), ((g, ()), (((), ((), g2, (g3, ()), (), ())), ()), ()))) = lmore0_S N from_ u u2 g g2 g3 := by kernel_rfl
noncomputable def sp_lmore0 (N : Nat) : Spec := { f := 127, ins := ⟨[.nils, .i .i64, .own 0 0, .fe (.ptr (.pair (.sl (.pair (.int .i64) (.pair (.int .i64) .bool))) (.pair (.sl (.pair (.int .i64) (.pair (.int .i64) (.int .i64)))) (.int .i64)))), .fz [.arr .bool 144], .own 1 0], [.segs [.sl (.int .i64)], .segs [.fn 127 [] [.own 0 0, .fe (.ptr (.pair (.sl (.pair (.int .i64) (.pair (.int .i64) .bool))) (.pair (.sl (.pair (.int .i64) (.pair (.int .i64) (.int .i64)))) (.int .i64)))), .fz [.arr .bool 144], .own 1 0]]]⟩, outs := [⟨[], [.segs [.sl (.int .i64)], .segs [.fn 127 [] [.own 0 0, .fe (.ptr (.pair (.sl (.pair (.int .i64) (.pair (.int .i64) .bool))) (.pair (.sl (.pair (.int .i64) (.pair (.int .i64) (.int .i64)))) (.int .i64)))), .fz [.arr .bool 144], .own 1 0]]]⟩], run := fun p k => (lmore0_S N p.1.2.1 p.1.2.2.2.1 p.1.2.2.2.2.1.1 p.2.1.1 p.2.2.1.1.2.2.1 p.2.2.1.1.2.2.2.1.1).bind fun r => k ((), ((r.1, ()), (((), ((), r.2.1, (r.2.2, ()), (), ())), ()), ())) }
theorem sp_lmore0_ok (N : Nat) : SpecOK Try.prog (sp_lmore0 N) := fn_sound (B := lmore0_B) (loops := [lmore0_l1_L N]) (leaves := [lmore0_j1_k N]) (fun p => lmore0_S N p.1.2.1 p.1.2.2.2.1 p.1.2.2.2.2.1.1 p.2.1.1 p.2.2.1.1.2.2.1 p.2.2.1.1.2.2.2.1.1) (fun r => ((), ((r.1, ()), (((), ((), r.2.1, (r.2.2, ()), (), ())), ()), ()))) lmore0_rt (fun _ _ _ => rfl) (fun r z h => by cases h; rfl) Try.func127 (by kernel_rfl) (by kernel_rfl) (by kernel_rfl) rfl rfl (by kernel_rfl) (fun args w => Sem.pv_run _ _ _ (by kernel_rfl) w) (lmore0_all N) mixed ⟨lmore0_l1_ok N, trivial⟩ (fun z E Xc hE hX hret => ⟨lmore0_j1_lf N hE hX hret, trivial⟩) (fun p => lmore0_eq N p.1.2.1 p.1.2.2.2.1 p.1.2.2.2.2.1.1 p.2.1.1 p.2.2.1.1.2.2.1 p.2.2.1.1.2.2.2.1.1)

def lone_l4 (N : Nat) : Nat → Int → Int → Int → Int → (((List (Int × (Int × Bool))) × ((List (Int × (Int × Int))) × Int))) → (List Bool) → Int → Option (Int × Int × Int × ((List (Int × (Int × Bool))) × ((List (Int × (Int × Int))) × Int)) × List Bool × Int)
  | 0, _, _, _, _, _, _, _ => none
  | n_ + 1, u, to, a, b, g, joined, g2 =>
    br (decide (b < to))
      (rng a 12 <|
      rng b 12 <|
      get joined ((a.toNat * 12) + b.toNat) fun _ =>
      chk (b + 1) <|
      lone_l4 N n_ u to a (b + 1) g (joined.set ((a.toNat * 12) + b.toNat) true) g2)
      (some ((u, to, a, g, joined, g2)))
def lone_l3 (N : Nat) : Nat → Int → Int → Int → (((List (Int × (Int × Bool))) × ((List (Int × (Int × Int))) × Int))) → (List Bool) → Int → Option (Int × ((List (Int × (Int × Bool))) × ((List (Int × (Int × Int))) × Int)) × List Bool × Int)
  | 0, _, _, _, _, _, _ => none
  | n_ + 1, u, to, a, g, joined, g2 =>
    br (decide (a < to))
      (chk (a + 1) <|
      (lone_l4 N N u to a (a + 1) g joined g2).bind fun (u_7, to_8, a_9, g_10, joined_11, g2_12) =>
      chk (a_9 + 1) <|
      lone_l3 N n_ u_7 to_8 (a_9 + 1) g_10 joined_11 g2_12)
      (some ((u, g, joined, g2)))
def lone_l2_b (N : Nat) (rec : (((List (Int × (Int × Bool))) × ((List (Int × (Int × Int))) × Int))) → (List Bool) → Int → Option (Int × Int × Int × ((List (Int × (Int × Bool))) × ((List (Int × (Int × Int))) × Int)) × List Bool)) (u : Int) (u2 : Int) (u3 : Int) (u4 : Int) (u5 : ((List (Int × (Int × Bool))) × ((List (Int × (Int × Int))) × Int))) (u' : Int) (to' : Int) (g' : ((List (Int × (Int × Bool))) × ((List (Int × (Int × Int))) × Int))) (joined' : List Bool) (from_' : Int) : Option (Int × Int × Int × ((List (Int × (Int × Bool))) × ((List (Int × (Int × Int))) × Int)) × List Bool) :=
  (lone_l3 N N u' to' from_' g' joined' from_').bind fun (u_13, g_14, g2_15, g3_16) =>
  rec g_14 g2_15 g3_16
def lone_l2 (N : Nat) : List (Int × Unit) → Int → Int → Int → Int → (((List (Int × (Int × Bool))) × ((List (Int × (Int × Int))) × Int))) → (((List (Int × (Int × Bool))) × ((List (Int × (Int × Int))) × Int))) → (List Bool) → Int → Option (Int × Int × Int × ((List (Int × (Int × Bool))) × ((List (Int × (Int × Int))) × Int)) × List Bool)
  | [], u, u2, u3, u4, u5, d, joined, from_ =>
    some ((u, u2, u3, d, joined))
  | e :: es, u, u2, u3, u4, u5, d, joined, from_ =>
    lone_l2_b N (fun d_ joined_ from__ => lone_l2 N es u u2 u3 u4 u5 d_ joined_ from__) u u2 u3 u4 u5 u e.1 d joined from_
def lone_l1 (N : Nat) : Nat → Int → Int → Int → (((List (Int × (Int × Bool))) × ((List (Int × (Int × Int))) × Int))) → (List Bool) → Option (((List (Int × (Int × Bool))) × ((List (Int × (Int × Int))) × Int)) × List Bool)
  | 0, _, _, _, _, _ => none
  | n_ + 1, u, u2, u3, d, joined =>
    br (decide (u3 < u2))
      ((breaths_S N d u3).bind fun (x_4, y_5) =>
      ((breathsR x_4 y_5).bind fun es => lone_l2 N es u u2 u3 x_4 y_5 d joined u3).bind fun (u_17, u2_18, u3_19, d_20, joined_21) =>
      chk (u3_19 + 1) <|
      lone_l1 N n_ u_17 u2_18 (u3_19 + 1) d_20 joined_21)
      (some ((d, joined)))
def lone_S (N : Nat) (t : List (Int × (Int × Bool))) (t2 : List (Int × (Int × Int))) (t3 : Int) : Option (List Int × Int) :=
  ((opened_S N t t2 t3).bind fun e => match e with
  | .inl (x_1, y_2) =>
    (br (!decide (y_2 = 0))
      (some ([], y_2))
      ((end__S N x_1).bind fun x_3 =>
      (lone_l1 N N 0 x_3 0 x_1 (List.replicate 144 (false : Bool))).bind fun (d_22, joined_23) =>
      (lmore0_S N 0 d_22 joined_23 [] d_22 joined_23).bind fun (x_24, y_25, y_26) =>
      some (x_24, 0)))
  | .inr x_27 =>
    (br (!decide (x_27 = 0))
      (some ([], x_27))
      (none)))
noncomputable def lone_sp (N : Nat) : List Spec := [sp_lmore0 N, sp_opened N, sp_end_ N, sp_breaths N]
theorem lone_all (N : Nat) : AllP (SpecOK Try.prog) (lone_sp N) := ⟨sp_lmore0_ok N, sp_opened_ok N, sp_end__ok N, sp_breaths_ok N, trivial⟩
noncomputable def lone_c : Code := (Try.f63.body).getD .skip
noncomputable abbrev lone_B : Body := { c := lone_c, n := 52, res := [.tmp 2, .tmp 3], outs := [⟨[.sl (.int .i64), .i .i64], []⟩], m0 := 0 }
abbrev lone_rt : altD lone_B.outs → Option (List Int × Int) := fun r => some (r.1.1, r.1.2.1)
noncomputable abbrev lone_l2_Bk : Body := { c := lone_c, n := lone_B.n, res := lone_B.res, outs := lone_B.outs, m0 := 3 }
abbrev lone_l4_at : List PI := [.c [1, 1, 1, 1, 0, 1, 0, 0, 1, 1, 0, 0, 1, 1, 0, 1, 0, 1, 0, 0, 1, 0, 0, 1, 0, 0, 0, 0], .c [1, 1, 1, 1, 0, 1, 0, 0, 1, 1, 0, 0, 1, 1, 0, 1, 0, 1, 0, 0, 1, 0, 0, 1, 0, 0, 0, 1], .c [1, 1, 1, 1, 0, 1, 0, 0, 1, 1, 0, 0, 1, 1, 0, 1, 0, 1, 0, 0, 1, 0, 0, 1, 0, 0, 1], .l [1, 1, 1, 1, 0, 1, 0, 0, 1, 1, 0, 0, 1, 1, 0, 1, 0, 1, 0, 0, 1, 0, 0, 1, 0, 0], .b 6, .b 5, .c [1, 1, 1, 1, 0, 1, 0, 0, 1, 1, 0, 0, 1, 1, 0, 1, 0, 1, 0, 0, 1, 1], .l [1, 1, 1, 1, 0, 1, 0, 0, 1, 1, 0, 0, 1, 1, 0, 1, 0, 1, 0, 0], .b 4, .b 3]
abbrev lone_l4_st : Sta := ⟨[2, 3, 6, 8, 9, 10], ⟨[.nils, .i .i64, .own 1 0, .i .i64, .i .i64, .i .i64], [.segs [.fe (.pair (.sl (.pair (.int .i64) (.pair (.int .i64) .bool))) (.pair (.sl (.pair (.int .i64) (.pair (.int .i64) (.int .i64)))) (.int .i64)))], .segs [.arr .bool 144], .segs [.i .i64]]⟩⟩
abbrev lone_l4_h (rec : Int → Int → Int → Int → (((List (Int × (Int × Bool))) × ((List (Int × (Int × Int))) × Int))) → (List Bool) → Int → Option (Int × Int × Int × ((List (Int × (Int × Bool))) × ((List (Int × (Int × Int))) × Int)) × List Bool × Int)) : Leaf (Int × Int × Int × ((List (Int × (Int × Bool))) × ((List (Int × (Int × Int))) × Int)) × List Bool × Int) := ⟨lone_l4_at, lone_l4_st, fun p => rec p.1.2.1 p.1.2.2.2.1 p.1.2.2.2.2.1 p.1.2.2.2.2.2.1 p.2.1.1 p.2.2.1.1 p.2.2.2.1.1⟩
abbrev lone_l4_e0 : Leaf (Int × Int × Int × ((List (Int × (Int × Bool))) × ((List (Int × (Int × Int))) × Int)) × List Bool × Int) := ⟨[.c [1, 1, 1, 1, 0, 1, 0, 0, 1, 1, 0, 0, 1, 1, 0, 1, 0, 1, 0, 0, 1, 1], .l [1, 1, 1, 1, 0, 1, 0, 0, 1, 1, 0, 0, 1, 1, 0, 1, 0, 1, 0, 0], .b 4, .b 3], ⟨[2, 3, 6, 8, 9], ⟨[.nils, .i .i64, .own 1 0, .i .i64, .i .i64], [.segs [.fe (.pair (.sl (.pair (.int .i64) (.pair (.int .i64) .bool))) (.pair (.sl (.pair (.int .i64) (.pair (.int .i64) (.int .i64)))) (.int .i64)))], .segs [.arr .bool 144], .segs [.i .i64]]⟩⟩, fun p => some ((p.1.2.1, p.1.2.2.2.1, p.1.2.2.2.2.1, p.2.1.1, p.2.2.1.1, p.2.2.2.1.1))⟩
noncomputable def lone_l4_L (N : Nat) : LoopS := { at_ := lone_l4_at, sta := lone_l4_st, exits := [([.c [1, 1, 1, 1, 0, 1, 0, 0, 1, 1, 0, 0, 1, 1, 0, 1, 0, 1, 0, 0, 1, 1], .l [1, 1, 1, 1, 0, 1, 0, 0, 1, 1, 0, 0, 1, 1, 0, 1, 0, 1, 0, 0], .b 4, .b 3], ⟨[2, 3, 6, 8, 9], ⟨[.nils, .i .i64, .own 1 0, .i .i64, .i .i64], [.segs [.fe (.pair (.sl (.pair (.int .i64) (.pair (.int .i64) .bool))) (.pair (.sl (.pair (.int .i64) (.pair (.int .i64) (.int .i64)))) (.int .i64)))], .segs [.arr .bool 144], .segs [.i .i64]]⟩⟩)], run := fun p k => (lone_l4 N N p.1.2.1 p.1.2.2.2.1 p.1.2.2.2.2.1 p.1.2.2.2.2.2.1 p.2.1.1 p.2.2.1.1 p.2.2.2.1.1).bind fun e => k (.inl (((), e.1, (), e.2.1, e.2.2.1, ()), ((e.2.2.2.1, ()), (e.2.2.2.2.1, ()), (e.2.2.2.2.2, ()), ()))) }
theorem lone_l4_eq (N n_ : Nat) (u : Int) (to : Int) (a : Int) (b : Int) (g : ((List (Int × (Int × Bool))) × ((List (Int × (Int × Int))) × Int))) (joined : List Bool) (g2 : Int) : ev (Z := Int × Int × Int × ((List (Int × (Int × Bool))) × ((List (Int × (Int × Int))) × Int)) × List Bool × Int) Try.prog (lone_sp N) lone_l2_Bk [] [lone_l4_h (lone_l4 N n_), lone_l4_e0] none 400 true lone_l4_at (stL lone_l4_st (((), u, (), to, a, b, ()), ((g, ()), (joined, ()), (g2, ()), ()))) (stH lone_l4_st (((), u, (), to, a, b, ()), ((g, ()), (joined, ()), (g2, ()), ()))) = lone_l4 N (n_ + 1) u to a b g joined g2 := by kernel_rfl
theorem lone_l4_ok (N : Nat) {top : Bool} : LoopOK Try.prog lone_l2_Bk.c lone_l2_Bk.n lone_l2_Bk.m0 top (lone_l4_L N) := loop_of_ev (Z := Int × Int × Int × ((List (Int × (Int × Bool))) × ((List (Int × (Int × Int))) × Int)) × List Bool × Int) (N := N) (fun m p => lone_l4 N m p.1.2.1 p.1.2.2.2.1 p.1.2.2.2.2.1 p.1.2.2.2.2.2.1 p.2.1.1 p.2.2.1.1 p.2.2.2.1.1) (fun e => .inl (((), e.1, (), e.2.1, e.2.2.1, ()), ((e.2.2.2.1, ()), (e.2.2.2.2.1, ()), (e.2.2.2.2.2, ()), ()))) (fun _ _ _ => rfl) (fun _ => rfl) (fun m z E Xc hE hX hrec hx => leaf_of_ev (B := lone_l2_Bk) (loops := []) (leaves := [lone_l4_h (lone_l4 N m), lone_l4_e0]) (lone_all N) mixed trivial hE hX ⟨hrec, (fun p hp => by obtain rfl := Option.some.inj hp; exact hx), trivial⟩ RetOK.no (fun p => lone_l4_eq N m p.1.2.1 p.1.2.2.2.1 p.1.2.2.2.2.1 p.1.2.2.2.2.2.1 p.2.1.1 p.2.2.1.1 p.2.2.2.1.1))
abbrev lone_l3_at : List PI := [.c [1, 1, 1, 1, 0, 1, 0, 0, 1, 1, 0, 0, 1, 1, 0, 1, 0, 1, 0, 0, 0, 0], .c [1, 1, 1, 1, 0, 1, 0, 0, 1, 1, 0, 0, 1, 1, 0, 1, 0, 1, 0, 0, 0, 1], .c [1, 1, 1, 1, 0, 1, 0, 0, 1, 1, 0, 0, 1, 1, 0, 1, 0, 1, 0, 0, 1], .l [1, 1, 1, 1, 0, 1, 0, 0, 1, 1, 0, 0, 1, 1, 0, 1, 0, 1, 0, 0], .b 4, .b 3]
abbrev lone_l3_st : Sta := ⟨[2, 3, 6, 8, 9], ⟨[.nils, .i .i64, .own 1 0, .i .i64, .i .i64], [.segs [.fe (.pair (.sl (.pair (.int .i64) (.pair (.int .i64) .bool))) (.pair (.sl (.pair (.int .i64) (.pair (.int .i64) (.int .i64)))) (.int .i64)))], .segs [.arr .bool 144], .segs [.i .i64]]⟩⟩
abbrev lone_l3_h (rec : Int → Int → Int → (((List (Int × (Int × Bool))) × ((List (Int × (Int × Int))) × Int))) → (List Bool) → Int → Option (Int × ((List (Int × (Int × Bool))) × ((List (Int × (Int × Int))) × Int)) × List Bool × Int)) : Leaf (Int × ((List (Int × (Int × Bool))) × ((List (Int × (Int × Int))) × Int)) × List Bool × Int) := ⟨lone_l3_at, lone_l3_st, fun p => rec p.1.2.1 p.1.2.2.2.1 p.1.2.2.2.2.1 p.2.1.1 p.2.2.1.1 p.2.2.2.1.1⟩
abbrev lone_l3_e0 : Leaf (Int × ((List (Int × (Int × Bool))) × ((List (Int × (Int × Int))) × Int)) × List Bool × Int) := ⟨[], ⟨[2, 3], ⟨[.nils, .i .i64], [.segs [.fe (.pair (.sl (.pair (.int .i64) (.pair (.int .i64) .bool))) (.pair (.sl (.pair (.int .i64) (.pair (.int .i64) (.int .i64)))) (.int .i64)))], .segs [.arr .bool 144], .segs [.i .i64]]⟩⟩, fun p => some ((p.1.2.1, p.2.1.1, p.2.2.1.1, p.2.2.2.1.1))⟩
noncomputable def lone_l3_L (N : Nat) : LoopS := { at_ := lone_l3_at, sta := lone_l3_st, exits := [([], ⟨[2, 3], ⟨[.nils, .i .i64], [.segs [.fe (.pair (.sl (.pair (.int .i64) (.pair (.int .i64) .bool))) (.pair (.sl (.pair (.int .i64) (.pair (.int .i64) (.int .i64)))) (.int .i64)))], .segs [.arr .bool 144], .segs [.i .i64]]⟩⟩)], run := fun p k => (lone_l3 N N p.1.2.1 p.1.2.2.2.1 p.1.2.2.2.2.1 p.2.1.1 p.2.2.1.1 p.2.2.2.1.1).bind fun e => k (.inl (((), e.1, ()), ((e.2.1, ()), (e.2.2.1, ()), (e.2.2.2, ()), ()))) }
theorem lone_l3_eq (N n_ : Nat) (u : Int) (to : Int) (a : Int) (g : ((List (Int × (Int × Bool))) × ((List (Int × (Int × Int))) × Int))) (joined : List Bool) (g2 : Int) : ev (Z := Int × ((List (Int × (Int × Bool))) × ((List (Int × (Int × Int))) × Int)) × List Bool × Int) Try.prog (lone_sp N) lone_l2_Bk [lone_l4_L N] [lone_l3_h (lone_l3 N n_), lone_l3_e0] none 400 true lone_l3_at (stL lone_l3_st (((), u, (), to, a, ()), ((g, ()), (joined, ()), (g2, ()), ()))) (stH lone_l3_st (((), u, (), to, a, ()), ((g, ()), (joined, ()), (g2, ()), ()))) = lone_l3 N (n_ + 1) u to a g joined g2 := by kernel_rfl
theorem lone_l3_ok (N : Nat) {top : Bool} : LoopOK Try.prog lone_l2_Bk.c lone_l2_Bk.n lone_l2_Bk.m0 top (lone_l3_L N) := loop_of_ev (Z := Int × ((List (Int × (Int × Bool))) × ((List (Int × (Int × Int))) × Int)) × List Bool × Int) (N := N) (fun m p => lone_l3 N m p.1.2.1 p.1.2.2.2.1 p.1.2.2.2.2.1 p.2.1.1 p.2.2.1.1 p.2.2.2.1.1) (fun e => .inl (((), e.1, ()), ((e.2.1, ()), (e.2.2.1, ()), (e.2.2.2, ()), ()))) (fun _ _ _ => rfl) (fun _ => rfl) (fun m z E Xc hE hX hrec hx => leaf_of_ev (B := lone_l2_Bk) (loops := [lone_l4_L N]) (leaves := [lone_l3_h (lone_l3 N m), lone_l3_e0]) (lone_all N) mixed ⟨lone_l4_ok N, trivial⟩ hE hX ⟨hrec, (fun p hp => by obtain rfl := Option.some.inj hp; exact hx), trivial⟩ RetOK.no (fun p => lone_l3_eq N m p.1.2.1 p.1.2.2.2.1 p.1.2.2.2.2.1 p.2.1.1 p.2.2.1.1 p.2.2.2.1.1))
abbrev lone_l2_st : Sta := ⟨[2, 3, 4, 6, 7, 22, 23, 28], ⟨[.nils, .i .i64, .own 0 0, .own 1 0, .own 2 0, .i .i64, .i .i64, .fn 143 [] [.fe (.int .i64), .fe (.ptr (.pair (.sl (.pair (.int .i64) (.pair (.int .i64) .bool))) (.pair (.sl (.pair (.int .i64) (.pair (.int .i64) (.int .i64)))) (.int .i64))))]], [.segs [.fe (.pair (.sl (.pair (.int .i64) (.pair (.int .i64) .bool))) (.pair (.sl (.pair (.int .i64) (.pair (.int .i64) (.int .i64)))) (.int .i64)))], .segs [.arr .bool 144], .segs [.i .i64]]⟩⟩
abbrev lone_l2_stA : Sta := ⟨[2, 3, 6, 7, 8], ⟨[.nils, .i .i64, .own 1 0, .own 2 0, .i .i64], [.segs [.fe (.pair (.sl (.pair (.int .i64) (.pair (.int .i64) .bool))) (.pair (.sl (.pair (.int .i64) (.pair (.int .i64) (.int .i64)))) (.int .i64)))], .segs [.arr .bool 144], .segs [.i .i64]]⟩⟩
abbrev lone_l2_e0 : Leaf (Int × Int × Int × ((List (Int × (Int × Bool))) × ((List (Int × (Int × Int))) × Int)) × List Bool) := ⟨[.c [1, 1, 1, 1, 0, 1, 0, 0, 1, 1, 1], .l [1, 1, 1, 1, 0, 1, 0, 0], .b 0, .c [1, 1, 1, 1, 1]], ⟨[2, 3, 4, 6, 22, 23], ⟨[.nils, .i .i64, .own 0 0, .own 1 0, .i .i64, .i .i64], [.segs [.fe (.pair (.sl (.pair (.int .i64) (.pair (.int .i64) .bool))) (.pair (.sl (.pair (.int .i64) (.pair (.int .i64) (.int .i64)))) (.int .i64)))], .segs [.arr .bool 144]]⟩⟩, fun p => some ((p.1.2.1, p.1.2.2.2.2.1, p.1.2.2.2.2.2.1, p.2.1.1, p.2.2.1.1))⟩
noncomputable def lone_l2_L (N : Nat) : LoopS := { at_ := [.c [1, 1, 1, 1, 0, 1, 0, 0, 1, 1, 0, 0, 1, 1, 0], .b 2, .b 1, .c [1, 1, 1, 1, 0, 1, 0, 0, 1, 1, 1], .l [1, 1, 1, 1, 0, 1, 0, 0], .b 0, .c [1, 1, 1, 1, 1]], sta := lone_l2_st, exits := [([.c [1, 1, 1, 1, 0, 1, 0, 0, 1, 1, 1], .l [1, 1, 1, 1, 0, 1, 0, 0], .b 0, .c [1, 1, 1, 1, 1]], ⟨[2, 3, 4, 6, 22, 23], ⟨[.nils, .i .i64, .own 0 0, .own 1 0, .i .i64, .i .i64], [.segs [.fe (.pair (.sl (.pair (.int .i64) (.pair (.int .i64) .bool))) (.pair (.sl (.pair (.int .i64) (.pair (.int .i64) (.int .i64)))) (.int .i64)))], .segs [.arr .bool 144]]⟩⟩)], run := fun p k => ((breathsR p.1.2.2.2.2.2.2.2.1.2.1 p.1.2.2.2.2.2.2.2.1.2.2.1).bind fun es => lone_l2 N es p.1.2.1 p.1.2.2.2.2.2.1 p.1.2.2.2.2.2.2.1 p.1.2.2.2.2.2.2.2.1.2.1 p.1.2.2.2.2.2.2.2.1.2.2.1 p.2.1.1 p.2.2.1.1 p.2.2.2.1.1).bind fun e => k (.inl (((), e.1, (), (), e.2.1, e.2.2.1, ()), ((e.2.2.2.1, ()), (e.2.2.2.2, ()), ()))) }
theorem lone_l2_end (N : Nat) (u : Int) (u2 : Int) (u3 : Int) (u4 : Int) (u5 : ((List (Int × (Int × Bool))) × ((List (Int × (Int × Int))) × Int))) (d : ((List (Int × (Int × Bool))) × ((List (Int × (Int × Int))) × Int))) (joined : List Bool) (from_ : Int) : ev (Z := Int × Int × Int × ((List (Int × (Int × Bool))) × ((List (Int × (Int × Int))) × Int)) × List Bool) Try.prog (lone_sp N) lone_B [] [lone_l2_e0] none 400 false (nrm lone_B.c 99 [.b 2, .b 1, .c [1, 1, 1, 1, 0, 1, 0, 0, 1, 1, 1], .l [1, 1, 1, 1, 0, 1, 0, 0], .b 0, .c [1, 1, 1, 1, 1]]) (stL lone_l2_st (((), u, (), (), (), u2, u3, ((), (u4, u5, ())), ()), ((d, ()), (joined, ()), (from_, ()), ()))) (stH lone_l2_st (((), u, (), (), (), u2, u3, ((), (u4, u5, ())), ()), ((d, ()), (joined, ()), (from_, ()), ()))) = lone_l2 N [] u u2 u3 u4 u5 d joined from_ := by kernel_rfl
theorem lone_l2_asg (N : Nat) (e : Int × Unit) (es : List (Int × Unit)) (u : Int) (u2 : Int) (u3 : Int) (u4 : Int) (u5 : ((List (Int × (Int × Bool))) × ((List (Int × (Int × Int))) × Int))) (d : ((List (Int × (Int × Bool))) × ((List (Int × (Int × Int))) × Int))) (joined : List Bool) (from_ : Int) : ev (Z := Int × Int × Int × ((List (Int × (Int × Bool))) × ((List (Int × (Int × Int))) × Int)) × List Bool) Try.prog (lone_sp N) lone_l2_Bk [] [⟨[.r, .c [1, 1, 1, 1, 0, 1, 0, 0, 1, 1, 0, 0, 1, 1, 0, 1]], lone_l2_stA, fun p => lone_l2_b N (fun d_ joined_ from__ => lone_l2 N es u u2 u3 u4 u5 d_ joined_ from__) u u2 u3 u4 u5 p.1.2.1 p.1.2.2.2.2.1 p.2.1.1 p.2.2.1.1 p.2.2.2.1.1⟩] none 400 false (nrm lone_B.c 99 [.c [1, 1, 1, 1, 0, 1, 0, 0, 1, 1, 0, 0, 1, 1, 0, 0], .r, .c [1, 1, 1, 1, 0, 1, 0, 0, 1, 1, 0, 0, 1, 1, 0, 1]]) (pars [29] (encs id is_breaths.elem e) (stL lone_l2_st (((), u, (), (), (), u2, u3, ((), (u4, u5, ())), ()), ((d, ()), (joined, ()), (from_, ()), ())))) (stH lone_l2_st (((), u, (), (), (), u2, u3, ((), (u4, u5, ())), ()), ((d, ()), (joined, ()), (from_, ()), ()))) = lone_l2 N (e :: es) u u2 u3 u4 u5 d joined from_ := by kernel_rfl
theorem lone_l2_bod (N : Nat) (rec : (((List (Int × (Int × Bool))) × ((List (Int × (Int × Int))) × Int))) → (List Bool) → Int → Option (Int × Int × Int × ((List (Int × (Int × Bool))) × ((List (Int × (Int × Int))) × Int)) × List Bool)) (u : Int) (u2 : Int) (u3 : Int) (u4 : Int) (u5 : ((List (Int × (Int × Bool))) × ((List (Int × (Int × Int))) × Int))) (u' : Int) (to' : Int) (g' : ((List (Int × (Int × Bool))) × ((List (Int × (Int × Int))) × Int))) (joined' : List Bool) (from_' : Int) : ev (Z := Int × Int × Int × ((List (Int × (Int × Bool))) × ((List (Int × (Int × Int))) × Int)) × List Bool) Try.prog (lone_sp N) lone_l2_Bk [lone_l4_L N, lone_l3_L N] [⟨[], ⟨[], ⟨[], [.segs [.fe (.pair (.sl (.pair (.int .i64) (.pair (.int .i64) .bool))) (.pair (.sl (.pair (.int .i64) (.pair (.int .i64) (.int .i64)))) (.int .i64)))], .segs [.arr .bool 144], .segs [.i .i64]]⟩⟩, fun p => rec p.2.1.1 p.2.2.1.1 p.2.2.2.1.1⟩] none 400 false (nrm lone_B.c 99 [.c [1, 1, 1, 1, 0, 1, 0, 0, 1, 1, 0, 0, 1, 1, 0, 1]]) (stL lone_l2_stA (((), u', (), (), to', ()), ((g', ()), (joined', ()), (from_', ()), ()))) (stH lone_l2_stA (((), u', (), (), to', ()), ((g', ()), (joined', ()), (from_', ()), ()))) = lone_l2_b N rec u u2 u3 u4 u5 u' to' g' joined' from_' := by kernel_rfl
theorem lone_l2_ok (N : Nat) : LoopOK Try.prog lone_B.c lone_B.n lone_B.m0 true (lone_l2_L N) := by
  refine range_ok (B := lone_B) (is := is_breaths) (g := .tmp 28) (ps := #[29]) (assign := sub lone_c [1, 1, 1, 1, 0, 1, 0, 0, 1, 1, 0, 0, 1, 1, 0, 0]) (body := sub lone_c [1, 1, 1, 1, 0, 1, 0, 0, 1, 1, 0, 0, 1, 1, 0, 1]) (Z := Int × Int × Int × ((List (Int × (Int × Bool))) × ((List (Int × (Int × Int))) × Int)) × List Bool) (x := lone_l2_L N) (fun p => (p.1.2.2.2.2.2.2.2.1.2.1, p.1.2.2.2.2.2.2.2.1.2.2.1, ())) (fun es p => lone_l2 N es p.1.2.1 p.1.2.2.2.2.2.1 p.1.2.2.2.2.2.2.1 p.1.2.2.2.2.2.2.2.1.2.1 p.1.2.2.2.2.2.2.2.1.2.2.1 p.2.1.1 p.2.2.1.1 p.2.2.2.1.1) (staA := lone_l2_stA) (fun es q p => lone_l2_b N (fun d_ joined_ from__ => lone_l2 N es q.2.1 q.2.2.2.2.2.1 q.2.2.2.2.2.2.1 q.2.2.2.2.2.2.2.1.2.1 q.2.2.2.2.2.2.2.1.2.2.1 d_ joined_ from__) q.2.1 q.2.2.2.2.2.1 q.2.2.2.2.2.2.1 q.2.2.2.2.2.2.2.1.2.1 q.2.2.2.2.2.2.2.1.2.2.1 p.1.2.1 p.1.2.2.2.2.1 p.2.1.1 p.2.2.1.1 p.2.2.2.1.1) [] (fun e => .inl (((), e.1, (), (), e.2.1, e.2.2.1, ()), ((e.2.2.2.1, ()), (e.2.2.2.2, ()), ()))) (fun _ _ _ => rfl) rfl (by kernel_rfl) (fun _ => by kernel_rfl) (by kernel_rfl) is_breaths_ok (Nat.le_of_ble_eq_true (by kernel_rfl)) (by kernel_rfl) ?_ ?_ ?_ ?_
  · exact fun z E Xc hE hX hx p hp a w hS => ev_sound (z := z) (B := lone_B) (loops := []) (leaves := [lone_l2_e0]) (top := true) (lone_all N) mixed trivial hE hX ⟨(fun p hp => by obtain rfl := Option.some.inj hp; exact hx), trivial⟩ RetOK.no 400 false _ _ _ ((lone_l2_end N p.1.2.1 p.1.2.2.2.2.2.1 p.1.2.2.2.2.2.2.1 p.1.2.2.2.2.2.2.2.1.2.1 p.1.2.2.2.2.2.2.2.1.2.2.1 p.2.1.1 p.2.2.1.1 p.2.2.2.1.1).trans hp) a w hS
  · intro z E Xc hE hX hx e he q b hb a w hS
    simp only [List.not_mem_nil] at he
  · exact fun z E Xc hE hX e es p hl hp a w hS => ev_sound (z := z) (B := lone_l2_Bk) (loops := []) (leaves := [_]) (top := false) (lone_all N) mixed trivial hE hX ⟨hl, trivial⟩ RetOK.no 400 false _ _ _ ((lone_l2_asg N e es p.1.2.1 p.1.2.2.2.2.2.1 p.1.2.2.2.2.2.2.1 p.1.2.2.2.2.2.2.2.1.2.1 p.1.2.2.2.2.2.2.2.1.2.2.1 p.2.1.1 p.2.2.1.1 p.2.2.2.1.1).trans hp) a w hS
  · exact fun z E Xc hE hX es q he hs p hp a w hS => ev_sound (z := z) (B := lone_l2_Bk) (loops := [lone_l4_L N, lone_l3_L N]) (leaves := [_]) (top := false) (lone_all N) mixed ⟨lone_l4_ok N, lone_l3_ok N, trivial⟩ hE hX ⟨he, trivial⟩ RetOK.no 400 false _ _ _ ((lone_l2_bod N (fun d_ joined_ from__ => lone_l2 N es q.2.1 q.2.2.2.2.2.1 q.2.2.2.2.2.2.1 q.2.2.2.2.2.2.2.1.2.1 q.2.2.2.2.2.2.2.1.2.2.1 d_ joined_ from__) q.2.1 q.2.2.2.2.2.1 q.2.2.2.2.2.2.1 q.2.2.2.2.2.2.2.1.2.1 q.2.2.2.2.2.2.2.1.2.2.1 p.1.2.1 p.1.2.2.2.2.1 p.2.1.1 p.2.2.1.1 p.2.2.2.1.1).trans hp) a w hS
abbrev lone_l1_at : List PI := [.c [1, 1, 1, 1, 0, 1, 0, 0, 0], .c [1, 1, 1, 1, 0, 1, 0, 0, 1], .l [1, 1, 1, 1, 0, 1, 0, 0], .b 0, .c [1, 1, 1, 1, 1]]
abbrev lone_l1_st : Sta := ⟨[2, 3, 4, 6, 22, 23], ⟨[.nils, .i .i64, .own 0 0, .own 1 0, .i .i64, .i .i64], [.segs [.fe (.pair (.sl (.pair (.int .i64) (.pair (.int .i64) .bool))) (.pair (.sl (.pair (.int .i64) (.pair (.int .i64) (.int .i64)))) (.int .i64)))], .segs [.arr .bool 144]]⟩⟩
abbrev lone_l1_h (rec : Int → Int → Int → (((List (Int × (Int × Bool))) × ((List (Int × (Int × Int))) × Int))) → (List Bool) → Option (((List (Int × (Int × Bool))) × ((List (Int × (Int × Int))) × Int)) × List Bool)) : Leaf (((List (Int × (Int × Bool))) × ((List (Int × (Int × Int))) × Int)) × List Bool) := ⟨lone_l1_at, lone_l1_st, fun p => rec p.1.2.1 p.1.2.2.2.2.1 p.1.2.2.2.2.2.1 p.2.1.1 p.2.2.1.1⟩
abbrev lone_l1_e0 : Leaf (((List (Int × (Int × Bool))) × ((List (Int × (Int × Int))) × Int)) × List Bool) := ⟨[.c [1, 1, 1, 1, 1, 0], .c [1, 1, 1, 1, 1, 1]], ⟨[4, 6], ⟨[.own 0 0, .own 1 0], [.segs [.fe (.pair (.sl (.pair (.int .i64) (.pair (.int .i64) .bool))) (.pair (.sl (.pair (.int .i64) (.pair (.int .i64) (.int .i64)))) (.int .i64)))], .segs [.arr .bool 144]]⟩⟩, fun p => some ((p.2.1.1, p.2.2.1.1))⟩
noncomputable def lone_l1_L (N : Nat) : LoopS := { at_ := lone_l1_at, sta := lone_l1_st, exits := [([.c [1, 1, 1, 1, 1, 0], .c [1, 1, 1, 1, 1, 1]], ⟨[4, 6], ⟨[.own 0 0, .own 1 0], [.segs [.fe (.pair (.sl (.pair (.int .i64) (.pair (.int .i64) .bool))) (.pair (.sl (.pair (.int .i64) (.pair (.int .i64) (.int .i64)))) (.int .i64)))], .segs [.arr .bool 144]]⟩⟩)], run := fun p k => (lone_l1 N N p.1.2.1 p.1.2.2.2.2.1 p.1.2.2.2.2.2.1 p.2.1.1 p.2.2.1.1).bind fun e => k (.inl (((), (), ()), ((e.1, ()), (e.2, ()), ()))) }
theorem lone_l1_eq (N n_ : Nat) (u : Int) (u2 : Int) (u3 : Int) (d : ((List (Int × (Int × Bool))) × ((List (Int × (Int × Int))) × Int))) (joined : List Bool) : ev (Z := ((List (Int × (Int × Bool))) × ((List (Int × (Int × Int))) × Int)) × List Bool) Try.prog (lone_sp N) lone_B [lone_l2_L N] [lone_l1_h (lone_l1 N n_), lone_l1_e0] none 400 true lone_l1_at (stL lone_l1_st (((), u, (), (), u2, u3, ()), ((d, ()), (joined, ()), ()))) (stH lone_l1_st (((), u, (), (), u2, u3, ()), ((d, ()), (joined, ()), ()))) = lone_l1 N (n_ + 1) u u2 u3 d joined := by kernel_rfl
theorem lone_l1_ok (N : Nat) : LoopOK Try.prog lone_B.c lone_B.n lone_B.m0 true (lone_l1_L N) := loop_of_ev (Z := ((List (Int × (Int × Bool))) × ((List (Int × (Int × Int))) × Int)) × List Bool) (N := N) (fun m p => lone_l1 N m p.1.2.1 p.1.2.2.2.2.1 p.1.2.2.2.2.2.1 p.2.1.1 p.2.2.1.1) (fun e => .inl (((), (), ()), ((e.1, ()), (e.2, ()), ()))) (fun _ _ _ => rfl) (fun _ => rfl) (fun m z E Xc hE hX hrec hx => leaf_of_ev (B := lone_B) (loops := [lone_l2_L N]) (leaves := [lone_l1_h (lone_l1 N m), lone_l1_e0]) (lone_all N) mixed ⟨lone_l2_ok N, trivial⟩ hE hX ⟨hrec, (fun p hp => by obtain rfl := Option.some.inj hp; exact hx), trivial⟩ RetOK.no (fun p => lone_l1_eq N m p.1.2.1 p.1.2.2.2.2.1 p.1.2.2.2.2.2.1 p.2.1.1 p.2.2.1.1))
abbrev lone_st : Sta := ⟨[0], ⟨[.agg [.sl (.pair (.int .i64) (.pair (.int .i64) .bool)), .sl (.pair (.int .i64) (.pair (.int .i64) (.int .i64))), .i .i64]], []⟩⟩
theorem lone_eq (N : Nat) (t : List (Int × (Int × Bool))) (t2 : List (Int × (Int × Int))) (t3 : Int) : ev (Z := List Int × Int) Try.prog (lone_sp N) lone_B [lone_l2_L N, lone_l1_L N] [] (some lone_rt) 400 false [.c [0], .c [1]] (stL lone_st (((t, t2, t3, ()), ()), ())) (stH lone_st (((t, t2, t3, ()), ()), ())) = lone_S N t t2 t3 := by kernel_rfl
noncomputable def sp_lone (N : Nat) : Spec := { f := 63, ins := ⟨[.agg [.sl (.pair (.int .i64) (.pair (.int .i64) .bool)), .sl (.pair (.int .i64) (.pair (.int .i64) (.int .i64))), .i .i64]], []⟩, outs := [⟨[.sl (.int .i64), .i .i64], []⟩], run := fun p k => (lone_S N p.1.1.1 p.1.1.2.1 p.1.1.2.2.1).bind fun r => k ((r.1, r.2, ()), ()) }
theorem sp_lone_ok (N : Nat) : SpecOK Try.prog (sp_lone N) := fn_sound (B := lone_B) (loops := [lone_l2_L N, lone_l1_L N]) (leaves := []) (fun p => lone_S N p.1.1.1 p.1.1.2.1 p.1.1.2.2.1) (fun r => ((r.1, r.2, ()), ())) lone_rt (fun _ _ _ => rfl) (fun r z h => by cases h; rfl) Try.func63 (by kernel_rfl) (by kernel_rfl) (by kernel_rfl) rfl rfl (by kernel_rfl) (fun args w => Sem.pv_run _ _ _ (by kernel_rfl) w) (lone_all N) mixed ⟨lone_l2_ok N, lone_l1_ok N, trivial⟩ (fun z E Xc hE hX hret => trivial) (fun p => lone_eq N p.1.1.1 p.1.1.2.1 p.1.1.2.2.1)

def tmarks_j1 (N : Nat) (marks : List Int) (given : List Int) (t : List (Int × (Int × Bool))) (t2 : List (Int × (Int × Int))) (t3 : Int) (own : List (Int × (Int × Bool))) (own2 : List (Int × (Int × Int))) (own3 : Int) : Option Bool :=
  (same_S N own own2 own3 t t2 t3).bind fun x_29 =>
  br x_29
    ((likei_S N given marks).bind fun x_30 =>
    br x_30
      ((awake_S N).bind fun x_31 =>
      some x_31)
      (some false))
    (some false)
def tmarks_S (N : Nat) (t : List (Int × (Int × Bool))) (t2 : List (Int × (Int × Int))) (t3 : Int) (marks : List Int) : Option Bool :=
  (great_S N t t2 t3 8).bind fun x_1 =>
  br x_1
    ((awake_S N).bind fun x_2 =>
    some x_2)
    (br (decide (30 < (marks.length : Int)))
      ((awake_S N).bind fun x_3 =>
      some x_3)
      ((copyx_S N t t2 t3).bind fun (x_4, y_5, y_6) =>
      (theirs_S N t t2 t3).bind fun (x_7, y_8, y_9) =>
      (copyi_S N marks).bind fun x_10 =>
      (shows_S N x_4 y_5 y_6 x_10).bind fun (x_11, y_12) =>
      (rshows_S N x_7 y_8 y_9 marks).bind fun (x_13, y_14) =>
      br (!decide (x_11 = x_13))
        (some false)
        (br (!decide (y_12 = y_14))
          (some false)
          ((marks_S N x_4 y_5 y_6).bind fun (x_15, y_16) =>
          (lone_S N x_4 y_5 y_6).bind fun (x_17, y_18) =>
          (rcheck_S N x_7 y_8 y_9).bind fun x_19 =>
          br (!decide (x_19 = 0))
            (br (decide (y_16 = x_19))
              (br (decide (y_18 = x_19))
                (chk ((x_15.length : Int) + (x_17.length : Int)) <|
                br (decide (((x_15.length : Int) + (x_17.length : Int)) = 0))
                  ((same_S N x_4 y_5 y_6 t t2 t3).bind fun x_20 =>
                  br x_20
                    ((awake_S N).bind fun x_21 =>
                    some x_21)
                    (some false))
                  (some false))
                (some false))
              (some false))
            (br (!decide (y_18 = 0))
              (some false)
              ((rlone_S N x_7 y_8 y_9).bind fun x_22 =>
              (likei_S N x_17 x_22).bind fun x_23 =>
              br (!x_23)
                (some false)
                ((rright_S N x_7 y_8 y_9).bind fun x_24 =>
                (rfewest_S N x_24).bind fun (x_25, y_26) =>
                br (!decide (y_16 = y_26))
                  (some false)
                  (br (!decide (y_16 = 0))
                    (br (decide (0 < (x_15.length : Int)))
                      (some false)
                      (br (decide (y_16 = 0))
                        ((rshows_S N x_7 y_8 y_9 x_15).bind fun (x_27, y_28) =>
                        br (!decide (y_28 = 0))
                          (some false)
                          (br (!decide (x_27 = x_25))
                            (some false)
                            (tmarks_j1 N marks x_10 t t2 t3 x_4 y_5 y_6)))
                        (tmarks_j1 N marks x_10 t t2 t3 x_4 y_5 y_6)))
                    (br (decide (y_16 = 0))
                      ((rshows_S N x_7 y_8 y_9 x_15).bind fun (x_32, y_33) =>
                      br (!decide (y_33 = 0))
                        (some false)
                        (br (!decide (x_32 = x_25))
                          (some false)
                          (tmarks_j1 N marks x_10 t t2 t3 x_4 y_5 y_6)))
                      (tmarks_j1 N marks x_10 t t2 t3 x_4 y_5 y_6))))))))))
noncomputable def tmarks_sp (N : Nat) : List Spec := [sp_shows N, sp_marks N, sp_likei N, sp_awake N, sp_copyi N, sp_copyx N, sp_same N, sp_theirs N, sp_great N, sp_rcheck N, sp_rright N, sp_rfewest N, sp_rshows N, sp_rlone N, sp_lone N]
theorem tmarks_all (N : Nat) : AllP (SpecOK Try.prog) (tmarks_sp N) := ⟨sp_shows_ok N, sp_marks_ok N, sp_likei_ok N, sp_awake_ok N, sp_copyi_ok N, sp_copyx_ok N, sp_same_ok N, sp_theirs_ok N, sp_great_ok N, sp_rcheck_ok N, sp_rright_ok N, sp_rfewest_ok N, sp_rshows_ok N, sp_rlone_ok N, sp_lone_ok N, trivial⟩
noncomputable def tmarks_c : Code := (Try.f14.body).getD .skip
noncomputable abbrev tmarks_B : Body := { c := tmarks_c, n := 144, res := [.tmp 4], outs := [⟨[.b], []⟩], m0 := 0 }
abbrev tmarks_rt : altD tmarks_B.outs → Option Bool := fun r => some r.1.1
abbrev tmarks_j1_at : List PI := [.c [1, 1, 1, 1, 1, 1, 1, 1, 1, 1, 1, 1, 1, 0], .c [1, 1, 1, 1, 1, 1, 1, 1, 1, 1, 1, 1, 1, 1]]
abbrev tmarks_j1_st : Sta := ⟨[1, 2, 5, 7], ⟨[.sl (.int .i64), .own 0 0, .own 1 0, .sl (.int .i64)], [.segs [.sl (.pair (.int .i64) (.pair (.int .i64) .bool)), .sl (.pair (.int .i64) (.pair (.int .i64) (.int .i64))), .i .i64], .segs [.sl (.pair (.int .i64) (.pair (.int .i64) .bool)), .sl (.pair (.int .i64) (.pair (.int .i64) (.int .i64))), .i .i64]]⟩⟩
abbrev tmarks_j1_k (N : Nat) : Leaf Bool := ⟨tmarks_j1_at, tmarks_j1_st, fun p => tmarks_j1 N p.1.1 p.1.2.2.2.1 p.2.1.1 p.2.1.2.1 p.2.1.2.2.1 p.2.2.1.1 p.2.2.1.2.1 p.2.2.1.2.2.1⟩
theorem tmarks_j1_eq (N : Nat) (marks : List Int) (given : List Int) (t : List (Int × (Int × Bool))) (t2 : List (Int × (Int × Int))) (t3 : Int) (own : List (Int × (Int × Bool))) (own2 : List (Int × (Int × Int))) (own3 : Int) : ev (Z := Bool) Try.prog (tmarks_sp N) tmarks_B [] [] (some tmarks_rt) 400 true tmarks_j1_at (stL tmarks_j1_st ((marks, (), (), given, ()), ((t, t2, t3, ()), (own, own2, own3, ()), ()))) (stH tmarks_j1_st ((marks, (), (), given, ()), ((t, t2, t3, ()), (own, own2, own3, ()), ()))) = tmarks_j1 N marks given t t2 t3 own own2 own3 := by kernel_rfl
theorem tmarks_j1_lf (N : Nat) {z : Bool} {E : EE} {Xc : Ctx} (hE : EOK tmarks_B.m0 E) (hX : CxOK true Xc) (hret : RetOK Try.prog tmarks_B E Xc z (some tmarks_rt)) : LeafOK Try.prog tmarks_B.c tmarks_B.n tmarks_B.m0 E Xc z (tmarks_j1_k N) := leaf_of_ev (B := tmarks_B) (loops := []) (leaves := []) (tmarks_all N) mixed trivial hE hX trivial hret (fun p => tmarks_j1_eq N p.1.1 p.1.2.2.2.1 p.2.1.1 p.2.1.2.1 p.2.1.2.2.1 p.2.2.1.1 p.2.2.1.2.1 p.2.2.1.2.2.1)
abbrev tmarks_st : Sta := ⟨[0, 1], ⟨[.agg [.sl (.pair (.int .i64) (.pair (.int .i64) .bool)), .sl (.pair (.int .i64) (.pair (.int .i64) (.int .i64))), .i .i64], .sl (.int .i64)], []⟩⟩
theorem tmarks_eq (N : Nat) (t : List (Int × (Int × Bool))) (t2 : List (Int × (Int × Int))) (t3 : Int) (marks : List Int) : ev (Z := Bool) Try.prog (tmarks_sp N) tmarks_B [] [tmarks_j1_k N] (some tmarks_rt) 400 false [.c [0], .c [1]] (stL tmarks_st (((t, t2, t3, ()), marks, ()), ())) (stH tmarks_st (((t, t2, t3, ()), marks, ()), ())) = tmarks_S N t t2 t3 marks := by kernel_rfl
noncomputable def sp_tmarks (N : Nat) : Spec := { f := 14, ins := ⟨[.agg [.sl (.pair (.int .i64) (.pair (.int .i64) .bool)), .sl (.pair (.int .i64) (.pair (.int .i64) (.int .i64))), .i .i64], .sl (.int .i64)], []⟩, outs := [⟨[.b], []⟩], run := fun p k => (tmarks_S N p.1.1.1 p.1.1.2.1 p.1.1.2.2.1 p.1.2.1).bind fun r => k ((r, ()), ()) }
theorem sp_tmarks_ok (N : Nat) : SpecOK Try.prog (sp_tmarks N) := fn_sound (B := tmarks_B) (loops := []) (leaves := [tmarks_j1_k N]) (fun p => tmarks_S N p.1.1.1 p.1.1.2.1 p.1.1.2.2.1 p.1.2.1) (fun r => ((r, ()), ())) tmarks_rt (fun _ _ _ => rfl) (fun r z h => by cases h; rfl) Try.func14 (by kernel_rfl) (by kernel_rfl) (by kernel_rfl) rfl rfl (by kernel_rfl) (fun args w => Sem.pv_run _ _ _ (by kernel_rfl) w) (tmarks_all N) mixed trivial (fun z E Xc hE hX hret => ⟨tmarks_j1_lf N hE hX hret, trivial⟩) (fun p => tmarks_eq N p.1.1.1 p.1.1.2.1 p.1.1.2.2.1 p.1.2.1)

end Go.Proofs.Ytfamlpbdhhikdaa

namespace Go.Proofs.Ytfamlpbdhhikdaa
set_option linter.all false
open Go

/-- Two words lie in the same right breath. -/
def Jn (R : Nat → Nat → Bool) (m : Nat) (x y : Nat) : Prop := ∃ f t, f ≤ x ∧ x < y ∧ y < t ∧ t ≤ m ∧ R f t = true
/-- What a table of pairs says. -/
def Jt (J : List Bool) (P : Nat → Nat → Prop) : Prop := J.length = 144 ∧ ∀ a b, a < 12 → b < 12 → (J.getD (a * 12 + b) false = true ↔ P a b)
theorem Jt.mono {J : List Bool} {P Q : Nat → Nat → Prop} (h : Jt J P) (hpq : ∀ a b, a < 12 → b < 12 → (P a b ↔ Q a b)) : Jt J Q := ⟨h.1, fun a b x y => (h.2 a b x y).trans (hpq a b x y)⟩
theorem Jt.set {J : List Bool} {P : Nat → Nat → Prop} (h : Jt J P) {a b : Nat} (ha : a < 12) (hb : b < 12) : Jt (J.set (a * 12 + b) true) (fun x y => P x y ∨ x = a ∧ y = b) := by
  refine ⟨by rw [List.length_set]; exact h.1, fun x y hx hy => ?_⟩
  have hl := h.1
  rw [getD_set' (by omega)]
  by_cases e : a * 12 + b = x * 12 + y
  · have e1 : x = a := by omega
    have e2 : y = b := by omega
    simp [e1, e2]
  · rw [if_neg e, h.2 x y hx hy]
    constructor
    · exact fun h => .inl h
    · rintro (h | ⟨h1, h2⟩)
      · exact h
      · exact absurd (by rw [h1, h2]) e
section
variable {N : Nat} {ws : List Wd} {ts : List Tn} {br_ : Int}
theorem lone_l4_p {a t : Nat} {u g2 : Int} {d : Tx} (ht : t ≤ 12) (ha : a < t) : ∀ (n k : Nat) (J : List Bool) (P : Nat → Nat → Prop), t < n + k → k ≤ t → Jt J P →
    ∃ J', lone_l4 N n u t a k d J g2 = some (u, (t : Int), (a : Int), d, J', g2) ∧ Jt J' (fun x y => P x y ∨ x = a ∧ k ≤ y ∧ y < t)
  | 0, k, J, P, h, hk, _ => by omega
  | n + 1, k, J, P, h, hk, hJ => by
    unfold lone_l4
    by_cases c : k < t
    · obtain ⟨J', e1, e2⟩ := lone_l4_p ht ha n (k + 1) _ _ (by omega) (by omega) (hJ.set (a := a) (b := k) (by omega) (by omega))
      rw [show ((k + 1 : Nat) : Int) = (k : Int) + 1 by omega] at e1
      have hl := hJ.1
      rw [br_dec (by omega), rng_eq (by omega), rng_eq (by omega)]
      simp only [Int.toNat_natCast]
      rw [get_get false (by omega), chk_eq (by omega), e1]
      refine ⟨J', rfl, e2.mono fun x y _ _ => ?_⟩
      constructor
      · rintro ((h | ⟨h1, h2⟩) | ⟨h1, h2, h3⟩)
        · exact .inl h
        · exact .inr ⟨h1, by omega, by omega⟩
        · exact .inr ⟨h1, by omega, h3⟩
      · rintro (h | ⟨h1, h2, h3⟩)
        · exact .inl (.inl h)
        · by_cases e : y = k
          · exact .inl (.inr ⟨h1, e⟩)
          · exact .inr ⟨h1, by omega, h3⟩
    · rw [br_ndec (by omega)]
      refine ⟨J, rfl, hJ.mono fun x y _ _ => ⟨fun h => .inl h, ?_⟩⟩
      rintro (h | ⟨_, h2, h3⟩)
      · exact h
      · omega
theorem lone_l3_p (hN : 110 ≤ N) {t : Nat} {u g2 : Int} {d : Tx} (ht : t ≤ 12) : ∀ (n a : Nat) (J : List Bool) (P : Nat → Nat → Prop), t < n + a → a ≤ t → Jt J P →
    ∃ J', lone_l3 N n u t a d J g2 = some (u, d, J', g2) ∧ Jt J' (fun x y => P x y ∨ a ≤ x ∧ x < y ∧ y < t)
  | 0, a, J, P, h, hk, _ => by omega
  | n + 1, a, J, P, h, hk, hJ => by
    unfold lone_l3
    by_cases c : a < t
    · obtain ⟨J1, e1, hJ1⟩ := lone_l4_p (N := N) (u := u) (g2 := g2) (d := d) ht c N (a + 1) J P (by omega) (by omega) hJ
      obtain ⟨J2, e2, hJ2⟩ := lone_l3_p hN ht n (a + 1) J1 _ (by omega) (by omega) hJ1 (u := u) (g2 := g2) (d := d)
      rw [show ((a + 1 : Nat) : Int) = (a : Int) + 1 by omega] at e1 e2
      rw [br_dec (by omega), chk_eq (by omega), e1]
      simp only [Option.bind_some]
      rw [chk_eq (by omega), e2]
      refine ⟨J2, rfl, hJ2.mono fun x y _ _ => ?_⟩
      constructor
      · rintro ((h | ⟨h1, h2, h3⟩) | ⟨h1, h2, h3⟩)
        · exact .inl h
        · exact .inr ⟨by omega, by omega, h3⟩
        · exact .inr ⟨by omega, h2, h3⟩
      · rintro (h | ⟨h1, h2, h3⟩)
        · exact .inl (.inl h)
        · by_cases e : x = a
          · exact .inl (.inr ⟨e, by omega, h3⟩)
          · exact .inr ⟨by omega, h2, h3⟩
    · rw [br_ndec (by omega)]
      refine ⟨J, rfl, hJ.mono fun x y _ _ => ⟨fun h => .inl h, ?_⟩⟩
      rintro (h | ⟨h1, h2, h3⟩)
      · exact h
      · omega
theorem lone_l2_p (hN : 110 ≤ N) {f m : Nat} {u u2 u3 u4 : Int} {d u5 : Tx} (hm : m ≤ 12) : ∀ (es : List Nat) (J : List Bool) (P : Nat → Nat → Prop), (∀ q ∈ es, f < q ∧ q ≤ m) → Jt J P →
    ∃ J', lone_l2 N (es.map fun (j : Nat) => ((j : Int), ())) u u2 u3 u4 u5 d J f = some (u, u2, u3, d, J') ∧ Jt J' (fun x y => P x y ∨ ∃ t, t ∈ es ∧ f ≤ x ∧ x < y ∧ y < t)
  | [], J, P, _, hJ => ⟨J, rfl, hJ.mono fun x y _ _ => ⟨fun h => .inl h, fun h => h.elim id (fun ⟨t, h, _⟩ => by cases h)⟩⟩
  | t :: es, J, P, he, hJ => by
    obtain ⟨h1, h2⟩ := he t (by simp)
    obtain ⟨J1, e1, hJ1⟩ := lone_l3_p (N := N) hN (t := t) (u := u) (g2 := (f : Int)) (d := d) (by omega) N f J P (by omega) (by omega) hJ
    obtain ⟨J2, e2, hJ2⟩ := lone_l2_p hN (f := f) (u := u) (u2 := u2) (u3 := u3) (u4 := u4) (d := d) (u5 := u5) hm es J1 _ (fun q hq => he q (by simp [hq])) hJ1
    refine ⟨J2, ?_, hJ2.mono fun x y _ _ => ?_⟩
    · rw [List.map_cons, lone_l2]
      unfold lone_l2_b
      rw [e1]
      simp only [Option.bind_some]
      exact e2
    · constructor
      · rintro ((h | h) | ⟨q, hq, h⟩)
        · exact .inl h
        · exact .inr ⟨t, by simp, h⟩
        · exact .inr ⟨q, by simp [hq], h⟩
      · rintro (h | ⟨q, hq, h⟩)
        · exact .inl (.inl h)
        · rcases List.mem_cons.1 hq with rfl | hq
          · exact .inl (.inr h)
          · exact .inr ⟨q, hq, h⟩
variable (hN : 110 ≤ N) (hF : TFine ws ts br_)
include hN hF
theorem lone_l1_p {u : Int} : ∀ (n k : Nat) (J : List Bool) (P : Nat → Nat → Prop), ws.length < n + k → k ≤ ws.length → Jt J P →
    ∃ J', lone_l1 N n u ws.length k (ws, ts, br_) J = some ((ws, ts, br_), J') ∧ Jt J' (fun x y => P x y ∨ ∃ f t, k ≤ f ∧ f ≤ x ∧ x < y ∧ y < t ∧ t ≤ ws.length ∧ rightR ws ts br_ f t = true)
  | 0, k, J, P, h, hk, _ => by omega
  | n + 1, k, J, P, h, hk, hJ => by
    have hn := hF.n
    unfold lone_l1
    by_cases c : k < ws.length
    · obtain ⟨J1, e1, hJ1⟩ := lone_l2_p (N := N) hN (f := k) (m := ws.length) (u := u) (u2 := (ws.length : Int)) (u3 := (k : Int)) (u4 := (k : Int)) (d := (ws, ts, br_)) (u5 := (ws, ts, br_)) hn (endsL ws ts br_ k) J P (fun q hq => by
        obtain ⟨a1, a2, _⟩ := mem_toL.1 hq; omega) hJ
      obtain ⟨J2, e2, hJ2⟩ := lone_l1_p (u := u) n (k + 1) J1 _ (by omega) (by omega) hJ1
      rw [show ((k + 1 : Nat) : Int) = (k : Int) + 1 by omega] at e2
      rw [br_dec (by omega)]
      unfold breaths_S
      simp only [Option.bind_some]
      rw [breathsR_v hF (by omega)]
      simp only [Option.bind_some]
      rw [e1]
      simp only [Option.bind_some]
      rw [chk_eq (by omega), e2]
      refine ⟨J2, rfl, hJ2.mono fun x y _ _ => ?_⟩
      constructor
      · rintro ((h | ⟨t, h1, h2, h3, h4⟩) | ⟨f, t, h1, h2⟩)
        · exact .inl h
        · obtain ⟨a1, a2, a3⟩ := mem_toL.1 h1
          exact .inr ⟨k, t, by omega, h2, h3, h4, a2, a3⟩
        · exact .inr ⟨f, t, by omega, h2⟩
      · rintro (h | ⟨f, t, h1, h2, h3, h4, h5, h6⟩)
        · exact .inl (.inl h)
        · by_cases e : f = k
          · subst e
            exact .inl (.inr ⟨t, mem_toL.2 ⟨by omega, h5, h6⟩, h2, h3, h4⟩)
          · exact .inr ⟨f, t, by omega, h2, h3, h4, h5, h6⟩
    · rw [br_ndec (by omega)]
      refine ⟨J, rfl, hJ.mono fun x y _ _ => ⟨fun h => .inl h, ?_⟩⟩
      rintro (h | ⟨f, t, h1, h2, h3, h4, h5, _⟩)
      · exact h
      · omega
end
/-! ### Lists of words, no two of which are joined -/
def jb (J : List Bool) (o w : Int) : Bool := J.getD (o.toNat * 12 + w.toNat) false
theorem ixfi4_p {N : Nat} {J : List Bool} {w : Int} (hJ : J.length = 144) (hw : 0 ≤ w ∧ w < 12) {s : List Int} (hs : ∀ x ∈ s, 0 ≤ x ∧ x < 12) (hl : s.length ≤ 1000) : ∀ (n k : Nat), s.length < n + k → k ≤ s.length →
    ∃ r, ixfi4_l1 N n s (s.length : Int) k J w = some r ∧ match r with
      | .inl x => x.2 = (J, w) ∧ 0 ≤ x.1 ∧ (s.drop k).any (fun o => jb J o w) = true
      | .inr x => x = (J, w) ∧ (s.drop k).any (fun o => jb J o w) = false
  | 0, k, h, _ => by omega
  | n + 1, k, h, hk => by
    unfold ixfi4_l1
    by_cases c : k < s.length
    · have hx := hs _ (getD_mem c (d := 0))
      have hd := drop_cons c 0
      rw [br_dec (by omega), idx_eq (by omega) (gets c 0)]
      unfold every1i4_S lone11_S
      rw [rng_eq (by omega), rng_eq (by omega), get_get false (by omega)]
      simp only [Option.bind_some, Bool.not_not]
      cases hj : jb J (s.getD k 0) w
      · unfold jb at hj
        rw [hj, br_false, chk_eq (by omega)]
        obtain ⟨r, e, hr⟩ := ixfi4_p hJ hw hs hl n (k + 1) (by omega) (by omega)
        rw [show ((k + 1 : Nat) : Int) = (k : Int) + 1 by omega] at e
        have hjb : jb J (s.getD k 0) w = false := hj
        refine ⟨r, e, ?_⟩
        rw [hd, List.any_cons, hjb, Bool.false_or]
        exact hr
      · have hjb : jb J (s.getD k 0) w = true := hj
        unfold jb at hj
        rw [hj, br_true]
        exact ⟨_, rfl, rfl, by dsimp only; omega, by rw [hd, List.any_cons, hjb, Bool.true_or]⟩
    · rw [br_ndec (by omega), List.drop_of_length_le (by omega)]
      exact ⟨_, rfl, rfl, rfl⟩
theorem everyi4_v {N : Nat} (hN : 110 ≤ N) {J : List Bool} {w : Int} (hJ : J.length = 144) (hw : 0 ≤ w ∧ w < 12) {s : List Int} (hs : ∀ x ∈ s, 0 ≤ x ∧ x < 12) (hl : s.length ≤ 100) : everyi4_S N s J w = some (s.all fun o => !jb J o w) := by
  obtain ⟨r, e, hr⟩ := ixfi4_p (N := N) hJ hw hs (by omega) N 0 (by omega) (by omega)
  simp only [Int.natCast_zero] at e
  unfold everyi4_S cofi4_S ixfi4_S
  rw [e]
  rw [← any_not, ]
  simp only [Bool.not_not]
  cases r with
  | inl x =>
    obtain ⟨x1, x2, x3⟩ := x
    obtain ⟨h1, h2, h3⟩ := hr
    simp only [Prod.mk.injEq] at h1
    dsimp only at h2
    simp only [List.drop_zero] at h3
    simp [h2, h3]
  | inr x =>
    obtain ⟨rfl, h3⟩ := hr
    simp only [List.drop_zero] at h3
    simp [h3]
/-- What the search comes to: of lists that go on from one, a longer one, the first of the longest ones. -/
def LnF (m : Int) (V : List Int → Prop) (e0 : Bool) (l : List Int) (lo : Int) (g g' : List Int) : Prop :=
  (g' = g ∨ g.length < g'.length ∧ ∃ c, okC m lo c ∧ (e0 = true → c ≠ []) ∧ g' = l ++ c ∧ V g') ∧ g.length ≤ g'.length ∧
  ∀ c, okC m lo c → (e0 = true → c ≠ []) → V (l ++ c) → (l ++ c).length ≤ g'.length ∧ (g.length < (l ++ c).length → (l ++ c).length = g'.length → bef (l ++ c) g' = false)
theorem bef_app (l : List Int) (a b : List Int) : bef (l ++ a) (l ++ b) = bef a b := by
  induction l with
  | nil => rfl
  | cons x l ih =>
    show (if x = x then bef (l ++ a) (l ++ b) else decide (x < x)) = _
    rw [if_pos rfl, ih]
theorem LnF.none {m : Int} {V : List Int → Prop} {l : List Int} {w : Int} {g : List Int} (h : m ≤ w) : LnF m V true l w g g := by
  refine ⟨.inl rfl, Nat.le_refl _, fun c hc hn => ?_⟩
  have := okC_len hc (hn rfl)
  have : c.length = 0 := by omega
  exact absurd (List.eq_nil_of_length_eq_zero this) (hn rfl)
theorem LnF.skip {m : Int} {V : List Int → Prop} {l : List Int} {w : Int} {g g' : List Int} (hV : ∀ r, ¬ V (l ++ w :: r)) (h : LnF m V true l (w + 1) g g') : LnF m V true l w g g' := by
  obtain ⟨h1, h2, h3⟩ := h
  refine ⟨?_, h2, fun c hc hn hv => ?_⟩
  · rcases h1 with h1 | ⟨h1, c, c1, c2⟩
    · exact .inl h1
    · exact .inr ⟨h1, c, okC_mono (by omega) c1, c2⟩
  · cases c with
    | nil => exact absurd rfl (hn rfl)
    | cons a r =>
      obtain ⟨⟨a1, a2⟩, a3⟩ := hc
      by_cases e : a = w
      · subst e; exact absurd hv (hV r)
      · exact h3 (a :: r) ⟨⟨by omega, a2⟩, a3⟩ hn hv
theorem LnF.step {m : Int} {V : List Int → Prop} {l : List Int} {w : Int} {g g1 g' : List Int} (hw : w < m) (h : LnF m V false (l ++ [w]) (w + 1) g g1) (h' : LnF m V true l (w + 1) g1 g') : LnF m V true l w g g' := by
  obtain ⟨h1, h2, h3⟩ := h
  obtain ⟨k1, k2, k3⟩ := h'
  have e1 : ∀ r, l ++ [w] ++ r = l ++ w :: r := fun r => by simp
  refine ⟨?_, by omega, fun c hc hn hv => ?_⟩
  · rcases k1 with rfl | ⟨k1, c, c1, c2⟩
    · rcases h1 with rfl | ⟨h1, c, c1, _, c3⟩
      · exact .inl rfl
      · exact .inr ⟨h1, w :: c, ⟨⟨by omega, hw⟩, c1⟩, fun _ => by simp, by rw [← e1]; exact c3.1, c3.2⟩
    · exact .inr ⟨by omega, c, okC_mono (by omega) c1, c2⟩
  · cases c with
    | nil => exact absurd rfl (hn rfl)
    | cons a r =>
      obtain ⟨⟨a1, a2⟩, a3⟩ := hc
      by_cases e : a = w
      · subst e
        have := h3 r a3 (fun h => by cases h) (by rw [e1]; exact hv)
        rw [e1] at this
        refine ⟨by omega, fun q1 q2 => ?_⟩
        have hgl : g1.length = g'.length := by omega
        rcases k1 with rfl | ⟨k1, _⟩
        · exact this.2 q1 (by omega)
        · omega
      · have := k3 (a :: r) ⟨⟨by omega, a2⟩, a3⟩ (fun _ => by simp) hv
        refine ⟨this.1, fun q1 q2 => ?_⟩
        by_cases d : g1.length < (l ++ a :: r).length
        · exact this.2 d q2
        · rcases k1 with rfl | ⟨k1, _⟩
          · rcases h1 with rfl | ⟨_, c, _, _, c3, _⟩
            · omega
            · rw [c3, e1, bef_app]
              unfold bef
              rw [if_neg e, decide_eq_false (by omega)]
          · omega
theorem LnF.begin {m : Int} {V : List Int → Prop} {l : List Int} {lo : Int} {g g1 g' : List Int} (hV : V l) (hg : g1 = if g.length < l.length then l else g) (h : LnF m V true l lo g1 g') : LnF m V false l lo g g' := by
  obtain ⟨k1, k2, k3⟩ := h
  have hle : g.length ≤ g1.length := by rw [hg]; split <;> omega
  have hl : l.length ≤ g1.length := by rw [hg]; split <;> omega
  refine ⟨?_, by omega, fun c hc _ hv => ?_⟩
  · rcases k1 with rfl | ⟨k1, c, c1, c2, c3⟩
    · split at hg
      · rename_i d
        subst hg
        exact .inr ⟨d, [], trivial, (fun h => by cases h), by simp, hV⟩
      · exact .inl hg
    · exact .inr ⟨by omega, c, c1, (fun h => by cases h), c3⟩
  · by_cases e : c = []
    · subst e
      simp only [List.append_nil]
      refine ⟨by omega, fun q1 q2 => ?_⟩
      rw [if_pos q1] at hg
      subst hg
      rcases k1 with rfl | ⟨k1, _⟩
      · exact bef_self _
      · omega
    · have := k3 c hc (fun _ => e) hv
      refine ⟨this.1, fun q1 q2 => ?_⟩
      have hcl : 0 < c.length := List.length_pos_iff.2 e
      have hlc : (l ++ c).length = l.length + c.length := by simp
      refine this.2 ?_ q2
      rw [hg]; split <;> omega
/-- No two words of a list are joined. -/
def VL (J : List Bool) (l : List Int) : Prop := l.Pairwise fun a b => jb J a b = false
theorem VL_snoc {J : List Bool} {l : List Int} {w : Int} : VL J (l ++ [w]) ↔ VL J l ∧ (l.all fun o => !jb J o w) = true := by
  unfold VL
  rw [List.pairwise_append]
  simp [List.all_eq_true]
theorem VL_pre {J : List Bool} {l c : List Int} (h : VL J (l ++ c)) : VL J l := (List.pairwise_append.1 h).1
section
variable {N : Nat} {ws : List Wd} {ts : List Tn} {br_ : Int}
variable (hN : 110 ≤ N) (hF : TFine ws ts br_)
include hN hF
theorem lmore_l1_p {J : List Bool} (hJ : J.length = 144) {self : List Int → Int → Tx → List Bool → List Int → Tx → List Bool → Option (List Int × Tx × List Bool)} {l : List Int} (hl : l ≠ [])
    (hb : ∀ x ∈ l, 0 ≤ x ∧ x < ws.length) (hll : l.length ≤ ws.length) {lo : Int}
    (hrec : ∀ (w : Int) (g : List Int), lo ≤ w → w < ws.length → VL J (l ++ [w]) → g.length ≤ 100 → ∃ g', self (l ++ [w]) (w + 1) (ws, ts, br_) J g (ws, ts, br_) J = some (g', (ws, ts, br_), J) ∧ g'.length ≤ 100 ∧ LnF ws.length (VL J) false (l ++ [w]) (w + 1) g g') (hV : VL J l) :
    ∀ (n : Nat) (w : Int) (g : List Int), (ws.length + 1 - w).toNat < n → lo ≤ w → 0 ≤ w → w ≤ ws.length → g.length ≤ 100 → ∃ g', lmore_l1 N self n l (ws, ts, br_) J g (ws, ts, br_) J w = some (g', (ws, ts, br_), J) ∧ g'.length ≤ 100 ∧ LnF ws.length (VL J) true l w g g'
  | 0, w, g, h, _, _, _, _ => by omega
  | n + 1, w, g, h, hlo, h0, h1, hg => by
    have hn := hF.n
    unfold lmore_l1 end__S
    simp only [Option.bind_some]
    by_cases c : w < ws.length
    · have hj : ∀ g1 : List Int, g1.length ≤ 100 → ∃ g', lmore_j2 N self (lmore_l1 N self n) l (ws, ts, br_) J g1 (ws, ts, br_) J w = some (g', (ws, ts, br_), J) ∧ g'.length ≤ 100 ∧ LnF ws.length (VL J) true l (w + 1) g1 g' := by
        intro g1 hg1
        unfold lmore_j2
        rw [chk_eq (by omega)]
        exact lmore_l1_p hJ hl hb hll hrec hV n (w + 1) g1 (by omega) (by omega) (by omega) (by omega) hg1
      rw [br_dec c, everyi4_v hN hJ (by omega) (fun x hx => by have := hb x hx; omega) (by omega)]
      simp only [Option.bind_some]
      cases ha : l.all fun o => !jb J o w
      · rw [br_false]
        obtain ⟨g', e, e0, h2⟩ := hj g hg
        refine ⟨g', e, e0, h2.skip fun r hr => ?_⟩
        have := (VL_snoc.1 (VL_pre (l := l ++ [w]) (c := r) (by simpa using hr))).2
        rw [ha] at this; cases this
      · rw [br_true, cloneo_v hl (by omega)]
        simp only [Option.bind_some]
        rw [lim_eq (by simp; omega), chk_eq (by omega)]
        obtain ⟨g1, e1, hg1, h1⟩ := hrec w g hlo c (VL_snoc.2 ⟨hV, ha⟩) hg
        rw [e1]
        simp only [Option.bind_some]
        obtain ⟨g', e, e0, h2⟩ := hj g1 hg1
        exact ⟨g', e, e0, h1.step c h2⟩
    · rw [br_ndec c]
      exact ⟨g, rfl, hg, LnF.none (by omega)⟩
theorem lmore_v {J : List Bool} (hJ : J.length = 144) : ∀ (n : Nat) (l : List Int) (lo : Int) (g : List Int), (ws.length + 1 - lo).toNat < n → l ≠ [] → (∀ x ∈ l, 0 ≤ x ∧ x < ws.length) → (l.length : Int) ≤ lo → 0 ≤ lo → lo ≤ ws.length → VL J l → g.length ≤ 100 →
    ∃ g', lmore_R N n l lo (ws, ts, br_) J g (ws, ts, br_) J = some (g', (ws, ts, br_), J) ∧ g'.length ≤ 100 ∧ LnF ws.length (VL J) false l lo g g'
  | 0, l, lo, g, h, _, _, _, _, _, _, _ => by omega
  | n + 1, l, lo, g, h, hl, hb, hll, h0, h1, hV, hg => by
    have hn := hF.n
    unfold lmore_R lmore_S
    have hj : ∀ g1 : List Int, g1.length ≤ 100 → ∃ g', lmore_j1 N (lmore_R N n) l lo (ws, ts, br_) J g1 (ws, ts, br_) J = some (g', (ws, ts, br_), J) ∧ g'.length ≤ 100 ∧ LnF ws.length (VL J) true l lo g1 g' := by
      intro g1 hg1
      obtain ⟨g', e, e0, h2⟩ := lmore_l1_p hN hF hJ (self := lmore_R N n) (l := l) hl hb (by omega) (lo := lo) (fun w g2 a1 a2 a3 a4 => lmore_v hJ n (l ++ [w]) (w + 1) g2 (by omega) (by simp) (fun x hx => by
        rcases List.mem_append.1 hx with hx | hx
        · exact hb x hx
        · rw [List.mem_singleton] at hx; omega) (by simp; omega) (by omega) (by omega) a3 a4) hV N lo g1 (by omega) (by omega) h0 h1 hg1
      unfold lmore_j1
      rw [e]
      exact ⟨g', rfl, e0, h2⟩
    by_cases c : (g.length : Int) < (l.length : Int)
    · rw [br_dec c, cloneo_v hl (by omega)]
      simp only [Option.bind_some]
      obtain ⟨g', e, e0, h2⟩ := hj l (by omega)
      exact ⟨g', e, e0, h2.begin hV (by rw [if_pos (by omega)])⟩
    · rw [br_ndec c]
      obtain ⟨g', e, e0, h2⟩ := hj g hg
      exact ⟨g', e, e0, h2.begin hV (by rw [if_neg (by omega)])⟩
theorem lmore0_l1_p {J : List Bool} (hJ : J.length = 144) :
    ∀ (n : Nat) (w : Int) (g : List Int), (ws.length + 1 - w).toNat < n → 0 ≤ w → w ≤ ws.length → g.length ≤ 100 → ∃ g', lmore0_l1 N n (ws, ts, br_) J g (ws, ts, br_) J w = some (g', (ws, ts, br_), J) ∧ g'.length ≤ 100 ∧ LnF ws.length (VL J) true [] w g g'
  | 0, w, g, h, _, _, _ => by omega
  | n + 1, w, g, h, h0, h1, hg => by
    have hn := hF.n
    unfold lmore0_l1 end__S
    simp only [Option.bind_some]
    by_cases c : w < ws.length
    · have hj : ∀ g1 : List Int, g1.length ≤ 100 → ∃ g', lmore0_j2 N (lmore0_l1 N n) (ws, ts, br_) J g1 (ws, ts, br_) J w = some (g', (ws, ts, br_), J) ∧ g'.length ≤ 100 ∧ LnF ws.length (VL J) true [] (w + 1) g1 g' := by
        intro g1 hg1
        unfold lmore0_j2
        rw [chk_eq (by omega)]
        exact lmore0_l1_p hJ n (w + 1) g1 (by omega) (by omega) (by omega) hg1
      rw [br_dec c, everyi4_v hN hJ (by omega) (fun x hx => by cases hx) (by simp)]
      simp only [Option.bind_some, List.all_nil]
      rw [br_true]
      unfold clonen_S
      simp only [Option.bind_some]
      rw [chk_eq (by omega)]
      obtain ⟨g1, e1, hg1, h1⟩ := lmore_v hN hF hJ N [w] (w + 1) g (by omega) (by simp) (fun x hx => by rw [List.mem_singleton] at hx; omega) (by simp; omega) (by omega) (by omega) (List.pairwise_singleton _ _) hg
      rw [e1]
      simp only [Option.bind_some]
      obtain ⟨g', e, e0, h2⟩ := hj g1 hg1
      exact ⟨g', e, e0, LnF.step (l := []) c h1 h2⟩
    · rw [br_ndec c]
      exact ⟨g, rfl, hg, LnF.none (by omega)⟩
/-- As many words as can be, no two of which are joined: of such lists the first one. -/
def LoneW (m : Nat) (R : Nat → Nat → Bool) (l : List Int) : Prop :=
  okC m 0 l ∧ l.Pairwise (fun a b => ¬ Jn R m a.toNat b.toNat) ∧ ∀ c, okC m 0 c → c.Pairwise (fun a b => ¬ Jn R m a.toNat b.toNat) → c.length ≤ l.length ∧ (c.length = l.length → bef c l = false)
omit hN hF in
theorem loneW_uniq {m : Nat} {R : Nat → Nat → Bool} {a b : List Int} (ha : LoneW m R a) (hb : LoneW m R b) : a = b := by
  obtain ⟨a1, a2, a3⟩ := ha
  obtain ⟨b1, b2, b3⟩ := hb
  have h1 := a3 b b1 b2
  have h2 := b3 a a1 a2
  have e : a.length = b.length := by omega
  exact bef_total e (h2.2 e) (h1.2 e.symm)
omit hN in
theorem VL_iff {J : List Bool} (hJ : Jt J (Jn (rightR ws ts br_) ws.length)) {l : List Int} (hl : okC ws.length 0 l) : VL J l ↔ l.Pairwise (fun a b => ¬ Jn (rightR ws ts br_) ws.length a.toNat b.toNat) := by
  have hn := hF.n
  have hm := okC_mem hl
  have key : ∀ a ∈ l, ∀ b ∈ l, (jb J a b = false ↔ ¬ Jn (rightR ws ts br_) ws.length a.toNat b.toNat) := by
    intro a ha b hb
    have h1 := hm a ha
    have h2 := hm b hb
    have := hJ.2 a.toNat b.toNat (by omega) (by omega)
    unfold jb
    rw [← this]
    simp
  unfold VL
  constructor
  · intro h
    exact h.imp_of_mem (fun ha hb hp => (key _ ha _ hb).1 hp)
  · intro h
    exact h.imp_of_mem (fun ha hb hp => (key _ ha _ hb).2 hp)
theorem lone_in : ∃ l, lone_S N ws ts br_ = some (l, 0) ∧ LoneW ws.length (rightR ws ts br_) l := by
  have hn := hF.n; have ht := hF.t
  have hc := checkT_of hF
  unfold lone_S
  rw [opened_v (by omega) (by omega) (by omega), if_pos hc]
  simp only [Option.bind_some]
  rw [br_nd (by first | trivial | rfl)]
  unfold end__S
  simp only [Option.bind_some]
  obtain ⟨J, e1, hJ⟩ := lone_l1_p hN hF (u := 0) N 0 (List.replicate 144 false) (fun _ _ => False) (by omega) (by omega) ⟨by simp, fun a b ha hb => by
    simp only [List.getD, List.getElem?_replicate]
    split <;> simp⟩
  simp only [Int.natCast_zero] at e1
  rw [e1]
  simp only [Option.bind_some]
  have hJ' : Jt J (Jn (rightR ws ts br_) ws.length) := hJ.mono fun x y _ _ => by
    unfold Jn
    constructor
    · rintro (h | ⟨f, t, _, h⟩)
      · exact h.elim
      · exact ⟨f, t, h⟩
    · rintro ⟨f, t, h⟩
      exact .inr ⟨f, t, by omega, h⟩
  unfold lmore0_S
  rw [br_ndec (by simp)]
  unfold lmore0_j1
  obtain ⟨g, e2, hg, h2⟩ := lmore0_l1_p hN hF hJ.1 N 0 [] (by omega) (by omega) (by omega) (by simp)
  rw [e2]
  simp only [Option.bind_some]
  refine ⟨g, rfl, ?_⟩
  have h3 : LnF ws.length (VL J) false [] 0 [] g := h2.begin .nil (by simp)
  obtain ⟨k1, _, k3⟩ := h3
  have hok : okC ws.length 0 g ∧ VL J g := by
    rcases k1 with rfl | ⟨_, c, c1, _, c3, c4⟩
    · exact ⟨trivial, .nil⟩
    · rw [List.nil_append] at c3
      subst c3
      exact ⟨c1, c4⟩
  refine ⟨hok.1, (VL_iff hF hJ' hok.1).1 hok.2, fun c hc hp => ?_⟩
  have := k3 c hc (fun h => by cases h) (by rw [List.nil_append]; exact (VL_iff hF hJ' hc).2 hp)
  rw [List.nil_append] at this
  refine ⟨this.1, fun e => ?_⟩
  by_cases d : 0 < c.length
  · exact this.2 (by simpa using d) e
  · have : c = [] := List.eq_nil_of_length_eq_zero (by omega)
    subst this; rfl
end
end Go.Proofs.Ytfamlpbdhhikdaa

namespace Go.Proofs.Ytfamlpbdhhikdaa
set_option linter.all false
open Go

/-! ### The reference's lone words -/
def cntL (l : List Int) (f t : Int) : List Int := l.filter fun x => decide (f ≤ x) && decide (x < t)
theorem cntL_len (l : List Int) (f t : Int) : (cntL l f t).length ≤ l.length := List.length_filter_le _ _
/-- Two words of a list between two places. -/
theorem cnt_pair {l : List Int} {f t : Int} (h : 1 < (cntL l f t).length) : ∃ a b, [a, b].Sublist l ∧ (f ≤ a ∧ a < t) ∧ f ≤ b ∧ b < t := by
  have hs : (cntL l f t).Sublist l := List.filter_sublist
  have hm : ∀ x ∈ cntL l f t, f ≤ x ∧ x < t := fun x hx => by
    have := (List.mem_filter.1 hx).2
    simpa using this
  generalize cntL l f t = c at *
  match c, h, hs, hm with
  | [], h, _, _ => simp at h
  | [_], h, _, _ => simp at h
  | a :: b :: r, _, hs, hm =>
    refine ⟨a, b, List.Sublist.trans ?_ hs, hm a (by simp), hm b (by simp)⟩
    exact (List.nil_sublist r).cons₂ b |>.cons₂ a
theorem pair_cnt {l : List Int} {f t a b : Int} (h : [a, b].Sublist l) (ha : f ≤ a ∧ a < t) (hb : f ≤ b ∧ b < t) : 1 < (cntL l f t).length := by
  have := (h.filter fun x => decide (f ≤ x) && decide (x < t)).length_le
  have e : ([a, b].filter fun x => decide (f ≤ x) && decide (x < t)) = [a, b] := by
    simp [ha, hb]
  rw [e] at this
  exact this
theorem okC_pair {m : Int} : ∀ {l : List Int} {lo : Int}, okC m lo l → l.Pairwise (· < ·)
  | [], _, _ => .nil
  | a :: r, lo, ⟨_, h⟩ => .cons (fun b hb => by have := okC_mem h b hb; omega) (okC_pair h)
theorem alone_iff {R : Nat → Nat → Bool} {m : Nat} {l : List Int} (hl : okC m 0 l) :
    (∀ f, f < m → ∀ t, f + 1 ≤ t → t ≤ m → 1 < (cntL l f t).length → R f t = false) ↔ l.Pairwise (fun a b => ¬ Jn R m a.toNat b.toNat) := by
  have hm := okC_mem hl
  have hp : ∀ a b, [a, b].Sublist l → a < b := fun a b h => List.pairwise_iff_forall_sublist.1 (okC_pair hl) h
  rw [List.pairwise_iff_forall_sublist]
  constructor
  · rintro h a b hab ⟨f, t, h1, h2, h3, h4, h5⟩
    have ha := hm a (hab.subset (by simp))
    have hb := hm b (hab.subset (by simp))
    have := h f (by omega) t (by omega) h4 (pair_cnt hab (by omega) (by omega))
    rw [h5] at this; cases this
  · intro h f hf t h1 h2 hc
    obtain ⟨a, b, hab, ha, hb⟩ := cnt_pair hc
    have hlt := hp _ _ hab
    cases hR : R f t
    · rfl
    · exact absurd ⟨f, t, by omega, by omega, by omega, h2, hR⟩ (h hab)
section
variable {N : Nat} {ws : List Wd} {ts : List Tn} {br_ : Int}
theorem rlone_l4_p {best l : List Int} {nn f t : Int} {al : Bool} (hl : l.length ≤ 100) : ∀ (n k : Nat) (many : Int), l.length < n + k → k ≤ l.length → 0 ≤ many ∧ many ≤ k →
    rlone_l4 N n best nn l al f t many k ws ts br_ = some (best, nn, l, al, f, t, many + ((cntL (l.drop k) f t).length : Int), ws, ts, br_)
  | 0, k, many, h, _, _ => by omega
  | n + 1, k, many, h, hk, hm => by
    unfold rlone_l4
    by_cases c : k < l.length
    · have hj : ∀ m', 0 ≤ m' ∧ m' ≤ ((k + 1 : Nat) : Int) → rlone_j1 N (rlone_l4 N n) best nn l al f t m' k ws ts br_ = some (best, nn, l, al, f, t, m' + ((cntL (l.drop (k + 1)) f t).length : Int), ws, ts, br_) := by
        intro m' hm'
        have ih := rlone_l4_p (best := best) (nn := nn) (f := f) (t := t) (al := al) hl n (k + 1) m' (by omega) (by omega) hm'
        rw [show ((k + 1 : Nat) : Int) = (k : Int) + 1 by omega] at ih
        unfold rlone_j1
        rw [chk_eq (by omega), ih]
      have g := gets c 0
      rw [br_dec (by omega), idx_eq (by omega) g, drop_cons c 0]
      unfold cntL at hj ⊢
      rw [List.filter_cons]
      by_cases d1 : f ≤ l.getD k 0
      · rw [br_dec d1, idx_eq (by omega) g]
        by_cases d2 : l.getD k 0 < t
        · rw [br_dec d2, chk_eq (by omega), hj _ (by omega), if_pos (by simp only [decide_eq_true d1, decide_eq_true d2]; rfl)]
          have e : ∀ X : Nat, many + 1 + (X : Int) = many + ((X + 1 : Nat) : Int) := fun X => by omega
          rw [List.length_cons, e]
        · rw [br_ndec d2, hj _ (by omega), if_neg (by simp only [decide_eq_false d2, Bool.and_false]; simp)]
      · rw [br_ndec d1, hj _ (by omega), if_neg (by simp only [decide_eq_false d1, Bool.false_and]; simp)]
    · rw [br_ndec (by omega), List.drop_of_length_le (by omega)]
      simp [cntL]
theorem kind_neg (a b : Nat) : kindR ws ts br_ a b < 0 ↔ rightR ws ts br_ a b = true := by
  have := faultR_pos (ws := ws) (ts := ts) (br_ := br_) a b
  unfold kindR rightR
  cases (faultR ws ts br_ a b).2
  · simp
  · simp; omega
variable (hN : 110 ≤ N) (hF : TFine ws ts br_)
include hN hF
theorem rlone_l3_p {best l : List Int} {nn : Int} {f : Nat} (hl : l.length ≤ 100) : ∀ (n k : Nat) (al : Bool), ws.length + 1 < n + k → f ≤ k → k ≤ ws.length + 1 →
    ∃ al', rlone_l3 N n best nn l al f k ws ts br_ = some (best, nn, l, al', (f : Int), ws, ts, br_) ∧ (al' = true ↔ al = true ∧ ∀ t : Nat, k ≤ t → t ≤ ws.length → 1 < (cntL l f t).length → rightR ws ts br_ f t = false)
  | 0, k, al, h, _, _ => by omega
  | n + 1, k, al, h, hf, hk => by
    have hn := hF.n
    unfold rlone_l3
    by_cases c : k ≤ ws.length
    · have hj : ∀ a1 : Bool, (a1 = true ↔ al = true ∧ (1 < (cntL l f k).length → rightR ws ts br_ f k = false)) → ∃ al', rlone_j2 N (rlone_l3 N n) best nn l a1 f k ws ts br_ = some (best, nn, l, al', (f : Int), ws, ts, br_) ∧ (al' = true ↔ al = true ∧ ∀ t : Nat, k ≤ t → t ≤ ws.length → 1 < (cntL l f t).length → rightR ws ts br_ f t = false) := by
        intro a1 ha
        obtain ⟨al', e, h2⟩ := rlone_l3_p (best := best) (nn := nn) (f := f) hl n (k + 1) a1 (by omega) (by omega) (by omega)
        rw [show ((k + 1 : Nat) : Int) = (k : Int) + 1 by omega] at e
        unfold rlone_j2
        rw [chk_eq (by omega), e]
        refine ⟨al', rfl, h2.trans ?_⟩
        rw [ha]
        constructor
        · rintro ⟨⟨q1, q2⟩, q3⟩
          refine ⟨q1, fun t a b => ?_⟩
          by_cases e : t = k
          · subst e; exact q2
          · exact q3 t (by omega) b
        · rintro ⟨q1, q2⟩
          exact ⟨⟨q1, q2 k (Nat.le_refl _) c⟩, fun t a b => q2 t (by omega) b⟩
      have hc := cntL_len l f k
      rw [br_dec (by omega)]
      have e4 := rlone_l4_p (N := N) (ws := ws) (ts := ts) (br_ := br_) (best := best) (nn := nn) (f := (f : Int)) (t := (k : Int)) (al := al) hl N 0 0 (by omega) (by omega) (by omega)
      simp only [Int.natCast_zero, List.drop_zero, Int.zero_add] at e4
      rw [e4]
      simp only [Option.bind_some]
      by_cases d : 1 < (cntL l f k).length
      · rw [br_dec (by omega)]
        cases al
        · rw [br_false]
          exact hj _ (by simp)
        · rw [br_true, rfault_v hN hF hf c]
          simp only [Option.bind_some]
          by_cases d2 : rightR ws ts br_ f k = true
          · rw [br_dec ((kind_neg f k).2 d2)]
            simpa using hj false (by simp [d, d2])
          · rw [br_ndec (fun h => d2 ((kind_neg f k).1 h))]
            simpa using hj true (by simp [d2])
      · rw [br_ndec (by omega)]
        exact hj _ (by simp [d])
    · rw [br_ndec (by omega)]
      exact ⟨al, rfl, by simp only [iff_self_and]; intro _ t h1 h2; omega⟩
theorem rlone_l2_p {best l : List Int} {nn : Int} (hl : l.length ≤ 100) : ∀ (n k : Nat) (al : Bool), ws.length < n + k → k ≤ ws.length →
    ∃ al', rlone_l2 N n best nn l al k ws ts br_ = some (best, nn, l, al', ws, ts, br_) ∧ (al' = true ↔ al = true ∧ ∀ f : Nat, k ≤ f → f < ws.length → ∀ t : Nat, f + 1 ≤ t → t ≤ ws.length → 1 < (cntL l f t).length → rightR ws ts br_ f t = false)
  | 0, k, al, h, _ => by omega
  | n + 1, k, al, h, hk => by
    have hn := hF.n
    unfold rlone_l2
    by_cases c : k < ws.length
    · obtain ⟨a1, e1, h1⟩ := rlone_l3_p hN hF (best := best) (nn := nn) (f := k) hl N (k + 1) al (by omega) (by omega) (by omega)
      obtain ⟨a2, e2, h2⟩ := rlone_l2_p (best := best) (nn := nn) hl n (k + 1) a1 (by omega) (by omega)
      rw [show ((k + 1 : Nat) : Int) = (k : Int) + 1 by omega] at e1 e2
      rw [br_dec (by omega), chk_eq (by omega), e1]
      simp only [Option.bind_some]
      rw [chk_eq (by omega), e2]
      refine ⟨a2, rfl, h2.trans ?_⟩
      rw [h1]
      constructor
      · rintro ⟨⟨q1, q2⟩, q3⟩
        refine ⟨q1, fun f a b => ?_⟩
        by_cases e : f = k
        · subst e; exact q2
        · exact q3 f (by omega) b
      · rintro ⟨q1, q2⟩
        exact ⟨⟨q1, q2 k (Nat.le_refl _) c⟩, fun f a b => q2 f (by omega) b⟩
    · rw [br_ndec (by omega)]
      exact ⟨al, rfl, by simp only [iff_self_and]; intro _ t h1 h2; omega⟩
omit hN hF
/-- Longer, or as long and ahead. -/
def betr (a b : List Int) : Prop := b.length < a.length ∨ a.length = b.length ∧ bef a b = true
theorem betr_trans {a b c : List Int} : betr a b → betr b c → betr a c := by
  rintro (h | ⟨h, h2⟩) (g | ⟨g, g2⟩)
  · exact .inl (by omega)
  · exact .inl (by omega)
  · exact .inl (by omega)
  · exact .inr ⟨by omega, bef_trans h2 g2⟩
theorem betr_self (l : List Int) : ¬ betr l l := by
  rintro (h | ⟨_, h⟩)
  · omega
  · rw [bef_self] at h; cases h
def BestL (m : Nat) (R : Nat → Nat → Bool) (k : Nat) (best : List Int) : Prop :=
  (okC m 0 best ∧ best.Pairwise (fun a b => ¬ Jn R m a.toNat b.toNat)) ∧ ∀ i, i < k → (lst m 0 i).Pairwise (fun a b => ¬ Jn R m a.toNat b.toNat) → ¬ betr (lst m 0 i) best
theorem BestL.skip {m : Nat} {R : Nat → Nat → Bool} {k : Nat} {best : List Int} (h : BestL m R k best) (hp : (lst m 0 k).Pairwise (fun a b => ¬ Jn R m a.toNat b.toNat) → ¬ betr (lst m 0 k) best) : BestL m R (k + 1) best :=
  ⟨h.1, fun i a b => by
    by_cases e : i = k
    · rw [e] at b ⊢; exact hp b
    · exact h.2 i (by omega) b⟩
theorem BestL.take {m : Nat} {R : Nat → Nat → Bool} {k : Nat} {best : List Int} (h : BestL m R k best) (hp : (lst m 0 k).Pairwise (fun a b => ¬ Jn R m a.toNat b.toNat)) (hb : betr (lst m 0 k) best) : BestL m R (k + 1) (lst m 0 k) := by
  have ho := lst_ok m 0 k
  rw [Int.zero_add] at ho
  refine ⟨⟨ho, hp⟩, fun i a b c => ?_⟩
  by_cases e : i = k
  · rw [e] at c; exact betr_self _ c
  · exact h.2 i (by omega) b (betr_trans c hb)
theorem BestL.done {m : Nat} {R : Nat → Nat → Bool} {best : List Int} (h : BestL m R (2 ^ m) best) : LoneW m R best := by
  refine ⟨h.1.1, h.1.2, fun c hc hp => ?_⟩
  obtain ⟨n, h1, rfl⟩ := lst_all m 0 c (by rw [Int.zero_add]; exact hc)
  have := h.2 n h1 hp
  unfold betr at this
  refine ⟨?_, fun e => ?_⟩
  · rcases Nat.lt_or_ge best.length (lst m 0 n).length with d | d
    · exact absurd (.inl d) this
    · exact d
  · cases hb : bef (lst m 0 n) best
    · rfl
    · exact absurd (.inr ⟨e, hb⟩) this
include hN hF
theorem rlone_l1_p : ∀ (n k : Nat) (best : List Int), 2 ^ ws.length < n + k → k ≤ 2 ^ ws.length → BestL ws.length (rightR ws ts br_) k best → best.length ≤ 20 →
    ∃ b, rlone_l1 N n best k ws ts br_ = some b ∧ BestL ws.length (rightR ws ts br_) (2 ^ ws.length) b
  | 0, k, best, h, _, _, _ => by omega
  | n + 1, k, best, h, hk2, hb, hbl => by
    have hn := hF.n
    have hp2 : 2 ^ ws.length ≤ 2 ^ 12 := Nat.pow_le_pow_right (by decide) (by omega)
    unfold rlone_l1
    rw [lists_v (by omega) hN]
    simp only [Option.bind_some]
    by_cases c : k < 2 ^ ws.length
    · have hll := lst_len ws.length 0 k
      have hlo := lst_ok ws.length 0 k
      rw [Int.zero_add] at hlo
      have hj : ∀ best' : List Int, BestL ws.length (rightR ws ts br_) (k + 1) best' → best'.length ≤ 20 → ∃ b, rlone_j3 N (rlone_l1 N n) best' k ws ts br_ = some b ∧ BestL ws.length (rightR ws ts br_) (2 ^ ws.length) b := by
        intro best' h1 h2
        obtain ⟨b, e, hb⟩ := rlone_l1_p n (k + 1) best' (by omega) (by omega) h1 h2
        rw [show ((k + 1 : Nat) : Int) = (k : Int) + 1 by omega] at e
        unfold rlone_j3
        rw [chk_eq (by omega), e]
        exact ⟨b, rfl, hb⟩
      obtain ⟨al, e1, ha⟩ := rlone_l2_p hN hF (best := best) (l := lst ws.length 0 k) (nn := (k : Int)) (by omega) N 0 true (by omega) (by omega)
      simp only [Int.natCast_zero, true_and] at e1 ha
      have ha' : al = true ↔ (lst ws.length 0 k).Pairwise (fun a b => ¬ Jn (rightR ws ts br_) ws.length a.toNat b.toNat) := by
        rw [ha, ← alone_iff hlo]
        constructor
        · exact fun h f a t b c => h f (by omega) a t b c
        · exact fun h f _ a t b c => h f a t b c
      rw [br_dec (by omega), list_v c (by omega) (by omega)]
      simp only [Option.bind_some]
      rw [e1]
      simp only [Option.bind_some]
      cases hal : al
      · rw [br_false]
        refine hj best (hb.skip fun h => ?_) hbl
        rw [ha'.2 h] at hal; cases hal
      have hp := ha'.1 hal
      rw [br_true]
      by_cases d2 : (best.length : Int) < ((lst ws.length 0 k).length : Int)
      · rw [br_dec d2]
        exact hj _ (hb.take hp (.inl (by omega))) (by omega)
      rw [br_ndec d2]
      by_cases d3 : ((lst ws.length 0 k).length : Int) = (best.length : Int)
      · rw [br_dec d3, before_v (by omega) (by omega) (by omega)]
        simp only [Option.bind_some]
        cases hbf : bef (lst ws.length 0 k) best
        · rw [br_false]
          refine hj _ (hb.skip ?_) hbl
          rintro _ (h | ⟨_, h⟩)
          · omega
          · rw [hbf] at h; cases h
        · rw [br_true]
          exact hj _ (hb.take hp (.inr ⟨by omega, hbf⟩)) (by omega)
      · rw [br_ndec d3]
        refine hj _ (hb.skip ?_) hbl
        rintro _ (h | ⟨h, _⟩) <;> omega
    · obtain rfl : k = 2 ^ ws.length := by omega
      rw [br_ndec (by omega)]
      exact ⟨best, rfl, hb⟩
theorem rlone_v (hp : 2 ^ ws.length < N) : ∃ l, rlone_S N ws ts br_ = some l ∧ LoneW ws.length (rightR ws ts br_) l := by
  obtain ⟨b, e, hb⟩ := rlone_l1_p hN hF N 0 [] (by omega) (Nat.zero_le _) ⟨⟨trivial, .nil⟩, fun i h => by omega⟩ (by simp)
  simp only [Int.natCast_zero] at e
  unfold rlone_S
  rw [e]
  exact ⟨b, rfl, hb.done⟩
/-! ### The reference's marks -/
omit hN hF in
theorem rshows_l1_p {l : List Int} (hl : l.length ≤ 1000000) : ∀ (n k : Nat), l.length < n + k → k ≤ l.length →
    ∃ r, rshows_l1 N n l k ws ts br_ = some r ∧ match r with
      | .inl _ => (l.drop k).all in99 = false
      | .inr x => x = (l, ws, ts, br_) ∧ (l.drop k).all in99 = true
  | 0, k, h, _ => by omega
  | n + 1, k, h, hk => by
    unfold rshows_l1
    by_cases c : k < l.length
    · have g := gets c 0
      rw [br_dec (by omega), idx_eq (by omega) g, drop_cons c 0, off_v]
      simp only [Option.bind_some, List.all_cons]
      cases d : in99 (l.getD k 0)
      · rw [show decide (0 ≤ l.getD k 0 ∧ l.getD k 0 ≤ 99) = in99 (l.getD k 0) from rfl, d, Bool.not_false, br_true]
        exact ⟨_, rfl, by simp⟩
      · rw [show decide (0 ≤ l.getD k 0 ∧ l.getD k 0 ≤ 99) = in99 (l.getD k 0) from rfl, d, Bool.not_true, br_false]
        obtain ⟨r, e, hr⟩ := rshows_l1_p hl n (k + 1) (by omega) (by omega)
        rw [show ((k + 1 : Nat) : Int) = (k : Int) + 1 by omega] at e
        rw [chk_eq (by omega), e]
        refine ⟨r, rfl, ?_⟩
        cases r <;> simpa using hr
    · rw [br_ndec (by omega), List.drop_of_length_le (by omega)]
      exact ⟨_, rfl, rfl, rfl⟩
theorem rshows_l3_p {l : List Int} (hl : l.length = ws.length + 1) (h99 : l.all in99 = true) {f : Nat} (hf : f < ws.length) : ∀ (n k : Nat) (ho : Bool), ws.length + 1 < n + k → f + 1 ≤ k → k ≤ ws.length + 1 →
    ∃ ho', rshows_l3 N n l ho f k ws ts br_ = some (l, ho', (f : Int), ws, ts, br_) ∧ (ho' = true ↔ ho = true ∧ ∀ t : Nat, k ≤ t → t ≤ ws.length → rightR ws ts br_ f t = true → l.getD t 0 ≤ l.getD f 0 + 1)
  | 0, k, ho, h, _, _ => by omega
  | n + 1, k, ho, h, hfk, hk => by
    have hn := hF.n
    unfold rshows_l3
    by_cases c : k ≤ ws.length
    · have hj : ∀ a1 : Bool, (a1 = true ↔ ho = true ∧ (rightR ws ts br_ f k = true → l.getD k 0 ≤ l.getD f 0 + 1)) → ∃ ho', rshows_j1 N (rshows_l3 N n) l a1 f k ws ts br_ = some (l, ho', (f : Int), ws, ts, br_) ∧ (ho' = true ↔ ho = true ∧ ∀ t : Nat, k ≤ t → t ≤ ws.length → rightR ws ts br_ f t = true → l.getD t 0 ≤ l.getD f 0 + 1) := by
        intro a1 ha
        obtain ⟨al', e, h2⟩ := rshows_l3_p hl h99 hf n (k + 1) a1 (by omega) (by omega) (by omega)
        rw [show ((k + 1 : Nat) : Int) = (k : Int) + 1 by omega] at e
        unfold rshows_j1
        rw [chk_eq (by omega), e]
        refine ⟨al', rfl, h2.trans ?_⟩
        rw [ha]
        constructor
        · rintro ⟨⟨q1, q2⟩, q3⟩
          refine ⟨q1, fun t a b => ?_⟩
          by_cases e : t = k
          · subst e; exact q2
          · exact q3 t (by omega) b
        · rintro ⟨q1, q2⟩
          exact ⟨⟨q1, q2 k (Nat.le_refl _) c⟩, fun t a b => q2 t (by omega) b⟩
      have hb : ∀ i, i < l.length → 0 ≤ l.getD i 0 ∧ l.getD i 0 ≤ 99 := fun i hi => by
        have := List.all_eq_true.1 h99 _ (getD_mem (d := 0) hi)
        simpa [in99] using this
      have b1 := hb f (by omega)
      have b2 := hb k (by omega)
      rw [br_dec (by omega), rfault_v hN hF (by omega) c]
      simp only [Option.bind_some]
      by_cases d2 : rightR ws ts br_ f k = true
      · rw [br_dec ((kind_neg f k).2 d2), idx_eq (by omega) (gets (l := l) (k := k) (by omega) 0), idx_eq (by omega) (gets (l := l) (k := f) (by omega) 0), chk_eq (by omega)]
        by_cases d3 : l.getD f 0 + 1 < l.getD k 0
        · rw [br_dec d3]
          exact hj _ (by simp only [Bool.false_eq_true, false_iff]; rintro ⟨_, h⟩; have := h d2; omega)
        · rw [br_ndec d3]
          exact hj _ (by simp only [iff_self_and]; intro _ _; omega)
      · rw [br_ndec (fun h => d2 ((kind_neg f k).1 h))]
        exact hj _ (by simp [d2])
    · rw [br_ndec (by omega)]
      exact ⟨ho, rfl, by simp only [iff_self_and]; intro _ t h1 h2; omega⟩
theorem rshows_l2_p {l : List Int} (hl : l.length = ws.length + 1) (h99 : l.all in99 = true) : ∀ (n k : Nat) (ho : Bool), ws.length < n + k → k ≤ ws.length →
    ∃ ho', rshows_l2 N n l ho k ws ts br_ = some (l, ho', ws, ts, br_) ∧ (ho' = true ↔ ho = true ∧ ∀ f : Nat, k ≤ f → f < ws.length → ∀ t : Nat, f + 1 ≤ t → t ≤ ws.length → rightR ws ts br_ f t = true → l.getD t 0 ≤ l.getD f 0 + 1)
  | 0, k, ho, h, _ => by omega
  | n + 1, k, ho, h, hk => by
    have hn := hF.n
    unfold rshows_l2
    by_cases c : k < ws.length
    · obtain ⟨a1, e1, h1⟩ := rshows_l3_p hN hF hl h99 c N (k + 1) ho (by omega) (by omega) (by omega)
      obtain ⟨a2, e2, h2⟩ := rshows_l2_p hl h99 n (k + 1) a1 (by omega) (by omega)
      rw [show ((k + 1 : Nat) : Int) = (k : Int) + 1 by omega] at e1 e2
      rw [br_dec (by omega), chk_eq (by omega), e1]
      simp only [Option.bind_some]
      rw [chk_eq (by omega), e2]
      refine ⟨a2, rfl, h2.trans ?_⟩
      rw [h1]
      constructor
      · rintro ⟨⟨q1, q2⟩, q3⟩
        refine ⟨q1, fun f a b => ?_⟩
        by_cases e : f = k
        · subst e; exact q2
        · exact q3 f (by omega) b
      · rintro ⟨q1, q2⟩
        exact ⟨⟨q1, q2 k (Nat.le_refl _) c⟩, fun f a b => q2 f (by omega) b⟩
    · rw [br_ndec (by omega)]
      exact ⟨ho, rfl, by simp only [iff_self_and]; intro _ t h1 h2; omega⟩
omit hF in
theorem rshows_v (hw : ws.length ≤ 1000000) (ht : ts.length ≤ 1000000) (l : List Int) : rshows_S N ws ts br_ l = some (showsR ws ts br_ l) := by
  unfold rshows_S showsR
  rw [rcheck_v (by omega) hw ht]
  simp only [Option.bind_some]
  by_cases c : checkT ws ts br_ = 0
  rotate_left
  · rw [br_nnd c, if_pos c]
  have hF := tfine_of c
  have hn := hF.n; have hn0 := hF.n0
  rw [br_nd c, chk_eq (by omega), if_neg (by simpa using c)]
  by_cases c2 : (l.length : Int) = (ws.length : Int) + 1
  rotate_left
  · rw [br_nnd c2, if_pos c2]
  rw [br_nd c2, if_neg (by simpa using c2)]
  obtain ⟨r, e, hr⟩ := rshows_l1_p (N := N) (ws := ws) (ts := ts) (br_ := br_) (l := l) (by omega) N 0 (by omega) (by omega)
  simp only [Int.natCast_zero] at e
  rw [e]
  simp only [Option.bind_some]
  cases r with
  | inl u =>
    simp only [List.drop_zero] at hr
    rw [if_pos hr]
  | inr x =>
    obtain ⟨rfl, h99⟩ := hr
    simp only [List.drop_zero] at h99
    have g0 : l[(0 : Int).toNat]? = some (l.getD 0 0) := by simpa using gets (l := l) (k := 0) (by omega) 0
    obtain ⟨ho, e2, h2⟩ := rshows_l2_p hN hF (l := l) (by omega) h99 N 0 (decide (l.getD 0 0 = 0)) (by omega) (by omega)
    simp only [Int.natCast_zero, decide_eq_true_eq] at e2 h2
    have hh : ho = holdB (rightR ws ts br_) ws.length l := by
      rw [Bool.eq_iff_iff, h2, holdB_iff]
      constructor
      · rintro ⟨q1, q2⟩
        exact ⟨q1, fun p q a b => q2 p (by omega) (by omega) q (by omega) b⟩
      · rintro ⟨q1, q2⟩
        exact ⟨q1, fun f _ _ t a b => q2 f t (by omega) b⟩
    rw [if_neg (by simp [h99])]
    dsimp only
    rw [idx_eq (by omega) g0, e2]
    simp only [Option.bind_some]
    rw [hh]
    cases holdB (rightR ws ts br_) ws.length l
    · rfl
    · rw [Bool.not_true, br_false, idx_eq (by omega) (gets (l := l) (k := ws.length) (by omega) 0)]; rfl
end
theorem lone_v {N : Nat} (hN : 110 ≤ N) {ws : List Wd} {ts : List Tn} {br_ : Int} (hw : ws.length ≤ 1000000) (ht : ts.length ≤ 1000000) : ∃ l, lone_S N ws ts br_ = some (l, checkT ws ts br_) ∧ if checkT ws ts br_ = 0 then LoneW ws.length (rightR ws ts br_) l else l = [] := by
  by_cases c : checkT ws ts br_ = 0
  · obtain ⟨l, e, h⟩ := lone_in hN (tfine_of c)
    exact ⟨l, by rw [e, c], by rw [if_pos c]; exact h⟩
  · refine ⟨[], ?_, by rw [if_neg c]⟩
    unfold lone_S
    rw [opened_v (by omega) hw ht, if_neg c]
    simp only [Option.bind_some]
    rw [br_nnd c]
theorem marks_v {N : Nat} (hN : 110 ≤ N) {ws : List Wd} {ts : List Tn} {br_ : Int} (hw : ws.length ≤ 1000000) (ht : ts.length ≤ 1000000) (c : checkT ws ts br_ ≠ 0) : marks_S N ws ts br_ = some ([], checkT ws ts br_) := by
  unfold marks_S
  rw [opened_v (by omega) hw ht, if_neg c]
  simp only [Option.bind_some]
  rw [br_nnd c]
theorem tmarks_true {ws : List Wd} {ts : List Tn} {br_ : Int} {marks : List Int} (h0 : Ty.inB TextT (ws, ts, br_)) (h1 : Ty.inB (.sl (.int .i64)) marks) : tmarks_S 1100 ws ts br_ marks = some true := by
  unfold tmarks_S
  have aw : ((awake_S 1100).bind fun x => some x) = some true := by rw [awake_v]; rfl
  rcases great_v (N := 1100) (ws := ws) (ts := ts) (br_ := br_) 8 with e | ⟨e, hw, ht, h8⟩ <;> rw [e] <;> simp only [Option.bind_some]
  · rw [br_true]; exact aw
  rw [br_false]
  by_cases hm : (30 : Int) < marks.length
  · rw [br_dec hm]; exact aw
  rw [br_ndec hm, copyx_v (by omega) (by omega)]
  simp only [Option.bind_some]
  rw [theirs_v (by omega) (by omega) (by omega) (by omega)]
  simp only [Option.bind_some]
  rw [copyi_v (by omega)]
  simp only [Option.bind_some]
  rw [shows_v (by omega) (by omega) (by omega), rshows_v (by omega) (by omega) (by omega)]
  simp only [Option.bind_some]
  rw [br_nd (by first | trivial | rfl), br_nd (by first | trivial | rfl)]
  have sm : same_S 1100 ws ts br_ ws ts br_ = some true := same_v (by omega) (by omega) (by omega) (by omega)
  obtain ⟨lone, el, hl⟩ := lone_v (N := 1100) (by omega) (ws := ws) (ts := ts) (br_ := br_) (by omega) (by omega)
  have j1 : tmarks_j1 1100 marks marks ws ts br_ ws ts br_ = some true := by
    unfold tmarks_j1
    rw [sm]
    simp only [Option.bind_some]
    rw [br_true, likei_v (by omega) (by omega)]
    simp only [Option.bind_some]
    rw [br_true]; exact aw
  by_cases c : checkT ws ts br_ = 0
  rotate_left
  · rw [if_neg c] at hl
    subst hl
    rw [marks_v (by omega) (by omega) (by omega) c, el, rcheck_v (by omega) (by omega) (by omega)]
    simp only [Option.bind_some]
    rw [br_nnd c, br_dec trivial, br_dec trivial]
    simp only [List.length_nil, Int.natCast_zero, Int.add_zero]
    rw [chk_eq (by omega), br_dec (by first | trivial | rfl), sm]
    simp only [Option.bind_some]
    rw [br_true]; exact aw
  have hF := tfine_of c
  have hn := hF.n; have hn0 := hF.n0
  have hm8 : ws.length ≤ 8 := by omega
  rw [if_pos c] at hl
  have hp2 : 2 ^ ws.length ≤ 2 ^ 8 := Nat.pow_le_pow_right (by decide) hm8
  obtain ⟨l2, er, hl2⟩ := rlone_v (N := 1100) (by omega) hF (by omega)
  obtain rfl : lone = l2 := loneW_uniq hl hl2
  have hll : lone.length ≤ 1000 := by
    by_cases e : lone = []
    · subst e; simp
    · have := okC_len hl.1 e; omega
  have hlen := goodsT_len (N := 1100) hF (by omega) (by omega)
  have hmem := @goodsT_mem 1100 ws ts br_ hF (by omega) (by omega)
  obtain ⟨M, emk, hMk, hM0, hfix, hLow, hdist⟩ := marks_in (N := 1100) (by omega) hF
  have hMl := hMk.len
  rw [el, rcheck_v (by omega) (by omega) (by omega), er]
  rw [rright_v (by omega) c (by omega)]
  simp only [Option.bind_some]
  have lk : likei_S 1100 lone lone = some true := likei_v (by omega) (by omega)
  rcases rfewest_v (N := 1100) (l := goodsT ws ts br_ 0) (by omega) (fun x hx => (hmem hx).2.2.1) (by omega) with ⟨g0, ew⟩ | ⟨z, ew, ⟨x, hx, rfl⟩, hz⟩
  · have hno : ∀ l, goodB (rightR ws ts br_) ws.length 0 l = false := fun l => by
      cases hg : goodB (rightR ws ts br_) ws.length 0 l
      · rfl
      · have := (mem_goodsL (R := rightR ws ts br_) (by omega) hF.n).2 hg
        rw [show goodsL (rightR ws ts br_) ws.length 0 = [] from g0] at this; cases this
    have h9 : M.getD ws.length 0 = 99 := by
      rcases hdist _ (Nat.le_refl _) with ⟨h, _⟩ | h
      · exact h
      · obtain ⟨l', g1, _⟩ := h.ex
        rw [hno l'] at g1; cases g1
    rw [emk, if_pos h9]
    simp only [Option.bind_some]
    rw [br_nd c, br_nd c, lk]
    simp only [Option.bind_some]
    rw [Bool.not_true, br_false, ew]
    simp only [Option.bind_some]
    rw [br_nd (by first | trivial | rfl), br_nnd (by decide), br_ndec (by simp), br_ndec (by decide)]
    exact j1
  · have hg := (mem_goodsL (R := rightR ws ts br_) (by omega) hF.n).1 hx
    have hmin : M.getD ws.length 0 = x.length := by
      rcases hdist _ (Nat.le_refl _) with ⟨_, h⟩ | h
      · rw [h x] at hg; cases hg
      · obtain ⟨l', g1, g2⟩ := h.ex
        have := h.le x hg
        have := hz l' ((mem_goodsL (R := rightR ws ts br_) (by omega) hF.n).2 g1)
        omega
    have hxl := good_len hg
    rw [emk, if_neg (by omega)]
    simp only [Option.bind_some]
    rw [br_nd c, br_nd c, lk]
    simp only [Option.bind_some]
    rw [Bool.not_true, br_false, ew]
    simp only [Option.bind_some]
    have hgt : ∀ q, q ≤ ws.length → (M.take (ws.length + 1)).getD q 0 = M.getD q 0 := fun q hq => by
      simp [List.getD, List.getElem?_take, show q < ws.length + 1 by omega]
    have esh : rshows_S 1100 ws ts br_ (M.take (ws.length + 1)) = some ((x.length : Int), 0) := by
      rw [rshows_v (by omega) (by omega) (by omega)]
      unfold showsR
      rw [if_neg (by simpa using c), if_neg (by simp; omega), if_neg, if_pos, hgt _ (Nat.le_refl _), hmin]
      · rw [holdB_iff, hgt 0 (by omega)]
        refine ⟨hM0, fun p q a b r => ?_⟩
        rw [hgt q b, hgt p (by omega)]
        exact hLow.holds p q a b r
      · simp only [Bool.not_eq_false, List.all_eq_true]
        intro x hx
        obtain ⟨i, hi, rfl⟩ := List.getElem_of_mem (List.mem_of_mem_take hx)
        have := hMk.bd i
        simp [List.getD, hi] at this
        simpa [in99] using this
    rw [br_nd (by first | trivial | rfl), br_nd (by first | trivial | rfl), br_dec (by first | trivial | rfl), esh]
    simp only [Option.bind_some]
    rw [br_nd (by first | trivial | rfl), br_nd (by first | trivial | rfl)]
    exact j1
end Go.Proofs.Ytfamlpbdhhikdaa

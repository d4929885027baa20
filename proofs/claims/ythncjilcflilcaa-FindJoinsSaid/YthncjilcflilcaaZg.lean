/-
  Parts of a proof, put together: F3, F4, Fm3, FD1, FD2, FD3, FD4.
  Conditions: none.
-/
import Derived.Test.YthncjilcflilcaaZd
import Derived.Test.YthncjilcflilcaaZf
namespace Go.Proofs.Ythncjilcflilcaa
set_option linter.all false
open Go

def copyi_S (N : Nat) (l : List Int) : Option (List Int) :=
  grd (lmI (l.length : Int)) <|
  some (l.take (min l.length (List.replicate (l.length : Int).toNat (0 : Int)).length) ++ (List.replicate (l.length : Int).toNat (0 : Int)).drop (min l.length (List.replicate (l.length : Int).toNat (0 : Int)).length))
noncomputable def copyi_sp (N : Nat) : List Spec := []
theorem copyi_all (N : Nat) : AllP (SpecOK Try.prog) (copyi_sp N) := trivial
noncomputable def copyi_c : Code := (Try.f23.body).getD .skip
noncomputable abbrev copyi_B : Body := { c := copyi_c, n := 11, res := [.tmp 2], outs := [⟨[.sl (.int .i64)], []⟩], m0 := 0 }
abbrev copyi_rt : altD copyi_B.outs → Option (List Int) := fun r => some r.1.1
abbrev copyi_st : Sta := ⟨[0], ⟨[.sl (.int .i64)], []⟩⟩
theorem copyi_eq (N : Nat) (l : List Int) : ev (Z := List Int) Try.prog (copyi_sp N) copyi_B [] [] (some copyi_rt) 400 false [.c [0], .c [1]] (stL copyi_st ((l, ()), ())) (stH copyi_st ((l, ()), ())) = copyi_S N l := by kernel_rfl
noncomputable def sp_copyi (N : Nat) : Spec := { f := 23, ins := ⟨[.sl (.int .i64)], []⟩, outs := [⟨[.sl (.int .i64)], []⟩], run := fun p k => (copyi_S N p.1.1).bind fun r => k ((r, ()), ()) }
theorem sp_copyi_ok (N : Nat) : SpecOK Try.prog (sp_copyi N) := fn_sound (B := copyi_B) (loops := []) (leaves := []) (fun p => copyi_S N p.1.1) (fun r => ((r, ()), ())) copyi_rt (fun _ _ _ => rfl) (fun r z h => by cases h; rfl) Try.func23 (by kernel_rfl) (by kernel_rfl) (by kernel_rfl) rfl rfl (by kernel_rfl) (fun args w => Sem.pv_run _ _ _ (by kernel_rfl) w) (copyi_all N) mixed trivial (fun z E Xc hE hX hret => trivial) (fun p => copyi_eq N p.1.1)

def copyr_l1 (N : Nat) : Nat → (List (List Int)) → Int → Int → (List (List Int)) → Option (List (List Int))
  | 0, _, _, _, _ => none
  | n_ + 1, u, u2, u3, out =>
    br (decide (u3 < u2))
      (idx u u3 fun x_1 =>
      (copyi_S N x_1).bind fun x_2 =>
      rng u3 out.length <|
      get out u3.toNat fun _ =>
      chk (u3 + 1) <|
      copyr_l1 N n_ u u2 (u3 + 1) (out.set u3.toNat x_2))
      (some (out))
def copyr_S (N : Nat) (l : List (List Int)) : Option (List (List Int)) :=
  grd (lmI (l.length : Int)) <|
  (copyr_l1 N N l (l.length : Int) 0 (List.replicate (l.length : Int).toNat ([] : (List Int)))).bind fun out_4 =>
  some out_4
noncomputable def copyr_sp (N : Nat) : List Spec := [sp_copyi N]
theorem copyr_all (N : Nat) : AllP (SpecOK Try.prog) (copyr_sp N) := ⟨sp_copyi_ok N, trivial⟩
noncomputable def copyr_c : Code := (Try.f80.body).getD .skip
noncomputable abbrev copyr_B : Body := { c := copyr_c, n := 23, res := [.tmp 2], outs := [⟨[.sl (.sl (.int .i64))], []⟩], m0 := 0 }
abbrev copyr_rt : altD copyr_B.outs → Option (List (List Int)) := fun r => some r.1.1
abbrev copyr_l1_at : List PI := [.c [1, 1, 0, 1, 0, 0, 0], .c [1, 1, 0, 1, 0, 0, 1], .l [1, 1, 0, 1, 0, 0], .b 0, .c [1, 1, 1]]
abbrev copyr_l1_st : Sta := ⟨[3, 9, 10, 11], ⟨[.ols 0, .sl (.sl (.int .i64)), .i .i64, .i .i64], [.lst (.sl (.int .i64))]⟩⟩
abbrev copyr_l1_h (rec : (List (List Int)) → Int → Int → (List (List Int)) → Option (List (List Int))) : Leaf (List (List Int)) := ⟨copyr_l1_at, copyr_l1_st, fun p => rec p.1.2.1 p.1.2.2.1 p.1.2.2.2.1 p.2.1⟩
abbrev copyr_l1_e0 : Leaf (List (List Int)) := ⟨[.c [1, 1, 1, 0], .c [1, 1, 1, 1]], ⟨[3], ⟨[.ols 0], [.lst (.sl (.int .i64))]⟩⟩, fun p => some (p.2.1)⟩
noncomputable def copyr_l1_L (N : Nat) : LoopS := { at_ := copyr_l1_at, sta := copyr_l1_st, exits := [([.c [1, 1, 1, 0], .c [1, 1, 1, 1]], ⟨[3], ⟨[.ols 0], [.lst (.sl (.int .i64))]⟩⟩)], run := fun p k => (copyr_l1 N N p.1.2.1 p.1.2.2.1 p.1.2.2.2.1 p.2.1).bind fun e => k (.inl (((), ()), (e, ()))) }
theorem copyr_l1_eq (N n_ : Nat) (u : List (List Int)) (u2 : Int) (u3 : Int) (out : List (List Int)) : ev (Z := List (List Int)) Try.prog (copyr_sp N) copyr_B [] [copyr_l1_h (copyr_l1 N n_), copyr_l1_e0] none 400 true copyr_l1_at (stL copyr_l1_st (((), u, u2, u3, ()), (out, ()))) (stH copyr_l1_st (((), u, u2, u3, ()), (out, ()))) = copyr_l1 N (n_ + 1) u u2 u3 out := by kernel_rfl
theorem copyr_l1_ok (N : Nat) {top : Bool} : LoopOK Try.prog copyr_B.c copyr_B.n copyr_B.m0 top (copyr_l1_L N) := loop_of_ev (Z := List (List Int)) (N := N) (fun m p => copyr_l1 N m p.1.2.1 p.1.2.2.1 p.1.2.2.2.1 p.2.1) (fun e => .inl (((), ()), (e, ()))) (fun _ _ _ => rfl) (fun _ => rfl) (fun m z E Xc hE hX hrec hx => leaf_of_ev (B := copyr_B) (loops := []) (leaves := [copyr_l1_h (copyr_l1 N m), copyr_l1_e0]) (copyr_all N) mixed trivial hE hX ⟨hrec, (fun p hp => by obtain rfl := Option.some.inj hp; exact hx), trivial⟩ RetOK.no (fun p => copyr_l1_eq N m p.1.2.1 p.1.2.2.1 p.1.2.2.2.1 p.2.1))
abbrev copyr_st : Sta := ⟨[0], ⟨[.sl (.sl (.int .i64))], []⟩⟩
theorem copyr_eq (N : Nat) (l : List (List Int)) : ev (Z := List (List Int)) Try.prog (copyr_sp N) copyr_B [copyr_l1_L N] [] (some copyr_rt) 400 false [.c [0], .c [1]] (stL copyr_st ((l, ()), ())) (stH copyr_st ((l, ()), ())) = copyr_S N l := by kernel_rfl
noncomputable def sp_copyr (N : Nat) : Spec := { f := 80, ins := ⟨[.sl (.sl (.int .i64))], []⟩, outs := [⟨[.sl (.sl (.int .i64))], []⟩], run := fun p k => (copyr_S N p.1.1).bind fun r => k ((r, ()), ()) }
theorem sp_copyr_ok (N : Nat) : SpecOK Try.prog (sp_copyr N) := fn_sound (B := copyr_B) (loops := [copyr_l1_L N]) (leaves := []) (fun p => copyr_S N p.1.1) (fun r => ((r, ()), ())) copyr_rt (fun _ _ _ => rfl) (fun r z h => by cases h; rfl) Try.func80 (by kernel_rfl) (by kernel_rfl) (by kernel_rfl) rfl rfl (by kernel_rfl) (fun args w => Sem.pv_run _ _ _ (by kernel_rfl) w) (copyr_all N) mixed ⟨copyr_l1_ok N, trivial⟩ (fun z E Xc hE hX hret => trivial) (fun p => copyr_eq N p.1.1)

def copyd_S (N : Nat) (d : List Int) (d2 : Int) (d3 : List (List Int)) (d4 : List (List Int)) (d5 : List Int) : Option (List Int × Int × List (List Int) × List (List Int) × List Int) :=
  (copyi_S N d).bind fun x_1 =>
  (copyr_S N d3).bind fun x_2 =>
  (copyr_S N d4).bind fun x_3 =>
  (copyi_S N d5).bind fun x_4 =>
  some (x_1, d2, x_2, x_3, x_4)
noncomputable def copyd_sp (N : Nat) : List Spec := [sp_copyi N, sp_copyr N]
theorem copyd_all (N : Nat) : AllP (SpecOK Try.prog) (copyd_sp N) := ⟨sp_copyi_ok N, sp_copyr_ok N, trivial⟩
noncomputable def copyd_c : Code := (Try.f27.body).getD .skip
noncomputable abbrev copyd_B : Body := { c := copyd_c, n := 18, res := [.cell 2 26], outs := [⟨[.agg [.sl (.int .i64), .i .i64, .sl (.sl (.int .i64)), .sl (.sl (.int .i64)), .sl (.int .i64)]], []⟩], m0 := 0 }
abbrev copyd_rt : altD copyd_B.outs → Option (List Int × Int × List (List Int) × List (List Int) × List Int) := fun r => some (r.1.1.1, r.1.1.2.1, r.1.1.2.2.1, r.1.1.2.2.2.1, r.1.1.2.2.2.2.1)
abbrev copyd_st : Sta := ⟨[0], ⟨[.agg [.sl (.int .i64), .i .i64, .sl (.sl (.int .i64)), .sl (.sl (.int .i64)), .sl (.int .i64)]], []⟩⟩
theorem copyd_eq (N : Nat) (d : List Int) (d2 : Int) (d3 : List (List Int)) (d4 : List (List Int)) (d5 : List Int) : ev (Z := List Int × Int × List (List Int) × List (List Int) × List Int) Try.prog (copyd_sp N) copyd_B [] [] (some copyd_rt) 400 false [.c [0], .c [1]] (stL copyd_st (((d, d2, d3, d4, d5, ()), ()), ())) (stH copyd_st (((d, d2, d3, d4, d5, ()), ()), ())) = copyd_S N d d2 d3 d4 d5 := by kernel_rfl
noncomputable def sp_copyd (N : Nat) : Spec := { f := 27, ins := ⟨[.agg [.sl (.int .i64), .i .i64, .sl (.sl (.int .i64)), .sl (.sl (.int .i64)), .sl (.int .i64)]], []⟩, outs := [⟨[.agg [.sl (.int .i64), .i .i64, .sl (.sl (.int .i64)), .sl (.sl (.int .i64)), .sl (.int .i64)]], []⟩], run := fun p k => (copyd_S N p.1.1.1 p.1.1.2.1 p.1.1.2.2.1 p.1.1.2.2.2.1 p.1.1.2.2.2.2.1).bind fun r => k (((r.1, r.2.1, r.2.2.1, r.2.2.2.1, r.2.2.2.2, ()), ()), ()) }
theorem sp_copyd_ok (N : Nat) : SpecOK Try.prog (sp_copyd N) := fn_sound (B := copyd_B) (loops := []) (leaves := []) (fun p => copyd_S N p.1.1.1 p.1.1.2.1 p.1.1.2.2.1 p.1.1.2.2.2.1 p.1.1.2.2.2.2.1) (fun r => (((r.1, r.2.1, r.2.2.1, r.2.2.2.1, r.2.2.2.2, ()), ()), ())) copyd_rt (fun _ _ _ => rfl) (fun r z h => by cases h; rfl) Try.func27 (by kernel_rfl) (by kernel_rfl) (by kernel_rfl) rfl rfl (by kernel_rfl) (fun args w => Sem.pv_run _ _ _ (by kernel_rfl) w) (copyd_all N) mixed trivial (fun z E Xc hE hX hret => trivial) (fun p => copyd_eq N p.1.1.1 p.1.1.2.1 p.1.1.2.2.1 p.1.1.2.2.2.1 p.1.1.2.2.2.2.1)

def equalf_l1 (N : Nat) : Nat → (List (List Int)) → (List (List Int)) → Int → Int → Option ((Unit) ⊕ (Unit))
  | 0, _, _, _, _ => none
  | n_ + 1, s2, u, u2, u3 =>
    br (decide (u3 < u2))
      (idx u u3 fun x_1 =>
      idx s2 u3 fun x_2 =>
      (equali_S N x_1 x_2).bind fun x_3 =>
      br (!x_3)
        (some (.inl ()))
        (chk (u3 + 1) <|
        equalf_l1 N n_ s2 u u2 (u3 + 1)))
      (some (.inr ()))
def equalf_S (N : Nat) (s1 : List (List Int)) (s2 : List (List Int)) : Option Bool :=
  br (!decide ((s1.length : Int) = (s2.length : Int)))
    (some false)
    ((equalf_l1 N N s2 s1 (s1.length : Int) 0).bind fun e => match e with
    | .inl _ =>
      some false
    | .inr _ =>
      some true)
noncomputable def equalf_sp (N : Nat) : List Spec := [sp_equali N]
theorem equalf_all (N : Nat) : AllP (SpecOK Try.prog) (equalf_sp N) := ⟨sp_equali_ok N, trivial⟩
noncomputable def equalf_c : Code := (Try.f119.body).getD .skip
noncomputable abbrev equalf_B : Body := { c := equalf_c, n := 32, res := [.tmp 6], outs := [⟨[.b], []⟩], m0 := 0 }
abbrev equalf_rt : altD equalf_B.outs → Option Bool := fun r => some r.1.1
abbrev equalf_l1_at : List PI := [.c [1, 1, 0, 1, 0, 0, 0], .c [1, 1, 0, 1, 0, 0, 1], .l [1, 1, 0, 1, 0, 0], .b 0, .c [1, 1, 1]]
abbrev equalf_l1_st : Sta := ⟨[1, 2, 15, 16, 17], ⟨[.sl (.sl (.int .i64)), .fn 97 [] [], .sl (.sl (.int .i64)), .i .i64, .i .i64], []⟩⟩
abbrev equalf_l1_h (rec : (List (List Int)) → (List (List Int)) → Int → Int → Option ((Unit) ⊕ (Unit))) : Leaf ((Unit) ⊕ (Unit)) := ⟨equalf_l1_at, equalf_l1_st, fun p => rec p.1.1 p.1.2.2.1 p.1.2.2.2.1 p.1.2.2.2.2.1⟩
abbrev equalf_l1_e0 : Leaf ((Unit) ⊕ (Unit)) := ⟨[.c [1, 1, 0, 1, 0, 0, 1, 1, 0, 0, 1, 1, 1, 0, 0], .c [1, 1, 0, 1, 0, 0, 1, 1, 0, 0, 1, 1, 1, 0, 1], .b 1, .c [1, 1, 0, 1, 0, 0, 1, 1, 1], .l [1, 1, 0, 1, 0, 0], .b 0, .c [1, 1, 1]], ⟨[], ⟨[], []⟩⟩, fun p => some (.inl ())⟩
abbrev equalf_l1_e1 : Leaf ((Unit) ⊕ (Unit)) := ⟨[.c [1, 1, 1, 0], .c [1, 1, 1, 1]], ⟨[], ⟨[], []⟩⟩, fun p => some (.inr ())⟩
noncomputable def equalf_l1_L (N : Nat) : LoopS := { at_ := equalf_l1_at, sta := equalf_l1_st, exits := [([.c [1, 1, 0, 1, 0, 0, 1, 1, 0, 0, 1, 1, 1, 0, 0], .c [1, 1, 0, 1, 0, 0, 1, 1, 0, 0, 1, 1, 1, 0, 1], .b 1, .c [1, 1, 0, 1, 0, 0, 1, 1, 1], .l [1, 1, 0, 1, 0, 0], .b 0, .c [1, 1, 1]], ⟨[], ⟨[], []⟩⟩), ([.c [1, 1, 1, 0], .c [1, 1, 1, 1]], ⟨[], ⟨[], []⟩⟩)], run := fun p k => (equalf_l1 N N p.1.1 p.1.2.2.1 p.1.2.2.2.1 p.1.2.2.2.2.1).bind fun e => match e with | .inl x => k (.inl ((), ())) | .inr x => k (.inr (.inl ((), ()))) }
theorem equalf_l1_eq (N n_ : Nat) (s2 : List (List Int)) (u : List (List Int)) (u2 : Int) (u3 : Int) : ev (Z := (Unit) ⊕ (Unit)) Try.prog (equalf_sp N) equalf_B [] [equalf_l1_h (equalf_l1 N n_), equalf_l1_e0, equalf_l1_e1] none 400 true equalf_l1_at (stL equalf_l1_st ((s2, ((), ()), u, u2, u3, ()), ())) (stH equalf_l1_st ((s2, ((), ()), u, u2, u3, ()), ())) = equalf_l1 N (n_ + 1) s2 u u2 u3 := by kernel_rfl
theorem equalf_l1_ok (N : Nat) {top : Bool} : LoopOK Try.prog equalf_B.c equalf_B.n equalf_B.m0 top (equalf_l1_L N) := loop_of_ev (Z := (Unit) ⊕ (Unit)) (N := N) (fun m p => equalf_l1 N m p.1.1 p.1.2.2.1 p.1.2.2.2.1 p.1.2.2.2.2.1) (fun e => match e with | .inl x => .inl ((), ()) | .inr x => .inr (.inl ((), ()))) (fun _ p k => bind_congr_ (equalf_l1 N N p.1.1 p.1.2.2.1 p.1.2.2.2.1 p.1.2.2.2.2.1) _ _ (fun e => by rcases e with x | x <;> rfl)) (fun _ => rfl) (fun m z E Xc hE hX hrec hx => leaf_of_ev (B := equalf_B) (loops := []) (leaves := [equalf_l1_h (equalf_l1 N m), equalf_l1_e0, equalf_l1_e1]) (equalf_all N) mixed trivial hE hX ⟨hrec, (fun p hp => by obtain rfl := Option.some.inj hp; exact hx), (fun p hp => by obtain rfl := Option.some.inj hp; exact hx), trivial⟩ RetOK.no (fun p => equalf_l1_eq N m p.1.1 p.1.2.2.1 p.1.2.2.2.1 p.1.2.2.2.2.1))
abbrev equalf_st : Sta := ⟨[0, 1, 2], ⟨[.sl (.sl (.int .i64)), .sl (.sl (.int .i64)), .fn 97 [] []], []⟩⟩
theorem equalf_eq (N : Nat) (s1 : List (List Int)) (s2 : List (List Int)) : ev (Z := Bool) Try.prog (equalf_sp N) equalf_B [equalf_l1_L N] [] (some equalf_rt) 400 false [.c [0], .c [1]] (stL equalf_st ((s1, s2, ((), ()), ()), ())) (stH equalf_st ((s1, s2, ((), ()), ()), ())) = equalf_S N s1 s2 := by kernel_rfl
noncomputable def sp_equalf (N : Nat) : Spec := { f := 119, ins := ⟨[.sl (.sl (.int .i64)), .sl (.sl (.int .i64)), .fn 97 [] []], []⟩, outs := [⟨[.b], []⟩], run := fun p k => (equalf_S N p.1.1 p.1.2.1).bind fun r => k ((r, ()), ()) }
theorem sp_equalf_ok (N : Nat) : SpecOK Try.prog (sp_equalf N) := fn_sound (B := equalf_B) (loops := [equalf_l1_L N]) (leaves := []) (fun p => equalf_S N p.1.1 p.1.2.1) (fun r => ((r, ()), ())) equalf_rt (fun _ _ _ => rfl) (fun r z h => by cases h; rfl) Try.func119 (by kernel_rfl) (by kernel_rfl) (by kernel_rfl) rfl rfl (by kernel_rfl) (fun args w => Sem.pv_run _ _ _ (by kernel_rfl) w) (equalf_all N) mixed ⟨equalf_l1_ok N, trivial⟩ (fun z E Xc hE hX hret => trivial) (fun p => equalf_eq N p.1.1 p.1.2.1)

def liker_S (N : Nat) (a : List (List Int)) (b : List (List Int)) : Option Bool :=
  (equalf_S N a b).bind fun x_1 =>
  some x_1
noncomputable def liker_sp (N : Nat) : List Spec := [sp_equalf N]
theorem liker_all (N : Nat) : AllP (SpecOK Try.prog) (liker_sp N) := ⟨sp_equalf_ok N, trivial⟩
noncomputable def liker_c : Code := (Try.f82.body).getD .skip
noncomputable abbrev liker_B : Body := { c := liker_c, n := 8, res := [.tmp 4], outs := [⟨[.b], []⟩], m0 := 0 }
abbrev liker_rt : altD liker_B.outs → Option Bool := fun r => some r.1.1
abbrev liker_st : Sta := ⟨[0, 1], ⟨[.sl (.sl (.int .i64)), .sl (.sl (.int .i64))], []⟩⟩
theorem liker_eq (N : Nat) (a : List (List Int)) (b : List (List Int)) : ev (Z := Bool) Try.prog (liker_sp N) liker_B [] [] (some liker_rt) 400 false [.c [0], .c [1]] (stL liker_st ((a, b, ()), ())) (stH liker_st ((a, b, ()), ())) = liker_S N a b := by kernel_rfl
noncomputable def sp_liker (N : Nat) : Spec := { f := 82, ins := ⟨[.sl (.sl (.int .i64)), .sl (.sl (.int .i64))], []⟩, outs := [⟨[.b], []⟩], run := fun p k => (liker_S N p.1.1 p.1.2.1).bind fun r => k ((r, ()), ()) }
theorem sp_liker_ok (N : Nat) : SpecOK Try.prog (sp_liker N) := fn_sound (B := liker_B) (loops := []) (leaves := []) (fun p => liker_S N p.1.1 p.1.2.1) (fun r => ((r, ()), ())) liker_rt (fun _ _ _ => rfl) (fun r z h => by cases h; rfl) Try.func82 (by kernel_rfl) (by kernel_rfl) (by kernel_rfl) rfl rfl (by kernel_rfl) (fun args w => Sem.pv_run _ _ _ (by kernel_rfl) w) (liker_all N) mixed trivial (fun z E Xc hE hX hret => trivial) (fun p => liker_eq N p.1.1 p.1.2.1)

def same_S (N : Nat) (a : List Int) (a2 : Int) (a3 : List (List Int)) (a4 : List (List Int)) (a5 : List Int) (b : List Int) (b2 : Int) (b3 : List (List Int)) (b4 : List (List Int)) (b5 : List Int) : Option Bool :=
  (likei_S N a b).bind fun x_1 =>
  br x_1
    (br (decide (a2 = b2))
      ((liker_S N a3 b3).bind fun x_2 =>
      br x_2
        ((liker_S N a4 b4).bind fun x_3 =>
        br x_3
          ((likei_S N a5 b5).bind fun x_4 =>
          some x_4)
          (some false))
        (some false))
      (some false))
    (some false)
noncomputable def same_sp (N : Nat) : List Spec := [sp_likei N, sp_liker N]
theorem same_all (N : Nat) : AllP (SpecOK Try.prog) (same_sp N) := ⟨sp_likei_ok N, sp_liker_ok N, trivial⟩
noncomputable def same_c : Code := (Try.f30.body).getD .skip
noncomputable abbrev same_B : Body := { c := same_c, n := 38, res := [.tmp 4], outs := [⟨[.b], []⟩], m0 := 0 }
abbrev same_rt : altD same_B.outs → Option Bool := fun r => some r.1.1
abbrev same_st : Sta := ⟨[0, 1], ⟨[.agg [.sl (.int .i64), .i .i64, .sl (.sl (.int .i64)), .sl (.sl (.int .i64)), .sl (.int .i64)], .agg [.sl (.int .i64), .i .i64, .sl (.sl (.int .i64)), .sl (.sl (.int .i64)), .sl (.int .i64)]], []⟩⟩
theorem same_eq (N : Nat) (a : List Int) (a2 : Int) (a3 : List (List Int)) (a4 : List (List Int)) (a5 : List Int) (b : List Int) (b2 : Int) (b3 : List (List Int)) (b4 : List (List Int)) (b5 : List Int) : ev (Z := Bool) Try.prog (same_sp N) same_B [] [] (some same_rt) 400 false [.c [0], .c [1]] (stL same_st (((a, a2, a3, a4, a5, ()), (b, b2, b3, b4, b5, ()), ()), ())) (stH same_st (((a, a2, a3, a4, a5, ()), (b, b2, b3, b4, b5, ()), ()), ())) = same_S N a a2 a3 a4 a5 b b2 b3 b4 b5 := by kernel_rfl
noncomputable def sp_same (N : Nat) : Spec := { f := 30, ins := ⟨[.agg [.sl (.int .i64), .i .i64, .sl (.sl (.int .i64)), .sl (.sl (.int .i64)), .sl (.int .i64)], .agg [.sl (.int .i64), .i .i64, .sl (.sl (.int .i64)), .sl (.sl (.int .i64)), .sl (.int .i64)]], []⟩, outs := [⟨[.b], []⟩], run := fun p k => (same_S N p.1.1.1 p.1.1.2.1 p.1.1.2.2.1 p.1.1.2.2.2.1 p.1.1.2.2.2.2.1 p.1.2.1.1 p.1.2.1.2.1 p.1.2.1.2.2.1 p.1.2.1.2.2.2.1 p.1.2.1.2.2.2.2.1).bind fun r => k ((r, ()), ()) }
theorem sp_same_ok (N : Nat) : SpecOK Try.prog (sp_same N) := fn_sound (B := same_B) (loops := []) (leaves := []) (fun p => same_S N p.1.1.1 p.1.1.2.1 p.1.1.2.2.1 p.1.1.2.2.2.1 p.1.1.2.2.2.2.1 p.1.2.1.1 p.1.2.1.2.1 p.1.2.1.2.2.1 p.1.2.1.2.2.2.1 p.1.2.1.2.2.2.2.1) (fun r => ((r, ()), ())) same_rt (fun _ _ _ => rfl) (fun r z h => by cases h; rfl) Try.func30 (by kernel_rfl) (by kernel_rfl) (by kernel_rfl) rfl rfl (by kernel_rfl) (fun args w => Sem.pv_run _ _ _ (by kernel_rfl) w) (same_all N) mixed trivial (fun z E Xc hE hX hret => trivial) (fun p => same_eq N p.1.1.1 p.1.1.2.1 p.1.1.2.2.1 p.1.1.2.2.2.1 p.1.1.2.2.2.2.1 p.1.2.1.1 p.1.2.1.2.1 p.1.2.1.2.2.1 p.1.2.1.2.2.2.1 p.1.2.1.2.2.2.2.1)

def great_l2 (N : Nat) : Nat → Int → Int → (List (List Int)) → Int → Int → (List (List (List Int))) → Option ((Unit) ⊕ (Int × Int × List (List (List Int))))
  | 0, _, _, _, _, _, _ => none
  | n_ + 1, u, u2, u3, u4, u5, g =>
    br (decide (u5 < u4))
      (idx u3 u5 fun x_2 =>
      br (decide (12 < (x_2.length : Int)))
        (some (.inl ()))
        (chk (u5 + 1) <|
        great_l2 N n_ u u2 u3 u4 (u5 + 1) g))
      (some (.inr (u, u2, g)))
def great_l1 (N : Nat) : Nat → Int → Int → (List (List (List Int))) → Option ((Unit) ⊕ (Unit))
  | 0, _, _, _ => none
  | n_ + 1, u, u2, g =>
    br (decide (u2 < u))
      (rng u2 g.length <|
      get g u2.toNat fun x_1 =>
      (great_l2 N N u u2 x_1 (x_1.length : Int) 0 g).bind fun e => match e with
      | .inl _ =>
        some (.inl ())
      | .inr (u_3, u2_4, g_5) =>
        chk (u2_4 + 1) <|
        great_l1 N n_ u_3 (u2_4 + 1) g_5)
      (some (.inr ()))
def great_S (N : Nat) (d : List Int) (d2 : Int) (d3 : List (List Int)) (d4 : List (List Int)) (d5 : List Int) : Option Bool :=
  br (decide (10 < (d.length : Int)))
    (some true)
    (br (decide (10 < (d3.length : Int)))
      (some true)
      (br (decide (10 < (d4.length : Int)))
        (some true)
        (br (decide (12 < (d5.length : Int)))
          (some true)
          ((great_l1 N N ([d3, d4].length : Int) 0 [d3, d4]).bind fun e => match e with
          | .inl _ =>
            some true
          | .inr _ =>
            some false))))
noncomputable def great_sp (N : Nat) : List Spec := []
theorem great_all (N : Nat) : AllP (SpecOK Try.prog) (great_sp N) := trivial
noncomputable def great_c : Code := (Try.f25.body).getD .skip
noncomputable abbrev great_B : Body := { c := great_c, n := 50, res := [.tmp 2], outs := [⟨[.b], []⟩], m0 := 0 }
abbrev great_rt : altD great_B.outs → Option Bool := fun r => some r.1.1
abbrev great_l2_at : List PI := [.c [1, 1, 0, 1, 0, 0, 1, 1, 0, 0, 1, 1, 0, 0, 0], .c [1, 1, 0, 1, 0, 0, 1, 1, 0, 0, 1, 1, 0, 0, 1], .l [1, 1, 0, 1, 0, 0, 1, 1, 0, 0, 1, 1, 0, 0], .b 2, .b 1, .c [1, 1, 0, 1, 0, 0, 1, 1, 1], .l [1, 1, 0, 1, 0, 0], .b 0, .c [1, 1, 1]]
abbrev great_l2_st : Sta := ⟨[33, 34, 35, 39, 40, 41], ⟨[.ols 0, .i .i64, .i .i64, .sl (.sl (.int .i64)), .i .i64, .i .i64], [.lst (.sl (.sl (.int .i64)))]⟩⟩
abbrev great_l2_h (rec : Int → Int → (List (List Int)) → Int → Int → (List (List (List Int))) → Option ((Unit) ⊕ (Int × Int × List (List (List Int))))) : Leaf ((Unit) ⊕ (Int × Int × List (List (List Int)))) := ⟨great_l2_at, great_l2_st, fun p => rec p.1.2.1 p.1.2.2.1 p.1.2.2.2.1 p.1.2.2.2.2.1 p.1.2.2.2.2.2.1 p.2.1⟩
abbrev great_l2_e0 : Leaf ((Unit) ⊕ (Int × Int × List (List (List Int)))) := ⟨[.c [1, 1, 0, 1, 0, 0, 1, 1, 0, 0, 1, 1, 0, 0, 1, 1, 0, 0, 1, 1, 0, 0], .c [1, 1, 0, 1, 0, 0, 1, 1, 0, 0, 1, 1, 0, 0, 1, 1, 0, 0, 1, 1, 0, 1], .b 3, .c [1, 1, 0, 1, 0, 0, 1, 1, 0, 0, 1, 1, 0, 0, 1, 1, 1], .l [1, 1, 0, 1, 0, 0, 1, 1, 0, 0, 1, 1, 0, 0], .b 2, .b 1, .c [1, 1, 0, 1, 0, 0, 1, 1, 1], .l [1, 1, 0, 1, 0, 0], .b 0, .c [1, 1, 1]], ⟨[], ⟨[], []⟩⟩, fun p => some (.inl ())⟩
abbrev great_l2_e1 : Leaf ((Unit) ⊕ (Int × Int × List (List (List Int)))) := ⟨[.c [1, 1, 0, 1, 0, 0, 1, 1, 1], .l [1, 1, 0, 1, 0, 0], .b 0, .c [1, 1, 1]], ⟨[33, 34, 35], ⟨[.ols 0, .i .i64, .i .i64], [.lst (.sl (.sl (.int .i64)))]⟩⟩, fun p => some (.inr (p.1.2.1, p.1.2.2.1, p.2.1))⟩
noncomputable def great_l2_L (N : Nat) : LoopS := { at_ := great_l2_at, sta := great_l2_st, exits := [([.c [1, 1, 0, 1, 0, 0, 1, 1, 0, 0, 1, 1, 0, 0, 1, 1, 0, 0, 1, 1, 0, 0], .c [1, 1, 0, 1, 0, 0, 1, 1, 0, 0, 1, 1, 0, 0, 1, 1, 0, 0, 1, 1, 0, 1], .b 3, .c [1, 1, 0, 1, 0, 0, 1, 1, 0, 0, 1, 1, 0, 0, 1, 1, 1], .l [1, 1, 0, 1, 0, 0, 1, 1, 0, 0, 1, 1, 0, 0], .b 2, .b 1, .c [1, 1, 0, 1, 0, 0, 1, 1, 1], .l [1, 1, 0, 1, 0, 0], .b 0, .c [1, 1, 1]], ⟨[], ⟨[], []⟩⟩), ([.c [1, 1, 0, 1, 0, 0, 1, 1, 1], .l [1, 1, 0, 1, 0, 0], .b 0, .c [1, 1, 1]], ⟨[33, 34, 35], ⟨[.ols 0, .i .i64, .i .i64], [.lst (.sl (.sl (.int .i64)))]⟩⟩)], run := fun p k => (great_l2 N N p.1.2.1 p.1.2.2.1 p.1.2.2.2.1 p.1.2.2.2.2.1 p.1.2.2.2.2.2.1 p.2.1).bind fun e => match e with | .inl x => k (.inl ((), ())) | .inr x => k (.inr (.inl (((), x.1, x.2.1, ()), (x.2.2, ())))) }
theorem great_l2_eq (N n_ : Nat) (u : Int) (u2 : Int) (u3 : List (List Int)) (u4 : Int) (u5 : Int) (g : List (List (List Int))) : ev (Z := (Unit) ⊕ (Int × Int × List (List (List Int)))) Try.prog (great_sp N) great_B [] [great_l2_h (great_l2 N n_), great_l2_e0, great_l2_e1] none 400 true great_l2_at (stL great_l2_st (((), u, u2, u3, u4, u5, ()), (g, ()))) (stH great_l2_st (((), u, u2, u3, u4, u5, ()), (g, ()))) = great_l2 N (n_ + 1) u u2 u3 u4 u5 g := by kernel_rfl
theorem great_l2_ok (N : Nat) {top : Bool} : LoopOK Try.prog great_B.c great_B.n great_B.m0 top (great_l2_L N) := loop_of_ev (Z := (Unit) ⊕ (Int × Int × List (List (List Int)))) (N := N) (fun m p => great_l2 N m p.1.2.1 p.1.2.2.1 p.1.2.2.2.1 p.1.2.2.2.2.1 p.1.2.2.2.2.2.1 p.2.1) (fun e => match e with | .inl x => .inl ((), ()) | .inr x => .inr (.inl (((), x.1, x.2.1, ()), (x.2.2, ())))) (fun _ p k => bind_congr_ (great_l2 N N p.1.2.1 p.1.2.2.1 p.1.2.2.2.1 p.1.2.2.2.2.1 p.1.2.2.2.2.2.1 p.2.1) _ _ (fun e => by rcases e with x | x <;> rfl)) (fun _ => rfl) (fun m z E Xc hE hX hrec hx => leaf_of_ev (B := great_B) (loops := []) (leaves := [great_l2_h (great_l2 N m), great_l2_e0, great_l2_e1]) (great_all N) mixed trivial hE hX ⟨hrec, (fun p hp => by obtain rfl := Option.some.inj hp; exact hx), (fun p hp => by obtain rfl := Option.some.inj hp; exact hx), trivial⟩ RetOK.no (fun p => great_l2_eq N m p.1.2.1 p.1.2.2.1 p.1.2.2.2.1 p.1.2.2.2.2.1 p.1.2.2.2.2.2.1 p.2.1))
abbrev great_l1_at : List PI := [.c [1, 1, 0, 1, 0, 0, 0], .c [1, 1, 0, 1, 0, 0, 1], .l [1, 1, 0, 1, 0, 0], .b 0, .c [1, 1, 1]]
abbrev great_l1_st : Sta := ⟨[33, 34, 35], ⟨[.ols 0, .i .i64, .i .i64], [.lst (.sl (.sl (.int .i64)))]⟩⟩
abbrev great_l1_h (rec : Int → Int → (List (List (List Int))) → Option ((Unit) ⊕ (Unit))) : Leaf ((Unit) ⊕ (Unit)) := ⟨great_l1_at, great_l1_st, fun p => rec p.1.2.1 p.1.2.2.1 p.2.1⟩
abbrev great_l1_e0 : Leaf ((Unit) ⊕ (Unit)) := ⟨[.c [1, 1, 0, 1, 0, 0, 1, 1, 0, 0, 1, 1, 0, 0, 1, 1, 0, 0, 1, 1, 0, 0], .c [1, 1, 0, 1, 0, 0, 1, 1, 0, 0, 1, 1, 0, 0, 1, 1, 0, 0, 1, 1, 0, 1], .b 3, .c [1, 1, 0, 1, 0, 0, 1, 1, 0, 0, 1, 1, 0, 0, 1, 1, 1], .l [1, 1, 0, 1, 0, 0, 1, 1, 0, 0, 1, 1, 0, 0], .b 2, .b 1, .c [1, 1, 0, 1, 0, 0, 1, 1, 1], .l [1, 1, 0, 1, 0, 0], .b 0, .c [1, 1, 1]], ⟨[], ⟨[], []⟩⟩, fun p => some (.inl ())⟩
abbrev great_l1_e1 : Leaf ((Unit) ⊕ (Unit)) := ⟨[.c [1, 1, 1, 0], .c [1, 1, 1, 1]], ⟨[], ⟨[], []⟩⟩, fun p => some (.inr ())⟩
noncomputable def great_l1_L (N : Nat) : LoopS := { at_ := great_l1_at, sta := great_l1_st, exits := [([.c [1, 1, 0, 1, 0, 0, 1, 1, 0, 0, 1, 1, 0, 0, 1, 1, 0, 0, 1, 1, 0, 0], .c [1, 1, 0, 1, 0, 0, 1, 1, 0, 0, 1, 1, 0, 0, 1, 1, 0, 0, 1, 1, 0, 1], .b 3, .c [1, 1, 0, 1, 0, 0, 1, 1, 0, 0, 1, 1, 0, 0, 1, 1, 1], .l [1, 1, 0, 1, 0, 0, 1, 1, 0, 0, 1, 1, 0, 0], .b 2, .b 1, .c [1, 1, 0, 1, 0, 0, 1, 1, 1], .l [1, 1, 0, 1, 0, 0], .b 0, .c [1, 1, 1]], ⟨[], ⟨[], []⟩⟩), ([.c [1, 1, 1, 0], .c [1, 1, 1, 1]], ⟨[], ⟨[], []⟩⟩)], run := fun p k => (great_l1 N N p.1.2.1 p.1.2.2.1 p.2.1).bind fun e => match e with | .inl x => k (.inl ((), ())) | .inr x => k (.inr (.inl ((), ()))) }
theorem great_l1_eq (N n_ : Nat) (u : Int) (u2 : Int) (g : List (List (List Int))) : ev (Z := (Unit) ⊕ (Unit)) Try.prog (great_sp N) great_B [great_l2_L N] [great_l1_h (great_l1 N n_), great_l1_e0, great_l1_e1] none 400 true great_l1_at (stL great_l1_st (((), u, u2, ()), (g, ()))) (stH great_l1_st (((), u, u2, ()), (g, ()))) = great_l1 N (n_ + 1) u u2 g := by kernel_rfl
theorem great_l1_ok (N : Nat) {top : Bool} : LoopOK Try.prog great_B.c great_B.n great_B.m0 top (great_l1_L N) := loop_of_ev (Z := (Unit) ⊕ (Unit)) (N := N) (fun m p => great_l1 N m p.1.2.1 p.1.2.2.1 p.2.1) (fun e => match e with | .inl x => .inl ((), ()) | .inr x => .inr (.inl ((), ()))) (fun _ p k => bind_congr_ (great_l1 N N p.1.2.1 p.1.2.2.1 p.2.1) _ _ (fun e => by rcases e with x | x <;> rfl)) (fun _ => rfl) (fun m z E Xc hE hX hrec hx => leaf_of_ev (B := great_B) (loops := [great_l2_L N]) (leaves := [great_l1_h (great_l1 N m), great_l1_e0, great_l1_e1]) (great_all N) mixed ⟨great_l2_ok N, trivial⟩ hE hX ⟨hrec, (fun p hp => by obtain rfl := Option.some.inj hp; exact hx), (fun p hp => by obtain rfl := Option.some.inj hp; exact hx), trivial⟩ RetOK.no (fun p => great_l1_eq N m p.1.2.1 p.1.2.2.1 p.2.1))
abbrev great_st : Sta := ⟨[0], ⟨[.agg [.sl (.int .i64), .i .i64, .sl (.sl (.int .i64)), .sl (.sl (.int .i64)), .sl (.int .i64)]], []⟩⟩
theorem great_eq (N : Nat) (d : List Int) (d2 : Int) (d3 : List (List Int)) (d4 : List (List Int)) (d5 : List Int) : ev (Z := Bool) Try.prog (great_sp N) great_B [great_l2_L N, great_l1_L N] [] (some great_rt) 400 false [.c [0], .c [1]] (stL great_st (((d, d2, d3, d4, d5, ()), ()), ())) (stH great_st (((d, d2, d3, d4, d5, ()), ()), ())) = great_S N d d2 d3 d4 d5 := by kernel_rfl
noncomputable def sp_great (N : Nat) : Spec := { f := 25, ins := ⟨[.agg [.sl (.int .i64), .i .i64, .sl (.sl (.int .i64)), .sl (.sl (.int .i64)), .sl (.int .i64)]], []⟩, outs := [⟨[.b], []⟩], run := fun p k => (great_S N p.1.1.1 p.1.1.2.1 p.1.1.2.2.1 p.1.1.2.2.2.1 p.1.1.2.2.2.2.1).bind fun r => k ((r, ()), ()) }
theorem sp_great_ok (N : Nat) : SpecOK Try.prog (sp_great N) := fn_sound (B := great_B) (loops := [great_l2_L N, great_l1_L N]) (leaves := []) (fun p => great_S N p.1.1.1 p.1.1.2.1 p.1.1.2.2.1 p.1.1.2.2.2.1 p.1.1.2.2.2.2.1) (fun r => ((r, ()), ())) great_rt (fun _ _ _ => rfl) (fun r z h => by cases h; rfl) Try.func25 (by kernel_rfl) (by kernel_rfl) (by kernel_rfl) rfl rfl (by kernel_rfl) (fun args w => Sem.pv_run _ _ _ (by kernel_rfl) w) (great_all N) mixed ⟨great_l2_ok N, great_l1_ok N, trivial⟩ (fun z E Xc hE hX hret => trivial) (fun p => great_eq N p.1.1.1 p.1.1.2.1 p.1.1.2.2.1 p.1.1.2.2.2.1 p.1.1.2.2.2.2.1)

def off_S (N : Nat) (n : Int) (lo : Int) (hi : Int) : Option Bool :=
  br (decide (n < lo))
    (some true)
    (some (decide (hi < n)))
noncomputable def off_sp (N : Nat) : List Spec := []
theorem off_all (N : Nat) : AllP (SpecOK Try.prog) (off_sp N) := trivial
noncomputable def off_c : Code := (Try.f85.body).getD .skip
noncomputable abbrev off_B : Body := { c := off_c, n := 15, res := [.tmp 6], outs := [⟨[.b], []⟩], m0 := 0 }
abbrev off_rt : altD off_B.outs → Option Bool := fun r => some r.1.1
abbrev off_st : Sta := ⟨[0, 1, 2], ⟨[.i .i64, .i .i64, .i .i64], []⟩⟩
theorem off_eq (N : Nat) (n : Int) (lo : Int) (hi : Int) : ev (Z := Bool) Try.prog (off_sp N) off_B [] [] (some off_rt) 400 false [.c [0], .c [1]] (stL off_st ((n, lo, hi, ()), ())) (stH off_st ((n, lo, hi, ()), ())) = off_S N n lo hi := by kernel_rfl
noncomputable def sp_off (N : Nat) : Spec := { f := 85, ins := ⟨[.i .i64, .i .i64, .i .i64], []⟩, outs := [⟨[.b], []⟩], run := fun p k => (off_S N p.1.1 p.1.2.1 p.1.2.2.1).bind fun r => k ((r, ()), ()) }
theorem sp_off_ok (N : Nat) : SpecOK Try.prog (sp_off N) := fn_sound (B := off_B) (loops := []) (leaves := []) (fun p => off_S N p.1.1 p.1.2.1 p.1.2.2.1) (fun r => ((r, ()), ())) off_rt (fun _ _ _ => rfl) (fun r z h => by cases h; rfl) Try.func85 (by kernel_rfl) (by kernel_rfl) (by kernel_rfl) rfl rfl (by kernel_rfl) (fun args w => Sem.pv_run _ _ _ (by kernel_rfl) w) (off_all N) mixed trivial (fun z E Xc hE hX hret => trivial) (fun p => off_eq N p.1.1 p.1.2.1 p.1.2.2.1)

def described_l1 (N : Nat) : Nat → (List (List Int)) → Int → (List Int) → Int → (List (List Int)) → (List (List Int)) → (List Int) → Option ((Unit) ⊕ (Unit))
  | 0, _, _, _, _, _, _, _ => none
  | n_ + 1, l, i, d, d2, d3, d4, d5 =>
    br (decide (i < (l.length : Int)))
      (idx l i fun x_1 =>
      br (!decide ((x_1.length : Int) = (d.length : Int)))
        (some (.inl ()))
        (chk (i + 1) <|
        described_l1 N n_ l (i + 1) d d2 d3 d4 d5))
      (some (.inr ()))
def described_S (N : Nat) (d : List Int) (d2 : Int) (d3 : List (List Int)) (d4 : List (List Int)) (d5 : List Int) (l : List (List Int)) : Option Bool :=
  (described_l1 N N l 0 d d2 d3 d4 d5).bind fun e => match e with
  | .inl _ =>
    some false
  | .inr _ =>
    some true
noncomputable def described_sp (N : Nat) : List Spec := []
theorem described_all (N : Nat) : AllP (SpecOK Try.prog) (described_sp N) := trivial
noncomputable def described_c : Code := (Try.f100.body).getD .skip
noncomputable abbrev described_B : Body := { c := described_c, n := 21, res := [.tmp 4], outs := [⟨[.b], []⟩], m0 := 0 }
abbrev described_rt : altD described_B.outs → Option Bool := fun r => some r.1.1
abbrev described_l1_at : List PI := [.c [1, 0, 1, 0, 0, 0, 0], .c [1, 0, 1, 0, 0, 0, 1], .c [1, 0, 1, 0, 0, 1], .l [1, 0, 1, 0, 0], .b 0, .c [1, 1]]
abbrev described_l1_st : Sta := ⟨[1, 2, 5], ⟨[.sl (.sl (.int .i64)), .own 0 0, .i .i64], [.segs [.sl (.int .i64), .i .i64, .sl (.sl (.int .i64)), .sl (.sl (.int .i64)), .sl (.int .i64)]]⟩⟩
abbrev described_l1_h (rec : (List (List Int)) → Int → (List Int) → Int → (List (List Int)) → (List (List Int)) → (List Int) → Option ((Unit) ⊕ (Unit))) : Leaf ((Unit) ⊕ (Unit)) := ⟨described_l1_at, described_l1_st, fun p => rec p.1.1 p.1.2.2.1 p.2.1.1 p.2.1.2.1 p.2.1.2.2.1 p.2.1.2.2.2.1 p.2.1.2.2.2.2.1⟩
abbrev described_l1_e0 : Leaf ((Unit) ⊕ (Unit)) := ⟨[.c [1, 0, 1, 0, 0, 1, 0, 0, 1, 0, 0], .c [1, 0, 1, 0, 0, 1, 0, 0, 1, 0, 1], .b 1, .c [1, 0, 1, 0, 0, 1, 1], .l [1, 0, 1, 0, 0], .b 0, .c [1, 1]], ⟨[], ⟨[], []⟩⟩, fun p => some (.inl ())⟩
abbrev described_l1_e1 : Leaf ((Unit) ⊕ (Unit)) := ⟨[.c [1, 1, 0], .c [1, 1, 1]], ⟨[], ⟨[], []⟩⟩, fun p => some (.inr ())⟩
noncomputable def described_l1_L (N : Nat) : LoopS := { at_ := described_l1_at, sta := described_l1_st, exits := [([.c [1, 0, 1, 0, 0, 1, 0, 0, 1, 0, 0], .c [1, 0, 1, 0, 0, 1, 0, 0, 1, 0, 1], .b 1, .c [1, 0, 1, 0, 0, 1, 1], .l [1, 0, 1, 0, 0], .b 0, .c [1, 1]], ⟨[], ⟨[], []⟩⟩), ([.c [1, 1, 0], .c [1, 1, 1]], ⟨[], ⟨[], []⟩⟩)], run := fun p k => (described_l1 N N p.1.1 p.1.2.2.1 p.2.1.1 p.2.1.2.1 p.2.1.2.2.1 p.2.1.2.2.2.1 p.2.1.2.2.2.2.1).bind fun e => match e with | .inl x => k (.inl ((), ())) | .inr x => k (.inr (.inl ((), ()))) }
theorem described_l1_eq (N n_ : Nat) (l : List (List Int)) (i : Int) (d : List Int) (d2 : Int) (d3 : List (List Int)) (d4 : List (List Int)) (d5 : List Int) : ev (Z := (Unit) ⊕ (Unit)) Try.prog (described_sp N) described_B [] [described_l1_h (described_l1 N n_), described_l1_e0, described_l1_e1] none 400 true described_l1_at (stL described_l1_st ((l, (), i, ()), ((d, d2, d3, d4, d5, ()), ()))) (stH described_l1_st ((l, (), i, ()), ((d, d2, d3, d4, d5, ()), ()))) = described_l1 N (n_ + 1) l i d d2 d3 d4 d5 := by kernel_rfl
theorem described_l1_ok (N : Nat) {top : Bool} : LoopOK Try.prog described_B.c described_B.n described_B.m0 top (described_l1_L N) := loop_of_ev (Z := (Unit) ⊕ (Unit)) (N := N) (fun m p => described_l1 N m p.1.1 p.1.2.2.1 p.2.1.1 p.2.1.2.1 p.2.1.2.2.1 p.2.1.2.2.2.1 p.2.1.2.2.2.2.1) (fun e => match e with | .inl x => .inl ((), ()) | .inr x => .inr (.inl ((), ()))) (fun _ p k => bind_congr_ (described_l1 N N p.1.1 p.1.2.2.1 p.2.1.1 p.2.1.2.1 p.2.1.2.2.1 p.2.1.2.2.2.1 p.2.1.2.2.2.2.1) _ _ (fun e => by rcases e with x | x <;> rfl)) (fun _ => rfl) (fun m z E Xc hE hX hrec hx => leaf_of_ev (B := described_B) (loops := []) (leaves := [described_l1_h (described_l1 N m), described_l1_e0, described_l1_e1]) (described_all N) mixed trivial hE hX ⟨hrec, (fun p hp => by obtain rfl := Option.some.inj hp; exact hx), (fun p hp => by obtain rfl := Option.some.inj hp; exact hx), trivial⟩ RetOK.no (fun p => described_l1_eq N m p.1.1 p.1.2.2.1 p.2.1.1 p.2.1.2.1 p.2.1.2.2.1 p.2.1.2.2.2.1 p.2.1.2.2.2.2.1))
abbrev described_st : Sta := ⟨[0, 1], ⟨[.agg [.sl (.int .i64), .i .i64, .sl (.sl (.int .i64)), .sl (.sl (.int .i64)), .sl (.int .i64)], .sl (.sl (.int .i64))], []⟩⟩
theorem described_eq (N : Nat) (d : List Int) (d2 : Int) (d3 : List (List Int)) (d4 : List (List Int)) (d5 : List Int) (l : List (List Int)) : ev (Z := Bool) Try.prog (described_sp N) described_B [described_l1_L N] [] (some described_rt) 400 false [.c [0], .c [1]] (stL described_st (((d, d2, d3, d4, d5, ()), l, ()), ())) (stH described_st (((d, d2, d3, d4, d5, ()), l, ()), ())) = described_S N d d2 d3 d4 d5 l := by kernel_rfl
noncomputable def sp_described (N : Nat) : Spec := { f := 100, ins := ⟨[.agg [.sl (.int .i64), .i .i64, .sl (.sl (.int .i64)), .sl (.sl (.int .i64)), .sl (.int .i64)], .sl (.sl (.int .i64))], []⟩, outs := [⟨[.b], []⟩], run := fun p k => (described_S N p.1.1.1 p.1.1.2.1 p.1.1.2.2.1 p.1.1.2.2.2.1 p.1.1.2.2.2.2.1 p.1.2.1).bind fun r => k ((r, ()), ()) }
theorem sp_described_ok (N : Nat) : SpecOK Try.prog (sp_described N) := fn_sound (B := described_B) (loops := [described_l1_L N]) (leaves := []) (fun p => described_S N p.1.1.1 p.1.1.2.1 p.1.1.2.2.1 p.1.1.2.2.2.1 p.1.1.2.2.2.2.1 p.1.2.1) (fun r => ((r, ()), ())) described_rt (fun _ _ _ => rfl) (fun r z h => by cases h; rfl) Try.func100 (by kernel_rfl) (by kernel_rfl) (by kernel_rfl) rfl rfl (by kernel_rfl) (fun args w => Sem.pv_run _ _ _ (by kernel_rfl) w) (described_all N) mixed ⟨described_l1_ok N, trivial⟩ (fun z E Xc hE hX hret => trivial) (fun p => described_eq N p.1.1.1 p.1.1.2.1 p.1.1.2.2.1 p.1.1.2.2.2.1 p.1.1.2.2.2.2.1 p.1.2.1)

def valued_l2 (N : Nat) : Nat → (List (List Int)) → Int → Int → Option ((Unit) ⊕ (List (List Int) × Int))
  | 0, _, _, _ => none
  | n_ + 1, l, i, t =>
    idx l i fun x_1 =>
    br (decide (t < (x_1.length : Int)))
      (idx l i fun x_2 =>
      idx x_2 t fun x_3 =>
      (off_S N x_3 (-1) 5).bind fun x_4 =>
      br x_4
        (some (.inl ()))
        (chk (t + 1) <|
        valued_l2 N n_ l i (t + 1)))
      (some (.inr (l, i)))
def valued_l1 (N : Nat) : Nat → (List (List Int)) → Int → Option ((Unit) ⊕ (Unit))
  | 0, _, _ => none
  | n_ + 1, l, i =>
    br (decide (i < (l.length : Int)))
      ((valued_l2 N N l i 0).bind fun e => match e with
      | .inl _ =>
        some (.inl ())
      | .inr (l_5, i_6) =>
        chk (i_6 + 1) <|
        valued_l1 N n_ l_5 (i_6 + 1))
      (some (.inr ()))
def valued_S (N : Nat) (l : List (List Int)) : Option Bool :=
  (valued_l1 N N l 0).bind fun e => match e with
  | .inl _ =>
    some false
  | .inr _ =>
    some true
noncomputable def valued_sp (N : Nat) : List Spec := [sp_off N]
theorem valued_all (N : Nat) : AllP (SpecOK Try.prog) (valued_sp N) := ⟨sp_off_ok N, trivial⟩
noncomputable def valued_c : Code := (Try.f101.body).getD .skip
noncomputable abbrev valued_B : Body := { c := valued_c, n := 28, res := [.tmp 2], outs := [⟨[.b], []⟩], m0 := 0 }
abbrev valued_rt : altD valued_B.outs → Option Bool := fun r => some r.1.1
abbrev valued_l2_at : List PI := [.c [1, 0, 1, 0, 0, 1, 0, 0, 1, 0, 0, 0, 0], .c [1, 0, 1, 0, 0, 1, 0, 0, 1, 0, 0, 0, 1], .c [1, 0, 1, 0, 0, 1, 0, 0, 1, 0, 0, 1], .l [1, 0, 1, 0, 0, 1, 0, 0, 1, 0, 0], .b 2, .b 1, .c [1, 0, 1, 0, 0, 1, 1], .l [1, 0, 1, 0, 0], .b 0, .c [1, 1]]
abbrev valued_l2_st : Sta := ⟨[0, 3, 4], ⟨[.sl (.sl (.int .i64)), .i .i64, .i .i64], []⟩⟩
abbrev valued_l2_h (rec : (List (List Int)) → Int → Int → Option ((Unit) ⊕ (List (List Int) × Int))) : Leaf ((Unit) ⊕ (List (List Int) × Int)) := ⟨valued_l2_at, valued_l2_st, fun p => rec p.1.1 p.1.2.1 p.1.2.2.1⟩
abbrev valued_l2_e0 : Leaf ((Unit) ⊕ (List (List Int) × Int)) := ⟨[.c [1, 0, 1, 0, 0, 1, 0, 0, 1, 0, 0, 1, 0, 0, 1, 0, 0], .c [1, 0, 1, 0, 0, 1, 0, 0, 1, 0, 0, 1, 0, 0, 1, 0, 1], .b 3, .c [1, 0, 1, 0, 0, 1, 0, 0, 1, 0, 0, 1, 1], .l [1, 0, 1, 0, 0, 1, 0, 0, 1, 0, 0], .b 2, .b 1, .c [1, 0, 1, 0, 0, 1, 1], .l [1, 0, 1, 0, 0], .b 0, .c [1, 1]], ⟨[], ⟨[], []⟩⟩, fun p => some (.inl ())⟩
abbrev valued_l2_e1 : Leaf ((Unit) ⊕ (List (List Int) × Int)) := ⟨[.c [1, 0, 1, 0, 0, 1, 1], .l [1, 0, 1, 0, 0], .b 0, .c [1, 1]], ⟨[0, 3], ⟨[.sl (.sl (.int .i64)), .i .i64], []⟩⟩, fun p => some (.inr (p.1.1, p.1.2.1))⟩
noncomputable def valued_l2_L (N : Nat) : LoopS := { at_ := valued_l2_at, sta := valued_l2_st, exits := [([.c [1, 0, 1, 0, 0, 1, 0, 0, 1, 0, 0, 1, 0, 0, 1, 0, 0], .c [1, 0, 1, 0, 0, 1, 0, 0, 1, 0, 0, 1, 0, 0, 1, 0, 1], .b 3, .c [1, 0, 1, 0, 0, 1, 0, 0, 1, 0, 0, 1, 1], .l [1, 0, 1, 0, 0, 1, 0, 0, 1, 0, 0], .b 2, .b 1, .c [1, 0, 1, 0, 0, 1, 1], .l [1, 0, 1, 0, 0], .b 0, .c [1, 1]], ⟨[], ⟨[], []⟩⟩), ([.c [1, 0, 1, 0, 0, 1, 1], .l [1, 0, 1, 0, 0], .b 0, .c [1, 1]], ⟨[0, 3], ⟨[.sl (.sl (.int .i64)), .i .i64], []⟩⟩)], run := fun p k => (valued_l2 N N p.1.1 p.1.2.1 p.1.2.2.1).bind fun e => match e with | .inl x => k (.inl ((), ())) | .inr x => k (.inr (.inl ((x.1, x.2, ()), ()))) }
theorem valued_l2_eq (N n_ : Nat) (l : List (List Int)) (i : Int) (t : Int) : ev (Z := (Unit) ⊕ (List (List Int) × Int)) Try.prog (valued_sp N) valued_B [] [valued_l2_h (valued_l2 N n_), valued_l2_e0, valued_l2_e1] none 400 true valued_l2_at (stL valued_l2_st ((l, i, t, ()), ())) (stH valued_l2_st ((l, i, t, ()), ())) = valued_l2 N (n_ + 1) l i t := by kernel_rfl
theorem valued_l2_ok (N : Nat) {top : Bool} : LoopOK Try.prog valued_B.c valued_B.n valued_B.m0 top (valued_l2_L N) := loop_of_ev (Z := (Unit) ⊕ (List (List Int) × Int)) (N := N) (fun m p => valued_l2 N m p.1.1 p.1.2.1 p.1.2.2.1) (fun e => match e with | .inl x => .inl ((), ()) | .inr x => .inr (.inl ((x.1, x.2, ()), ()))) (fun _ p k => bind_congr_ (valued_l2 N N p.1.1 p.1.2.1 p.1.2.2.1) _ _ (fun e => by rcases e with x | x <;> rfl)) (fun _ => rfl) (fun m z E Xc hE hX hrec hx => leaf_of_ev (B := valued_B) (loops := []) (leaves := [valued_l2_h (valued_l2 N m), valued_l2_e0, valued_l2_e1]) (valued_all N) mixed trivial hE hX ⟨hrec, (fun p hp => by obtain rfl := Option.some.inj hp; exact hx), (fun p hp => by obtain rfl := Option.some.inj hp; exact hx), trivial⟩ RetOK.no (fun p => valued_l2_eq N m p.1.1 p.1.2.1 p.1.2.2.1))
abbrev valued_l1_at : List PI := [.c [1, 0, 1, 0, 0, 0, 0], .c [1, 0, 1, 0, 0, 0, 1], .c [1, 0, 1, 0, 0, 1], .l [1, 0, 1, 0, 0], .b 0, .c [1, 1]]
abbrev valued_l1_st : Sta := ⟨[0, 3], ⟨[.sl (.sl (.int .i64)), .i .i64], []⟩⟩
abbrev valued_l1_h (rec : (List (List Int)) → Int → Option ((Unit) ⊕ (Unit))) : Leaf ((Unit) ⊕ (Unit)) := ⟨valued_l1_at, valued_l1_st, fun p => rec p.1.1 p.1.2.1⟩
abbrev valued_l1_e0 : Leaf ((Unit) ⊕ (Unit)) := ⟨[.c [1, 0, 1, 0, 0, 1, 0, 0, 1, 0, 0, 1, 0, 0, 1, 0, 0], .c [1, 0, 1, 0, 0, 1, 0, 0, 1, 0, 0, 1, 0, 0, 1, 0, 1], .b 3, .c [1, 0, 1, 0, 0, 1, 0, 0, 1, 0, 0, 1, 1], .l [1, 0, 1, 0, 0, 1, 0, 0, 1, 0, 0], .b 2, .b 1, .c [1, 0, 1, 0, 0, 1, 1], .l [1, 0, 1, 0, 0], .b 0, .c [1, 1]], ⟨[], ⟨[], []⟩⟩, fun p => some (.inl ())⟩
abbrev valued_l1_e1 : Leaf ((Unit) ⊕ (Unit)) := ⟨[.c [1, 1, 0], .c [1, 1, 1]], ⟨[], ⟨[], []⟩⟩, fun p => some (.inr ())⟩
noncomputable def valued_l1_L (N : Nat) : LoopS := { at_ := valued_l1_at, sta := valued_l1_st, exits := [([.c [1, 0, 1, 0, 0, 1, 0, 0, 1, 0, 0, 1, 0, 0, 1, 0, 0], .c [1, 0, 1, 0, 0, 1, 0, 0, 1, 0, 0, 1, 0, 0, 1, 0, 1], .b 3, .c [1, 0, 1, 0, 0, 1, 0, 0, 1, 0, 0, 1, 1], .l [1, 0, 1, 0, 0, 1, 0, 0, 1, 0, 0], .b 2, .b 1, .c [1, 0, 1, 0, 0, 1, 1], .l [1, 0, 1, 0, 0], .b 0, .c [1, 1]], ⟨[], ⟨[], []⟩⟩), ([.c [1, 1, 0], .c [1, 1, 1]], ⟨[], ⟨[], []⟩⟩)], run := fun p k => (valued_l1 N N p.1.1 p.1.2.1).bind fun e => match e with | .inl x => k (.inl ((), ())) | .inr x => k (.inr (.inl ((), ()))) }
theorem valued_l1_eq (N n_ : Nat) (l : List (List Int)) (i : Int) : ev (Z := (Unit) ⊕ (Unit)) Try.prog (valued_sp N) valued_B [valued_l2_L N] [valued_l1_h (valued_l1 N n_), valued_l1_e0, valued_l1_e1] none 400 true valued_l1_at (stL valued_l1_st ((l, i, ()), ())) (stH valued_l1_st ((l, i, ()), ())) = valued_l1 N (n_ + 1) l i := by kernel_rfl
theorem valued_l1_ok (N : Nat) {top : Bool} : LoopOK Try.prog valued_B.c valued_B.n valued_B.m0 top (valued_l1_L N) := loop_of_ev (Z := (Unit) ⊕ (Unit)) (N := N) (fun m p => valued_l1 N m p.1.1 p.1.2.1) (fun e => match e with | .inl x => .inl ((), ()) | .inr x => .inr (.inl ((), ()))) (fun _ p k => bind_congr_ (valued_l1 N N p.1.1 p.1.2.1) _ _ (fun e => by rcases e with x | x <;> rfl)) (fun _ => rfl) (fun m z E Xc hE hX hrec hx => leaf_of_ev (B := valued_B) (loops := [valued_l2_L N]) (leaves := [valued_l1_h (valued_l1 N m), valued_l1_e0, valued_l1_e1]) (valued_all N) mixed ⟨valued_l2_ok N, trivial⟩ hE hX ⟨hrec, (fun p hp => by obtain rfl := Option.some.inj hp; exact hx), (fun p hp => by obtain rfl := Option.some.inj hp; exact hx), trivial⟩ RetOK.no (fun p => valued_l1_eq N m p.1.1 p.1.2.1))
abbrev valued_st : Sta := ⟨[0], ⟨[.sl (.sl (.int .i64))], []⟩⟩
theorem valued_eq (N : Nat) (l : List (List Int)) : ev (Z := Bool) Try.prog (valued_sp N) valued_B [valued_l2_L N, valued_l1_L N] [] (some valued_rt) 400 false [.c [0], .c [1]] (stL valued_st ((l, ()), ())) (stH valued_st ((l, ()), ())) = valued_S N l := by kernel_rfl
noncomputable def sp_valued (N : Nat) : Spec := { f := 101, ins := ⟨[.sl (.sl (.int .i64))], []⟩, outs := [⟨[.b], []⟩], run := fun p k => (valued_S N p.1.1).bind fun r => k ((r, ()), ()) }
theorem sp_valued_ok (N : Nat) : SpecOK Try.prog (sp_valued N) := fn_sound (B := valued_B) (loops := [valued_l2_L N, valued_l1_L N]) (leaves := []) (fun p => valued_S N p.1.1) (fun r => ((r, ()), ())) valued_rt (fun _ _ _ => rfl) (fun r z h => by cases h; rfl) Try.func101 (by kernel_rfl) (by kernel_rfl) (by kernel_rfl) rfl rfl (by kernel_rfl) (fun args w => Sem.pv_run _ _ _ (by kernel_rfl) w) (valued_all N) mixed ⟨valued_l2_ok N, valued_l1_ok N, trivial⟩ (fun z E Xc hE hX hret => trivial) (fun p => valued_eq N p.1.1)

def rcheck_l1 (N : Nat) : Nat → Int → (List Int) → Int → (List (List Int)) → (List (List Int)) → (List Int) → Option ((Unit) ⊕ (List Int × Int × List (List Int) × List (List Int) × List Int))
  | 0, _, _, _, _, _, _ => none
  | n_ + 1, t, d, d2, d3, d4, d5 =>
    br (decide (t < (d.length : Int)))
      (idx d t fun x_4 =>
      (off_S N x_4 1 9).bind fun x_5 =>
      br x_5
        (some (.inl ()))
        (chk (t + 1) <|
        rcheck_l1 N n_ (t + 1) d d2 d3 d4 d5))
      (some (.inr (d, d2, d3, d4, d5)))
def rcheck_l2 (N : Nat) : Nat → Int → (List Int) → Int → (List (List Int)) → (List (List Int)) → (List Int) → Option ((Unit) ⊕ (List Int × Int × List (List Int) × List (List Int) × List Int))
  | 0, _, _, _, _, _, _ => none
  | n_ + 1, i, d, d2, d3, d4, d5 =>
    br (decide (i < (d5.length : Int)))
      (idx d5 i fun x_11 =>
      (off_S N x_11 0 99).bind fun x_12 =>
      br x_12
        (some (.inl ()))
        (chk (i + 1) <|
        rcheck_l2 N n_ (i + 1) d d2 d3 d4 d5))
      (some (.inr (d, d2, d3, d4, d5)))
def rcheck_S (N : Nat) (d : List Int) (d2 : Int) (d3 : List (List Int)) (d4 : List (List Int)) (d5 : List Int) : Option Int :=
  (off_S N (d.length : Int) 1 5).bind fun x_1 =>
  br x_1
    (some 2)
    (br (decide (6 < (d3.length : Int)))
      (some 2)
      (br (decide (6 < (d4.length : Int)))
        (some 2)
        ((described_S N d d2 d3 d4 d5 d3).bind fun x_2 =>
        br (!x_2)
          (some 2)
          ((described_S N d d2 d3 d4 d5 d4).bind fun x_3 =>
          br (!x_3)
            (some 2)
            (br (!decide ((d5.length : Int) = (d3.length : Int)))
              (some 2)
              ((rcheck_l1 N N 0 d d2 d3 d4 d5).bind fun e => match e with
              | .inl _ =>
                some 3
              | .inr (d_6, d2_7, d3_8, d4_9, d5_10) =>
                (rcheck_l2 N N 0 d_6 d2_7 d3_8 d4_9 d5_10).bind fun e => match e with
                | .inl _ =>
                  some 3
                | .inr (d_13, d2_14, d3_15, d4_16, d5_17) =>
                  (off_S N d2_14 0 3).bind fun x_18 =>
                  br x_18
                    (some 3)
                    ((valued_S N d3_15).bind fun x_19 =>
                    br (!x_19)
                      (some 3)
                      ((valued_S N d4_16).bind fun x_20 =>
                      br (!x_20)
                        (some 3)
                        (some 0)))))))))
noncomputable def rcheck_sp (N : Nat) : List Spec := [sp_off N, sp_described N, sp_valued N]
theorem rcheck_all (N : Nat) : AllP (SpecOK Try.prog) (rcheck_sp N) := ⟨sp_off_ok N, sp_described_ok N, sp_valued_ok N, trivial⟩
noncomputable def rcheck_c : Code := (Try.f57.body).getD .skip
noncomputable abbrev rcheck_B : Body := { c := rcheck_c, n := 83, res := [.tmp 2], outs := [⟨[.i .i64], []⟩], m0 := 0 }
abbrev rcheck_rt : altD rcheck_B.outs → Option Int := fun r => some r.1.1
abbrev rcheck_l1_at : List PI := [.c [1, 1, 1, 0, 1, 0, 0, 0, 0], .c [1, 1, 1, 0, 1, 0, 0, 0, 1], .c [1, 1, 1, 0, 1, 0, 0, 1], .l [1, 1, 1, 0, 1, 0, 0], .b 0, .c [1, 1, 1, 1]]
abbrev rcheck_l1_st : Sta := ⟨[1, 3], ⟨[.own 0 0, .i .i64], [.segs [.sl (.int .i64), .i .i64, .sl (.sl (.int .i64)), .sl (.sl (.int .i64)), .sl (.int .i64)]]⟩⟩
abbrev rcheck_l1_h (rec : Int → (List Int) → Int → (List (List Int)) → (List (List Int)) → (List Int) → Option ((Unit) ⊕ (List Int × Int × List (List Int) × List (List Int) × List Int))) : Leaf ((Unit) ⊕ (List Int × Int × List (List Int) × List (List Int) × List Int)) := ⟨rcheck_l1_at, rcheck_l1_st, fun p => rec p.1.2.1 p.2.1.1 p.2.1.2.1 p.2.1.2.2.1 p.2.1.2.2.2.1 p.2.1.2.2.2.2.1⟩
abbrev rcheck_l1_e0 : Leaf ((Unit) ⊕ (List Int × Int × List (List Int) × List (List Int) × List Int)) := ⟨[.c [1, 1, 1, 0, 1, 0, 0, 1, 0, 0, 1, 0, 0], .c [1, 1, 1, 0, 1, 0, 0, 1, 0, 0, 1, 0, 1], .b 1, .c [1, 1, 1, 0, 1, 0, 0, 1, 1], .l [1, 1, 1, 0, 1, 0, 0], .b 0, .c [1, 1, 1, 1]], ⟨[], ⟨[], []⟩⟩, fun p => some (.inl ())⟩
abbrev rcheck_l1_e1 : Leaf ((Unit) ⊕ (List Int × Int × List (List Int) × List (List Int) × List Int)) := ⟨[.c [1, 1, 1, 1, 0, 0], .c [1, 1, 1, 1, 0, 1], .c [1, 1, 1, 1, 1]], ⟨[1], ⟨[.own 0 0], [.segs [.sl (.int .i64), .i .i64, .sl (.sl (.int .i64)), .sl (.sl (.int .i64)), .sl (.int .i64)]]⟩⟩, fun p => some (.inr (p.2.1.1, p.2.1.2.1, p.2.1.2.2.1, p.2.1.2.2.2.1, p.2.1.2.2.2.2.1))⟩
noncomputable def rcheck_l1_L (N : Nat) : LoopS := { at_ := rcheck_l1_at, sta := rcheck_l1_st, exits := [([.c [1, 1, 1, 0, 1, 0, 0, 1, 0, 0, 1, 0, 0], .c [1, 1, 1, 0, 1, 0, 0, 1, 0, 0, 1, 0, 1], .b 1, .c [1, 1, 1, 0, 1, 0, 0, 1, 1], .l [1, 1, 1, 0, 1, 0, 0], .b 0, .c [1, 1, 1, 1]], ⟨[], ⟨[], []⟩⟩), ([.c [1, 1, 1, 1, 0, 0], .c [1, 1, 1, 1, 0, 1], .c [1, 1, 1, 1, 1]], ⟨[1], ⟨[.own 0 0], [.segs [.sl (.int .i64), .i .i64, .sl (.sl (.int .i64)), .sl (.sl (.int .i64)), .sl (.int .i64)]]⟩⟩)], run := fun p k => (rcheck_l1 N N p.1.2.1 p.2.1.1 p.2.1.2.1 p.2.1.2.2.1 p.2.1.2.2.2.1 p.2.1.2.2.2.2.1).bind fun e => match e with | .inl x => k (.inl ((), ())) | .inr x => k (.inr (.inl (((), ()), ((x.1, x.2.1, x.2.2.1, x.2.2.2.1, x.2.2.2.2, ()), ())))) }
theorem rcheck_l1_eq (N n_ : Nat) (t : Int) (d : List Int) (d2 : Int) (d3 : List (List Int)) (d4 : List (List Int)) (d5 : List Int) : ev (Z := (Unit) ⊕ (List Int × Int × List (List Int) × List (List Int) × List Int)) Try.prog (rcheck_sp N) rcheck_B [] [rcheck_l1_h (rcheck_l1 N n_), rcheck_l1_e0, rcheck_l1_e1] none 400 true rcheck_l1_at (stL rcheck_l1_st (((), t, ()), ((d, d2, d3, d4, d5, ()), ()))) (stH rcheck_l1_st (((), t, ()), ((d, d2, d3, d4, d5, ()), ()))) = rcheck_l1 N (n_ + 1) t d d2 d3 d4 d5 := by kernel_rfl
theorem rcheck_l1_ok (N : Nat) {top : Bool} : LoopOK Try.prog rcheck_B.c rcheck_B.n rcheck_B.m0 top (rcheck_l1_L N) := loop_of_ev (Z := (Unit) ⊕ (List Int × Int × List (List Int) × List (List Int) × List Int)) (N := N) (fun m p => rcheck_l1 N m p.1.2.1 p.2.1.1 p.2.1.2.1 p.2.1.2.2.1 p.2.1.2.2.2.1 p.2.1.2.2.2.2.1) (fun e => match e with | .inl x => .inl ((), ()) | .inr x => .inr (.inl (((), ()), ((x.1, x.2.1, x.2.2.1, x.2.2.2.1, x.2.2.2.2, ()), ())))) (fun _ p k => bind_congr_ (rcheck_l1 N N p.1.2.1 p.2.1.1 p.2.1.2.1 p.2.1.2.2.1 p.2.1.2.2.2.1 p.2.1.2.2.2.2.1) _ _ (fun e => by rcases e with x | x <;> rfl)) (fun _ => rfl) (fun m z E Xc hE hX hrec hx => leaf_of_ev (B := rcheck_B) (loops := []) (leaves := [rcheck_l1_h (rcheck_l1 N m), rcheck_l1_e0, rcheck_l1_e1]) (rcheck_all N) mixed trivial hE hX ⟨hrec, (fun p hp => by obtain rfl := Option.some.inj hp; exact hx), (fun p hp => by obtain rfl := Option.some.inj hp; exact hx), trivial⟩ RetOK.no (fun p => rcheck_l1_eq N m p.1.2.1 p.2.1.1 p.2.1.2.1 p.2.1.2.2.1 p.2.1.2.2.2.1 p.2.1.2.2.2.2.1))
abbrev rcheck_l2_at : List PI := [.c [1, 1, 1, 1, 0, 1, 0, 0, 0, 0], .c [1, 1, 1, 1, 0, 1, 0, 0, 0, 1], .c [1, 1, 1, 1, 0, 1, 0, 0, 1], .l [1, 1, 1, 1, 0, 1, 0, 0], .b 2, .c [1, 1, 1, 1, 1]]
abbrev rcheck_l2_st : Sta := ⟨[1, 4], ⟨[.own 0 0, .i .i64], [.segs [.sl (.int .i64), .i .i64, .sl (.sl (.int .i64)), .sl (.sl (.int .i64)), .sl (.int .i64)]]⟩⟩
abbrev rcheck_l2_h (rec : Int → (List Int) → Int → (List (List Int)) → (List (List Int)) → (List Int) → Option ((Unit) ⊕ (List Int × Int × List (List Int) × List (List Int) × List Int))) : Leaf ((Unit) ⊕ (List Int × Int × List (List Int) × List (List Int) × List Int)) := ⟨rcheck_l2_at, rcheck_l2_st, fun p => rec p.1.2.1 p.2.1.1 p.2.1.2.1 p.2.1.2.2.1 p.2.1.2.2.2.1 p.2.1.2.2.2.2.1⟩
abbrev rcheck_l2_e0 : Leaf ((Unit) ⊕ (List Int × Int × List (List Int) × List (List Int) × List Int)) := ⟨[.c [1, 1, 1, 1, 0, 1, 0, 0, 1, 0, 0, 1, 0, 0], .c [1, 1, 1, 1, 0, 1, 0, 0, 1, 0, 0, 1, 0, 1], .b 3, .c [1, 1, 1, 1, 0, 1, 0, 0, 1, 1], .l [1, 1, 1, 1, 0, 1, 0, 0], .b 2, .c [1, 1, 1, 1, 1]], ⟨[], ⟨[], []⟩⟩, fun p => some (.inl ())⟩
abbrev rcheck_l2_e1 : Leaf ((Unit) ⊕ (List Int × Int × List (List Int) × List (List Int) × List Int)) := ⟨[.c [1, 1, 1, 1, 1, 0, 0], .c [1, 1, 1, 1, 1, 0, 1], .c [1, 1, 1, 1, 1, 1]], ⟨[1], ⟨[.own 0 0], [.segs [.sl (.int .i64), .i .i64, .sl (.sl (.int .i64)), .sl (.sl (.int .i64)), .sl (.int .i64)]]⟩⟩, fun p => some (.inr (p.2.1.1, p.2.1.2.1, p.2.1.2.2.1, p.2.1.2.2.2.1, p.2.1.2.2.2.2.1))⟩
noncomputable def rcheck_l2_L (N : Nat) : LoopS := { at_ := rcheck_l2_at, sta := rcheck_l2_st, exits := [([.c [1, 1, 1, 1, 0, 1, 0, 0, 1, 0, 0, 1, 0, 0], .c [1, 1, 1, 1, 0, 1, 0, 0, 1, 0, 0, 1, 0, 1], .b 3, .c [1, 1, 1, 1, 0, 1, 0, 0, 1, 1], .l [1, 1, 1, 1, 0, 1, 0, 0], .b 2, .c [1, 1, 1, 1, 1]], ⟨[], ⟨[], []⟩⟩), ([.c [1, 1, 1, 1, 1, 0, 0], .c [1, 1, 1, 1, 1, 0, 1], .c [1, 1, 1, 1, 1, 1]], ⟨[1], ⟨[.own 0 0], [.segs [.sl (.int .i64), .i .i64, .sl (.sl (.int .i64)), .sl (.sl (.int .i64)), .sl (.int .i64)]]⟩⟩)], run := fun p k => (rcheck_l2 N N p.1.2.1 p.2.1.1 p.2.1.2.1 p.2.1.2.2.1 p.2.1.2.2.2.1 p.2.1.2.2.2.2.1).bind fun e => match e with | .inl x => k (.inl ((), ())) | .inr x => k (.inr (.inl (((), ()), ((x.1, x.2.1, x.2.2.1, x.2.2.2.1, x.2.2.2.2, ()), ())))) }
theorem rcheck_l2_eq (N n_ : Nat) (i : Int) (d : List Int) (d2 : Int) (d3 : List (List Int)) (d4 : List (List Int)) (d5 : List Int) : ev (Z := (Unit) ⊕ (List Int × Int × List (List Int) × List (List Int) × List Int)) Try.prog (rcheck_sp N) rcheck_B [rcheck_l1_L N] [rcheck_l2_h (rcheck_l2 N n_), rcheck_l2_e0, rcheck_l2_e1] none 400 true rcheck_l2_at (stL rcheck_l2_st (((), i, ()), ((d, d2, d3, d4, d5, ()), ()))) (stH rcheck_l2_st (((), i, ()), ((d, d2, d3, d4, d5, ()), ()))) = rcheck_l2 N (n_ + 1) i d d2 d3 d4 d5 := by kernel_rfl
theorem rcheck_l2_ok (N : Nat) {top : Bool} : LoopOK Try.prog rcheck_B.c rcheck_B.n rcheck_B.m0 top (rcheck_l2_L N) := loop_of_ev (Z := (Unit) ⊕ (List Int × Int × List (List Int) × List (List Int) × List Int)) (N := N) (fun m p => rcheck_l2 N m p.1.2.1 p.2.1.1 p.2.1.2.1 p.2.1.2.2.1 p.2.1.2.2.2.1 p.2.1.2.2.2.2.1) (fun e => match e with | .inl x => .inl ((), ()) | .inr x => .inr (.inl (((), ()), ((x.1, x.2.1, x.2.2.1, x.2.2.2.1, x.2.2.2.2, ()), ())))) (fun _ p k => bind_congr_ (rcheck_l2 N N p.1.2.1 p.2.1.1 p.2.1.2.1 p.2.1.2.2.1 p.2.1.2.2.2.1 p.2.1.2.2.2.2.1) _ _ (fun e => by rcases e with x | x <;> rfl)) (fun _ => rfl) (fun m z E Xc hE hX hrec hx => leaf_of_ev (B := rcheck_B) (loops := [rcheck_l1_L N]) (leaves := [rcheck_l2_h (rcheck_l2 N m), rcheck_l2_e0, rcheck_l2_e1]) (rcheck_all N) mixed ⟨rcheck_l1_ok N, trivial⟩ hE hX ⟨hrec, (fun p hp => by obtain rfl := Option.some.inj hp; exact hx), (fun p hp => by obtain rfl := Option.some.inj hp; exact hx), trivial⟩ RetOK.no (fun p => rcheck_l2_eq N m p.1.2.1 p.2.1.1 p.2.1.2.1 p.2.1.2.2.1 p.2.1.2.2.2.1 p.2.1.2.2.2.2.1))
abbrev rcheck_st : Sta := ⟨[0], ⟨[.agg [.sl (.int .i64), .i .i64, .sl (.sl (.int .i64)), .sl (.sl (.int .i64)), .sl (.int .i64)]], []⟩⟩
theorem rcheck_eq (N : Nat) (d : List Int) (d2 : Int) (d3 : List (List Int)) (d4 : List (List Int)) (d5 : List Int) : ev (Z := Int) Try.prog (rcheck_sp N) rcheck_B [rcheck_l1_L N, rcheck_l2_L N] [] (some rcheck_rt) 400 false [.c [0], .c [1]] (stL rcheck_st (((d, d2, d3, d4, d5, ()), ()), ())) (stH rcheck_st (((d, d2, d3, d4, d5, ()), ()), ())) = rcheck_S N d d2 d3 d4 d5 := by kernel_rfl
noncomputable def sp_rcheck (N : Nat) : Spec := { f := 57, ins := ⟨[.agg [.sl (.int .i64), .i .i64, .sl (.sl (.int .i64)), .sl (.sl (.int .i64)), .sl (.int .i64)]], []⟩, outs := [⟨[.i .i64], []⟩], run := fun p k => (rcheck_S N p.1.1.1 p.1.1.2.1 p.1.1.2.2.1 p.1.1.2.2.2.1 p.1.1.2.2.2.2.1).bind fun r => k ((r, ()), ()) }
theorem sp_rcheck_ok (N : Nat) : SpecOK Try.prog (sp_rcheck N) := fn_sound (B := rcheck_B) (loops := [rcheck_l1_L N, rcheck_l2_L N]) (leaves := []) (fun p => rcheck_S N p.1.1.1 p.1.1.2.1 p.1.1.2.2.1 p.1.1.2.2.2.1 p.1.1.2.2.2.2.1) (fun r => ((r, ()), ())) rcheck_rt (fun _ _ _ => rfl) (fun r z h => by cases h; rfl) Try.func57 (by kernel_rfl) (by kernel_rfl) (by kernel_rfl) rfl rfl (by kernel_rfl) (fun args w => Sem.pv_run _ _ _ (by kernel_rfl) w) (rcheck_all N) mixed ⟨rcheck_l1_ok N, rcheck_l2_ok N, trivial⟩ (fun z E Xc hE hX hret => trivial) (fun p => rcheck_eq N p.1.1.1 p.1.1.2.1 p.1.1.2.2.1 p.1.1.2.2.2.1 p.1.1.2.2.2.2.1)

def rpair_j2 (N : Nat) (rec : Int → Int → Int → Int → Int → (List Int) → Int → (List (List Int)) → (List (List Int)) → (List Int) → Option (Int × Int × List Int × Int × List (List Int) × List (List Int) × List Int)) (lost : Int) (found : Int) (n : Int) (slips : Int) (t : Int) (d : List Int) (d2 : Int) (d3 : List (List Int)) (d4 : List (List Int)) (d5 : List Int) : Option (Int × Int × List Int × Int × List (List Int) × List (List Int) × List Int) :=
  chk (t + 1) <|
  rec lost found n slips (t + 1) d d2 d3 d4 d5
def rpair_j1 (N : Nat) (rec : Int → Int → Int → Int → Int → (List Int) → Int → (List (List Int)) → (List (List Int)) → (List Int) → Option (Int × Int × List Int × Int × List (List Int) × List (List Int) × List Int)) (lost : Int) (found : Int) (n : Int) (slips : Int) (t : Int) (a : Int) (b : Int) (d : List Int) (d2 : Int) (d3 : List (List Int)) (d4 : List (List Int)) (d5 : List Int) : Option (Int × Int × List Int × Int × List (List Int) × List (List Int) × List Int) :=
  br (decide (0 ≤ a))
    (br (decide (0 ≤ b))
      (br (!decide (a = b))
        (chk (slips + 1) <|
        rpair_j2 N (rec) lost found n (slips + 1) t d d2 d3 d4 d5)
        (rpair_j2 N (rec) lost found n slips t d d2 d3 d4 d5))
      (rpair_j2 N (rec) lost found n slips t d d2 d3 d4 d5))
    (rpair_j2 N (rec) lost found n slips t d d2 d3 d4 d5)
def rpair_l1 (N : Nat) : Nat → Int → Int → Int → Int → Int → (List Int) → Int → (List (List Int)) → (List (List Int)) → (List Int) → Option (Int × Int × List Int × Int × List (List Int) × List (List Int) × List Int)
  | 0, _, _, _, _, _, _, _, _, _, _ => none
  | n_ + 1, lost, found, n, slips, t, d, d2, d3, d4, d5 =>
    br (decide (t < (d.length : Int)))
      (idx d3 lost fun x_1 =>
      idx x_1 t fun x_2 =>
      idx d4 found fun x_3 =>
      idx x_3 t fun x_4 =>
      br (decide (0 ≤ x_2))
        (br (decide (0 ≤ x_4))
          (br (decide (x_2 = x_4))
            (idx d t fun x_5 =>
            chk (n + x_5) <|
            rpair_j1 N (rpair_l1 N n_) lost found (n + x_5) slips t x_2 x_4 d d2 d3 d4 d5)
            (rpair_j1 N (rpair_l1 N n_) lost found n slips t x_2 x_4 d d2 d3 d4 d5))
          (rpair_j1 N (rpair_l1 N n_) lost found n slips t x_2 x_4 d d2 d3 d4 d5))
        (rpair_j1 N (rpair_l1 N n_) lost found n slips t x_2 x_4 d d2 d3 d4 d5))
      (some ((n, slips, d, d2, d3, d4, d5)))
def rpair_S (N : Nat) (d : List Int) (d2 : Int) (d3 : List (List Int)) (d4 : List (List Int)) (d5 : List Int) (lost : Int) (found : Int) : Option (Int × Int × Bool) :=
  (rpair_l1 N N lost found 0 0 0 d d2 d3 d4 d5).bind fun (n_6, slips_7, d_8, d2_9, d3_10, d4_11, d5_12) =>
  br (decide (0 < n_6))
    (some (n_6, slips_7, (decide (slips_7 ≤ d2_9))))
    (some (n_6, slips_7, false))
noncomputable def rpair_sp (N : Nat) : List Spec := []
theorem rpair_all (N : Nat) : AllP (SpecOK Try.prog) (rpair_sp N) := trivial
noncomputable def rpair_c : Code := (Try.f92.body).getD .skip
noncomputable abbrev rpair_B : Body := { c := rpair_c, n := 78, res := [.tmp 6, .tmp 7, .tmp 8], outs := [⟨[.i .i64, .i .i64, .b], []⟩], m0 := 0 }
abbrev rpair_rt : altD rpair_B.outs → Option (Int × Int × Bool) := fun r => some (r.1.1, r.1.2.1, r.1.2.2.1)
abbrev rpair_l1_at : List PI := [.c [1, 1, 0, 1, 0, 0, 0, 0], .c [1, 1, 0, 1, 0, 0, 0, 1], .c [1, 1, 0, 1, 0, 0, 1], .l [1, 1, 0, 1, 0, 0], .b 0, .c [1, 1, 1]]
abbrev rpair_l1_st : Sta := ⟨[1, 2, 3, 9, 10, 11], ⟨[.i .i64, .i .i64, .own 0 0, .i .i64, .i .i64, .i .i64], [.segs [.sl (.int .i64), .i .i64, .sl (.sl (.int .i64)), .sl (.sl (.int .i64)), .sl (.int .i64)]]⟩⟩
abbrev rpair_l1_h (rec : Int → Int → Int → Int → Int → (List Int) → Int → (List (List Int)) → (List (List Int)) → (List Int) → Option (Int × Int × List Int × Int × List (List Int) × List (List Int) × List Int)) : Leaf (Int × Int × List Int × Int × List (List Int) × List (List Int) × List Int) := ⟨rpair_l1_at, rpair_l1_st, fun p => rec p.1.1 p.1.2.1 p.1.2.2.2.1 p.1.2.2.2.2.1 p.1.2.2.2.2.2.1 p.2.1.1 p.2.1.2.1 p.2.1.2.2.1 p.2.1.2.2.2.1 p.2.1.2.2.2.2.1⟩
abbrev rpair_l1_e0 : Leaf (Int × Int × List Int × Int × List (List Int) × List (List Int) × List Int) := ⟨[.c [1, 1, 1, 0], .c [1, 1, 1, 1]], ⟨[3, 9, 10], ⟨[.own 0 0, .i .i64, .i .i64], [.segs [.sl (.int .i64), .i .i64, .sl (.sl (.int .i64)), .sl (.sl (.int .i64)), .sl (.int .i64)]]⟩⟩, fun p => some ((p.1.2.1, p.1.2.2.1, p.2.1.1, p.2.1.2.1, p.2.1.2.2.1, p.2.1.2.2.2.1, p.2.1.2.2.2.2.1))⟩
abbrev rpair_j2_at : List PI := [.c [1, 1, 0, 1, 0, 0, 1, 1], .l [1, 1, 0, 1, 0, 0], .b 0, .c [1, 1, 1]]
abbrev rpair_j2_st : Sta := ⟨[1, 2, 3, 9, 10, 11], ⟨[.i .i64, .i .i64, .own 0 0, .i .i64, .i .i64, .i .i64], [.segs [.sl (.int .i64), .i .i64, .sl (.sl (.int .i64)), .sl (.sl (.int .i64)), .sl (.int .i64)]]⟩⟩
abbrev rpair_j2_k (N : Nat) (rec : Int → Int → Int → Int → Int → (List Int) → Int → (List (List Int)) → (List (List Int)) → (List Int) → Option (Int × Int × List Int × Int × List (List Int) × List (List Int) × List Int)) : Leaf (Int × Int × List Int × Int × List (List Int) × List (List Int) × List Int) := ⟨rpair_j2_at, rpair_j2_st, fun p => rpair_j2 N rec p.1.1 p.1.2.1 p.1.2.2.2.1 p.1.2.2.2.2.1 p.1.2.2.2.2.2.1 p.2.1.1 p.2.1.2.1 p.2.1.2.2.1 p.2.1.2.2.2.1 p.2.1.2.2.2.2.1⟩
theorem rpair_j2_eq (N : Nat) (rec : Int → Int → Int → Int → Int → (List Int) → Int → (List (List Int)) → (List (List Int)) → (List Int) → Option (Int × Int × List Int × Int × List (List Int) × List (List Int) × List Int)) (lost : Int) (found : Int) (n : Int) (slips : Int) (t : Int) (d : List Int) (d2 : Int) (d3 : List (List Int)) (d4 : List (List Int)) (d5 : List Int) : ev (Z := Int × Int × List Int × Int × List (List Int) × List (List Int) × List Int) Try.prog (rpair_sp N) rpair_B [] [rpair_l1_h rec, rpair_l1_e0] none 400 true rpair_j2_at (stL rpair_j2_st ((lost, found, (), n, slips, t, ()), ((d, d2, d3, d4, d5, ()), ()))) (stH rpair_j2_st ((lost, found, (), n, slips, t, ()), ((d, d2, d3, d4, d5, ()), ()))) = rpair_j2 N rec lost found n slips t d d2 d3 d4 d5 := by kernel_rfl
theorem rpair_j2_lf (N : Nat) (rec : Int → Int → Int → Int → Int → (List Int) → Int → (List (List Int)) → (List (List Int)) → (List Int) → Option (Int × Int × List Int × Int × List (List Int) × List (List Int) × List Int)) {z : Int × Int × List Int × Int × List (List Int) × List (List Int) × List Int} {top : Bool} {E : EE} {Xc : Ctx} (hE : EOK rpair_B.m0 E) (hX : CxOK top Xc) (hrec : LeafOK Try.prog rpair_B.c rpair_B.n rpair_B.m0 E Xc z (rpair_l1_h rec)) (h0 : LeafOK Try.prog rpair_B.c rpair_B.n rpair_B.m0 E Xc z rpair_l1_e0) : LeafOK Try.prog rpair_B.c rpair_B.n rpair_B.m0 E Xc z (rpair_j2_k N rec) := leaf_of_ev (B := rpair_B) (loops := []) (leaves := [rpair_l1_h rec, rpair_l1_e0]) (rpair_all N) mixed trivial hE hX ⟨hrec, h0, trivial⟩ RetOK.no (fun p => rpair_j2_eq N rec p.1.1 p.1.2.1 p.1.2.2.2.1 p.1.2.2.2.2.1 p.1.2.2.2.2.2.1 p.2.1.1 p.2.1.2.1 p.2.1.2.2.1 p.2.1.2.2.2.1 p.2.1.2.2.2.2.1)
abbrev rpair_j1_at : List PI := [.c [1, 1, 0, 1, 0, 0, 1, 0, 0, 1, 1, 0], .c [1, 1, 0, 1, 0, 0, 1, 0, 0, 1, 1, 1], .b 1, .c [1, 1, 0, 1, 0, 0, 1, 1], .l [1, 1, 0, 1, 0, 0], .b 0, .c [1, 1, 1]]
abbrev rpair_j1_st : Sta := ⟨[1, 2, 3, 9, 10, 11, 12, 13], ⟨[.i .i64, .i .i64, .own 0 0, .i .i64, .i .i64, .i .i64, .i .i64, .i .i64], [.segs [.sl (.int .i64), .i .i64, .sl (.sl (.int .i64)), .sl (.sl (.int .i64)), .sl (.int .i64)]]⟩⟩
abbrev rpair_j1_k (N : Nat) (rec : Int → Int → Int → Int → Int → (List Int) → Int → (List (List Int)) → (List (List Int)) → (List Int) → Option (Int × Int × List Int × Int × List (List Int) × List (List Int) × List Int)) : Leaf (Int × Int × List Int × Int × List (List Int) × List (List Int) × List Int) := ⟨rpair_j1_at, rpair_j1_st, fun p => rpair_j1 N rec p.1.1 p.1.2.1 p.1.2.2.2.1 p.1.2.2.2.2.1 p.1.2.2.2.2.2.1 p.1.2.2.2.2.2.2.1 p.1.2.2.2.2.2.2.2.1 p.2.1.1 p.2.1.2.1 p.2.1.2.2.1 p.2.1.2.2.2.1 p.2.1.2.2.2.2.1⟩
theorem rpair_j1_eq (N : Nat) (rec : Int → Int → Int → Int → Int → (List Int) → Int → (List (List Int)) → (List (List Int)) → (List Int) → Option (Int × Int × List Int × Int × List (List Int) × List (List Int) × List Int)) (lost : Int) (found : Int) (n : Int) (slips : Int) (t : Int) (a : Int) (b : Int) (d : List Int) (d2 : Int) (d3 : List (List Int)) (d4 : List (List Int)) (d5 : List Int) : ev (Z := Int × Int × List Int × Int × List (List Int) × List (List Int) × List Int) Try.prog (rpair_sp N) rpair_B [] [rpair_l1_h rec, rpair_l1_e0, rpair_j2_k N rec] none 400 true rpair_j1_at (stL rpair_j1_st ((lost, found, (), n, slips, t, a, b, ()), ((d, d2, d3, d4, d5, ()), ()))) (stH rpair_j1_st ((lost, found, (), n, slips, t, a, b, ()), ((d, d2, d3, d4, d5, ()), ()))) = rpair_j1 N rec lost found n slips t a b d d2 d3 d4 d5 := by kernel_rfl
theorem rpair_j1_lf (N : Nat) (rec : Int → Int → Int → Int → Int → (List Int) → Int → (List (List Int)) → (List (List Int)) → (List Int) → Option (Int × Int × List Int × Int × List (List Int) × List (List Int) × List Int)) {z : Int × Int × List Int × Int × List (List Int) × List (List Int) × List Int} {top : Bool} {E : EE} {Xc : Ctx} (hE : EOK rpair_B.m0 E) (hX : CxOK top Xc) (hrec : LeafOK Try.prog rpair_B.c rpair_B.n rpair_B.m0 E Xc z (rpair_l1_h rec)) (h0 : LeafOK Try.prog rpair_B.c rpair_B.n rpair_B.m0 E Xc z rpair_l1_e0) : LeafOK Try.prog rpair_B.c rpair_B.n rpair_B.m0 E Xc z (rpair_j1_k N rec) := leaf_of_ev (B := rpair_B) (loops := []) (leaves := [rpair_l1_h rec, rpair_l1_e0, rpair_j2_k N rec]) (rpair_all N) mixed trivial hE hX ⟨hrec, h0, rpair_j2_lf N rec hE hX hrec h0, trivial⟩ RetOK.no (fun p => rpair_j1_eq N rec p.1.1 p.1.2.1 p.1.2.2.2.1 p.1.2.2.2.2.1 p.1.2.2.2.2.2.1 p.1.2.2.2.2.2.2.1 p.1.2.2.2.2.2.2.2.1 p.2.1.1 p.2.1.2.1 p.2.1.2.2.1 p.2.1.2.2.2.1 p.2.1.2.2.2.2.1)
noncomputable def rpair_l1_L (N : Nat) : LoopS := { at_ := rpair_l1_at, sta := rpair_l1_st, exits := [([.c [1, 1, 1, 0], .c [1, 1, 1, 1]], ⟨[3, 9, 10], ⟨[.own 0 0, .i .i64, .i .i64], [.segs [.sl (.int .i64), .i .i64, .sl (.sl (.int .i64)), .sl (.sl (.int .i64)), .sl (.int .i64)]]⟩⟩)], run := fun p k => (rpair_l1 N N p.1.1 p.1.2.1 p.1.2.2.2.1 p.1.2.2.2.2.1 p.1.2.2.2.2.2.1 p.2.1.1 p.2.1.2.1 p.2.1.2.2.1 p.2.1.2.2.2.1 p.2.1.2.2.2.2.1).bind fun e => k (.inl (((), e.1, e.2.1, ()), ((e.2.2.1, e.2.2.2.1, e.2.2.2.2.1, e.2.2.2.2.2.1, e.2.2.2.2.2.2, ()), ()))) }
theorem rpair_l1_eq (N n_ : Nat) (lost : Int) (found : Int) (n : Int) (slips : Int) (t : Int) (d : List Int) (d2 : Int) (d3 : List (List Int)) (d4 : List (List Int)) (d5 : List Int) : ev (Z := Int × Int × List Int × Int × List (List Int) × List (List Int) × List Int) Try.prog (rpair_sp N) rpair_B [] [rpair_l1_h (rpair_l1 N n_), rpair_l1_e0, rpair_j2_k N (rpair_l1 N n_), rpair_j1_k N (rpair_l1 N n_)] none 400 true rpair_l1_at (stL rpair_l1_st ((lost, found, (), n, slips, t, ()), ((d, d2, d3, d4, d5, ()), ()))) (stH rpair_l1_st ((lost, found, (), n, slips, t, ()), ((d, d2, d3, d4, d5, ()), ()))) = rpair_l1 N (n_ + 1) lost found n slips t d d2 d3 d4 d5 := by kernel_rfl
theorem rpair_l1_ok (N : Nat) {top : Bool} : LoopOK Try.prog rpair_B.c rpair_B.n rpair_B.m0 top (rpair_l1_L N) := loop_of_ev (Z := Int × Int × List Int × Int × List (List Int) × List (List Int) × List Int) (N := N) (fun m p => rpair_l1 N m p.1.1 p.1.2.1 p.1.2.2.2.1 p.1.2.2.2.2.1 p.1.2.2.2.2.2.1 p.2.1.1 p.2.1.2.1 p.2.1.2.2.1 p.2.1.2.2.2.1 p.2.1.2.2.2.2.1) (fun e => .inl (((), e.1, e.2.1, ()), ((e.2.2.1, e.2.2.2.1, e.2.2.2.2.1, e.2.2.2.2.2.1, e.2.2.2.2.2.2, ()), ()))) (fun _ _ _ => rfl) (fun _ => rfl) (fun m z E Xc hE hX hrec hx => leaf_of_ev (B := rpair_B) (loops := []) (leaves := [rpair_l1_h (rpair_l1 N m), rpair_l1_e0, rpair_j2_k N (rpair_l1 N m), rpair_j1_k N (rpair_l1 N m)]) (rpair_all N) mixed trivial hE hX ⟨hrec, (fun p hp => by obtain rfl := Option.some.inj hp; exact hx), rpair_j2_lf N _ hE hX hrec (fun p hp => by obtain rfl := Option.some.inj hp; exact hx), rpair_j1_lf N _ hE hX hrec (fun p hp => by obtain rfl := Option.some.inj hp; exact hx), trivial⟩ RetOK.no (fun p => rpair_l1_eq N m p.1.1 p.1.2.1 p.1.2.2.2.1 p.1.2.2.2.2.1 p.1.2.2.2.2.2.1 p.2.1.1 p.2.1.2.1 p.2.1.2.2.1 p.2.1.2.2.2.1 p.2.1.2.2.2.2.1))
abbrev rpair_st : Sta := ⟨[0, 1, 2], ⟨[.agg [.sl (.int .i64), .i .i64, .sl (.sl (.int .i64)), .sl (.sl (.int .i64)), .sl (.int .i64)], .i .i64, .i .i64], []⟩⟩
theorem rpair_eq (N : Nat) (d : List Int) (d2 : Int) (d3 : List (List Int)) (d4 : List (List Int)) (d5 : List Int) (lost : Int) (found : Int) : ev (Z := Int × Int × Bool) Try.prog (rpair_sp N) rpair_B [rpair_l1_L N] [] (some rpair_rt) 400 false [.c [0], .c [1]] (stL rpair_st (((d, d2, d3, d4, d5, ()), lost, found, ()), ())) (stH rpair_st (((d, d2, d3, d4, d5, ()), lost, found, ()), ())) = rpair_S N d d2 d3 d4 d5 lost found := by kernel_rfl
noncomputable def sp_rpair (N : Nat) : Spec := { f := 92, ins := ⟨[.agg [.sl (.int .i64), .i .i64, .sl (.sl (.int .i64)), .sl (.sl (.int .i64)), .sl (.int .i64)], .i .i64, .i .i64], []⟩, outs := [⟨[.i .i64, .i .i64, .b], []⟩], run := fun p k => (rpair_S N p.1.1.1 p.1.1.2.1 p.1.1.2.2.1 p.1.1.2.2.2.1 p.1.1.2.2.2.2.1 p.1.2.1 p.1.2.2.1).bind fun r => k ((r.1, r.2.1, r.2.2, ()), ()) }
theorem sp_rpair_ok (N : Nat) : SpecOK Try.prog (sp_rpair N) := fn_sound (B := rpair_B) (loops := [rpair_l1_L N]) (leaves := []) (fun p => rpair_S N p.1.1.1 p.1.1.2.1 p.1.1.2.2.1 p.1.1.2.2.2.1 p.1.1.2.2.2.2.1 p.1.2.1 p.1.2.2.1) (fun r => ((r.1, r.2.1, r.2.2, ()), ())) rpair_rt (fun _ _ _ => rfl) (fun r z h => by cases h; rfl) Try.func92 (by kernel_rfl) (by kernel_rfl) (by kernel_rfl) rfl rfl (by kernel_rfl) (fun args w => Sem.pv_run _ _ _ (by kernel_rfl) w) (rpair_all N) mixed ⟨rpair_l1_ok N, trivial⟩ (fun z E Xc hE hX hret => trivial) (fun p => rpair_eq N p.1.1.1 p.1.1.2.1 p.1.1.2.2.1 p.1.1.2.2.2.1 p.1.1.2.2.2.2.1 p.1.2.1 p.1.2.2.1)

def rjoins_l1 (N : Nat) : Nat → (List Int) → Int → (List Int) → Int → (List (List Int)) → (List (List Int)) → (List Int) → Option ((Unit) ⊕ (List Int × List Int × Int × List (List Int) × List (List Int) × List Int))
  | 0, _, _, _, _, _, _, _ => none
  | n_ + 1, l, i, d, d2, d3, d4, d5 =>
    br (decide (i < (l.length : Int)))
      (idx l i fun x_2 =>
      chk ((d4.length : Int) - 1) <|
      (off_S N x_2 (-1) ((d4.length : Int) - 1)).bind fun x_3 =>
      br x_3
        (some (.inl ()))
        (chk (i + 1) <|
        rjoins_l1 N n_ l (i + 1) d d2 d3 d4 d5))
      (some (.inr (l, d, d2, d3, d4, d5)))
def rjoins_l3 (N : Nat) : Nat → (List Int) → Int → Int → (List Int) → Int → (List (List Int)) → (List (List Int)) → (List Int) → Option ((Unit) ⊕ (List Int × Int × List Int × Int × List (List Int) × List (List Int) × List Int))
  | 0, _, _, _, _, _, _, _, _ => none
  | n_ + 1, l, i, k, d, d2, d3, d4, d5 =>
    br (decide (k < i))
      (idx l i fun x_10 =>
      br (decide (0 ≤ x_10))
        (idx l i fun x_11 =>
        idx l k fun x_12 =>
        br (decide (x_11 = x_12))
          (some (.inl ()))
          (chk (k + 1) <|
          rjoins_l3 N n_ l i (k + 1) d d2 d3 d4 d5))
        (chk (k + 1) <|
        rjoins_l3 N n_ l i (k + 1) d d2 d3 d4 d5))
      (some (.inr (l, i, d, d2, d3, d4, d5)))
def rjoins_l2 (N : Nat) : Nat → (List Int) → Int → (List Int) → Int → (List (List Int)) → (List (List Int)) → (List Int) → Option ((Unit) ⊕ (List Int × List Int × Int × List (List Int) × List (List Int) × List Int))
  | 0, _, _, _, _, _, _, _ => none
  | n_ + 1, l, i, d, d2, d3, d4, d5 =>
    br (decide (i < (l.length : Int)))
      ((rjoins_l3 N N l i 0 d d2 d3 d4 d5).bind fun e => match e with
      | .inl _ =>
        some (.inl ())
      | .inr (l_13, i_14, d_15, d2_16, d3_17, d4_18, d5_19) =>
        chk (i_14 + 1) <|
        rjoins_l2 N n_ l_13 (i_14 + 1) d_15 d2_16 d3_17 d4_18 d5_19)
      (some (.inr (l, d, d2, d3, d4, d5)))
def rjoins_j1 (N : Nat) (rec : (List Int) → Int → (List Int) → Int → (List (List Int)) → (List (List Int)) → (List Int) → Option ((Unit) ⊕ (Unit))) (l : List Int) (i : Int) (d : List Int) (d2 : Int) (d3 : List (List Int)) (d4 : List (List Int)) (d5 : List Int) : Option ((Unit) ⊕ (Unit)) :=
  chk (i + 1) <|
  rec l (i + 1) d d2 d3 d4 d5
def rjoins_l4 (N : Nat) : Nat → (List Int) → Int → (List Int) → Int → (List (List Int)) → (List (List Int)) → (List Int) → Option ((Unit) ⊕ (Unit))
  | 0, _, _, _, _, _, _, _ => none
  | n_ + 1, l, i, d, d2, d3, d4, d5 =>
    br (decide (i < (l.length : Int)))
      (idx l i fun x_26 =>
      br (decide (x_26 < 0))
        (rjoins_j1 N (rjoins_l4 N n_) l i d d2 d3 d4 d5)
        (idx l i fun x_27 =>
        (rpair_S N d d2 d3 d4 d5 i x_27).bind fun (x_28, y_29, y_30) =>
        br (!y_30)
          (some (.inl ()))
          (rjoins_j1 N (rjoins_l4 N n_) l i d d2 d3 d4 d5)))
      (some (.inr ()))
def rjoins_S (N : Nat) (d : List Int) (d2 : Int) (d3 : List (List Int)) (d4 : List (List Int)) (d5 : List Int) (l : List Int) : Option Int :=
  (rcheck_S N d d2 d3 d4 d5).bind fun x_1 =>
  br (!decide (x_1 = 0))
    (some x_1)
    (br (!decide ((l.length : Int) = (d3.length : Int)))
      (some 2)
      ((rjoins_l1 N N l 0 d d2 d3 d4 d5).bind fun e => match e with
      | .inl _ =>
        some 1
      | .inr (l_4, d_5, d2_6, d3_7, d4_8, d5_9) =>
        (rjoins_l2 N N l_4 0 d_5 d2_6 d3_7 d4_8 d5_9).bind fun e => match e with
        | .inl _ =>
          some 5
        | .inr (l_20, d_21, d2_22, d3_23, d4_24, d5_25) =>
          (rjoins_l4 N N l_20 0 d_21 d2_22 d3_23 d4_24 d5_25).bind fun e => match e with
          | .inl _ =>
            some 8
          | .inr _ =>
            some 0))
noncomputable def rjoins_sp (N : Nat) : List Spec := [sp_off N, sp_rcheck N, sp_rpair N]
theorem rjoins_all (N : Nat) : AllP (SpecOK Try.prog) (rjoins_sp N) := ⟨sp_off_ok N, sp_rcheck_ok N, sp_rpair_ok N, trivial⟩
noncomputable def rjoins_c : Code := (Try.f42.body).getD .skip
noncomputable abbrev rjoins_B : Body := { c := rjoins_c, n := 90, res := [.tmp 4], outs := [⟨[.i .i64], []⟩], m0 := 0 }
abbrev rjoins_rt : altD rjoins_B.outs → Option Int := fun r => some r.1.1
abbrev rjoins_l1_at : List PI := [.c [1, 1, 1, 0, 1, 0, 0, 0, 0], .c [1, 1, 1, 0, 1, 0, 0, 0, 1], .c [1, 1, 1, 0, 1, 0, 0, 1], .l [1, 1, 1, 0, 1, 0, 0], .b 0, .c [1, 1, 1, 1]]
abbrev rjoins_l1_st : Sta := ⟨[1, 2, 6], ⟨[.sl (.int .i64), .own 0 0, .i .i64], [.segs [.sl (.int .i64), .i .i64, .sl (.sl (.int .i64)), .sl (.sl (.int .i64)), .sl (.int .i64)]]⟩⟩
abbrev rjoins_l1_h (rec : (List Int) → Int → (List Int) → Int → (List (List Int)) → (List (List Int)) → (List Int) → Option ((Unit) ⊕ (List Int × List Int × Int × List (List Int) × List (List Int) × List Int))) : Leaf ((Unit) ⊕ (List Int × List Int × Int × List (List Int) × List (List Int) × List Int)) := ⟨rjoins_l1_at, rjoins_l1_st, fun p => rec p.1.1 p.1.2.2.1 p.2.1.1 p.2.1.2.1 p.2.1.2.2.1 p.2.1.2.2.2.1 p.2.1.2.2.2.2.1⟩
abbrev rjoins_l1_e0 : Leaf ((Unit) ⊕ (List Int × List Int × Int × List (List Int) × List (List Int) × List Int)) := ⟨[.c [1, 1, 1, 0, 1, 0, 0, 1, 0, 0, 1, 0, 0], .c [1, 1, 1, 0, 1, 0, 0, 1, 0, 0, 1, 0, 1], .b 1, .c [1, 1, 1, 0, 1, 0, 0, 1, 1], .l [1, 1, 1, 0, 1, 0, 0], .b 0, .c [1, 1, 1, 1]], ⟨[], ⟨[], []⟩⟩, fun p => some (.inl ())⟩
abbrev rjoins_l1_e1 : Leaf ((Unit) ⊕ (List Int × List Int × Int × List (List Int) × List (List Int) × List Int)) := ⟨[.c [1, 1, 1, 1, 0, 0], .c [1, 1, 1, 1, 0, 1], .c [1, 1, 1, 1, 1]], ⟨[1, 2], ⟨[.sl (.int .i64), .own 0 0], [.segs [.sl (.int .i64), .i .i64, .sl (.sl (.int .i64)), .sl (.sl (.int .i64)), .sl (.int .i64)]]⟩⟩, fun p => some (.inr (p.1.1, p.2.1.1, p.2.1.2.1, p.2.1.2.2.1, p.2.1.2.2.2.1, p.2.1.2.2.2.2.1))⟩
noncomputable def rjoins_l1_L (N : Nat) : LoopS := { at_ := rjoins_l1_at, sta := rjoins_l1_st, exits := [([.c [1, 1, 1, 0, 1, 0, 0, 1, 0, 0, 1, 0, 0], .c [1, 1, 1, 0, 1, 0, 0, 1, 0, 0, 1, 0, 1], .b 1, .c [1, 1, 1, 0, 1, 0, 0, 1, 1], .l [1, 1, 1, 0, 1, 0, 0], .b 0, .c [1, 1, 1, 1]], ⟨[], ⟨[], []⟩⟩), ([.c [1, 1, 1, 1, 0, 0], .c [1, 1, 1, 1, 0, 1], .c [1, 1, 1, 1, 1]], ⟨[1, 2], ⟨[.sl (.int .i64), .own 0 0], [.segs [.sl (.int .i64), .i .i64, .sl (.sl (.int .i64)), .sl (.sl (.int .i64)), .sl (.int .i64)]]⟩⟩)], run := fun p k => (rjoins_l1 N N p.1.1 p.1.2.2.1 p.2.1.1 p.2.1.2.1 p.2.1.2.2.1 p.2.1.2.2.2.1 p.2.1.2.2.2.2.1).bind fun e => match e with | .inl x => k (.inl ((), ())) | .inr x => k (.inr (.inl ((x.1, (), ()), ((x.2.1, x.2.2.1, x.2.2.2.1, x.2.2.2.2.1, x.2.2.2.2.2, ()), ())))) }
theorem rjoins_l1_eq (N n_ : Nat) (l : List Int) (i : Int) (d : List Int) (d2 : Int) (d3 : List (List Int)) (d4 : List (List Int)) (d5 : List Int) : ev (Z := (Unit) ⊕ (List Int × List Int × Int × List (List Int) × List (List Int) × List Int)) Try.prog (rjoins_sp N) rjoins_B [] [rjoins_l1_h (rjoins_l1 N n_), rjoins_l1_e0, rjoins_l1_e1] none 400 true rjoins_l1_at (stL rjoins_l1_st ((l, (), i, ()), ((d, d2, d3, d4, d5, ()), ()))) (stH rjoins_l1_st ((l, (), i, ()), ((d, d2, d3, d4, d5, ()), ()))) = rjoins_l1 N (n_ + 1) l i d d2 d3 d4 d5 := by kernel_rfl
theorem rjoins_l1_ok (N : Nat) {top : Bool} : LoopOK Try.prog rjoins_B.c rjoins_B.n rjoins_B.m0 top (rjoins_l1_L N) := loop_of_ev (Z := (Unit) ⊕ (List Int × List Int × Int × List (List Int) × List (List Int) × List Int)) (N := N) (fun m p => rjoins_l1 N m p.1.1 p.1.2.2.1 p.2.1.1 p.2.1.2.1 p.2.1.2.2.1 p.2.1.2.2.2.1 p.2.1.2.2.2.2.1) (fun e => match e with | .inl x => .inl ((), ()) | .inr x => .inr (.inl ((x.1, (), ()), ((x.2.1, x.2.2.1, x.2.2.2.1, x.2.2.2.2.1, x.2.2.2.2.2, ()), ())))) (fun _ p k => bind_congr_ (rjoins_l1 N N p.1.1 p.1.2.2.1 p.2.1.1 p.2.1.2.1 p.2.1.2.2.1 p.2.1.2.2.2.1 p.2.1.2.2.2.2.1) _ _ (fun e => by rcases e with x | x <;> rfl)) (fun _ => rfl) (fun m z E Xc hE hX hrec hx => leaf_of_ev (B := rjoins_B) (loops := []) (leaves := [rjoins_l1_h (rjoins_l1 N m), rjoins_l1_e0, rjoins_l1_e1]) (rjoins_all N) mixed trivial hE hX ⟨hrec, (fun p hp => by obtain rfl := Option.some.inj hp; exact hx), (fun p hp => by obtain rfl := Option.some.inj hp; exact hx), trivial⟩ RetOK.no (fun p => rjoins_l1_eq N m p.1.1 p.1.2.2.1 p.2.1.1 p.2.1.2.1 p.2.1.2.2.1 p.2.1.2.2.2.1 p.2.1.2.2.2.2.1))
abbrev rjoins_l3_at : List PI := [.c [1, 1, 1, 1, 0, 1, 0, 0, 1, 0, 0, 1, 0, 0, 0, 0], .c [1, 1, 1, 1, 0, 1, 0, 0, 1, 0, 0, 1, 0, 0, 0, 1], .c [1, 1, 1, 1, 0, 1, 0, 0, 1, 0, 0, 1, 0, 0, 1], .l [1, 1, 1, 1, 0, 1, 0, 0, 1, 0, 0, 1, 0, 0], .b 4, .b 3, .c [1, 1, 1, 1, 0, 1, 0, 0, 1, 1], .l [1, 1, 1, 1, 0, 1, 0, 0], .b 2, .c [1, 1, 1, 1, 1]]
abbrev rjoins_l3_st : Sta := ⟨[1, 2, 7, 8], ⟨[.sl (.int .i64), .own 0 0, .i .i64, .i .i64], [.segs [.sl (.int .i64), .i .i64, .sl (.sl (.int .i64)), .sl (.sl (.int .i64)), .sl (.int .i64)]]⟩⟩
abbrev rjoins_l3_h (rec : (List Int) → Int → Int → (List Int) → Int → (List (List Int)) → (List (List Int)) → (List Int) → Option ((Unit) ⊕ (List Int × Int × List Int × Int × List (List Int) × List (List Int) × List Int))) : Leaf ((Unit) ⊕ (List Int × Int × List Int × Int × List (List Int) × List (List Int) × List Int)) := ⟨rjoins_l3_at, rjoins_l3_st, fun p => rec p.1.1 p.1.2.2.1 p.1.2.2.2.1 p.2.1.1 p.2.1.2.1 p.2.1.2.2.1 p.2.1.2.2.2.1 p.2.1.2.2.2.2.1⟩
abbrev rjoins_l3_e0 : Leaf ((Unit) ⊕ (List Int × Int × List Int × Int × List (List Int) × List (List Int) × List Int)) := ⟨[.c [1, 1, 1, 1, 0, 1, 0, 0, 1, 0, 0, 1, 0, 0, 1, 0, 0, 1, 0, 0], .c [1, 1, 1, 1, 0, 1, 0, 0, 1, 0, 0, 1, 0, 0, 1, 0, 0, 1, 0, 1], .b 5, .c [1, 1, 1, 1, 0, 1, 0, 0, 1, 0, 0, 1, 0, 0, 1, 1], .l [1, 1, 1, 1, 0, 1, 0, 0, 1, 0, 0, 1, 0, 0], .b 4, .b 3, .c [1, 1, 1, 1, 0, 1, 0, 0, 1, 1], .l [1, 1, 1, 1, 0, 1, 0, 0], .b 2, .c [1, 1, 1, 1, 1]], ⟨[], ⟨[], []⟩⟩, fun p => some (.inl ())⟩
abbrev rjoins_l3_e1 : Leaf ((Unit) ⊕ (List Int × Int × List Int × Int × List (List Int) × List (List Int) × List Int)) := ⟨[.c [1, 1, 1, 1, 0, 1, 0, 0, 1, 1], .l [1, 1, 1, 1, 0, 1, 0, 0], .b 2, .c [1, 1, 1, 1, 1]], ⟨[1, 2, 7], ⟨[.sl (.int .i64), .own 0 0, .i .i64], [.segs [.sl (.int .i64), .i .i64, .sl (.sl (.int .i64)), .sl (.sl (.int .i64)), .sl (.int .i64)]]⟩⟩, fun p => some (.inr (p.1.1, p.1.2.2.1, p.2.1.1, p.2.1.2.1, p.2.1.2.2.1, p.2.1.2.2.2.1, p.2.1.2.2.2.2.1))⟩
noncomputable def rjoins_l3_L (N : Nat) : LoopS := { at_ := rjoins_l3_at, sta := rjoins_l3_st, exits := [([.c [1, 1, 1, 1, 0, 1, 0, 0, 1, 0, 0, 1, 0, 0, 1, 0, 0, 1, 0, 0], .c [1, 1, 1, 1, 0, 1, 0, 0, 1, 0, 0, 1, 0, 0, 1, 0, 0, 1, 0, 1], .b 5, .c [1, 1, 1, 1, 0, 1, 0, 0, 1, 0, 0, 1, 0, 0, 1, 1], .l [1, 1, 1, 1, 0, 1, 0, 0, 1, 0, 0, 1, 0, 0], .b 4, .b 3, .c [1, 1, 1, 1, 0, 1, 0, 0, 1, 1], .l [1, 1, 1, 1, 0, 1, 0, 0], .b 2, .c [1, 1, 1, 1, 1]], ⟨[], ⟨[], []⟩⟩), ([.c [1, 1, 1, 1, 0, 1, 0, 0, 1, 1], .l [1, 1, 1, 1, 0, 1, 0, 0], .b 2, .c [1, 1, 1, 1, 1]], ⟨[1, 2, 7], ⟨[.sl (.int .i64), .own 0 0, .i .i64], [.segs [.sl (.int .i64), .i .i64, .sl (.sl (.int .i64)), .sl (.sl (.int .i64)), .sl (.int .i64)]]⟩⟩)], run := fun p k => (rjoins_l3 N N p.1.1 p.1.2.2.1 p.1.2.2.2.1 p.2.1.1 p.2.1.2.1 p.2.1.2.2.1 p.2.1.2.2.2.1 p.2.1.2.2.2.2.1).bind fun e => match e with | .inl x => k (.inl ((), ())) | .inr x => k (.inr (.inl ((x.1, (), x.2.1, ()), ((x.2.2.1, x.2.2.2.1, x.2.2.2.2.1, x.2.2.2.2.2.1, x.2.2.2.2.2.2, ()), ())))) }
theorem rjoins_l3_eq (N n_ : Nat) (l : List Int) (i : Int) (k : Int) (d : List Int) (d2 : Int) (d3 : List (List Int)) (d4 : List (List Int)) (d5 : List Int) : ev (Z := (Unit) ⊕ (List Int × Int × List Int × Int × List (List Int) × List (List Int) × List Int)) Try.prog (rjoins_sp N) rjoins_B [rjoins_l1_L N] [rjoins_l3_h (rjoins_l3 N n_), rjoins_l3_e0, rjoins_l3_e1] none 400 true rjoins_l3_at (stL rjoins_l3_st ((l, (), i, k, ()), ((d, d2, d3, d4, d5, ()), ()))) (stH rjoins_l3_st ((l, (), i, k, ()), ((d, d2, d3, d4, d5, ()), ()))) = rjoins_l3 N (n_ + 1) l i k d d2 d3 d4 d5 := by kernel_rfl
theorem rjoins_l3_ok (N : Nat) {top : Bool} : LoopOK Try.prog rjoins_B.c rjoins_B.n rjoins_B.m0 top (rjoins_l3_L N) := loop_of_ev (Z := (Unit) ⊕ (List Int × Int × List Int × Int × List (List Int) × List (List Int) × List Int)) (N := N) (fun m p => rjoins_l3 N m p.1.1 p.1.2.2.1 p.1.2.2.2.1 p.2.1.1 p.2.1.2.1 p.2.1.2.2.1 p.2.1.2.2.2.1 p.2.1.2.2.2.2.1) (fun e => match e with | .inl x => .inl ((), ()) | .inr x => .inr (.inl ((x.1, (), x.2.1, ()), ((x.2.2.1, x.2.2.2.1, x.2.2.2.2.1, x.2.2.2.2.2.1, x.2.2.2.2.2.2, ()), ())))) (fun _ p k => bind_congr_ (rjoins_l3 N N p.1.1 p.1.2.2.1 p.1.2.2.2.1 p.2.1.1 p.2.1.2.1 p.2.1.2.2.1 p.2.1.2.2.2.1 p.2.1.2.2.2.2.1) _ _ (fun e => by rcases e with x | x <;> rfl)) (fun _ => rfl) (fun m z E Xc hE hX hrec hx => leaf_of_ev (B := rjoins_B) (loops := [rjoins_l1_L N]) (leaves := [rjoins_l3_h (rjoins_l3 N m), rjoins_l3_e0, rjoins_l3_e1]) (rjoins_all N) mixed ⟨rjoins_l1_ok N, trivial⟩ hE hX ⟨hrec, (fun p hp => by obtain rfl := Option.some.inj hp; exact hx), (fun p hp => by obtain rfl := Option.some.inj hp; exact hx), trivial⟩ RetOK.no (fun p => rjoins_l3_eq N m p.1.1 p.1.2.2.1 p.1.2.2.2.1 p.2.1.1 p.2.1.2.1 p.2.1.2.2.1 p.2.1.2.2.2.1 p.2.1.2.2.2.2.1))
abbrev rjoins_l2_at : List PI := [.c [1, 1, 1, 1, 0, 1, 0, 0, 0, 0], .c [1, 1, 1, 1, 0, 1, 0, 0, 0, 1], .c [1, 1, 1, 1, 0, 1, 0, 0, 1], .l [1, 1, 1, 1, 0, 1, 0, 0], .b 2, .c [1, 1, 1, 1, 1]]
abbrev rjoins_l2_st : Sta := ⟨[1, 2, 7], ⟨[.sl (.int .i64), .own 0 0, .i .i64], [.segs [.sl (.int .i64), .i .i64, .sl (.sl (.int .i64)), .sl (.sl (.int .i64)), .sl (.int .i64)]]⟩⟩
abbrev rjoins_l2_h (rec : (List Int) → Int → (List Int) → Int → (List (List Int)) → (List (List Int)) → (List Int) → Option ((Unit) ⊕ (List Int × List Int × Int × List (List Int) × List (List Int) × List Int))) : Leaf ((Unit) ⊕ (List Int × List Int × Int × List (List Int) × List (List Int) × List Int)) := ⟨rjoins_l2_at, rjoins_l2_st, fun p => rec p.1.1 p.1.2.2.1 p.2.1.1 p.2.1.2.1 p.2.1.2.2.1 p.2.1.2.2.2.1 p.2.1.2.2.2.2.1⟩
abbrev rjoins_l2_e0 : Leaf ((Unit) ⊕ (List Int × List Int × Int × List (List Int) × List (List Int) × List Int)) := ⟨[.c [1, 1, 1, 1, 0, 1, 0, 0, 1, 0, 0, 1, 0, 0, 1, 0, 0, 1, 0, 0], .c [1, 1, 1, 1, 0, 1, 0, 0, 1, 0, 0, 1, 0, 0, 1, 0, 0, 1, 0, 1], .b 5, .c [1, 1, 1, 1, 0, 1, 0, 0, 1, 0, 0, 1, 0, 0, 1, 1], .l [1, 1, 1, 1, 0, 1, 0, 0, 1, 0, 0, 1, 0, 0], .b 4, .b 3, .c [1, 1, 1, 1, 0, 1, 0, 0, 1, 1], .l [1, 1, 1, 1, 0, 1, 0, 0], .b 2, .c [1, 1, 1, 1, 1]], ⟨[], ⟨[], []⟩⟩, fun p => some (.inl ())⟩
abbrev rjoins_l2_e1 : Leaf ((Unit) ⊕ (List Int × List Int × Int × List (List Int) × List (List Int) × List Int)) := ⟨[.c [1, 1, 1, 1, 1, 0, 0], .c [1, 1, 1, 1, 1, 0, 1], .c [1, 1, 1, 1, 1, 1]], ⟨[1, 2], ⟨[.sl (.int .i64), .own 0 0], [.segs [.sl (.int .i64), .i .i64, .sl (.sl (.int .i64)), .sl (.sl (.int .i64)), .sl (.int .i64)]]⟩⟩, fun p => some (.inr (p.1.1, p.2.1.1, p.2.1.2.1, p.2.1.2.2.1, p.2.1.2.2.2.1, p.2.1.2.2.2.2.1))⟩
noncomputable def rjoins_l2_L (N : Nat) : LoopS := { at_ := rjoins_l2_at, sta := rjoins_l2_st, exits := [([.c [1, 1, 1, 1, 0, 1, 0, 0, 1, 0, 0, 1, 0, 0, 1, 0, 0, 1, 0, 0], .c [1, 1, 1, 1, 0, 1, 0, 0, 1, 0, 0, 1, 0, 0, 1, 0, 0, 1, 0, 1], .b 5, .c [1, 1, 1, 1, 0, 1, 0, 0, 1, 0, 0, 1, 0, 0, 1, 1], .l [1, 1, 1, 1, 0, 1, 0, 0, 1, 0, 0, 1, 0, 0], .b 4, .b 3, .c [1, 1, 1, 1, 0, 1, 0, 0, 1, 1], .l [1, 1, 1, 1, 0, 1, 0, 0], .b 2, .c [1, 1, 1, 1, 1]], ⟨[], ⟨[], []⟩⟩), ([.c [1, 1, 1, 1, 1, 0, 0], .c [1, 1, 1, 1, 1, 0, 1], .c [1, 1, 1, 1, 1, 1]], ⟨[1, 2], ⟨[.sl (.int .i64), .own 0 0], [.segs [.sl (.int .i64), .i .i64, .sl (.sl (.int .i64)), .sl (.sl (.int .i64)), .sl (.int .i64)]]⟩⟩)], run := fun p k => (rjoins_l2 N N p.1.1 p.1.2.2.1 p.2.1.1 p.2.1.2.1 p.2.1.2.2.1 p.2.1.2.2.2.1 p.2.1.2.2.2.2.1).bind fun e => match e with | .inl x => k (.inl ((), ())) | .inr x => k (.inr (.inl ((x.1, (), ()), ((x.2.1, x.2.2.1, x.2.2.2.1, x.2.2.2.2.1, x.2.2.2.2.2, ()), ())))) }
theorem rjoins_l2_eq (N n_ : Nat) (l : List Int) (i : Int) (d : List Int) (d2 : Int) (d3 : List (List Int)) (d4 : List (List Int)) (d5 : List Int) : ev (Z := (Unit) ⊕ (List Int × List Int × Int × List (List Int) × List (List Int) × List Int)) Try.prog (rjoins_sp N) rjoins_B [rjoins_l1_L N, rjoins_l3_L N] [rjoins_l2_h (rjoins_l2 N n_), rjoins_l2_e0, rjoins_l2_e1] none 400 true rjoins_l2_at (stL rjoins_l2_st ((l, (), i, ()), ((d, d2, d3, d4, d5, ()), ()))) (stH rjoins_l2_st ((l, (), i, ()), ((d, d2, d3, d4, d5, ()), ()))) = rjoins_l2 N (n_ + 1) l i d d2 d3 d4 d5 := by kernel_rfl
theorem rjoins_l2_ok (N : Nat) {top : Bool} : LoopOK Try.prog rjoins_B.c rjoins_B.n rjoins_B.m0 top (rjoins_l2_L N) := loop_of_ev (Z := (Unit) ⊕ (List Int × List Int × Int × List (List Int) × List (List Int) × List Int)) (N := N) (fun m p => rjoins_l2 N m p.1.1 p.1.2.2.1 p.2.1.1 p.2.1.2.1 p.2.1.2.2.1 p.2.1.2.2.2.1 p.2.1.2.2.2.2.1) (fun e => match e with | .inl x => .inl ((), ()) | .inr x => .inr (.inl ((x.1, (), ()), ((x.2.1, x.2.2.1, x.2.2.2.1, x.2.2.2.2.1, x.2.2.2.2.2, ()), ())))) (fun _ p k => bind_congr_ (rjoins_l2 N N p.1.1 p.1.2.2.1 p.2.1.1 p.2.1.2.1 p.2.1.2.2.1 p.2.1.2.2.2.1 p.2.1.2.2.2.2.1) _ _ (fun e => by rcases e with x | x <;> rfl)) (fun _ => rfl) (fun m z E Xc hE hX hrec hx => leaf_of_ev (B := rjoins_B) (loops := [rjoins_l1_L N, rjoins_l3_L N]) (leaves := [rjoins_l2_h (rjoins_l2 N m), rjoins_l2_e0, rjoins_l2_e1]) (rjoins_all N) mixed ⟨rjoins_l1_ok N, rjoins_l3_ok N, trivial⟩ hE hX ⟨hrec, (fun p hp => by obtain rfl := Option.some.inj hp; exact hx), (fun p hp => by obtain rfl := Option.some.inj hp; exact hx), trivial⟩ RetOK.no (fun p => rjoins_l2_eq N m p.1.1 p.1.2.2.1 p.2.1.1 p.2.1.2.1 p.2.1.2.2.1 p.2.1.2.2.2.1 p.2.1.2.2.2.2.1))
abbrev rjoins_l4_at : List PI := [.c [1, 1, 1, 1, 1, 0, 1, 0, 0, 0, 0], .c [1, 1, 1, 1, 1, 0, 1, 0, 0, 0, 1], .c [1, 1, 1, 1, 1, 0, 1, 0, 0, 1], .l [1, 1, 1, 1, 1, 0, 1, 0, 0], .b 6, .c [1, 1, 1, 1, 1, 1]]
abbrev rjoins_l4_st : Sta := ⟨[1, 2, 9], ⟨[.sl (.int .i64), .own 0 0, .i .i64], [.segs [.sl (.int .i64), .i .i64, .sl (.sl (.int .i64)), .sl (.sl (.int .i64)), .sl (.int .i64)]]⟩⟩
abbrev rjoins_l4_h (rec : (List Int) → Int → (List Int) → Int → (List (List Int)) → (List (List Int)) → (List Int) → Option ((Unit) ⊕ (Unit))) : Leaf ((Unit) ⊕ (Unit)) := ⟨rjoins_l4_at, rjoins_l4_st, fun p => rec p.1.1 p.1.2.2.1 p.2.1.1 p.2.1.2.1 p.2.1.2.2.1 p.2.1.2.2.2.1 p.2.1.2.2.2.2.1⟩
abbrev rjoins_l4_e0 : Leaf ((Unit) ⊕ (Unit)) := ⟨[.c [1, 1, 1, 1, 1, 0, 1, 0, 0, 1, 0, 0, 1, 1, 1, 0, 0], .c [1, 1, 1, 1, 1, 0, 1, 0, 0, 1, 0, 0, 1, 1, 1, 0, 1], .b 7, .c [1, 1, 1, 1, 1, 0, 1, 0, 0, 1, 1], .l [1, 1, 1, 1, 1, 0, 1, 0, 0], .b 6, .c [1, 1, 1, 1, 1, 1]], ⟨[], ⟨[], []⟩⟩, fun p => some (.inl ())⟩
abbrev rjoins_l4_e1 : Leaf ((Unit) ⊕ (Unit)) := ⟨[.c [1, 1, 1, 1, 1, 1, 0], .c [1, 1, 1, 1, 1, 1, 1]], ⟨[], ⟨[], []⟩⟩, fun p => some (.inr ())⟩
abbrev rjoins_j1_at : List PI := [.c [1, 1, 1, 1, 1, 0, 1, 0, 0, 1, 1], .l [1, 1, 1, 1, 1, 0, 1, 0, 0], .b 6, .c [1, 1, 1, 1, 1, 1]]
abbrev rjoins_j1_st : Sta := ⟨[1, 2, 9], ⟨[.sl (.int .i64), .own 0 0, .i .i64], [.segs [.sl (.int .i64), .i .i64, .sl (.sl (.int .i64)), .sl (.sl (.int .i64)), .sl (.int .i64)]]⟩⟩
abbrev rjoins_j1_k (N : Nat) (rec : (List Int) → Int → (List Int) → Int → (List (List Int)) → (List (List Int)) → (List Int) → Option ((Unit) ⊕ (Unit))) : Leaf ((Unit) ⊕ (Unit)) := ⟨rjoins_j1_at, rjoins_j1_st, fun p => rjoins_j1 N rec p.1.1 p.1.2.2.1 p.2.1.1 p.2.1.2.1 p.2.1.2.2.1 p.2.1.2.2.2.1 p.2.1.2.2.2.2.1⟩
theorem rjoins_j1_eq (N : Nat) (rec : (List Int) → Int → (List Int) → Int → (List (List Int)) → (List (List Int)) → (List Int) → Option ((Unit) ⊕ (Unit))) (l : List Int) (i : Int) (d : List Int) (d2 : Int) (d3 : List (List Int)) (d4 : List (List Int)) (d5 : List Int) : ev (Z := (Unit) ⊕ (Unit)) Try.prog (rjoins_sp N) rjoins_B [rjoins_l1_L N, rjoins_l3_L N, rjoins_l2_L N] [rjoins_l4_h rec, rjoins_l4_e0, rjoins_l4_e1] none 400 true rjoins_j1_at (stL rjoins_j1_st ((l, (), i, ()), ((d, d2, d3, d4, d5, ()), ()))) (stH rjoins_j1_st ((l, (), i, ()), ((d, d2, d3, d4, d5, ()), ()))) = rjoins_j1 N rec l i d d2 d3 d4 d5 := by kernel_rfl
theorem rjoins_j1_lf (N : Nat) (rec : (List Int) → Int → (List Int) → Int → (List (List Int)) → (List (List Int)) → (List Int) → Option ((Unit) ⊕ (Unit))) {z : (Unit) ⊕ (Unit)} {top : Bool} {E : EE} {Xc : Ctx} (hE : EOK rjoins_B.m0 E) (hX : CxOK top Xc) (hrec : LeafOK Try.prog rjoins_B.c rjoins_B.n rjoins_B.m0 E Xc z (rjoins_l4_h rec)) (h0 : LeafOK Try.prog rjoins_B.c rjoins_B.n rjoins_B.m0 E Xc z rjoins_l4_e0) (h1 : LeafOK Try.prog rjoins_B.c rjoins_B.n rjoins_B.m0 E Xc z rjoins_l4_e1) : LeafOK Try.prog rjoins_B.c rjoins_B.n rjoins_B.m0 E Xc z (rjoins_j1_k N rec) := leaf_of_ev (B := rjoins_B) (loops := [rjoins_l1_L N, rjoins_l3_L N, rjoins_l2_L N]) (leaves := [rjoins_l4_h rec, rjoins_l4_e0, rjoins_l4_e1]) (rjoins_all N) mixed ⟨rjoins_l1_ok N, rjoins_l3_ok N, rjoins_l2_ok N, trivial⟩ hE hX ⟨hrec, h0, h1, trivial⟩ RetOK.no (fun p => rjoins_j1_eq N rec p.1.1 p.1.2.2.1 p.2.1.1 p.2.1.2.1 p.2.1.2.2.1 p.2.1.2.2.2.1 p.2.1.2.2.2.2.1)
noncomputable def rjoins_l4_L (N : Nat) : LoopS := { at_ := rjoins_l4_at, sta := rjoins_l4_st, exits := [([.c [1, 1, 1, 1, 1, 0, 1, 0, 0, 1, 0, 0, 1, 1, 1, 0, 0], .c [1, 1, 1, 1, 1, 0, 1, 0, 0, 1, 0, 0, 1, 1, 1, 0, 1], .b 7, .c [1, 1, 1, 1, 1, 0, 1, 0, 0, 1, 1], .l [1, 1, 1, 1, 1, 0, 1, 0, 0], .b 6, .c [1, 1, 1, 1, 1, 1]], ⟨[], ⟨[], []⟩⟩), ([.c [1, 1, 1, 1, 1, 1, 0], .c [1, 1, 1, 1, 1, 1, 1]], ⟨[], ⟨[], []⟩⟩)], run := fun p k => (rjoins_l4 N N p.1.1 p.1.2.2.1 p.2.1.1 p.2.1.2.1 p.2.1.2.2.1 p.2.1.2.2.2.1 p.2.1.2.2.2.2.1).bind fun e => match e with | .inl x => k (.inl ((), ())) | .inr x => k (.inr (.inl ((), ()))) }
theorem rjoins_l4_eq (N n_ : Nat) (l : List Int) (i : Int) (d : List Int) (d2 : Int) (d3 : List (List Int)) (d4 : List (List Int)) (d5 : List Int) : ev (Z := (Unit) ⊕ (Unit)) Try.prog (rjoins_sp N) rjoins_B [rjoins_l1_L N, rjoins_l3_L N, rjoins_l2_L N] [rjoins_l4_h (rjoins_l4 N n_), rjoins_l4_e0, rjoins_l4_e1, rjoins_j1_k N (rjoins_l4 N n_)] none 400 true rjoins_l4_at (stL rjoins_l4_st ((l, (), i, ()), ((d, d2, d3, d4, d5, ()), ()))) (stH rjoins_l4_st ((l, (), i, ()), ((d, d2, d3, d4, d5, ()), ()))) = rjoins_l4 N (n_ + 1) l i d d2 d3 d4 d5 := by kernel_rfl
theorem rjoins_l4_ok (N : Nat) {top : Bool} : LoopOK Try.prog rjoins_B.c rjoins_B.n rjoins_B.m0 top (rjoins_l4_L N) := loop_of_ev (Z := (Unit) ⊕ (Unit)) (N := N) (fun m p => rjoins_l4 N m p.1.1 p.1.2.2.1 p.2.1.1 p.2.1.2.1 p.2.1.2.2.1 p.2.1.2.2.2.1 p.2.1.2.2.2.2.1) (fun e => match e with | .inl x => .inl ((), ()) | .inr x => .inr (.inl ((), ()))) (fun _ p k => bind_congr_ (rjoins_l4 N N p.1.1 p.1.2.2.1 p.2.1.1 p.2.1.2.1 p.2.1.2.2.1 p.2.1.2.2.2.1 p.2.1.2.2.2.2.1) _ _ (fun e => by rcases e with x | x <;> rfl)) (fun _ => rfl) (fun m z E Xc hE hX hrec hx => leaf_of_ev (B := rjoins_B) (loops := [rjoins_l1_L N, rjoins_l3_L N, rjoins_l2_L N]) (leaves := [rjoins_l4_h (rjoins_l4 N m), rjoins_l4_e0, rjoins_l4_e1, rjoins_j1_k N (rjoins_l4 N m)]) (rjoins_all N) mixed ⟨rjoins_l1_ok N, rjoins_l3_ok N, rjoins_l2_ok N, trivial⟩ hE hX ⟨hrec, (fun p hp => by obtain rfl := Option.some.inj hp; exact hx), (fun p hp => by obtain rfl := Option.some.inj hp; exact hx), rjoins_j1_lf N _ hE hX hrec (fun p hp => by obtain rfl := Option.some.inj hp; exact hx) (fun p hp => by obtain rfl := Option.some.inj hp; exact hx), trivial⟩ RetOK.no (fun p => rjoins_l4_eq N m p.1.1 p.1.2.2.1 p.2.1.1 p.2.1.2.1 p.2.1.2.2.1 p.2.1.2.2.2.1 p.2.1.2.2.2.2.1))
abbrev rjoins_st : Sta := ⟨[0, 1], ⟨[.agg [.sl (.int .i64), .i .i64, .sl (.sl (.int .i64)), .sl (.sl (.int .i64)), .sl (.int .i64)], .sl (.int .i64)], []⟩⟩
theorem rjoins_eq (N : Nat) (d : List Int) (d2 : Int) (d3 : List (List Int)) (d4 : List (List Int)) (d5 : List Int) (l : List Int) : ev (Z := Int) Try.prog (rjoins_sp N) rjoins_B [rjoins_l1_L N, rjoins_l3_L N, rjoins_l2_L N, rjoins_l4_L N] [] (some rjoins_rt) 400 false [.c [0], .c [1]] (stL rjoins_st (((d, d2, d3, d4, d5, ()), l, ()), ())) (stH rjoins_st (((d, d2, d3, d4, d5, ()), l, ()), ())) = rjoins_S N d d2 d3 d4 d5 l := by kernel_rfl
noncomputable def sp_rjoins (N : Nat) : Spec := { f := 42, ins := ⟨[.agg [.sl (.int .i64), .i .i64, .sl (.sl (.int .i64)), .sl (.sl (.int .i64)), .sl (.int .i64)], .sl (.int .i64)], []⟩, outs := [⟨[.i .i64], []⟩], run := fun p k => (rjoins_S N p.1.1.1 p.1.1.2.1 p.1.1.2.2.1 p.1.1.2.2.2.1 p.1.1.2.2.2.2.1 p.1.2.1).bind fun r => k ((r, ()), ()) }
theorem sp_rjoins_ok (N : Nat) : SpecOK Try.prog (sp_rjoins N) := fn_sound (B := rjoins_B) (loops := [rjoins_l1_L N, rjoins_l3_L N, rjoins_l2_L N, rjoins_l4_L N]) (leaves := []) (fun p => rjoins_S N p.1.1.1 p.1.1.2.1 p.1.1.2.2.1 p.1.1.2.2.2.1 p.1.1.2.2.2.2.1 p.1.2.1) (fun r => ((r, ()), ())) rjoins_rt (fun _ _ _ => rfl) (fun r z h => by cases h; rfl) Try.func42 (by kernel_rfl) (by kernel_rfl) (by kernel_rfl) rfl rfl (by kernel_rfl) (fun args w => Sem.pv_run _ _ _ (by kernel_rfl) w) (rjoins_all N) mixed ⟨rjoins_l1_ok N, rjoins_l3_ok N, rjoins_l2_ok N, rjoins_l4_ok N, trivial⟩ (fun z E Xc hE hX hret => trivial) (fun p => rjoins_eq N p.1.1.1 p.1.1.2.1 p.1.1.2.2.1 p.1.1.2.2.2.1 p.1.1.2.2.2.2.1 p.1.2.1)

def rworth_j1 (N : Nat) (rec : (List Int) → Int → Int → (List Int) → Int → (List (List Int)) → (List (List Int)) → (List Int) → Option Int) (l : List Int) (sum : Int) (i : Int) (d : List Int) (d2 : Int) (d3 : List (List Int)) (d4 : List (List Int)) (d5 : List Int) : Option Int :=
  chk (i + 1) <|
  rec l sum (i + 1) d d2 d3 d4 d5
def rworth_l1 (N : Nat) : Nat → (List Int) → Int → Int → (List Int) → Int → (List (List Int)) → (List (List Int)) → (List Int) → Option Int
  | 0, _, _, _, _, _, _, _, _ => none
  | n_ + 1, l, sum, i, d, d2, d3, d4, d5 =>
    br (decide (i < (l.length : Int)))
      (idx l i fun x_1 =>
      br (decide (0 ≤ x_1))
        (idx l i fun x_2 =>
        (rpair_S N d d2 d3 d4 d5 i x_2).bind fun (x_3, y_4, y_5) =>
        chk (sum + x_3) <|
        rworth_j1 N (rworth_l1 N n_) l (sum + x_3) i d d2 d3 d4 d5)
        (rworth_j1 N (rworth_l1 N n_) l sum i d d2 d3 d4 d5))
      (some (sum))
def rworth_S (N : Nat) (d : List Int) (d2 : Int) (d3 : List (List Int)) (d4 : List (List Int)) (d5 : List Int) (l : List Int) : Option Int :=
  (rworth_l1 N N l 0 0 d d2 d3 d4 d5).bind fun sum_6 =>
  some sum_6
noncomputable def rworth_sp (N : Nat) : List Spec := [sp_rpair N]
theorem rworth_all (N : Nat) : AllP (SpecOK Try.prog) (rworth_sp N) := ⟨sp_rpair_ok N, trivial⟩
noncomputable def rworth_c : Code := (Try.f43.body).getD .skip
noncomputable abbrev rworth_B : Body := { c := rworth_c, n := 36, res := [.tmp 4], outs := [⟨[.i .i64], []⟩], m0 := 0 }
abbrev rworth_rt : altD rworth_B.outs → Option Int := fun r => some r.1.1
abbrev rworth_l1_at : List PI := [.c [1, 1, 0, 1, 0, 0, 0, 0], .c [1, 1, 0, 1, 0, 0, 0, 1], .c [1, 1, 0, 1, 0, 0, 1], .l [1, 1, 0, 1, 0, 0], .b 0, .c [1, 1, 1]]
abbrev rworth_l1_st : Sta := ⟨[1, 2, 5, 6], ⟨[.sl (.int .i64), .own 0 0, .i .i64, .i .i64], [.segs [.sl (.int .i64), .i .i64, .sl (.sl (.int .i64)), .sl (.sl (.int .i64)), .sl (.int .i64)]]⟩⟩
abbrev rworth_l1_h (rec : (List Int) → Int → Int → (List Int) → Int → (List (List Int)) → (List (List Int)) → (List Int) → Option Int) : Leaf Int := ⟨rworth_l1_at, rworth_l1_st, fun p => rec p.1.1 p.1.2.2.1 p.1.2.2.2.1 p.2.1.1 p.2.1.2.1 p.2.1.2.2.1 p.2.1.2.2.2.1 p.2.1.2.2.2.2.1⟩
abbrev rworth_l1_e0 : Leaf Int := ⟨[.c [1, 1, 1, 0], .c [1, 1, 1, 1]], ⟨[5], ⟨[.i .i64], []⟩⟩, fun p => some (p.1.1)⟩
abbrev rworth_j1_at : List PI := [.c [1, 1, 0, 1, 0, 0, 1, 1], .l [1, 1, 0, 1, 0, 0], .b 0, .c [1, 1, 1]]
abbrev rworth_j1_st : Sta := ⟨[1, 2, 5, 6], ⟨[.sl (.int .i64), .own 0 0, .i .i64, .i .i64], [.segs [.sl (.int .i64), .i .i64, .sl (.sl (.int .i64)), .sl (.sl (.int .i64)), .sl (.int .i64)]]⟩⟩
abbrev rworth_j1_k (N : Nat) (rec : (List Int) → Int → Int → (List Int) → Int → (List (List Int)) → (List (List Int)) → (List Int) → Option Int) : Leaf Int := ⟨rworth_j1_at, rworth_j1_st, fun p => rworth_j1 N rec p.1.1 p.1.2.2.1 p.1.2.2.2.1 p.2.1.1 p.2.1.2.1 p.2.1.2.2.1 p.2.1.2.2.2.1 p.2.1.2.2.2.2.1⟩
theorem rworth_j1_eq (N : Nat) (rec : (List Int) → Int → Int → (List Int) → Int → (List (List Int)) → (List (List Int)) → (List Int) → Option Int) (l : List Int) (sum : Int) (i : Int) (d : List Int) (d2 : Int) (d3 : List (List Int)) (d4 : List (List Int)) (d5 : List Int) : ev (Z := Int) Try.prog (rworth_sp N) rworth_B [] [rworth_l1_h rec, rworth_l1_e0] none 400 true rworth_j1_at (stL rworth_j1_st ((l, (), sum, i, ()), ((d, d2, d3, d4, d5, ()), ()))) (stH rworth_j1_st ((l, (), sum, i, ()), ((d, d2, d3, d4, d5, ()), ()))) = rworth_j1 N rec l sum i d d2 d3 d4 d5 := by kernel_rfl
theorem rworth_j1_lf (N : Nat) (rec : (List Int) → Int → Int → (List Int) → Int → (List (List Int)) → (List (List Int)) → (List Int) → Option Int) {z : Int} {top : Bool} {E : EE} {Xc : Ctx} (hE : EOK rworth_B.m0 E) (hX : CxOK top Xc) (hrec : LeafOK Try.prog rworth_B.c rworth_B.n rworth_B.m0 E Xc z (rworth_l1_h rec)) (h0 : LeafOK Try.prog rworth_B.c rworth_B.n rworth_B.m0 E Xc z rworth_l1_e0) : LeafOK Try.prog rworth_B.c rworth_B.n rworth_B.m0 E Xc z (rworth_j1_k N rec) := leaf_of_ev (B := rworth_B) (loops := []) (leaves := [rworth_l1_h rec, rworth_l1_e0]) (rworth_all N) mixed trivial hE hX ⟨hrec, h0, trivial⟩ RetOK.no (fun p => rworth_j1_eq N rec p.1.1 p.1.2.2.1 p.1.2.2.2.1 p.2.1.1 p.2.1.2.1 p.2.1.2.2.1 p.2.1.2.2.2.1 p.2.1.2.2.2.2.1)
noncomputable def rworth_l1_L (N : Nat) : LoopS := { at_ := rworth_l1_at, sta := rworth_l1_st, exits := [([.c [1, 1, 1, 0], .c [1, 1, 1, 1]], ⟨[5], ⟨[.i .i64], []⟩⟩)], run := fun p k => (rworth_l1 N N p.1.1 p.1.2.2.1 p.1.2.2.2.1 p.2.1.1 p.2.1.2.1 p.2.1.2.2.1 p.2.1.2.2.2.1 p.2.1.2.2.2.2.1).bind fun e => k (.inl ((e, ()), ())) }
theorem rworth_l1_eq (N n_ : Nat) (l : List Int) (sum : Int) (i : Int) (d : List Int) (d2 : Int) (d3 : List (List Int)) (d4 : List (List Int)) (d5 : List Int) : ev (Z := Int) Try.prog (rworth_sp N) rworth_B [] [rworth_l1_h (rworth_l1 N n_), rworth_l1_e0, rworth_j1_k N (rworth_l1 N n_)] none 400 true rworth_l1_at (stL rworth_l1_st ((l, (), sum, i, ()), ((d, d2, d3, d4, d5, ()), ()))) (stH rworth_l1_st ((l, (), sum, i, ()), ((d, d2, d3, d4, d5, ()), ()))) = rworth_l1 N (n_ + 1) l sum i d d2 d3 d4 d5 := by kernel_rfl
theorem rworth_l1_ok (N : Nat) {top : Bool} : LoopOK Try.prog rworth_B.c rworth_B.n rworth_B.m0 top (rworth_l1_L N) := loop_of_ev (Z := Int) (N := N) (fun m p => rworth_l1 N m p.1.1 p.1.2.2.1 p.1.2.2.2.1 p.2.1.1 p.2.1.2.1 p.2.1.2.2.1 p.2.1.2.2.2.1 p.2.1.2.2.2.2.1) (fun e => .inl ((e, ()), ())) (fun _ _ _ => rfl) (fun _ => rfl) (fun m z E Xc hE hX hrec hx => leaf_of_ev (B := rworth_B) (loops := []) (leaves := [rworth_l1_h (rworth_l1 N m), rworth_l1_e0, rworth_j1_k N (rworth_l1 N m)]) (rworth_all N) mixed trivial hE hX ⟨hrec, (fun p hp => by obtain rfl := Option.some.inj hp; exact hx), rworth_j1_lf N _ hE hX hrec (fun p hp => by obtain rfl := Option.some.inj hp; exact hx), trivial⟩ RetOK.no (fun p => rworth_l1_eq N m p.1.1 p.1.2.2.1 p.1.2.2.2.1 p.2.1.1 p.2.1.2.1 p.2.1.2.2.1 p.2.1.2.2.2.1 p.2.1.2.2.2.2.1))
abbrev rworth_st : Sta := ⟨[0, 1], ⟨[.agg [.sl (.int .i64), .i .i64, .sl (.sl (.int .i64)), .sl (.sl (.int .i64)), .sl (.int .i64)], .sl (.int .i64)], []⟩⟩
theorem rworth_eq (N : Nat) (d : List Int) (d2 : Int) (d3 : List (List Int)) (d4 : List (List Int)) (d5 : List Int) (l : List Int) : ev (Z := Int) Try.prog (rworth_sp N) rworth_B [rworth_l1_L N] [] (some rworth_rt) 400 false [.c [0], .c [1]] (stL rworth_st (((d, d2, d3, d4, d5, ()), l, ()), ())) (stH rworth_st (((d, d2, d3, d4, d5, ()), l, ()), ())) = rworth_S N d d2 d3 d4 d5 l := by kernel_rfl
noncomputable def sp_rworth (N : Nat) : Spec := { f := 43, ins := ⟨[.agg [.sl (.int .i64), .i .i64, .sl (.sl (.int .i64)), .sl (.sl (.int .i64)), .sl (.int .i64)], .sl (.int .i64)], []⟩, outs := [⟨[.i .i64], []⟩], run := fun p k => (rworth_S N p.1.1.1 p.1.1.2.1 p.1.1.2.2.1 p.1.1.2.2.2.1 p.1.1.2.2.2.2.1 p.1.2.1).bind fun r => k ((r, ()), ()) }
theorem sp_rworth_ok (N : Nat) : SpecOK Try.prog (sp_rworth N) := fn_sound (B := rworth_B) (loops := [rworth_l1_L N]) (leaves := []) (fun p => rworth_S N p.1.1.1 p.1.1.2.1 p.1.1.2.2.1 p.1.1.2.2.2.1 p.1.1.2.2.2.2.1 p.1.2.1) (fun r => ((r, ()), ())) rworth_rt (fun _ _ _ => rfl) (fun r z h => by cases h; rfl) Try.func43 (by kernel_rfl) (by kernel_rfl) (by kernel_rfl) rfl rfl (by kernel_rfl) (fun args w => Sem.pv_run _ _ _ (by kernel_rfl) w) (rworth_all N) mixed ⟨rworth_l1_ok N, trivial⟩ (fun z E Xc hE hX hret => trivial) (fun p => rworth_eq N p.1.1.1 p.1.1.2.1 p.1.1.2.2.1 p.1.1.2.2.2.1 p.1.1.2.2.2.2.1 p.1.2.1)

def rreward_j1 (N : Nat) (rec : (List Int) → Int → Int → (List Int) → Int → (List (List Int)) → (List (List Int)) → (List Int) → Option Int) (l : List Int) (sum : Int) (i : Int) (d : List Int) (d2 : Int) (d3 : List (List Int)) (d4 : List (List Int)) (d5 : List Int) : Option Int :=
  chk (i + 1) <|
  rec l sum (i + 1) d d2 d3 d4 d5
def rreward_l1 (N : Nat) : Nat → (List Int) → Int → Int → (List Int) → Int → (List (List Int)) → (List (List Int)) → (List Int) → Option Int
  | 0, _, _, _, _, _, _, _, _ => none
  | n_ + 1, l, sum, i, d, d2, d3, d4, d5 =>
    br (decide (i < (l.length : Int)))
      (idx l i fun x_1 =>
      br (decide (0 ≤ x_1))
        (idx d5 i fun x_2 =>
        chk (sum + x_2) <|
        rreward_j1 N (rreward_l1 N n_) l (sum + x_2) i d d2 d3 d4 d5)
        (rreward_j1 N (rreward_l1 N n_) l sum i d d2 d3 d4 d5))
      (some (sum))
def rreward_S (N : Nat) (d : List Int) (d2 : Int) (d3 : List (List Int)) (d4 : List (List Int)) (d5 : List Int) (l : List Int) : Option Int :=
  (rreward_l1 N N l 0 0 d d2 d3 d4 d5).bind fun sum_3 =>
  some sum_3
noncomputable def rreward_sp (N : Nat) : List Spec := []
theorem rreward_all (N : Nat) : AllP (SpecOK Try.prog) (rreward_sp N) := trivial
noncomputable def rreward_c : Code := (Try.f44.body).getD .skip
noncomputable abbrev rreward_B : Body := { c := rreward_c, n := 26, res := [.tmp 4], outs := [⟨[.i .i64], []⟩], m0 := 0 }
abbrev rreward_rt : altD rreward_B.outs → Option Int := fun r => some r.1.1
abbrev rreward_l1_at : List PI := [.c [1, 1, 0, 1, 0, 0, 0, 0], .c [1, 1, 0, 1, 0, 0, 0, 1], .c [1, 1, 0, 1, 0, 0, 1], .l [1, 1, 0, 1, 0, 0], .b 0, .c [1, 1, 1]]
abbrev rreward_l1_st : Sta := ⟨[1, 2, 5, 6], ⟨[.sl (.int .i64), .own 0 0, .i .i64, .i .i64], [.segs [.sl (.int .i64), .i .i64, .sl (.sl (.int .i64)), .sl (.sl (.int .i64)), .sl (.int .i64)]]⟩⟩
abbrev rreward_l1_h (rec : (List Int) → Int → Int → (List Int) → Int → (List (List Int)) → (List (List Int)) → (List Int) → Option Int) : Leaf Int := ⟨rreward_l1_at, rreward_l1_st, fun p => rec p.1.1 p.1.2.2.1 p.1.2.2.2.1 p.2.1.1 p.2.1.2.1 p.2.1.2.2.1 p.2.1.2.2.2.1 p.2.1.2.2.2.2.1⟩
abbrev rreward_l1_e0 : Leaf Int := ⟨[.c [1, 1, 1, 0], .c [1, 1, 1, 1]], ⟨[5], ⟨[.i .i64], []⟩⟩, fun p => some (p.1.1)⟩
abbrev rreward_j1_at : List PI := [.c [1, 1, 0, 1, 0, 0, 1, 1], .l [1, 1, 0, 1, 0, 0], .b 0, .c [1, 1, 1]]
abbrev rreward_j1_st : Sta := ⟨[1, 2, 5, 6], ⟨[.sl (.int .i64), .own 0 0, .i .i64, .i .i64], [.segs [.sl (.int .i64), .i .i64, .sl (.sl (.int .i64)), .sl (.sl (.int .i64)), .sl (.int .i64)]]⟩⟩
abbrev rreward_j1_k (N : Nat) (rec : (List Int) → Int → Int → (List Int) → Int → (List (List Int)) → (List (List Int)) → (List Int) → Option Int) : Leaf Int := ⟨rreward_j1_at, rreward_j1_st, fun p => rreward_j1 N rec p.1.1 p.1.2.2.1 p.1.2.2.2.1 p.2.1.1 p.2.1.2.1 p.2.1.2.2.1 p.2.1.2.2.2.1 p.2.1.2.2.2.2.1⟩
theorem rreward_j1_eq (N : Nat) (rec : (List Int) → Int → Int → (List Int) → Int → (List (List Int)) → (List (List Int)) → (List Int) → Option Int) (l : List Int) (sum : Int) (i : Int) (d : List Int) (d2 : Int) (d3 : List (List Int)) (d4 : List (List Int)) (d5 : List Int) : ev (Z := Int) Try.prog (rreward_sp N) rreward_B [] [rreward_l1_h rec, rreward_l1_e0] none 400 true rreward_j1_at (stL rreward_j1_st ((l, (), sum, i, ()), ((d, d2, d3, d4, d5, ()), ()))) (stH rreward_j1_st ((l, (), sum, i, ()), ((d, d2, d3, d4, d5, ()), ()))) = rreward_j1 N rec l sum i d d2 d3 d4 d5 := by kernel_rfl
theorem rreward_j1_lf (N : Nat) (rec : (List Int) → Int → Int → (List Int) → Int → (List (List Int)) → (List (List Int)) → (List Int) → Option Int) {z : Int} {top : Bool} {E : EE} {Xc : Ctx} (hE : EOK rreward_B.m0 E) (hX : CxOK top Xc) (hrec : LeafOK Try.prog rreward_B.c rreward_B.n rreward_B.m0 E Xc z (rreward_l1_h rec)) (h0 : LeafOK Try.prog rreward_B.c rreward_B.n rreward_B.m0 E Xc z rreward_l1_e0) : LeafOK Try.prog rreward_B.c rreward_B.n rreward_B.m0 E Xc z (rreward_j1_k N rec) := leaf_of_ev (B := rreward_B) (loops := []) (leaves := [rreward_l1_h rec, rreward_l1_e0]) (rreward_all N) mixed trivial hE hX ⟨hrec, h0, trivial⟩ RetOK.no (fun p => rreward_j1_eq N rec p.1.1 p.1.2.2.1 p.1.2.2.2.1 p.2.1.1 p.2.1.2.1 p.2.1.2.2.1 p.2.1.2.2.2.1 p.2.1.2.2.2.2.1)
noncomputable def rreward_l1_L (N : Nat) : LoopS := { at_ := rreward_l1_at, sta := rreward_l1_st, exits := [([.c [1, 1, 1, 0], .c [1, 1, 1, 1]], ⟨[5], ⟨[.i .i64], []⟩⟩)], run := fun p k => (rreward_l1 N N p.1.1 p.1.2.2.1 p.1.2.2.2.1 p.2.1.1 p.2.1.2.1 p.2.1.2.2.1 p.2.1.2.2.2.1 p.2.1.2.2.2.2.1).bind fun e => k (.inl ((e, ()), ())) }
theorem rreward_l1_eq (N n_ : Nat) (l : List Int) (sum : Int) (i : Int) (d : List Int) (d2 : Int) (d3 : List (List Int)) (d4 : List (List Int)) (d5 : List Int) : ev (Z := Int) Try.prog (rreward_sp N) rreward_B [] [rreward_l1_h (rreward_l1 N n_), rreward_l1_e0, rreward_j1_k N (rreward_l1 N n_)] none 400 true rreward_l1_at (stL rreward_l1_st ((l, (), sum, i, ()), ((d, d2, d3, d4, d5, ()), ()))) (stH rreward_l1_st ((l, (), sum, i, ()), ((d, d2, d3, d4, d5, ()), ()))) = rreward_l1 N (n_ + 1) l sum i d d2 d3 d4 d5 := by kernel_rfl
theorem rreward_l1_ok (N : Nat) {top : Bool} : LoopOK Try.prog rreward_B.c rreward_B.n rreward_B.m0 top (rreward_l1_L N) := loop_of_ev (Z := Int) (N := N) (fun m p => rreward_l1 N m p.1.1 p.1.2.2.1 p.1.2.2.2.1 p.2.1.1 p.2.1.2.1 p.2.1.2.2.1 p.2.1.2.2.2.1 p.2.1.2.2.2.2.1) (fun e => .inl ((e, ()), ())) (fun _ _ _ => rfl) (fun _ => rfl) (fun m z E Xc hE hX hrec hx => leaf_of_ev (B := rreward_B) (loops := []) (leaves := [rreward_l1_h (rreward_l1 N m), rreward_l1_e0, rreward_j1_k N (rreward_l1 N m)]) (rreward_all N) mixed trivial hE hX ⟨hrec, (fun p hp => by obtain rfl := Option.some.inj hp; exact hx), rreward_j1_lf N _ hE hX hrec (fun p hp => by obtain rfl := Option.some.inj hp; exact hx), trivial⟩ RetOK.no (fun p => rreward_l1_eq N m p.1.1 p.1.2.2.1 p.1.2.2.2.1 p.2.1.1 p.2.1.2.1 p.2.1.2.2.1 p.2.1.2.2.2.1 p.2.1.2.2.2.2.1))
abbrev rreward_st : Sta := ⟨[0, 1], ⟨[.agg [.sl (.int .i64), .i .i64, .sl (.sl (.int .i64)), .sl (.sl (.int .i64)), .sl (.int .i64)], .sl (.int .i64)], []⟩⟩
theorem rreward_eq (N : Nat) (d : List Int) (d2 : Int) (d3 : List (List Int)) (d4 : List (List Int)) (d5 : List Int) (l : List Int) : ev (Z := Int) Try.prog (rreward_sp N) rreward_B [rreward_l1_L N] [] (some rreward_rt) 400 false [.c [0], .c [1]] (stL rreward_st (((d, d2, d3, d4, d5, ()), l, ()), ())) (stH rreward_st (((d, d2, d3, d4, d5, ()), l, ()), ())) = rreward_S N d d2 d3 d4 d5 l := by kernel_rfl
noncomputable def sp_rreward (N : Nat) : Spec := { f := 44, ins := ⟨[.agg [.sl (.int .i64), .i .i64, .sl (.sl (.int .i64)), .sl (.sl (.int .i64)), .sl (.int .i64)], .sl (.int .i64)], []⟩, outs := [⟨[.i .i64], []⟩], run := fun p k => (rreward_S N p.1.1.1 p.1.1.2.1 p.1.1.2.2.1 p.1.1.2.2.2.1 p.1.1.2.2.2.2.1 p.1.2.1).bind fun r => k ((r, ()), ()) }
theorem sp_rreward_ok (N : Nat) : SpecOK Try.prog (sp_rreward N) := fn_sound (B := rreward_B) (loops := [rreward_l1_L N]) (leaves := []) (fun p => rreward_S N p.1.1.1 p.1.1.2.1 p.1.1.2.2.1 p.1.1.2.2.2.1 p.1.1.2.2.2.2.1 p.1.2.1) (fun r => ((r, ()), ())) rreward_rt (fun _ _ _ => rfl) (fun r z h => by cases h; rfl) Try.func44 (by kernel_rfl) (by kernel_rfl) (by kernel_rfl) rfl rfl (by kernel_rfl) (fun args w => Sem.pv_run _ _ _ (by kernel_rfl) w) (rreward_all N) mixed ⟨rreward_l1_ok N, trivial⟩ (fun z E Xc hE hX hret => trivial) (fun p => rreward_eq N p.1.1.1 p.1.1.2.1 p.1.1.2.2.1 p.1.1.2.2.2.1 p.1.1.2.2.2.2.1 p.1.2.1)

def rshows_l1 (N : Nat) : Nat → (List Int) → (List Int) → Int → Int → (List Int) → Int → (List (List Int)) → (List (List Int)) → (List Int) → (List Int) → Option ((Unit) ⊕ (List Int × List Int × Int × List Int × Int × List (List Int) × List (List Int) × List Int))
  | 0, _, _, _, _, _, _, _, _, _, _ => none
  | n_ + 1, lost, found, sum, i, d, d2, d3, d4, d5, all =>
    br (decide (i < (all.length : Int)))
      (rng i all.length <|
      get all i.toNat fun x_2 =>
      (off_S N x_2 0 999).bind fun x_3 =>
      br x_3
        (some (.inl ()))
        (rng i all.length <|
        get all i.toNat fun x_4 =>
        chk (sum + x_4) <|
        chk (i + 1) <|
        rshows_l1 N n_ lost found (sum + x_4) (i + 1) d d2 d3 d4 d5 all))
      (some (.inr (lost, found, sum, d, d2, d3, d4, d5)))
def rshows_l3 (N : Nat) : Nat → (List Int) → (List Int) → Int → Int → Int → (List Int) → Int → (List (List Int)) → (List (List Int)) → (List Int) → Option ((Unit) ⊕ (List Int × List Int × Int × Int × List Int × Int × List (List Int) × List (List Int) × List Int))
  | 0, _, _, _, _, _, _, _, _, _, _ => none
  | n_ + 1, lost, found, sum, i, k, d, d2, d3, d4, d5 =>
    br (decide (k < (found.length : Int)))
      ((rpair_S N d d2 d3 d4 d5 i k).bind fun (x_13, y_14, y_15) =>
      br y_15
        (idx lost i fun x_16 =>
        idx found k fun x_17 =>
        chk (x_16 + x_17) <|
        br (decide ((x_16 + x_17) < x_13))
          (some (.inl ()))
          (chk (k + 1) <|
          rshows_l3 N n_ lost found sum i (k + 1) d d2 d3 d4 d5))
        (chk (k + 1) <|
        rshows_l3 N n_ lost found sum i (k + 1) d d2 d3 d4 d5))
      (some (.inr (lost, found, sum, i, d, d2, d3, d4, d5)))
def rshows_l2 (N : Nat) : Nat → (List Int) → (List Int) → Int → Int → (List Int) → Int → (List (List Int)) → (List (List Int)) → (List Int) → Option ((Unit) ⊕ (Int))
  | 0, _, _, _, _, _, _, _, _, _ => none
  | n_ + 1, lost, found, sum, i, d, d2, d3, d4, d5 =>
    br (decide (i < (lost.length : Int)))
      ((rshows_l3 N N lost found sum i 0 d d2 d3 d4 d5).bind fun e => match e with
      | .inl _ =>
        some (.inl ())
      | .inr (lost_18, found_19, sum_20, i_21, d_22, d2_23, d3_24, d4_25, d5_26) =>
        chk (i_21 + 1) <|
        rshows_l2 N n_ lost_18 found_19 sum_20 (i_21 + 1) d_22 d2_23 d3_24 d4_25 d5_26)
      (some (.inr sum))
def rshows_S (N : Nat) (d : List Int) (d2 : Int) (d3 : List (List Int)) (d4 : List (List Int)) (d5 : List Int) (lost : List Int) (found : List Int) : Option (Int × Int) :=
  (rcheck_S N d d2 d3 d4 d5).bind fun x_1 =>
  br (!decide (x_1 = 0))
    (some (0, x_1))
    (br (!decide ((lost.length : Int) = (d3.length : Int)))
      (some (0, 2))
      (br (!decide ((found.length : Int) = (d4.length : Int)))
        (some (0, 2))
        (lim (([] : (List Int)).length + lost.length) <|
        lim ((([] : (List Int)) ++ lost).length + found.length) <|
        (rshows_l1 N N lost found 0 0 d d2 d3 d4 d5 ((([] : (List Int)) ++ lost) ++ found)).bind fun e => match e with
        | .inl _ =>
          some (0, 3)
        | .inr (lost_5, found_6, sum_7, d_8, d2_9, d3_10, d4_11, d5_12) =>
          (rshows_l2 N N lost_5 found_6 sum_7 0 d_8 d2_9 d3_10 d4_11 d5_12).bind fun e => match e with
          | .inl _ =>
            some (0, 8)
          | .inr sum_27 =>
            some (sum_27, 0))))
noncomputable def rshows_sp (N : Nat) : List Spec := [sp_off N, sp_rcheck N, sp_rpair N]
theorem rshows_all (N : Nat) : AllP (SpecOK Try.prog) (rshows_sp N) := ⟨sp_off_ok N, sp_rcheck_ok N, sp_rpair_ok N, trivial⟩
noncomputable def rshows_c : Code := (Try.f47.body).getD .skip
noncomputable abbrev rshows_B : Body := { c := rshows_c, n := 93, res := [.tmp 6, .tmp 7], outs := [⟨[.i .i64, .i .i64], []⟩], m0 := 0 }
abbrev rshows_rt : altD rshows_B.outs → Option (Int × Int) := fun r => some (r.1.1, r.1.2.1)
abbrev rshows_l1_at : List PI := [.c [1, 1, 1, 1, 1, 0, 1, 0, 0, 0, 0], .c [1, 1, 1, 1, 1, 0, 1, 0, 0, 0, 1], .c [1, 1, 1, 1, 1, 0, 1, 0, 0, 1], .l [1, 1, 1, 1, 1, 0, 1, 0, 0], .b 0, .c [1, 1, 1, 1, 1, 1]]
abbrev rshows_l1_st : Sta := ⟨[1, 2, 3, 9, 10, 11], ⟨[.sl (.int .i64), .sl (.int .i64), .own 0 0, .i .i64, .ols 1, .i .i64], [.segs [.sl (.int .i64), .i .i64, .sl (.sl (.int .i64)), .sl (.sl (.int .i64)), .sl (.int .i64)], .lst (.int .i64)]⟩⟩
abbrev rshows_l1_h (rec : (List Int) → (List Int) → Int → Int → (List Int) → Int → (List (List Int)) → (List (List Int)) → (List Int) → (List Int) → Option ((Unit) ⊕ (List Int × List Int × Int × List Int × Int × List (List Int) × List (List Int) × List Int))) : Leaf ((Unit) ⊕ (List Int × List Int × Int × List Int × Int × List (List Int) × List (List Int) × List Int)) := ⟨rshows_l1_at, rshows_l1_st, fun p => rec p.1.1 p.1.2.1 p.1.2.2.2.1 p.1.2.2.2.2.2.1 p.2.1.1 p.2.1.2.1 p.2.1.2.2.1 p.2.1.2.2.2.1 p.2.1.2.2.2.2.1 p.2.2.1⟩
abbrev rshows_l1_e0 : Leaf ((Unit) ⊕ (List Int × List Int × Int × List Int × Int × List (List Int) × List (List Int) × List Int)) := ⟨[.c [1, 1, 1, 1, 1, 0, 1, 0, 0, 1, 0, 0, 0, 1, 0, 0], .c [1, 1, 1, 1, 1, 0, 1, 0, 0, 1, 0, 0, 0, 1, 0, 1], .c [1, 1, 1, 1, 1, 0, 1, 0, 0, 1, 0, 0, 1], .b 1, .c [1, 1, 1, 1, 1, 0, 1, 0, 0, 1, 1], .l [1, 1, 1, 1, 1, 0, 1, 0, 0], .b 0, .c [1, 1, 1, 1, 1, 1]], ⟨[], ⟨[], []⟩⟩, fun p => some (.inl ())⟩
abbrev rshows_l1_e1 : Leaf ((Unit) ⊕ (List Int × List Int × Int × List Int × Int × List (List Int) × List (List Int) × List Int)) := ⟨[.c [1, 1, 1, 1, 1, 1, 0, 0], .c [1, 1, 1, 1, 1, 1, 0, 1], .c [1, 1, 1, 1, 1, 1, 1]], ⟨[1, 2, 3, 9], ⟨[.sl (.int .i64), .sl (.int .i64), .own 0 0, .i .i64], [.segs [.sl (.int .i64), .i .i64, .sl (.sl (.int .i64)), .sl (.sl (.int .i64)), .sl (.int .i64)]]⟩⟩, fun p => some (.inr (p.1.1, p.1.2.1, p.1.2.2.2.1, p.2.1.1, p.2.1.2.1, p.2.1.2.2.1, p.2.1.2.2.2.1, p.2.1.2.2.2.2.1))⟩
noncomputable def rshows_l1_L (N : Nat) : LoopS := { at_ := rshows_l1_at, sta := rshows_l1_st, exits := [([.c [1, 1, 1, 1, 1, 0, 1, 0, 0, 1, 0, 0, 0, 1, 0, 0], .c [1, 1, 1, 1, 1, 0, 1, 0, 0, 1, 0, 0, 0, 1, 0, 1], .c [1, 1, 1, 1, 1, 0, 1, 0, 0, 1, 0, 0, 1], .b 1, .c [1, 1, 1, 1, 1, 0, 1, 0, 0, 1, 1], .l [1, 1, 1, 1, 1, 0, 1, 0, 0], .b 0, .c [1, 1, 1, 1, 1, 1]], ⟨[], ⟨[], []⟩⟩), ([.c [1, 1, 1, 1, 1, 1, 0, 0], .c [1, 1, 1, 1, 1, 1, 0, 1], .c [1, 1, 1, 1, 1, 1, 1]], ⟨[1, 2, 3, 9], ⟨[.sl (.int .i64), .sl (.int .i64), .own 0 0, .i .i64], [.segs [.sl (.int .i64), .i .i64, .sl (.sl (.int .i64)), .sl (.sl (.int .i64)), .sl (.int .i64)]]⟩⟩)], run := fun p k => (rshows_l1 N N p.1.1 p.1.2.1 p.1.2.2.2.1 p.1.2.2.2.2.2.1 p.2.1.1 p.2.1.2.1 p.2.1.2.2.1 p.2.1.2.2.2.1 p.2.1.2.2.2.2.1 p.2.2.1).bind fun e => match e with | .inl x => k (.inl ((), ())) | .inr x => k (.inr (.inl ((x.1, x.2.1, (), x.2.2.1, ()), ((x.2.2.2.1, x.2.2.2.2.1, x.2.2.2.2.2.1, x.2.2.2.2.2.2.1, x.2.2.2.2.2.2.2, ()), ())))) }
theorem rshows_l1_eq (N n_ : Nat) (lost : List Int) (found : List Int) (sum : Int) (i : Int) (d : List Int) (d2 : Int) (d3 : List (List Int)) (d4 : List (List Int)) (d5 : List Int) (all : List Int) : ev (Z := (Unit) ⊕ (List Int × List Int × Int × List Int × Int × List (List Int) × List (List Int) × List Int)) Try.prog (rshows_sp N) rshows_B [] [rshows_l1_h (rshows_l1 N n_), rshows_l1_e0, rshows_l1_e1] none 400 true rshows_l1_at (stL rshows_l1_st ((lost, found, (), sum, (), i, ()), ((d, d2, d3, d4, d5, ()), all, ()))) (stH rshows_l1_st ((lost, found, (), sum, (), i, ()), ((d, d2, d3, d4, d5, ()), all, ()))) = rshows_l1 N (n_ + 1) lost found sum i d d2 d3 d4 d5 all := by kernel_rfl
theorem rshows_l1_ok (N : Nat) {top : Bool} : LoopOK Try.prog rshows_B.c rshows_B.n rshows_B.m0 top (rshows_l1_L N) := loop_of_ev (Z := (Unit) ⊕ (List Int × List Int × Int × List Int × Int × List (List Int) × List (List Int) × List Int)) (N := N) (fun m p => rshows_l1 N m p.1.1 p.1.2.1 p.1.2.2.2.1 p.1.2.2.2.2.2.1 p.2.1.1 p.2.1.2.1 p.2.1.2.2.1 p.2.1.2.2.2.1 p.2.1.2.2.2.2.1 p.2.2.1) (fun e => match e with | .inl x => .inl ((), ()) | .inr x => .inr (.inl ((x.1, x.2.1, (), x.2.2.1, ()), ((x.2.2.2.1, x.2.2.2.2.1, x.2.2.2.2.2.1, x.2.2.2.2.2.2.1, x.2.2.2.2.2.2.2, ()), ())))) (fun _ p k => bind_congr_ (rshows_l1 N N p.1.1 p.1.2.1 p.1.2.2.2.1 p.1.2.2.2.2.2.1 p.2.1.1 p.2.1.2.1 p.2.1.2.2.1 p.2.1.2.2.2.1 p.2.1.2.2.2.2.1 p.2.2.1) _ _ (fun e => by rcases e with x | x <;> rfl)) (fun _ => rfl) (fun m z E Xc hE hX hrec hx => leaf_of_ev (B := rshows_B) (loops := []) (leaves := [rshows_l1_h (rshows_l1 N m), rshows_l1_e0, rshows_l1_e1]) (rshows_all N) mixed trivial hE hX ⟨hrec, (fun p hp => by obtain rfl := Option.some.inj hp; exact hx), (fun p hp => by obtain rfl := Option.some.inj hp; exact hx), trivial⟩ RetOK.no (fun p => rshows_l1_eq N m p.1.1 p.1.2.1 p.1.2.2.2.1 p.1.2.2.2.2.2.1 p.2.1.1 p.2.1.2.1 p.2.1.2.2.1 p.2.1.2.2.2.1 p.2.1.2.2.2.2.1 p.2.2.1))
abbrev rshows_l3_at : List PI := [.c [1, 1, 1, 1, 1, 1, 0, 1, 0, 0, 1, 0, 0, 1, 0, 0, 0, 0], .c [1, 1, 1, 1, 1, 1, 0, 1, 0, 0, 1, 0, 0, 1, 0, 0, 0, 1], .c [1, 1, 1, 1, 1, 1, 0, 1, 0, 0, 1, 0, 0, 1, 0, 0, 1], .l [1, 1, 1, 1, 1, 1, 0, 1, 0, 0, 1, 0, 0, 1, 0, 0], .b 4, .b 3, .c [1, 1, 1, 1, 1, 1, 0, 1, 0, 0, 1, 1], .l [1, 1, 1, 1, 1, 1, 0, 1, 0, 0], .b 2, .c [1, 1, 1, 1, 1, 1, 1]]
abbrev rshows_l3_st : Sta := ⟨[1, 2, 3, 9, 12, 13], ⟨[.sl (.int .i64), .sl (.int .i64), .own 0 0, .i .i64, .i .i64, .i .i64], [.segs [.sl (.int .i64), .i .i64, .sl (.sl (.int .i64)), .sl (.sl (.int .i64)), .sl (.int .i64)]]⟩⟩
abbrev rshows_l3_h (rec : (List Int) → (List Int) → Int → Int → Int → (List Int) → Int → (List (List Int)) → (List (List Int)) → (List Int) → Option ((Unit) ⊕ (List Int × List Int × Int × Int × List Int × Int × List (List Int) × List (List Int) × List Int))) : Leaf ((Unit) ⊕ (List Int × List Int × Int × Int × List Int × Int × List (List Int) × List (List Int) × List Int)) := ⟨rshows_l3_at, rshows_l3_st, fun p => rec p.1.1 p.1.2.1 p.1.2.2.2.1 p.1.2.2.2.2.1 p.1.2.2.2.2.2.1 p.2.1.1 p.2.1.2.1 p.2.1.2.2.1 p.2.1.2.2.2.1 p.2.1.2.2.2.2.1⟩
abbrev rshows_l3_e0 : Leaf ((Unit) ⊕ (List Int × List Int × Int × Int × List Int × Int × List (List Int) × List (List Int) × List Int)) := ⟨[.c [1, 1, 1, 1, 1, 1, 0, 1, 0, 0, 1, 0, 0, 1, 0, 0, 1, 0, 0, 1, 1, 0, 0], .c [1, 1, 1, 1, 1, 1, 0, 1, 0, 0, 1, 0, 0, 1, 0, 0, 1, 0, 0, 1, 1, 0, 1], .b 5, .c [1, 1, 1, 1, 1, 1, 0, 1, 0, 0, 1, 0, 0, 1, 0, 0, 1, 1], .l [1, 1, 1, 1, 1, 1, 0, 1, 0, 0, 1, 0, 0, 1, 0, 0], .b 4, .b 3, .c [1, 1, 1, 1, 1, 1, 0, 1, 0, 0, 1, 1], .l [1, 1, 1, 1, 1, 1, 0, 1, 0, 0], .b 2, .c [1, 1, 1, 1, 1, 1, 1]], ⟨[], ⟨[], []⟩⟩, fun p => some (.inl ())⟩
abbrev rshows_l3_e1 : Leaf ((Unit) ⊕ (List Int × List Int × Int × Int × List Int × Int × List (List Int) × List (List Int) × List Int)) := ⟨[.c [1, 1, 1, 1, 1, 1, 0, 1, 0, 0, 1, 1], .l [1, 1, 1, 1, 1, 1, 0, 1, 0, 0], .b 2, .c [1, 1, 1, 1, 1, 1, 1]], ⟨[1, 2, 3, 9, 12], ⟨[.sl (.int .i64), .sl (.int .i64), .own 0 0, .i .i64, .i .i64], [.segs [.sl (.int .i64), .i .i64, .sl (.sl (.int .i64)), .sl (.sl (.int .i64)), .sl (.int .i64)]]⟩⟩, fun p => some (.inr (p.1.1, p.1.2.1, p.1.2.2.2.1, p.1.2.2.2.2.1, p.2.1.1, p.2.1.2.1, p.2.1.2.2.1, p.2.1.2.2.2.1, p.2.1.2.2.2.2.1))⟩
noncomputable def rshows_l3_L (N : Nat) : LoopS := { at_ := rshows_l3_at, sta := rshows_l3_st, exits := [([.c [1, 1, 1, 1, 1, 1, 0, 1, 0, 0, 1, 0, 0, 1, 0, 0, 1, 0, 0, 1, 1, 0, 0], .c [1, 1, 1, 1, 1, 1, 0, 1, 0, 0, 1, 0, 0, 1, 0, 0, 1, 0, 0, 1, 1, 0, 1], .b 5, .c [1, 1, 1, 1, 1, 1, 0, 1, 0, 0, 1, 0, 0, 1, 0, 0, 1, 1], .l [1, 1, 1, 1, 1, 1, 0, 1, 0, 0, 1, 0, 0, 1, 0, 0], .b 4, .b 3, .c [1, 1, 1, 1, 1, 1, 0, 1, 0, 0, 1, 1], .l [1, 1, 1, 1, 1, 1, 0, 1, 0, 0], .b 2, .c [1, 1, 1, 1, 1, 1, 1]], ⟨[], ⟨[], []⟩⟩), ([.c [1, 1, 1, 1, 1, 1, 0, 1, 0, 0, 1, 1], .l [1, 1, 1, 1, 1, 1, 0, 1, 0, 0], .b 2, .c [1, 1, 1, 1, 1, 1, 1]], ⟨[1, 2, 3, 9, 12], ⟨[.sl (.int .i64), .sl (.int .i64), .own 0 0, .i .i64, .i .i64], [.segs [.sl (.int .i64), .i .i64, .sl (.sl (.int .i64)), .sl (.sl (.int .i64)), .sl (.int .i64)]]⟩⟩)], run := fun p k => (rshows_l3 N N p.1.1 p.1.2.1 p.1.2.2.2.1 p.1.2.2.2.2.1 p.1.2.2.2.2.2.1 p.2.1.1 p.2.1.2.1 p.2.1.2.2.1 p.2.1.2.2.2.1 p.2.1.2.2.2.2.1).bind fun e => match e with | .inl x => k (.inl ((), ())) | .inr x => k (.inr (.inl ((x.1, x.2.1, (), x.2.2.1, x.2.2.2.1, ()), ((x.2.2.2.2.1, x.2.2.2.2.2.1, x.2.2.2.2.2.2.1, x.2.2.2.2.2.2.2.1, x.2.2.2.2.2.2.2.2, ()), ())))) }
theorem rshows_l3_eq (N n_ : Nat) (lost : List Int) (found : List Int) (sum : Int) (i : Int) (k : Int) (d : List Int) (d2 : Int) (d3 : List (List Int)) (d4 : List (List Int)) (d5 : List Int) : ev (Z := (Unit) ⊕ (List Int × List Int × Int × Int × List Int × Int × List (List Int) × List (List Int) × List Int)) Try.prog (rshows_sp N) rshows_B [rshows_l1_L N] [rshows_l3_h (rshows_l3 N n_), rshows_l3_e0, rshows_l3_e1] none 400 true rshows_l3_at (stL rshows_l3_st ((lost, found, (), sum, i, k, ()), ((d, d2, d3, d4, d5, ()), ()))) (stH rshows_l3_st ((lost, found, (), sum, i, k, ()), ((d, d2, d3, d4, d5, ()), ()))) = rshows_l3 N (n_ + 1) lost found sum i k d d2 d3 d4 d5 := by kernel_rfl
theorem rshows_l3_ok (N : Nat) {top : Bool} : LoopOK Try.prog rshows_B.c rshows_B.n rshows_B.m0 top (rshows_l3_L N) := loop_of_ev (Z := (Unit) ⊕ (List Int × List Int × Int × Int × List Int × Int × List (List Int) × List (List Int) × List Int)) (N := N) (fun m p => rshows_l3 N m p.1.1 p.1.2.1 p.1.2.2.2.1 p.1.2.2.2.2.1 p.1.2.2.2.2.2.1 p.2.1.1 p.2.1.2.1 p.2.1.2.2.1 p.2.1.2.2.2.1 p.2.1.2.2.2.2.1) (fun e => match e with | .inl x => .inl ((), ()) | .inr x => .inr (.inl ((x.1, x.2.1, (), x.2.2.1, x.2.2.2.1, ()), ((x.2.2.2.2.1, x.2.2.2.2.2.1, x.2.2.2.2.2.2.1, x.2.2.2.2.2.2.2.1, x.2.2.2.2.2.2.2.2, ()), ())))) (fun _ p k => bind_congr_ (rshows_l3 N N p.1.1 p.1.2.1 p.1.2.2.2.1 p.1.2.2.2.2.1 p.1.2.2.2.2.2.1 p.2.1.1 p.2.1.2.1 p.2.1.2.2.1 p.2.1.2.2.2.1 p.2.1.2.2.2.2.1) _ _ (fun e => by rcases e with x | x <;> rfl)) (fun _ => rfl) (fun m z E Xc hE hX hrec hx => leaf_of_ev (B := rshows_B) (loops := [rshows_l1_L N]) (leaves := [rshows_l3_h (rshows_l3 N m), rshows_l3_e0, rshows_l3_e1]) (rshows_all N) mixed ⟨rshows_l1_ok N, trivial⟩ hE hX ⟨hrec, (fun p hp => by obtain rfl := Option.some.inj hp; exact hx), (fun p hp => by obtain rfl := Option.some.inj hp; exact hx), trivial⟩ RetOK.no (fun p => rshows_l3_eq N m p.1.1 p.1.2.1 p.1.2.2.2.1 p.1.2.2.2.2.1 p.1.2.2.2.2.2.1 p.2.1.1 p.2.1.2.1 p.2.1.2.2.1 p.2.1.2.2.2.1 p.2.1.2.2.2.2.1))
abbrev rshows_l2_at : List PI := [.c [1, 1, 1, 1, 1, 1, 0, 1, 0, 0, 0, 0], .c [1, 1, 1, 1, 1, 1, 0, 1, 0, 0, 0, 1], .c [1, 1, 1, 1, 1, 1, 0, 1, 0, 0, 1], .l [1, 1, 1, 1, 1, 1, 0, 1, 0, 0], .b 2, .c [1, 1, 1, 1, 1, 1, 1]]
abbrev rshows_l2_st : Sta := ⟨[1, 2, 3, 9, 12], ⟨[.sl (.int .i64), .sl (.int .i64), .own 0 0, .i .i64, .i .i64], [.segs [.sl (.int .i64), .i .i64, .sl (.sl (.int .i64)), .sl (.sl (.int .i64)), .sl (.int .i64)]]⟩⟩
abbrev rshows_l2_h (rec : (List Int) → (List Int) → Int → Int → (List Int) → Int → (List (List Int)) → (List (List Int)) → (List Int) → Option ((Unit) ⊕ (Int))) : Leaf ((Unit) ⊕ (Int)) := ⟨rshows_l2_at, rshows_l2_st, fun p => rec p.1.1 p.1.2.1 p.1.2.2.2.1 p.1.2.2.2.2.1 p.2.1.1 p.2.1.2.1 p.2.1.2.2.1 p.2.1.2.2.2.1 p.2.1.2.2.2.2.1⟩
abbrev rshows_l2_e0 : Leaf ((Unit) ⊕ (Int)) := ⟨[.c [1, 1, 1, 1, 1, 1, 0, 1, 0, 0, 1, 0, 0, 1, 0, 0, 1, 0, 0, 1, 1, 0, 0], .c [1, 1, 1, 1, 1, 1, 0, 1, 0, 0, 1, 0, 0, 1, 0, 0, 1, 0, 0, 1, 1, 0, 1], .b 5, .c [1, 1, 1, 1, 1, 1, 0, 1, 0, 0, 1, 0, 0, 1, 0, 0, 1, 1], .l [1, 1, 1, 1, 1, 1, 0, 1, 0, 0, 1, 0, 0, 1, 0, 0], .b 4, .b 3, .c [1, 1, 1, 1, 1, 1, 0, 1, 0, 0, 1, 1], .l [1, 1, 1, 1, 1, 1, 0, 1, 0, 0], .b 2, .c [1, 1, 1, 1, 1, 1, 1]], ⟨[], ⟨[], []⟩⟩, fun p => some (.inl ())⟩
abbrev rshows_l2_e1 : Leaf ((Unit) ⊕ (Int)) := ⟨[.c [1, 1, 1, 1, 1, 1, 1, 0], .c [1, 1, 1, 1, 1, 1, 1, 1]], ⟨[9], ⟨[.i .i64], []⟩⟩, fun p => some (.inr p.1.1)⟩
noncomputable def rshows_l2_L (N : Nat) : LoopS := { at_ := rshows_l2_at, sta := rshows_l2_st, exits := [([.c [1, 1, 1, 1, 1, 1, 0, 1, 0, 0, 1, 0, 0, 1, 0, 0, 1, 0, 0, 1, 1, 0, 0], .c [1, 1, 1, 1, 1, 1, 0, 1, 0, 0, 1, 0, 0, 1, 0, 0, 1, 0, 0, 1, 1, 0, 1], .b 5, .c [1, 1, 1, 1, 1, 1, 0, 1, 0, 0, 1, 0, 0, 1, 0, 0, 1, 1], .l [1, 1, 1, 1, 1, 1, 0, 1, 0, 0, 1, 0, 0, 1, 0, 0], .b 4, .b 3, .c [1, 1, 1, 1, 1, 1, 0, 1, 0, 0, 1, 1], .l [1, 1, 1, 1, 1, 1, 0, 1, 0, 0], .b 2, .c [1, 1, 1, 1, 1, 1, 1]], ⟨[], ⟨[], []⟩⟩), ([.c [1, 1, 1, 1, 1, 1, 1, 0], .c [1, 1, 1, 1, 1, 1, 1, 1]], ⟨[9], ⟨[.i .i64], []⟩⟩)], run := fun p k => (rshows_l2 N N p.1.1 p.1.2.1 p.1.2.2.2.1 p.1.2.2.2.2.1 p.2.1.1 p.2.1.2.1 p.2.1.2.2.1 p.2.1.2.2.2.1 p.2.1.2.2.2.2.1).bind fun e => match e with | .inl x => k (.inl ((), ())) | .inr x => k (.inr (.inl ((x, ()), ()))) }
theorem rshows_l2_eq (N n_ : Nat) (lost : List Int) (found : List Int) (sum : Int) (i : Int) (d : List Int) (d2 : Int) (d3 : List (List Int)) (d4 : List (List Int)) (d5 : List Int) : ev (Z := (Unit) ⊕ (Int)) Try.prog (rshows_sp N) rshows_B [rshows_l1_L N, rshows_l3_L N] [rshows_l2_h (rshows_l2 N n_), rshows_l2_e0, rshows_l2_e1] none 400 true rshows_l2_at (stL rshows_l2_st ((lost, found, (), sum, i, ()), ((d, d2, d3, d4, d5, ()), ()))) (stH rshows_l2_st ((lost, found, (), sum, i, ()), ((d, d2, d3, d4, d5, ()), ()))) = rshows_l2 N (n_ + 1) lost found sum i d d2 d3 d4 d5 := by kernel_rfl
theorem rshows_l2_ok (N : Nat) {top : Bool} : LoopOK Try.prog rshows_B.c rshows_B.n rshows_B.m0 top (rshows_l2_L N) := loop_of_ev (Z := (Unit) ⊕ (Int)) (N := N) (fun m p => rshows_l2 N m p.1.1 p.1.2.1 p.1.2.2.2.1 p.1.2.2.2.2.1 p.2.1.1 p.2.1.2.1 p.2.1.2.2.1 p.2.1.2.2.2.1 p.2.1.2.2.2.2.1) (fun e => match e with | .inl x => .inl ((), ()) | .inr x => .inr (.inl ((x, ()), ()))) (fun _ p k => bind_congr_ (rshows_l2 N N p.1.1 p.1.2.1 p.1.2.2.2.1 p.1.2.2.2.2.1 p.2.1.1 p.2.1.2.1 p.2.1.2.2.1 p.2.1.2.2.2.1 p.2.1.2.2.2.2.1) _ _ (fun e => by rcases e with x | x <;> rfl)) (fun _ => rfl) (fun m z E Xc hE hX hrec hx => leaf_of_ev (B := rshows_B) (loops := [rshows_l1_L N, rshows_l3_L N]) (leaves := [rshows_l2_h (rshows_l2 N m), rshows_l2_e0, rshows_l2_e1]) (rshows_all N) mixed ⟨rshows_l1_ok N, rshows_l3_ok N, trivial⟩ hE hX ⟨hrec, (fun p hp => by obtain rfl := Option.some.inj hp; exact hx), (fun p hp => by obtain rfl := Option.some.inj hp; exact hx), trivial⟩ RetOK.no (fun p => rshows_l2_eq N m p.1.1 p.1.2.1 p.1.2.2.2.1 p.1.2.2.2.2.1 p.2.1.1 p.2.1.2.1 p.2.1.2.2.1 p.2.1.2.2.2.1 p.2.1.2.2.2.2.1))
abbrev rshows_st : Sta := ⟨[0, 1, 2], ⟨[.agg [.sl (.int .i64), .i .i64, .sl (.sl (.int .i64)), .sl (.sl (.int .i64)), .sl (.int .i64)], .sl (.int .i64), .sl (.int .i64)], []⟩⟩
theorem rshows_eq (N : Nat) (d : List Int) (d2 : Int) (d3 : List (List Int)) (d4 : List (List Int)) (d5 : List Int) (lost : List Int) (found : List Int) : ev (Z := Int × Int) Try.prog (rshows_sp N) rshows_B [rshows_l1_L N, rshows_l3_L N, rshows_l2_L N] [] (some rshows_rt) 400 false [.c [0], .c [1]] (stL rshows_st (((d, d2, d3, d4, d5, ()), lost, found, ()), ())) (stH rshows_st (((d, d2, d3, d4, d5, ()), lost, found, ()), ())) = rshows_S N d d2 d3 d4 d5 lost found := by kernel_rfl
noncomputable def sp_rshows (N : Nat) : Spec := { f := 47, ins := ⟨[.agg [.sl (.int .i64), .i .i64, .sl (.sl (.int .i64)), .sl (.sl (.int .i64)), .sl (.int .i64)], .sl (.int .i64), .sl (.int .i64)], []⟩, outs := [⟨[.i .i64, .i .i64], []⟩], run := fun p k => (rshows_S N p.1.1.1 p.1.1.2.1 p.1.1.2.2.1 p.1.1.2.2.2.1 p.1.1.2.2.2.2.1 p.1.2.1 p.1.2.2.1).bind fun r => k ((r.1, r.2, ()), ()) }
theorem sp_rshows_ok (N : Nat) : SpecOK Try.prog (sp_rshows N) := fn_sound (B := rshows_B) (loops := [rshows_l1_L N, rshows_l3_L N, rshows_l2_L N]) (leaves := []) (fun p => rshows_S N p.1.1.1 p.1.1.2.1 p.1.1.2.2.1 p.1.1.2.2.2.1 p.1.1.2.2.2.2.1 p.1.2.1 p.1.2.2.1) (fun r => ((r.1, r.2, ()), ())) rshows_rt (fun _ _ _ => rfl) (fun r z h => by cases h; rfl) Try.func47 (by kernel_rfl) (by kernel_rfl) (by kernel_rfl) rfl rfl (by kernel_rfl) (fun args w => Sem.pv_run _ _ _ (by kernel_rfl) w) (rshows_all N) mixed ⟨rshows_l1_ok N, rshows_l3_ok N, rshows_l2_ok N, trivial⟩ (fun z E Xc hE hX hret => trivial) (fun p => rshows_eq N p.1.1.1 p.1.1.2.1 p.1.1.2.2.1 p.1.1.2.2.2.1 p.1.1.2.2.2.2.1 p.1.2.1 p.1.2.2.1)

def fjoins_j1 (N : Nat) (joins : List Int) (lost : List Int) (found : List Int) (mine : List Int) (a : List Int) (b : List Int) (w : Int) (worth : Int) (reward : Int) (d : List Int) (d2 : Int) (d3 : List (List Int)) (d4 : List (List Int)) (d5 : List Int) (own : List Int) (own2 : Int) (own3 : List (List Int)) (own4 : List (List Int)) (own5 : List Int) (x : List Int) (x2 : Int) (x3 : List (List Int)) (x4 : List (List Int)) (x5 : List Int) : Option Bool :=
  (lworth__S N own own2 own3 own4 own5 mine).bind fun (x_22, y_23) =>
  (lreward__S N own own2 own3 own4 own5 mine).bind fun (x_24, y_25) =>
  br (!decide (x_22 = worth))
    (some false)
    (br (!decide (x_24 = reward))
      (some false)
      (br (!decide (y_23 = w))
        (some false)
        (br (!decide (y_25 = w))
          (some false)
          ((shows_S N own own2 own3 own4 own5 a b).bind fun (x_26, y_27) =>
          (rshows_S N x x2 x3 x4 x5 lost found).bind fun (x_28, y_29) =>
          br (decide (x_26 = x_28))
            (br (decide (y_27 = y_29))
              ((same_S N own own2 own3 own4 own5 d d2 d3 d4 d5).bind fun x_30 =>
              br x_30
                ((likei_S N mine joins).bind fun x_31 =>
                br x_31
                  ((likei_S N a lost).bind fun x_32 =>
                  br x_32
                    ((likei_S N b found).bind fun x_33 =>
                    br x_33
                      ((awake_S N).bind fun x_34 =>
                      some x_34)
                      (some false))
                    (some false))
                  (some false))
                (some false))
              (some false))
            (some false)))))
def fjoins_S (N : Nat) (d : List Int) (d2 : Int) (d3 : List (List Int)) (d4 : List (List Int)) (d5 : List Int) (joins : List Int) (lost : List Int) (found : List Int) : Option Bool :=
  (great_S N d d2 d3 d4 d5).bind fun x_1 =>
  br x_1
    ((awake_S N).bind fun x_2 =>
    some x_2)
    (br (decide (12 < (joins.length : Int)))
      ((awake_S N).bind fun x_3 =>
      some x_3)
      (br (decide (12 < (lost.length : Int)))
        ((awake_S N).bind fun x_4 =>
        some x_4)
        (br (decide (12 < (found.length : Int)))
          ((awake_S N).bind fun x_5 =>
          some x_5)
          ((copyd_S N d d2 d3 d4 d5).bind fun (x_6, y_7, y_8, y_9, y_10) =>
          (copyd_S N d d2 d3 d4 d5).bind fun (x_11, y_12, y_13, y_14, y_15) =>
          (copyi_S N joins).bind fun x_16 =>
          (copyi_S N lost).bind fun x_17 =>
          (copyi_S N found).bind fun x_18 =>
          (rjoins_S N x_11 y_12 y_13 y_14 y_15 joins).bind fun x_19 =>
          br (decide (x_19 = 0))
            ((rworth_S N x_11 y_12 y_13 y_14 y_15 joins).bind fun x_20 =>
            (rreward_S N x_11 y_12 y_13 y_14 y_15 joins).bind fun x_21 =>
            fjoins_j1 N joins lost found x_16 x_17 x_18 x_19 x_20 x_21 d d2 d3 d4 d5 x_6 y_7 y_8 y_9 y_10 x_11 y_12 y_13 y_14 y_15)
            (fjoins_j1 N joins lost found x_16 x_17 x_18 x_19 0 0 d d2 d3 d4 d5 x_6 y_7 y_8 y_9 y_10 x_11 y_12 y_13 y_14 y_15)))))
noncomputable def fjoins_sp (N : Nat) : List Spec := [sp_lworth_ N, sp_lreward_ N, sp_shows N, sp_likei N, sp_awake N, sp_copyi N, sp_copyd N, sp_same N, sp_great N, sp_rjoins N, sp_rworth N, sp_rreward N, sp_rshows N]
theorem fjoins_all (N : Nat) : AllP (SpecOK Try.prog) (fjoins_sp N) := ⟨sp_lworth__ok N, sp_lreward__ok N, sp_shows_ok N, sp_likei_ok N, sp_awake_ok N, sp_copyi_ok N, sp_copyd_ok N, sp_same_ok N, sp_great_ok N, sp_rjoins_ok N, sp_rworth_ok N, sp_rreward_ok N, sp_rshows_ok N, trivial⟩
noncomputable def fjoins_c : Code := (Try.f10.body).getD .skip
noncomputable abbrev fjoins_B : Body := { c := fjoins_c, n := 135, res := [.tmp 8], outs := [⟨[.b], []⟩], m0 := 0 }
abbrev fjoins_rt : altD fjoins_B.outs → Option Bool := fun r => some r.1.1
abbrev fjoins_j1_at : List PI := [.c [1, 1, 1, 1, 1, 1, 0], .c [1, 1, 1, 1, 1, 1, 1]]
abbrev fjoins_j1_st : Sta := ⟨[1, 2, 3, 4, 9, 10, 11, 12, 13, 14, 15, 16], ⟨[.sl (.int .i64), .sl (.int .i64), .sl (.int .i64), .own 0 0, .own 1 0, .own 2 0, .sl (.int .i64), .sl (.int .i64), .sl (.int .i64), .i .i64, .i .i64, .i .i64], [.segs [.sl (.int .i64), .i .i64, .sl (.sl (.int .i64)), .sl (.sl (.int .i64)), .sl (.int .i64)], .segs [.sl (.int .i64), .i .i64, .sl (.sl (.int .i64)), .sl (.sl (.int .i64)), .sl (.int .i64)], .segs [.sl (.int .i64), .i .i64, .sl (.sl (.int .i64)), .sl (.sl (.int .i64)), .sl (.int .i64)]]⟩⟩
abbrev fjoins_j1_k (N : Nat) : Leaf Bool := ⟨fjoins_j1_at, fjoins_j1_st, fun p => fjoins_j1 N p.1.1 p.1.2.1 p.1.2.2.1 p.1.2.2.2.2.2.2.1 p.1.2.2.2.2.2.2.2.1 p.1.2.2.2.2.2.2.2.2.1 p.1.2.2.2.2.2.2.2.2.2.1 p.1.2.2.2.2.2.2.2.2.2.2.1 p.1.2.2.2.2.2.2.2.2.2.2.2.1 p.2.1.1 p.2.1.2.1 p.2.1.2.2.1 p.2.1.2.2.2.1 p.2.1.2.2.2.2.1 p.2.2.1.1 p.2.2.1.2.1 p.2.2.1.2.2.1 p.2.2.1.2.2.2.1 p.2.2.1.2.2.2.2.1 p.2.2.2.1.1 p.2.2.2.1.2.1 p.2.2.2.1.2.2.1 p.2.2.2.1.2.2.2.1 p.2.2.2.1.2.2.2.2.1⟩
theorem fjoins_j1_eq (N : Nat) (joins : List Int) (lost : List Int) (found : List Int) (mine : List Int) (a : List Int) (b : List Int) (w : Int) (worth : Int) (reward : Int) (d : List Int) (d2 : Int) (d3 : List (List Int)) (d4 : List (List Int)) (d5 : List Int) (own : List Int) (own2 : Int) (own3 : List (List Int)) (own4 : List (List Int)) (own5 : List Int) (x : List Int) (x2 : Int) (x3 : List (List Int)) (x4 : List (List Int)) (x5 : List Int) : ev (Z := Bool) Try.prog (fjoins_sp N) fjoins_B [] [] (some fjoins_rt) 400 true fjoins_j1_at (stL fjoins_j1_st ((joins, lost, found, (), (), (), mine, a, b, w, worth, reward, ()), ((d, d2, d3, d4, d5, ()), (own, own2, own3, own4, own5, ()), (x, x2, x3, x4, x5, ()), ()))) (stH fjoins_j1_st ((joins, lost, found, (), (), (), mine, a, b, w, worth, reward, ()), ((d, d2, d3, d4, d5, ()), (own, own2, own3, own4, own5, ()), (x, x2, x3, x4, x5, ()), ()))) = fjoins_j1 N joins lost found mine a b w worth reward d d2 d3 d4 d5 own own2 own3 own4 own5 x x2 x3 x4 x5 := by kernel_rfl
theorem fjoins_j1_lf (N : Nat) {z : Bool} {E : EE} {Xc : Ctx} (hE : EOK fjoins_B.m0 E) (hX : CxOK true Xc) (hret : RetOK Try.prog fjoins_B E Xc z (some fjoins_rt)) : LeafOK Try.prog fjoins_B.c fjoins_B.n fjoins_B.m0 E Xc z (fjoins_j1_k N) := leaf_of_ev (B := fjoins_B) (loops := []) (leaves := []) (fjoins_all N) mixed trivial hE hX trivial hret (fun p => fjoins_j1_eq N p.1.1 p.1.2.1 p.1.2.2.1 p.1.2.2.2.2.2.2.1 p.1.2.2.2.2.2.2.2.1 p.1.2.2.2.2.2.2.2.2.1 p.1.2.2.2.2.2.2.2.2.2.1 p.1.2.2.2.2.2.2.2.2.2.2.1 p.1.2.2.2.2.2.2.2.2.2.2.2.1 p.2.1.1 p.2.1.2.1 p.2.1.2.2.1 p.2.1.2.2.2.1 p.2.1.2.2.2.2.1 p.2.2.1.1 p.2.2.1.2.1 p.2.2.1.2.2.1 p.2.2.1.2.2.2.1 p.2.2.1.2.2.2.2.1 p.2.2.2.1.1 p.2.2.2.1.2.1 p.2.2.2.1.2.2.1 p.2.2.2.1.2.2.2.1 p.2.2.2.1.2.2.2.2.1)
abbrev fjoins_st : Sta := ⟨[0, 1, 2, 3], ⟨[.agg [.sl (.int .i64), .i .i64, .sl (.sl (.int .i64)), .sl (.sl (.int .i64)), .sl (.int .i64)], .sl (.int .i64), .sl (.int .i64), .sl (.int .i64)], []⟩⟩
theorem fjoins_eq (N : Nat) (d : List Int) (d2 : Int) (d3 : List (List Int)) (d4 : List (List Int)) (d5 : List Int) (joins : List Int) (lost : List Int) (found : List Int) : ev (Z := Bool) Try.prog (fjoins_sp N) fjoins_B [] [fjoins_j1_k N] (some fjoins_rt) 400 false [.c [0], .c [1]] (stL fjoins_st (((d, d2, d3, d4, d5, ()), joins, lost, found, ()), ())) (stH fjoins_st (((d, d2, d3, d4, d5, ()), joins, lost, found, ()), ())) = fjoins_S N d d2 d3 d4 d5 joins lost found := by kernel_rfl
noncomputable def sp_fjoins (N : Nat) : Spec := { f := 10, ins := ⟨[.agg [.sl (.int .i64), .i .i64, .sl (.sl (.int .i64)), .sl (.sl (.int .i64)), .sl (.int .i64)], .sl (.int .i64), .sl (.int .i64), .sl (.int .i64)], []⟩, outs := [⟨[.b], []⟩], run := fun p k => (fjoins_S N p.1.1.1 p.1.1.2.1 p.1.1.2.2.1 p.1.1.2.2.2.1 p.1.1.2.2.2.2.1 p.1.2.1 p.1.2.2.1 p.1.2.2.2.1).bind fun r => k ((r, ()), ()) }
theorem sp_fjoins_ok (N : Nat) : SpecOK Try.prog (sp_fjoins N) := fn_sound (B := fjoins_B) (loops := []) (leaves := [fjoins_j1_k N]) (fun p => fjoins_S N p.1.1.1 p.1.1.2.1 p.1.1.2.2.1 p.1.1.2.2.2.1 p.1.1.2.2.2.2.1 p.1.2.1 p.1.2.2.1 p.1.2.2.2.1) (fun r => ((r, ()), ())) fjoins_rt (fun _ _ _ => rfl) (fun r z h => by cases h; rfl) Try.func10 (by kernel_rfl) (by kernel_rfl) (by kernel_rfl) rfl rfl (by kernel_rfl) (fun args w => Sem.pv_run _ _ _ (by kernel_rfl) w) (fjoins_all N) mixed trivial (fun z E Xc hE hX hret => ⟨fjoins_j1_lf N hE hX hret, trivial⟩) (fun p => fjoins_eq N p.1.1.1 p.1.1.2.1 p.1.1.2.2.1 p.1.1.2.2.2.1 p.1.1.2.2.2.2.1 p.1.2.1 p.1.2.2.1 p.1.2.2.2.1)

end Go.Proofs.Ythncjilcflilcaa

namespace Go.Proofs.Ythncjilcflilcaa
set_option linter.all false
open Go

end Go.Proofs.Ythncjilcflilcaa

namespace Go.Proofs.Ythncjilcflilcaa
set_option linter.all false
open Go

/-! ### Numbers without one -/
def up (i x : Nat) : Nat := if x < i then x else x + 1
section
variable {n m : Nat} {can : Nat → Nat → Bool} {t : Nat → Nat → Int}
theorem Mt.bd {J : Nat → Int} (h : Mt n m can J) {i : Nat} (hi : i < n) : -1 ≤ J i ∧ J i < m := by
  rcases h.ok i hi with e | ⟨k, e, hk, _⟩ <;> omega
/-! ### Without a found thing -/
theorem IsMax.congr {fr fr' : Nat → Prop} {v : Int} (h : IsMax n m can t fr v) (hf : ∀ k, fr k ↔ fr' k) : IsMax n m can t fr' v := by
  have : fr = fr' := funext fun k => propext (hf k)
  rw [← this]; exact h
/-! ### Without a lost thing -/
/-! ### How many joins join two things -/
theorem Mt.congr {J J' : Nat → Int} (h : Mt n m can J) (he : ∀ i, i < n → J i = J' i) : Mt n m can J' := by
  refine ⟨fun i hi => by rw [← he i hi]; exact h.ok i hi, fun i j hi hj hij e => ?_⟩
  rw [← he i hi, ← he j hj] at e
  rw [← he i hi]
  exact h.inj i j hi hj hij e
end
end Go.Proofs.Ythncjilcflilcaa

namespace Go.Proofs.Ythncjilcflilcaa
set_option linter.all false
open Go

theorem drop_cons {α : Type} {l : List α} {k : Nat} (h : k < l.length) (d : α) : l.drop k = l.getD k d :: l.drop (k + 1) := by
  rw [List.drop_eq_getElem_cons h]; simp [List.getD, h]
theorem gets {α : Type} {l : List α} {k : Nat} (h : k < l.length) (d : α) : l[((k : Nat) : Int).toNat]? = some (l.getD k d) := by simp [List.getD, h]
theorem getD_mem {α : Type} {l : List α} {i : Nat} {d : α} (h : i < l.length) : l.getD i d ∈ l := by
  simp [List.getD, h]
theorem nat_succ (k : Nat) : ((k + 1 : Nat) : Int) = (k : Int) + 1 := by omega
theorem in_v (N : Nat) (n lo hi : Int) : in__S N n lo hi = some (decide (lo ≤ n ∧ n ≤ hi)) := by
  unfold in__S br
  by_cases h : lo ≤ n <;> simp [h]
theorem every_gen {α : Type} {f : α → Option Bool} {p : α → Bool} {s : List α} {N : Nat} (hf : ∀ x ∈ s, f x = some (p x)) (hs : s.length ≤ 1000000) (hN : s.length < N) :
    (((ixS (fun x => (f x).bind fun c => some (!c)) N s).bind fun x => some (decide (0 ≤ x))).bind fun x => some (!x)) = some (s.all p) := by
  rw [ixS_any (p := fun x => !p x) (fun x hx => by rw [hf x hx]; rfl) hs hN]
  simp only [Option.bind_some, any_not]
/-- The limits of a desk's numbers. -/
def okv (x : Int) : Bool := decide (-1 ≤ x ∧ x ≤ 5)
def okw (x : Int) : Bool := decide (1 ≤ x ∧ x ≤ 9)
def okr (x : Int) : Bool := decide (0 ≤ x ∧ x ≤ 99)
def okp (x : Int) : Bool := decide (0 ≤ x ∧ x ≤ 999)
def okl (n : Nat) (r : List Int) : Bool := decide (r.length = n)
/-- What is looked at is small. -/
structure Sm (W : List Int) (L F : List (List Int)) (R : List Int) : Prop where
  w : W.length ≤ 100
  l : L.length ≤ 100
  f : F.length ≤ 100
  r : R.length ≤ 100
  lr : ∀ x ∈ L, x.length ≤ 100
  fr : ∀ x ∈ F, x.length ≤ 100
section
variable (N : Nat)
theorem ixfv_gen : ∀ (n : Nat) (s : List Int) (u u2 : Int), ixfv_l1 N n s u u2 = ixL (every1v_S N) n s u u2
  | 0, _, _, _ => rfl
  | n + 1, s, u, u2 => by unfold ixfv_l1 ixL; simp only [ixfv_gen n]
theorem ixfva_gen : ∀ (n : Nat) (s : List (List Int)) (u u2 : Int), ixfva_l1 N n s u u2 = ixL (every1va_S N) n s u u2
  | 0, _, _, _ => rfl
  | n + 1, s, u, u2 => by unfold ixfva_l1 ixL; simp only [ixfva_gen n]
theorem ixfw_gen : ∀ (n : Nat) (s : List Int) (u u2 : Int), ixfw_l1 N n s u u2 = ixL (every1w_S N) n s u u2
  | 0, _, _, _ => rfl
  | n + 1, s, u, u2 => by unfold ixfw_l1 ixL; simp only [ixfw_gen n]
theorem ixfr_gen : ∀ (n : Nat) (s : List Int) (u u2 : Int), ixfr_l1 N n s u u2 = ixL (every1r_S N) n s u u2
  | 0, _, _, _ => rfl
  | n + 1, s, u, u2 => by unfold ixfr_l1 ixL; simp only [ixfr_gen n]
theorem ixfs_gen : ∀ (n : Nat) (s : List Int) (u u2 : Int), ixfs_l1 N n s u u2 = ixL (every1s_S N) n s u u2
  | 0, _, _, _ => rfl
  | n + 1, s, u, u2 => by unfold ixfs_l1 ixL; simp only [ixfs_gen n]
end
section
variable {N : Nat} {W : List Int} {s : Int} {L F : List (List Int)} {R : List Int}
theorem everyv_v {l : List Int} (h : l.length ≤ 1000000) (hN : l.length < N) : everyv_S N l = some (l.all okv) := by
  unfold everyv_S cofv_S ixfv_S
  rw [← every_gen (f := check21_S N) (p := okv) (s := l) (N := N) (fun x _ => ?_) h hN]
  · unfold ixS
    rw [ixfv_gen]
    rfl
  · unfold check21_S okv
    rw [in_v]; rfl
theorem everyw_v {l : List Int} (h : l.length ≤ 1000000) (hN : l.length < N) : everyw_S N l = some (l.all okw) := by
  unfold everyw_S cofw_S ixfw_S
  rw [← every_gen (f := check3_S N) (p := okw) (s := l) (N := N) (fun x _ => ?_) h hN]
  · unfold ixS
    rw [ixfw_gen]
    rfl
  · unfold check3_S okw
    rw [in_v]; rfl
theorem everyr_v {l : List Int} (h : l.length ≤ 1000000) (hN : l.length < N) : everyr_S N l = some (l.all okr) := by
  unfold everyr_S cofr_S ixfr_S
  rw [← every_gen (f := check4_S N) (p := okr) (s := l) (N := N) (fun x _ => ?_) h hN]
  · unfold ixS
    rw [ixfr_gen]
    rfl
  · unfold check4_S okr
    rw [in_v]; rfl
theorem everys_v {l : List Int} (h : l.length ≤ 1000000) (hN : l.length < N) : everys_S N l = some (l.all okp) := by
  unfold everys_S cofs_S ixfs_S
  rw [← every_gen (f := shows1_S N) (p := okp) (s := l) (N := N) (fun x _ => ?_) h hN]
  · unfold ixS
    rw [ixfs_gen]
    rfl
  · unfold shows1_S okp
    rw [in_v]; rfl
theorem everyva_v {l : List (List Int)} (h : l.length ≤ 1000000) (hN : l.length < N) (hr : ∀ x ∈ l, x.length ≤ 1000000 ∧ x.length < N) : everyva_S N l = some (l.all fun r => r.all okv) := by
  unfold everyva_S cofva_S ixfva_S
  rw [← every_gen (f := check2_S N) (p := fun r => r.all okv) (s := l) (N := N) (fun x hx => ?_) h hN]
  · unfold ixS
    rw [ixfva_gen]
    rfl
  · unfold check2_S
    rw [everyv_v (hr x hx).1 (hr x hx).2]; rfl
theorem ixflo_gen : ∀ (n : Nat) (l : List (List Int)) (u u2 : Int), ixflo_l1 N n l u u2 (W, s, L, F, R) = (ixL (fun x => some (!okl W.length x)) n l u u2).map fun r => match r with | .inl i => .inl (i, (W, s, L, F, R)) | .inr _ => .inr (W, s, L, F, R)
  | 0, _, _, _ => rfl
  | n + 1, l, u, u2 => by
    have e : ∀ x, every1lo_S N x (W, s, L, F, R) = some (!okl W.length x, (W, s, L, F, R)) := fun x => by
      unfold every1lo_S check1_S okl
      simp only [Option.bind_some]
      congr 3
      exact decide_eq_decide.2 (by omega)
    unfold ixflo_l1 ixL
    simp only [e, Option.bind_some, ixflo_gen n]
    unfold br
    split
    · unfold idx
      split
      · cases l[u2.toNat]? with
        | none => rfl
        | some a =>
          dsimp only
          cases okl W.length a
          · rfl
          · simp only [Bool.not_true, Bool.false_eq_true, if_false]
            unfold chk
            split <;> rfl
      · rfl
    · rfl
theorem everylo_v {l : List (List Int)} (h : l.length ≤ 1000000) (hN : l.length < N) : everylo_S N l (W, s, L, F, R) = some (l.all (okl W.length)) := by
  unfold everylo_S coflo_S ixflo_S
  rw [← every_gen (f := fun x => some (okl W.length x)) (p := okl W.length) (s := l) (N := N) (fun x _ => rfl) h hN]
  unfold ixS
  rw [ixflo_gen]
  simp only [Option.bind_some]
  cases ixL (fun x => some (!okl W.length x)) N l l.length 0 with
  | none => rfl
  | some r => cases r <;> rfl
end
/-- The error of a desk. -/
def errD (W : List Int) (s : Int) (L F : List (List Int)) (R : List Int) : Int :=
  if ¬ (1 ≤ (W.length : Int) ∧ (W.length : Int) ≤ 5) then 2 else if 6 < (L.length : Int) then 2 else if 6 < (F.length : Int) then 2 else if L.all (okl W.length) = false then 2 else if F.all (okl W.length) = false then 2 else
  if ¬ ((R.length : Int) = (L.length : Int)) then 2 else if (W.all okw && decide (0 ≤ s ∧ s ≤ 3) && R.all okr && (L.all fun r => r.all okv) && F.all fun r => r.all okv) = true then 0 else 3
section
variable {N : Nat} {W : List Int} {s : Int} {L F : List (List Int)} {R : List Int}
theorem check_v (hN : 110 ≤ N) (h : Sm W L F R) : check_S N W s L F R = some (errD W s L F R) := by
  obtain ⟨hw, hl, hf, hr, hlr, hfr⟩ := h
  unfold check_S errD
  rw [in_v]
  simp only [Option.bind_some]
  by_cases c1 : 1 ≤ (W.length : Int) ∧ (W.length : Int) ≤ 5
  rotate_left
  · rw [br_nnd c1, if_pos c1]
  rw [br_nd c1, if_neg (by simpa using c1)]
  by_cases c2 : 6 < (L.length : Int)
  · rw [br_dec c2, if_pos c2]
  rw [br_ndec c2, if_neg c2]
  by_cases c3 : 6 < (F.length : Int)
  · rw [br_dec c3, if_pos c3]
  rw [br_ndec c3, if_neg c3, everylo_v (by omega) (by omega), everylo_v (by omega) (by omega), everyw_v (by omega) (by omega), in_v, everyr_v (by omega) (by omega),
    everyva_v (by omega) (by omega) (fun x hx => ⟨by have := hlr x hx; omega, by have := hlr x hx; omega⟩), everyva_v (by omega) (by omega) (fun x hx => ⟨by have := hfr x hx; omega, by have := hfr x hx; omega⟩)]
  simp only [Option.bind_some]
  cases L.all (okl W.length)
  · rfl
  cases F.all (okl W.length)
  · rfl
  by_cases c4 : (R.length : Int) = (L.length : Int)
  rotate_left
  · simp only [Bool.not_true, br_false, Bool.true_eq_false, if_false]
    rw [br_nnd c4, if_pos c4]
  simp only [Bool.not_true, br_false, Bool.true_eq_false, if_false]
  rw [br_nd c4, if_neg (not_not_intro c4)]
  cases W.all okw <;> cases decide (0 ≤ s ∧ s ≤ 3) <;> cases R.all okr <;> cases (L.all fun r => r.all okv) <;> cases (F.all fun r => r.all okv) <;> rfl
theorem off_v (n lo hi : Int) : off_S N n lo hi = some (!decide (lo ≤ n ∧ n ≤ hi)) := by
  unfold off_S
  by_cases c : n < lo
  · rw [br_dec c]; congr 1; simp; omega
  · rw [br_ndec c]; congr 1
    by_cases d : n ≤ hi
    · rw [decide_eq_false (show ¬ hi < n by omega), decide_eq_true (show lo ≤ n ∧ n ≤ hi from ⟨by omega, d⟩)]; rfl
    · rw [decide_eq_true (show hi < n by omega), decide_eq_false (fun h : lo ≤ n ∧ n ≤ hi => d h.2)]; rfl
/-- A loop through a list that ends at the first element that isn't so. -/
def alls {α β : Type} (p : α → Bool) (s : List α) (k : Nat) (b : β) : Option (Unit ⊕ β) := some (if (s.drop k).all p then .inr b else .inl ())
theorem alls_yes {α β : Type} {p : α → Bool} {s : List α} {k : Nat} {b : β} (d : α) (h : k < s.length) (hp : p (s.getD k d) = true) : alls p s k b = alls p s (k + 1) b := by
  unfold alls; rw [drop_cons h d, List.all_cons, hp, Bool.true_and]
theorem alls_no {α β : Type} {p : α → Bool} {s : List α} {k : Nat} {b : β} (d : α) (h : k < s.length) (hp : p (s.getD k d) = false) : alls p s k b = some (.inl ()) := by
  unfold alls; rw [drop_cons h d, List.all_cons, hp, Bool.false_and]; rfl
theorem alls_end {α β : Type} {p : α → Bool} {s : List α} {k : Nat} {b : β} (h : s.length ≤ k) : alls p s k b = some (.inr b) := by
  unfold alls; rw [List.drop_of_length_le h]; rfl
theorem described_l1_p (hw : W.length ≤ 1000000) {l : List (List Int)} (hl : l.length ≤ 1000000) : ∀ (n k : Nat), l.length < n + k → k ≤ l.length → described_l1 N n l k W s L F R = alls (okl W.length) l k ()
  | 0, k, h, _ => by omega
  | n + 1, k, h, hk => by
    unfold described_l1
    by_cases c : k < l.length
    · have ih := described_l1_p hw hl n (k + 1) (by omega) (by omega)
      rw [nat_succ] at ih
      rw [br_dec (by omega), idx_eq (by omega) (gets c [])]
      by_cases c1 : ((l.getD k []).length : Int) = W.length
      · rw [br_nd c1, chk_eq (by omega), ih, alls_yes [] c (by unfold okl; rw [decide_eq_true_eq]; omega)]
      · rw [br_nnd c1, alls_no [] c (by unfold okl; rw [decide_eq_false_iff_not]; omega)]
    · rw [br_ndec (by omega), alls_end (by omega)]
theorem described_v (hw : W.length ≤ 1000000) {l : List (List Int)} (hl : l.length ≤ 1000000) (hN : l.length < N) : described_S N W s L F R l = some (l.all (okl W.length)) := by
  unfold described_S
  have := described_l1_p (N := N) (s := s) (L := L) (F := F) (R := R) hw hl N 0 (by omega) (by omega)
  rw [show ((0 : Nat) : Int) = 0 from rfl] at this
  rw [this]
  unfold alls
  simp only [List.drop_zero, Option.bind_some]
  cases l.all (okl W.length) <;> rfl
theorem valued_l2_p {l : List (List Int)} {i : Nat} (hi : i < l.length) (hr : (l.getD i []).length ≤ 1000000) : ∀ (n k : Nat), (l.getD i []).length < n + k → k ≤ (l.getD i []).length → valued_l2 N n l i k = alls okv (l.getD i []) k (l, (i : Int))
  | 0, k, h, _ => by omega
  | n + 1, k, h, hk => by
    unfold valued_l2
    rw [idx_eq (by omega) (gets hi [])]
    by_cases c : k < (l.getD i []).length
    · have ih := valued_l2_p hi hr n (k + 1) (by omega) (by omega)
      rw [nat_succ] at ih
      rw [br_dec (by omega), idx_eq (by omega) (gets hi []), idx_eq (by omega) (gets c 0), off_v]
      simp only [Option.bind_some]
      by_cases c1 : -1 ≤ (l.getD i []).getD k 0 ∧ (l.getD i []).getD k 0 ≤ 5
      · rw [br_nd c1, chk_eq (by omega), ih, alls_yes 0 c (by simp only [okv, c1, and_self, decide_true])]
      · rw [br_nnd c1, alls_no 0 c (by simp only [okv, c1, decide_false])]
    · rw [br_ndec (by omega), alls_end (by omega)]
theorem valued_l1_p {l : List (List Int)} (hl : l.length ≤ 1000000) (hr : ∀ x ∈ l, x.length ≤ 1000000 ∧ x.length < N) : ∀ (n k : Nat), l.length < n + k → k ≤ l.length → valued_l1 N n l k = alls (fun r => r.all okv) l k ()
  | 0, k, h, _ => by omega
  | n + 1, k, h, hk => by
    unfold valued_l1
    by_cases c : k < l.length
    · have ih := valued_l1_p hl hr n (k + 1) (by omega) (by omega)
      rw [nat_succ] at ih
      have e := valued_l2_p (N := N) c (hr _ (getD_mem c)).1 N 0 (by have := (hr _ (getD_mem (d := []) c)).2; omega) (by omega)
      rw [show ((0 : Nat) : Int) = 0 from rfl] at e
      rw [br_dec (by omega), e]
      by_cases hb : (l.getD k []).all okv = true
      · rw [alls_yes (p := fun r => r.all okv) [] c hb, ← ih]
        unfold alls
        rw [List.drop_zero, if_pos hb]
        exact chk_eq (by omega)
      · rw [alls_no (p := fun r => r.all okv) [] c (Bool.eq_false_iff.2 hb)]
        unfold alls
        rw [List.drop_zero, if_neg hb]
        rfl
    · rw [br_ndec (by omega), alls_end (by omega)]
theorem valued_v {l : List (List Int)} (hl : l.length ≤ 1000000) (hN : l.length < N) (hr : ∀ x ∈ l, x.length ≤ 1000000 ∧ x.length < N) : valued_S N l = some (l.all fun r => r.all okv) := by
  unfold valued_S
  have := valued_l1_p (N := N) hl hr N 0 (by omega) (by omega)
  rw [show ((0 : Nat) : Int) = 0 from rfl] at this
  rw [this]
  unfold alls
  simp only [List.drop_zero, Option.bind_some]
  cases (l.all fun r => r.all okv) <;> rfl
theorem rcheck_l1_p (hw : W.length ≤ 1000000) : ∀ (n k : Nat), W.length < n + k → k ≤ W.length → rcheck_l1 N n k W s L F R = alls okw W k (W, s, L, F, R)
  | 0, k, h, _ => by omega
  | n + 1, k, h, hk => by
    unfold rcheck_l1
    by_cases c : k < W.length
    · have ih := rcheck_l1_p hw n (k + 1) (by omega) (by omega)
      rw [nat_succ] at ih
      rw [br_dec (by omega), idx_eq (by omega) (gets c 0), off_v]
      simp only [Option.bind_some]
      by_cases c1 : 1 ≤ W.getD k 0 ∧ W.getD k 0 ≤ 9
      · rw [br_nd c1, chk_eq (by omega), ih, alls_yes 0 c (by simp only [okw, c1, and_self, decide_true])]
      · rw [br_nnd c1, alls_no 0 c (by simp only [okw, c1, decide_false])]
    · rw [br_ndec (by omega), alls_end (by omega)]
theorem rcheck_l2_p (hw : R.length ≤ 1000000) : ∀ (n k : Nat), R.length < n + k → k ≤ R.length → rcheck_l2 N n k W s L F R = alls okr R k (W, s, L, F, R)
  | 0, k, h, _ => by omega
  | n + 1, k, h, hk => by
    unfold rcheck_l2
    by_cases c : k < R.length
    · have ih := rcheck_l2_p hw n (k + 1) (by omega) (by omega)
      rw [nat_succ] at ih
      rw [br_dec (by omega), idx_eq (by omega) (gets c 0), off_v]
      simp only [Option.bind_some]
      by_cases c1 : 0 ≤ R.getD k 0 ∧ R.getD k 0 ≤ 99
      · rw [br_nd c1, chk_eq (by omega), ih, alls_yes 0 c (by simp only [okr, c1, and_self, decide_true])]
      · rw [br_nnd c1, alls_no 0 c (by simp only [okr, c1, decide_false])]
    · rw [br_ndec (by omega), alls_end (by omega)]
theorem rcheck_v (hN : 110 ≤ N) (h : Sm W L F R) : rcheck_S N W s L F R = some (errD W s L F R) := by
  obtain ⟨hw, hl, hf, hr, hlr, hfr⟩ := h
  unfold rcheck_S errD
  rw [off_v]
  simp only [Option.bind_some]
  by_cases c1 : 1 ≤ (W.length : Int) ∧ (W.length : Int) ≤ 5
  rotate_left
  · rw [br_nnd c1, if_pos c1]
  rw [br_nd c1, if_neg (by simpa using c1)]
  by_cases c2 : 6 < (L.length : Int)
  · rw [br_dec c2, if_pos c2]
  rw [br_ndec c2, if_neg c2]
  by_cases c3 : 6 < (F.length : Int)
  · rw [br_dec c3, if_pos c3]
  have e1 := rcheck_l1_p (N := N) (s := s) (L := L) (F := F) (R := R) (W := W) (by omega) N 0 (by omega) (by omega)
  have e2 := rcheck_l2_p (N := N) (s := s) (L := L) (F := F) (W := W) (R := R) (by omega) N 0 (by omega) (by omega)
  rw [show ((0 : Nat) : Int) = 0 from rfl] at e1 e2
  rw [br_ndec c3, if_neg c3, described_v (by omega) (by omega) (by omega), described_v (by omega) (by omega) (by omega), e1]
  unfold alls at e2 ⊢
  simp only [List.drop_zero, Option.bind_some] at e2 ⊢
  cases L.all (okl W.length)
  · rfl
  cases F.all (okl W.length)
  · rfl
  by_cases c4 : (R.length : Int) = (L.length : Int)
  rotate_left
  · simp only [Bool.not_true, br_false, Bool.true_eq_false, if_false]
    rw [br_nnd c4, if_pos c4]
  simp only [Bool.not_true, br_false, Bool.true_eq_false, if_false]
  rw [br_nd c4, if_neg (not_not_intro c4)]
  by_cases d1 : W.all okw = true
  rotate_left
  · rw [if_neg d1, if_neg (by rw [Bool.eq_false_iff.2 d1]; simp)]
  rw [if_pos d1, d1]
  dsimp only
  rw [e2]
  simp only [Option.bind_some]
  by_cases d2 : R.all okr = true
  rotate_left
  · rw [if_neg d2, if_neg (by rw [Bool.eq_false_iff.2 d2]; simp)]
  rw [if_pos d2, d2]
  dsimp only
  rw [off_v, valued_v (N := N) (l := L) (by omega) (by omega) (fun x hx => ⟨by have := hlr x hx; omega, by have := hlr x hx; omega⟩), valued_v (N := N) (l := F) (by omega) (by omega) (fun x hx => ⟨by have := hfr x hx; omega, by have := hfr x hx; omega⟩)]
  simp only [Option.bind_some]
  cases decide (0 ≤ s ∧ s ≤ 3) <;> cases (L.all fun r => r.all okv) <;> cases (F.all fun r => r.all okv) <;> rfl
end
section
variable {N : Nat}
theorem copyi_v {l : List Int} (h : l.length ≤ 1000000) : copyi_S N l = some l := by
  unfold copyi_S
  rw [grd_eq (lmI_iff.2 (by omega))]
  simp
theorem take_succ' {α : Type} {l : List α} {k : Nat} (c : k < l.length) (d : α) : l.take (k + 1) = l.take k ++ [l.getD k d] := by
  rw [List.take_add_one]; simp [List.getD, c]
theorem likei_v {l : List Int} (h : l.length ≤ 1000) (hN : l.length < N) : likei_S N l l = some true := by
  have e : ∀ (n k : Nat), l.length < n + k → k ≤ l.length → equali_l1 N n l l l.length k = some (.inr ()) := by
    intro n
    induction n with
    | zero => intro k h _; omega
    | succ n ih =>
      intro k h2 hk
      unfold equali_l1
      by_cases c : k < l.length
      · have := ih (k + 1) (by omega) (by omega)
        rw [show ((k + 1 : Nat) : Int) = (k : Int) + 1 by omega] at this
        rw [br_dec (by omega), idx_eq (by omega) (gets c 0), idx_eq (by omega) (gets c 0), br_nd rfl, chk_eq (by omega), this]
      · rw [br_ndec (by omega)]
  have e0 := e N 0 (by omega) (by omega)
  simp only [Int.natCast_zero] at e0
  unfold likei_S equali_S
  rw [br_nd rfl, e0]; rfl
end
end Go.Proofs.Ythncjilcflilcaa

namespace Go.Proofs.Ythncjilcflilcaa
set_option linter.all false
open Go

def tabA (g : Nat → Int) : List Int := (List.range 36).map g
theorem tabA_len (g : Nat → Int) : (tabA g).length = 36 := by simp [tabA]
theorem tabA_get {g : Nat → Int} {x : Nat} (h : x < 36) : (tabA g).getD x 0 = g x := by simp [tabA, List.getD, h]
theorem tabA_set (g : Nat → Int) (x : Nat) (v : Int) : (tabA g).set x v = tabA (upd g x v) := by
  refine List.ext_getElem (by simp [tabA]) fun i h1 h2 => ?_
  simp only [tabA, List.getElem_set, List.getElem_map, List.getElem_range, upd]
  by_cases e : x = i
  · rw [if_pos e, if_pos e.symm]
  · rw [if_neg e, if_neg (Ne.symm e)]
/-- What two descriptions agree in, and how often they slip, up to a trait. -/
def agA (W a b : List Int) (t : Nat) : Int := if a.getD t 0 = b.getD t 0 ∧ a.getD t 0 ≠ -1 then W.getD t 0 else 0
def slA (a b : List Int) (t : Nat) : Int := if a.getD t 0 ≠ -1 ∧ b.getD t 0 ≠ -1 ∧ a.getD t 0 ≠ b.getD t 0 then 1 else 0
def agP (W a b : List Int) (k : Nat) : Int := sumN (agA W a b) k
def slP (a b : List Int) (k : Nat) : Int := sumN (slA a b) k
def agF (W : List Int) (L F : List (List Int)) (i k : Nat) : Int := if i < L.length ∧ k < F.length then agP W (L.getD i []) (F.getD k []) W.length else 0
def slF (W : List Int) (L F : List (List Int)) (i k : Nat) : Int := if i < L.length ∧ k < F.length then slP (L.getD i []) (F.getD k []) W.length else 0
theorem sumN_bound {f : Nat → Int} {m : Int} (h : ∀ i, 0 ≤ f i ∧ f i ≤ m) (hm : 0 ≤ m ∧ m ≤ 10) : ∀ n : Nat, n ≤ 1000 → 0 ≤ sumN f n ∧ sumN f n ≤ 10 * n
  | 0, _ => by simp [sumN]
  | n + 1, hn => by
    have h1 := sumN_bound h hm n (by omega)
    have h2 := h n
    rw [sumN]; omega
/-- A desk without an error. -/
structure Fine (W : List Int) (s : Int) (L F : List (List Int)) (R : List Int) : Prop where
  w1 : 1 ≤ W.length
  w5 : W.length ≤ 5
  l6 : L.length ≤ 6
  f6 : F.length ≤ 6
  lw : ∀ x ∈ L, x.length = W.length
  fw : ∀ x ∈ F, x.length = W.length
  rl : R.length = L.length
  w : ∀ x ∈ W, 1 ≤ x ∧ x ≤ 9
  s : 0 ≤ s ∧ s ≤ 3
  r : ∀ x ∈ R, 0 ≤ x ∧ x ≤ 99
  lv : ∀ r ∈ L, ∀ x ∈ r, -1 ≤ x ∧ x ≤ 5
  fv : ∀ r ∈ F, ∀ x ∈ r, -1 ≤ x ∧ x ≤ 5
section
variable {W : List Int} {s : Int} {L F : List (List Int)} {R : List Int}
theorem errD_iff : errD W s L F R = 0 ↔ Fine W s L F R := by
  unfold errD
  constructor
  · intro h
    split at h
    · cases h
    rename_i c1
    split at h
    · cases h
    rename_i c2
    split at h
    · cases h
    rename_i c3
    split at h
    · cases h
    rename_i c4
    split at h
    · cases h
    rename_i c5
    split at h
    · cases h
    rename_i c6
    split at h
    rotate_left
    · cases h
    rename_i c7
    simp only [Bool.and_eq_true, List.all_eq_true, okw, okr, okv, decide_eq_true_eq] at c7
    simp only [Bool.not_eq_false, List.all_eq_true, okl, decide_eq_true_eq] at c4 c5
    exact ⟨by omega, by omega, by omega, by omega, c4, c5, by omega, c7.1.1.1.1, c7.1.1.1.2, c7.1.1.2, c7.1.2, c7.2⟩
  · intro h
    have c4 : L.all (okl W.length) = true := by simpa [okl] using h.lw
    have c5 : F.all (okl W.length) = true := by simpa [okl] using h.fw
    have h1 := h.w1; have h2 := h.w5; have h3 := h.l6; have h4 := h.f6; have h5 := h.rl
    rw [if_neg (by omega), if_neg (by omega), if_neg (by omega), if_neg (by simp [c4]), if_neg (by simp [c5]), if_neg (by omega), if_pos]
    simp only [Bool.and_eq_true, List.all_eq_true, okw, okr, okv, decide_eq_true_eq]
    exact ⟨⟨⟨⟨h.w, h.s⟩, h.r⟩, h.lv⟩, h.fv⟩
/-- The desk at work. -/
def dkT (W : List Int) (s : Int) (L F : List (List Int)) (R : List Int) (A B : Nat → Nat → Int) : Dk := (W, s, L, F, R, tabA (fun x => A (x / 6) (x % 6)), tabA (fun x => B (x / 6) (x % 6)), ())
def dkO (W : List Int) (s : Int) (L F : List (List Int)) (R : List Int) : Dk := dkT W s L F R (agF W L F) (slF W L F)
theorem getD_W (hw : ∀ x ∈ W, 1 ≤ x ∧ x ≤ 9) (t : Nat) : 0 ≤ W.getD t 0 ∧ W.getD t 0 ≤ 9 := by
  by_cases h : t < W.length
  · have := hw _ (getD_mem (d := 0) h); omega
  · have : W.getD t 0 = 0 := by simp [List.getD, List.getElem?_eq_none (show W.length ≤ t by omega)]
    omega
theorem agA_bound (hw : ∀ x ∈ W, 1 ≤ x ∧ x ≤ 9) (a b : List Int) (t : Nat) : 0 ≤ agA W a b t ∧ agA W a b t ≤ 9 := by
  have := getD_W hw t
  unfold agA; split <;> omega
theorem slA_bound (a b : List Int) (t : Nat) : 0 ≤ slA a b t ∧ slA a b t ≤ 1 := by unfold slA; split <;> omega
theorem agP_bound (hw : ∀ x ∈ W, 1 ≤ x ∧ x ≤ 9) (a b : List Int) {t : Nat} (ht : t ≤ 5) : 0 ≤ agP W a b t ∧ agP W a b t ≤ 50 := by
  have := sumN_bound (agA_bound hw a b) (by omega) t (by omega)
  unfold agP; omega
theorem slP_bound (a b : List Int) {t : Nat} (ht : t ≤ 5) : 0 ≤ slP a b t ∧ slP a b t ≤ 50 := by
  have := sumN_bound (slA_bound a b) (by omega) t (by omega)
  unfold slP; omega
theorem upd_upd {α : Type} (J : Nat → α) (i : Nat) (v w : α) : upd (upd J i v) i w = upd J i w := by
  funext x; unfold upd; split <;> rfl
theorem upd_id {α : Type} (J : Nat → α) (i : Nat) : upd J i (J i) = J := by
  funext x; unfold upd; split
  · rename_i e; rw [e]
  · rfl
theorem opened_l3_p {N : Nat} (h : Fine W s L F R) {i k : Nat} (hi : i < 6) (hk : k < 6) {a b : List Int} (ha : a.length = W.length) (hb : b.length = W.length) {u u4 : List (List Int)} {u2 u3 u5 u6 : Int} {o1 o5 : List Int} {o2 : Int} {o3 o4 : List (List Int)} :
    ∀ (n t : Nat) (g g' : Nat → Int), W.length < n + t → t ≤ W.length → g (i * 6 + k) = agP W a b t → g' (i * 6 + k) = slP a b t →
      opened_l3 N n i a k b u u2 u3 u4 u5 u6 a a.length t W s L F R o1 o2 o3 o4 o5 (tabA g) (tabA g') = some ((i : Int), a, u, u2, u3, u4, u5, u6, W, s, L, F, R, o1, o2, o3, o4, o5, tabA (upd g (i * 6 + k) (agP W a b W.length)), tabA (upd g' (i * 6 + k) (slP a b W.length)))
  | 0, t, _, _, hn, ht, _, _ => by omega
  | n + 1, t, g, g', hn, ht, e1, e2 => by
    unfold opened_l3
    have hw5 := h.w5
    by_cases c : t < W.length
    · have hx : i * 6 + k < 36 := by omega
      have hj : ∀ g g' : Nat → Int, opened_j1 N (opened_l3 N n) i a k b u u2 u3 u4 u5 u6 a a.length t W s L F R o1 o2 o3 o4 o5 (tabA g) (tabA g') = opened_l3 N n i a k b u u2 u3 u4 u5 u6 a a.length ((t + 1 : Nat) : Int) W s L F R o1 o2 o3 o4 o5 (tabA g) (tabA g') := fun g g' => by
        unfold opened_j1
        rw [chk_eq (by omega)]; rfl
      have b1 := agP_bound h.w a b (t := t) (by omega)
      have b2 := slP_bound a b (t := t) (by omega)
      have b3 := getD_W h.w t
      have s1 : agP W a b (t + 1) = agP W a b t + agA W a b t := rfl
      have s2 : slP a b (t + 1) = slP a b t + slA a b t := rfl
      rw [br_dec (by omega), idx_eq (by omega) (gets (by omega) 0)]
      unfold agA at s1
      unfold slA at s2
      by_cases c1 : a.getD t 0 = -1
      · rw [if_neg (by omega)] at s1 s2
        rw [br_dec c1, hj, opened_l3_p h hi hk ha hb n (t + 1) g g' (by omega) (by omega) (by omega) (by omega)]
      rw [br_ndec c1, idx_eq (by omega) (gets (by omega) 0)]
      by_cases c2 : b.getD t 0 = -1
      · rw [if_neg (by omega)] at s1 s2
        rw [br_dec c2, hj, opened_l3_p h hi hk ha hb n (t + 1) g g' (by omega) (by omega) (by omega) (by omega)]
      rw [br_ndec c2, idx_eq (by omega) (gets (by omega) 0)]
      by_cases c3 : a.getD t 0 = b.getD t 0
      · rw [if_pos ⟨c3, c1⟩] at s1
        rw [if_neg (by omega)] at s2
        rw [br_dec c3, rng_eq (by omega), rng_eq (by omega)]
        simp only [Int.toNat_natCast]
        rw [get_get 0 (by rw [tabA_len]; exact hx), tabA_get hx, e1, idx_eq (by omega) (gets (k := t) (l := W) (by omega) 0), chk_eq (by omega), rng_eq (by omega), rng_eq (by omega), get_get 0 (by rw [tabA_len]; exact hx), tabA_set, hj,
          opened_l3_p h hi hk ha hb n (t + 1) _ _ (by omega) (by omega) (by rw [upd_self]; omega) (by omega), upd_upd]
      · rw [if_neg (by omega)] at s1
        rw [if_pos ⟨c1, c2, c3⟩] at s2
        rw [br_ndec c3, rng_eq (by omega), rng_eq (by omega)]
        simp only [Int.toNat_natCast]
        rw [get_get 0 (by rw [tabA_len]; exact hx), tabA_get hx, e2, chk_eq (by omega), rng_eq (by omega), rng_eq (by omega), get_get 0 (by rw [tabA_len]; exact hx), tabA_set, hj,
          opened_l3_p h hi hk ha hb n (t + 1) _ _ (by omega) (by omega) (by omega) (by rw [upd_self]; omega), upd_upd]
    · obtain rfl : t = W.length := by omega
      rw [br_ndec (by omega), ← e1, ← e2, upd_id, upd_id]
/-- Tables that are filled up to a pair. -/
def gK (A : Nat → Nat → Int) (i k : Nat) : Nat → Int := fun x => if x / 6 < i ∨ (x / 6 = i ∧ x % 6 < k) then A (x / 6) (x % 6) else 0
theorem gK_step (A : Nat → Nat → Int) {i k : Nat} (hk : k < 6) : upd (gK A i k) (i * 6 + k) (A i k) = gK A i (k + 1) := by
  funext x
  unfold upd gK
  by_cases e : x = i * 6 + k
  · rw [if_pos e, if_pos (by omega), show x / 6 = i by omega, show x % 6 = k by omega]
  · rw [if_neg e]
    by_cases c : x / 6 < i ∨ (x / 6 = i ∧ x % 6 < k)
    · rw [if_pos c, if_pos (by omega)]
    · rw [if_neg c, if_neg (by omega)]
theorem gK_self (A : Nat → Nat → Int) {i k : Nat} (hk : k < 6) : gK A i k (i * 6 + k) = 0 := if_neg (by omega)
theorem gK_row {A : Nat → Nat → Int} {i m : Nat} (h : ∀ k, m ≤ k → A i k = 0) : gK A i m = gK A (i + 1) 0 := by
  funext x
  unfold gK
  by_cases c : x / 6 < i ∨ (x / 6 = i ∧ x % 6 < m)
  · rw [if_pos c, if_pos (by omega)]
  · rw [if_neg c]
    by_cases d : x / 6 = i
    · rw [if_pos (by omega), d, h _ (by omega)]
    · rw [if_neg (by omega)]
theorem gK_all {A : Nat → Nat → Int} {n : Nat} (h : ∀ i k, n ≤ i → A i k = 0) : gK A n 0 = fun x => A (x / 6) (x % 6) := by
  funext x
  unfold gK
  by_cases c : x / 6 < n
  · rw [if_pos (.inl c)]
  · rw [if_neg (by omega), h _ _ (by omega)]
theorem opened_l2_p {N : Nat} (hN : 110 ≤ N) (h : Fine W s L F R) {i : Nat} (hi : i < L.length) {u : List (List Int)} {u2 u3 : Int} {o1 o5 : List Int} {o2 : Int} {o3 o4 : List (List Int)} :
    ∀ (n k : Nat), F.length < n + k → k ≤ F.length →
      opened_l2 N n i (L.getD i []) u u2 u3 F F.length k W s L F R o1 o2 o3 o4 o5 (tabA (gK (agF W L F) i k)) (tabA (gK (slF W L F) i k)) = some (u, u2, u3, W, s, L, F, R, o1, o2, o3, o4, o5, tabA (gK (agF W L F) (i + 1) 0), tabA (gK (slF W L F) (i + 1) 0))
  | 0, k, hn, hk => by omega
  | n + 1, k, hn, hk => by
    unfold opened_l2
    have hl6 := h.l6; have hf6 := h.f6; have hw5 := h.w5
    by_cases c : k < F.length
    · have ih := opened_l2_p hN h hi (u := u) (u2 := u2) (u3 := u3) (o1 := o1) (o5 := o5) (o2 := o2) (o3 := o3) (o4 := o4) n (k + 1) (by omega) (by omega)
      rw [nat_succ] at ih
      have e := opened_l3_p (N := N) h (i := i) (k := k) (by omega) (by omega) (h.lw _ (getD_mem (d := []) hi)) (h.fw _ (getD_mem (d := []) c)) (u := u) (u4 := F) (u2 := u2) (u3 := u3) (u5 := F.length) (u6 := k) (o1 := o1) (o5 := o5) (o2 := o2) (o3 := o3) (o4 := o4)
        N 0 (gK (agF W L F) i k) (gK (slF W L F) i k) (by omega) (by omega) (gK_self _ (by omega)) (gK_self _ (by omega))
      have a1 : agP W (L.getD i []) (F.getD k []) W.length = agF W L F i k := (if_pos ⟨hi, c⟩).symm
      have a2 : slP (L.getD i []) (F.getD k []) W.length = slF W L F i k := (if_pos ⟨hi, c⟩).symm
      rw [a1, a2, gK_step _ (by omega), gK_step _ (by omega), show ((0 : Nat) : Int) = 0 from rfl] at e
      rw [br_dec (by omega), idx_eq (by omega) (gets c []), e]
      simp only [Option.bind_some]
      rw [chk_eq (by omega)]
      exact ih
    · obtain rfl : k = F.length := by omega
      rw [br_ndec (by omega), gK_row (A := agF W L F) (i := i) (m := F.length) (fun k hk => by unfold agF; exact if_neg (by omega)), gK_row (A := slF W L F) (i := i) (m := F.length) (fun k hk => by unfold slF; exact if_neg (by omega))]
theorem opened_l1_p {N : Nat} (hN : 110 ≤ N) (h : Fine W s L F R) {o1 o5 : List Int} {o2 : Int} {o3 o4 : List (List Int)} :
    ∀ (n i : Nat), L.length < n + i → i ≤ L.length →
      opened_l1 N n L L.length i W s L F R o1 o2 o3 o4 o5 (tabA (gK (agF W L F) i 0)) (tabA (gK (slF W L F) i 0)) = some (o1, o2, o3, o4, o5, tabA (fun x => agF W L F (x / 6) (x % 6)), tabA (fun x => slF W L F (x / 6) (x % 6)))
  | 0, i, hn, hi => by omega
  | n + 1, i, hn, hi => by
    unfold opened_l1
    have hl6 := h.l6; have hf6 := h.f6
    by_cases c : i < L.length
    · have ih := opened_l1_p hN h (o1 := o1) (o5 := o5) (o2 := o2) (o3 := o3) (o4 := o4) n (i + 1) (by omega) (by omega)
      rw [nat_succ] at ih
      have e := opened_l2_p hN h c (u := L) (u2 := L.length) (u3 := i) (o1 := o1) (o5 := o5) (o2 := o2) (o3 := o3) (o4 := o4) N 0 (by omega) (by omega)
      rw [show ((0 : Nat) : Int) = 0 from rfl] at e
      rw [br_dec (by omega), idx_eq (by omega) (gets c []), e]
      simp only [Option.bind_some]
      rw [chk_eq (by omega)]
      exact ih
    · obtain rfl : i = L.length := by omega
      rw [br_ndec (by omega), gK_all (A := agF W L F) (fun i k hi => by unfold agF; exact if_neg (by omega)), gK_all (A := slF W L F) (fun i k hi => by unfold slF; exact if_neg (by omega))]
theorem opened_v {N : Nat} (hN : 110 ≤ N) (h : Sm W L F R) : opened_S N W s L F R = some (if errD W s L F R = 0 then .inl (dkO W s L F R, 0) else .inr (errD W s L F R)) := by
  unfold opened_S
  rw [check_v hN h]
  simp only [Option.bind_some]
  by_cases c : errD W s L F R = 0
  · have hF := errD_iff.1 c
    have e := opened_l1_p hN hF (o1 := W) (o2 := s) (o3 := L) (o4 := F) (o5 := R) N 0 (by have := hF.l6; omega) (by omega)
    have z : ∀ A : Nat → Nat → Int, tabA (gK A 0 0) = List.replicate 36 (0 : Int) := fun A => by
      rw [show gK A 0 0 = fun _ => 0 by funext x; exact if_neg (by omega)]; rfl
    rw [z, z, show ((0 : Nat) : Int) = 0 from rfl] at e
    rw [br_nd c, if_pos c, e]; rfl
  · rw [br_nnd c, if_neg c]
end
end Go.Proofs.Ythncjilcflilcaa

namespace Go.Proofs.Ythncjilcflilcaa
set_option linter.all false
open Go

/-! ### All of some numbers -/
def alI (p : Nat → Bool) (n : Nat) : Bool := (List.range' 0 n).all p
theorem alI_iff {p : Nat → Bool} {n : Nat} : alI p n = true ↔ ∀ i, i < n → p i = true := by
  unfold alI
  rw [List.all_eq_true]
  constructor
  · exact fun h i hi => h i (by simp [List.mem_range'_1, hi])
  · exact fun h i hi => h i (by have := List.mem_range'_1.1 hi; omega)
def allI {β : Type} (p : Nat → Bool) (n k : Nat) (b : β) : Option (Unit ⊕ β) := some (if (List.range' k (n - k)).all p then .inr b else .inl ())
theorem allI_0 {β : Type} (p : Nat → Bool) (n : Nat) (b : β) : allI p n 0 b = some (if alI p n then .inr b else .inl ()) := rfl
theorem allI_yes {β : Type} {p : Nat → Bool} {n k : Nat} {b : β} (h : k < n) (hp : p k = true) : allI p n k b = allI p n (k + 1) b := by
  unfold allI
  rw [show n - k = (n - (k + 1)) + 1 by omega, List.range'_succ, List.all_cons, hp, Bool.true_and]
theorem allI_no {β : Type} {p : Nat → Bool} {n k : Nat} {b : β} (h : k < n) (hp : p k = false) : allI p n k b = some (.inl ()) := by
  unfold allI
  rw [show n - k = (n - (k + 1)) + 1 by omega, List.range'_succ, List.all_cons, hp, Bool.false_and]; rfl
theorem allI_end {β : Type} {p : Nat → Bool} {n k : Nat} {b : β} (h : n ≤ k) : allI p n k b = some (.inr b) := by
  unfold allI
  rw [show n - k = 0 by omega]; rfl
/-! ### Tables -/
def canT (A B : Nat → Nat → Int) (s : Int) (i k : Nat) : Bool := decide (0 < A i k) && decide (B i k ≤ s)
section
variable {W : List Int} {s : Int} {L F : List (List Int)} {R : List Int} {A B : Nat → Nat → Int} {N : Nat}
theorem agD_T {i k : Nat} (hi : i < 6) (hk : k < 6) : agD (dkT W s L F R A B) i k = A i k := by
  unfold agD dkT
  rw [tabA_get (by omega), show (i * 6 + k) / 6 = i by omega, show (i * 6 + k) % 6 = k by omega]
theorem slD_T {i k : Nat} (hi : i < 6) (hk : k < 6) : slD (dkT W s L F R A B) i k = B i k := by
  unfold slD dkT
  rw [tabA_get (by omega), show (i * 6 + k) / 6 = i by omega, show (i * 6 + k) % 6 = k by omega]
theorem can_T {i k : Nat} (hi : i < 6) (hk : k < 6) : can_S N (dkT W s L F R A B) i k = some (canT A B s i k) := by
  rw [can_v (tabA_len _) (tabA_len _) hi hk]
  unfold canD canT
  rw [agD_T hi hk, slD_T hi hk]; rfl
theorem get_T {i k : Nat} (hi : i < 6) (hk : k < 6) {Z : Type} {f : Int → Option Z} : get (dkT W s L F R A B).2.2.2.2.2.1 (i * 6 + k) f = f (A i k) := by
  have e := agD_T (W := W) (s := s) (L := L) (F := F) (R := R) (A := A) (B := B) hi hk
  unfold agD at e
  rw [get_get 0 (by unfold dkT; rw [tabA_len]; omega), e]
theorem agF_bound (h : Fine W s L F R) (i k : Nat) : 0 ≤ agF W L F i k ∧ agF W L F i k ≤ 50 := by
  unfold agF
  split
  · exact agP_bound h.w _ _ h.w5
  · omega
abbrev canF (W : List Int) (s : Int) (L F : List (List Int)) : Nat → Nat → Bool := canT (agF W L F) (slF W L F) s
/-! ### A pair -/
theorem rpair_l1_p (h : Fine W s L F R) {i k : Nat} (hi : i < L.length) (hk : k < F.length) : ∀ (n t : Nat), W.length < n + t → t ≤ W.length →
    rpair_l1 N n i k (agP W (L.getD i []) (F.getD k []) t) (slP (L.getD i []) (F.getD k []) t) t W s L F R = some (agF W L F i k, slF W L F i k, W, s, L, F, R)
  | 0, t, hn, ht => by omega
  | n + 1, t, hn, ht => by
    unfold rpair_l1
    have hw5 := h.w5
    have ha := h.lw _ (getD_mem (d := []) hi)
    have hb := h.fw _ (getD_mem (d := []) hk)
    by_cases c : t < W.length
    · have e1 : -1 ≤ (L.getD i []).getD t 0 := (h.lv _ (getD_mem (d := []) hi) _ (getD_mem (d := 0) (by omega))).1
      have e2 : -1 ≤ (F.getD k []).getD t 0 := (h.fv _ (getD_mem (d := []) hk) _ (getD_mem (d := 0) (by omega))).1
      have ih := rpair_l1_p h hi hk n (t + 1) (by omega) (by omega)
      rw [nat_succ] at ih
      have b1 := agP_bound h.w (L.getD i []) (F.getD k []) (t := t) (by omega)
      have b2 := slP_bound (L.getD i []) (F.getD k []) (t := t) (by omega)
      have b3 := getD_W h.w t
      have s1 : agP W (L.getD i []) (F.getD k []) (t + 1) = agP W (L.getD i []) (F.getD k []) t + agA W (L.getD i []) (F.getD k []) t := rfl
      have s2 : slP (L.getD i []) (F.getD k []) (t + 1) = slP (L.getD i []) (F.getD k []) t + slA (L.getD i []) (F.getD k []) t := rfl
      rw [s1, s2] at ih
      clear s1 s2
      rw [br_dec (by omega), idx_eq (by omega) (gets hi []), idx_eq (by omega) (gets (by omega) 0), idx_eq (by omega) (gets hk []), idx_eq (by omega) (gets (by omega) 0)]
      have hj : ∀ x y, rpair_j2 N (rpair_l1 N n) i k x y t W s L F R = rpair_l1 N n i k x y (↑t + 1) W s L F R := fun x y => by
        unfold rpair_j2
        rw [chk_eq (by omega)]
      unfold rpair_j1
      simp only [hj]
      unfold agA slA at ih
      generalize (L.getD i []).getD t 0 = x at *
      generalize (F.getD k []).getD t 0 = y at *
      generalize agP W (L.getD i []) (F.getD k []) t = p at *
      generalize slP (L.getD i []) (F.getD k []) t = q at *
      by_cases c1 : 0 ≤ x
      rotate_left
      · rw [if_neg (by omega), if_neg (by omega), Int.add_zero, Int.add_zero] at ih
        rw [br_ndec c1, br_ndec c1, ih]
      by_cases c2 : 0 ≤ y
      rotate_left
      · rw [if_neg (by omega), if_neg (by omega), Int.add_zero, Int.add_zero] at ih
        rw [br_dec c1, br_ndec c2, br_dec c1, br_ndec c2, ih]
      by_cases c3 : x = y
      · rw [if_pos ⟨c3, by omega⟩, if_neg (by omega), Int.add_zero] at ih
        rw [br_dec c1, br_dec c2, br_dec c3, idx_eq (by omega) (gets c 0), chk_eq (by omega), br_dec c1, br_dec c2, br_nd c3, ih]
      · rw [if_neg (by omega), if_pos ⟨by omega, by omega, c3⟩, Int.add_zero] at ih
        rw [br_dec c1, br_dec c2, br_ndec c3, br_dec c1, br_dec c2, br_nnd c3, chk_eq (by omega), ih]
    · obtain rfl : t = W.length := by omega
      rw [br_ndec (by omega)]
      unfold agF slF
      rw [if_pos ⟨hi, hk⟩, if_pos ⟨hi, hk⟩]
theorem rpair_v (hN : 110 ≤ N) (h : Fine W s L F R) {i k : Nat} (hi : i < L.length) (hk : k < F.length) : rpair_S N W s L F R i k = some (agF W L F i k, slF W L F i k, canF W s L F i k) := by
  have e := rpair_l1_p (N := N) h hi hk N 0 (by have := h.w5; omega) (by omega)
  unfold rpair_S
  rw [show agP W (L.getD i []) (F.getD k []) 0 = 0 from rfl, show slP (L.getD i []) (F.getD k []) 0 = 0 from rfl, show ((0 : Nat) : Int) = 0 from rfl] at e
  rw [e]
  simp only [Option.bind_some]
  unfold canF canT
  by_cases c : 0 < agF W L F i k
  · rw [br_dec c, decide_eq_true c, Bool.true_and]
  · rw [br_ndec c, decide_eq_false c, Bool.false_and]
/-! ### Joins -/
def inm (m : Nat) (x : Int) : Bool := decide (-1 ≤ x ∧ x ≤ (m : Int) - 1)
def hasB (l : List Int) (x : Int) : Bool := l.any fun y => decide (x = y)
theorem hasB_iff {l : List Int} {x : Int} : hasB l x = true ↔ x ∈ l := by simp [hasB]
def dupI (l : List Int) (i : Nat) : Bool := decide (l.getD i 0 = -1) || !hasB (l.take i) (l.getD i 0)
def cnI (can : Nat → Nat → Bool) (l : List Int) (i : Nat) : Bool := decide (l.getD i 0 = -1) || can i (l.getD i 0).toNat
/-- The error of joins, e that of the desk. -/
def errJ (e : Int) (n m : Nat) (can : Nat → Nat → Bool) (l : List Int) : Int :=
  if ¬ e = 0 then e else if ¬ (l.length : Int) = (n : Int) then 2 else if l.all (inm m) = false then 1 else if alI (dupI l) l.length = false then 5 else if alI (cnI can l) l.length = false then 8 else 0
theorem dfound_v (h : F.length ≤ 1000000) (x : Int) : dfound_S N (dkT W s L F R A B) x = some (decide (0 ≤ x ∧ x ≤ (F.length : Int) - 1)) := by
  unfold dfound_S
  rw [in_v]
  exact chk_eq (by simp only [dkT]; omega)
theorem joined1_v (h : F.length ≤ 1000000) (x : Int) : joined1_S N x (dkT W s L F R A B) = some (inm F.length x) := by
  unfold joined1_S inm
  rw [dfound_v h]
  by_cases c : x = -1
  · rw [br_dec c, decide_eq_true (by omega)]
  · rw [br_ndec c]
    simp only [Option.bind_some]
    congr 1
    exact decide_eq_decide.2 (by omega)
theorem ixfj_gen (h : F.length ≤ 1000000) : ∀ (n : Nat) (l : List Int) (u u2 : Int), ixfj_l1 N n l u u2 (dkT W s L F R A B) = (ixL (fun x => some (!inm F.length x)) n l u u2).map fun r => match r with | .inl i => .inl (i, dkT W s L F R A B) | .inr _ => .inr (dkT W s L F R A B)
  | 0, _, _, _ => rfl
  | n + 1, l, u, u2 => by
    unfold ixfj_l1 ixL every1j_S
    simp only [joined1_v h, Option.bind_some, ixfj_gen h n]
    unfold br
    split
    · unfold idx
      split
      · cases l[u2.toNat]? with
        | none => rfl
        | some a =>
          dsimp only
          cases inm F.length a
          · rfl
          · simp only [Bool.not_true, Bool.false_eq_true, if_false]
            unfold chk
            split <;> rfl
      · rfl
    · rfl
theorem everyj_v (h : F.length ≤ 1000000) {l : List Int} (hl : l.length ≤ 1000000) (hN : l.length < N) : everyj_S N l (dkT W s L F R A B) = some (l.all (inm F.length)) := by
  unfold everyj_S cofj_S ixfj_S
  rw [← every_gen (f := fun x => some (inm F.length x)) (p := inm F.length) (s := l) (N := N) (fun x _ => rfl) hl hN]
  unfold ixS
  rw [ixfj_gen h]
  simp only [Option.bind_some]
  cases ixL (fun x => some (!inm F.length x)) N l l.length 0 with
  | none => rfl
  | some r => cases r <;> rfl
theorem indexi_gen (v : Int) : ∀ (n : Nat) (l : List Int) (u u2 : Int), indexi_l1 N n l v u u2 = ixL (fun x => some (decide (v = x))) n l u u2
  | 0, _, _, _ => rfl
  | n + 1, l, u, u2 => by unfold indexi_l1 ixL; simp only [indexi_gen v n, Option.bind_some]
theorem containsi_v {l : List Int} (hl : l.length ≤ 1000000) (hN : l.length < N) (v : Int) : containsi_S N l v = some (hasB l v) := by
  unfold containsi_S indexi_S hasB
  rw [← ixS_any (f := fun x => some (decide (v = x))) (s := l) (N := N) (fun x _ => rfl) hl hN]
  unfold ixS
  rw [indexi_gen] <;> rfl
theorem joined_l1_p {d : Dk} {l : List Int} (hl : l.length ≤ 1000000) (hN : l.length < N) : ∀ (n k : Nat), l.length < n + k → k ≤ l.length → joined_l1 N n l l l.length k d = allI (dupI l) l.length k (l, d)
  | 0, k, h, _ => by omega
  | n + 1, k, h, hk => by
    unfold joined_l1
    by_cases c : k < l.length
    · have ih := joined_l1_p (d := d) hl hN n (k + 1) (by omega) (by omega)
      rw [nat_succ] at ih
      have y := allI_yes (p := dupI l) (b := (l, d)) c
      have no := allI_no (p := dupI l) (b := (l, d)) c
      have ec : dupI l k = (decide (l.getD k 0 = -1) || !hasB (l.take k) (l.getD k 0)) := rfl
      rw [br_dec (by omega), idx_eq (by omega) (gets c 0)]
      by_cases c1 : l.getD k 0 = -1
      · rw [br_nd c1, chk_eq (by omega), ih, y (by rw [ec, decide_eq_true c1]; rfl)]
      · rw [br_nnd c1, grd_eq (by rw [decide_eq_true_eq]; omega), containsi_v (by simp; omega) (by simp; omega)]
        simp only [Option.bind_some, Int.toNat_natCast]
        rw [decide_eq_false c1, Bool.false_or] at ec
        cases hb : hasB (l.take k) (l.getD k 0)
        · rw [br_false, chk_eq (by omega), ih, y (by rw [ec, hb]; rfl)]
        · rw [br_true]
          exact (no (by rw [ec, hb]; rfl)).symm
    · rw [br_ndec (by omega), allI_end (by omega)]
theorem joined_l2_p {l : List Int} (hl : l.length ≤ 6) (hF : F.length ≤ 6) (hm : l.all (inm F.length) = true) : ∀ (n k : Nat), l.length < n + k → k ≤ l.length → joined_l2 N n l l.length k (dkT W s L F R A B) = allI (cnI (canT A B s) l) l.length k (dkT W s L F R A B)
  | 0, k, h, _ => by omega
  | n + 1, k, h, hk => by
    unfold joined_l2
    by_cases c : k < l.length
    · have ih := joined_l2_p hl hF hm n (k + 1) (by omega) (by omega)
      rw [nat_succ] at ih
      have y := allI_yes (p := cnI (canT A B s) l) (b := dkT W s L F R A B) c
      have no := allI_no (p := cnI (canT A B s) l) (b := dkT W s L F R A B) c
      have hx := List.all_eq_true.1 hm _ (getD_mem (d := 0) c)
      unfold inm at hx
      rw [decide_eq_true_eq] at hx
      have ec : cnI (canT A B s) l k = (decide (l.getD k 0 = -1) || canT A B s k (l.getD k 0).toNat) := rfl
      rw [br_dec (by omega), idx_eq (by omega) (gets c 0)]
      by_cases c1 : l.getD k 0 = -1
      · rw [br_nd c1, chk_eq (by omega), ih, y (by rw [ec, decide_eq_true c1]; rfl)]
      · obtain ⟨q, hq⟩ : ∃ q : Nat, l.getD k 0 = q := ⟨(l.getD k 0).toNat, by omega⟩
        rw [decide_eq_false c1, Bool.false_or] at ec
        rw [br_nnd c1]
        rw [hq] at hx ec ⊢
        rw [can_T (by omega) (by omega)]
        simp only [Option.bind_some, Int.toNat_natCast] at ec ⊢
        cases hb : canT A B s k q
        · rw [Bool.not_false, br_true]
          exact (no (by rw [ec, hb])).symm
        · rw [Bool.not_true, br_false, chk_eq (by omega), ih, y (by rw [ec, hb])]
    · rw [br_ndec (by omega), allI_end (by omega)]
theorem joined_v (hN : 110 ≤ N) (h : Sm W L F R) {l : List Int} (hl : l.length ≤ 100) : joined_S N W s L F R l = some (if errJ (errD W s L F R) L.length F.length (canF W s L F) l = 0 then .inl (dkO W s L F R, 0) else .inr (errJ (errD W s L F R) L.length F.length (canF W s L F) l)) := by
  unfold joined_S errJ
  rw [opened_v hN h]
  by_cases c : errD W s L F R = 0
  rotate_left
  · rw [if_neg c]
    simp only [Option.bind_some]
    rw [br_nnd c, if_pos c, if_neg c]
  have hF := errD_iff.1 c
  rw [if_pos c]
  simp only [Option.bind_some]
  rw [br_nd (by first | trivial | rfl), if_neg (not_not_intro c)]
  by_cases c1 : (l.length : Int) = (L.length : Int)
  rotate_left
  · rw [br_nnd c1, if_pos c1]; rfl
  have hl6 := hF.l6; have hf6 := hF.f6
  rw [br_nd c1, if_neg (not_not_intro c1)]
  unfold dkO
  rw [everyj_v (by omega) (by omega) (by omega)]
  simp only [Option.bind_some]
  by_cases c2 : l.all (inm F.length) = true
  rotate_left
  · rw [Bool.eq_false_iff.2 c2]; rfl
  have e1 := joined_l1_p (N := N) (d := dkT W s L F R (agF W L F) (slF W L F)) (l := l) (by omega) (by omega) N 0 (by omega) (by omega)
  have e2 := joined_l2_p (N := N) (W := W) (s := s) (L := L) (F := F) (R := R) (A := agF W L F) (B := slF W L F) (l := l) (by omega) hf6 c2 N 0 (by omega) (by omega)
  rw [show ((0 : Nat) : Int) = 0 from rfl, allI_0] at e1 e2
  rw [c2, Bool.not_true, br_false, e1]
  simp only [Bool.true_eq_false, if_false]
  by_cases c3 : alI (dupI l) l.length = true
  rotate_left
  · rw [if_neg c3, Bool.eq_false_iff.2 c3]; rfl
  rw [if_pos c3, c3]
  simp only [Option.bind_some]
  rw [e2]
  by_cases c4 : alI (cnI (canF W s L F) l) l.length = true
  rotate_left
  · rw [if_neg c4, Bool.eq_false_iff.2 c4]; rfl
  rw [if_pos c4, c4]
  simp only [Bool.true_eq_false, if_false]
  rfl
theorem rjoins_l1_p (hF : F.length ≤ 1000000) {l : List Int} (hl : l.length ≤ 1000000) : ∀ (n k : Nat), l.length < n + k → k ≤ l.length → rjoins_l1 N n l k W s L F R = alls (inm F.length) l k (l, W, s, L, F, R)
  | 0, k, h, _ => by omega
  | n + 1, k, h, hk => by
    unfold rjoins_l1
    by_cases c : k < l.length
    · have ih := rjoins_l1_p hF hl n (k + 1) (by omega) (by omega)
      rw [nat_succ] at ih
      rw [br_dec (by omega), idx_eq (by omega) (gets c 0), chk_eq (by omega), off_v]
      simp only [Option.bind_some]
      by_cases c1 : -1 ≤ l.getD k 0 ∧ l.getD k 0 ≤ (F.length : Int) - 1
      · rw [br_nd c1, chk_eq (by omega), ih, alls_yes 0 c (by unfold inm; rw [decide_eq_true c1])]
      · rw [br_nnd c1, alls_no 0 c (by unfold inm; rw [decide_eq_false c1])]
    · rw [br_ndec (by omega), alls_end (by omega)]
def neI (l : List Int) (i k : Nat) : Bool := !decide (0 ≤ l.getD i 0) || !decide (l.getD i 0 = l.getD k 0)
theorem rjoins_l3_p {l : List Int} (hl : l.length ≤ 1000000) {i : Nat} (hi : i < l.length) : ∀ (n k : Nat), i < n + k → k ≤ i → rjoins_l3 N n l i k W s L F R = allI (neI l i) i k (l, (i : Int), W, s, L, F, R)
  | 0, k, h, _ => by omega
  | n + 1, k, h, hk => by
    unfold rjoins_l3
    by_cases c : k < i
    · have ih := rjoins_l3_p hl hi n (k + 1) (by omega) (by omega)
      rw [nat_succ] at ih
      rw [br_dec (by omega), idx_eq (by omega) (gets hi 0)]
      by_cases c1 : 0 ≤ l.getD i 0
      · rw [br_dec c1, idx_eq (by omega) (gets hi 0), idx_eq (by omega) (gets (by omega) 0)]
        by_cases c2 : l.getD i 0 = l.getD k 0
        · rw [br_dec c2, allI_no c (by unfold neI; rw [decide_eq_true c1, decide_eq_true c2]; rfl)]
        · rw [br_ndec c2, chk_eq (by omega), ih, allI_yes c (by unfold neI; rw [decide_eq_false c2]; simp)]
      · rw [br_ndec c1, chk_eq (by omega), ih, allI_yes c (by unfold neI; rw [decide_eq_false c1]; rfl)]
    · rw [br_ndec (by omega), allI_end (by omega)]
theorem neI_dup {l : List Int} {m i : Nat} (hm : l.all (inm m) = true) (hi : i < l.length) : alI (neI l i) i = dupI l i := by
  have hx := List.all_eq_true.1 hm _ (getD_mem (d := 0) hi)
  unfold inm at hx
  rw [decide_eq_true_eq] at hx
  rw [Bool.eq_iff_iff, alI_iff]
  unfold neI dupI
  by_cases c : l.getD i 0 = -1
  · rw [decide_eq_true c]
    exact ⟨fun _ => rfl, fun _ k _ => by rw [decide_eq_false (by omega)]; rfl⟩
  · rw [decide_eq_false c, Bool.false_or, Bool.not_eq_true', ← Bool.not_eq_true, hasB_iff]
    constructor
    · intro h hmem
      obtain ⟨k, hk, e⟩ := List.getElem_of_mem hmem
      have hk2 : k < i := by simp at hk; omega
      have := h k hk2
      rw [decide_eq_true (by omega : 0 ≤ l.getD i 0)] at this
      simp only [Bool.not_true, Bool.false_or, Bool.not_eq_true', decide_eq_false_iff_not] at this
      apply this
      rw [← e]
      simp [List.getD, show k < l.length by omega]
    · intro h k hk
      have : l.getD i 0 ≠ l.getD k 0 := fun e => h (by
        rw [e]
        exact List.mem_iff_getElem.2 ⟨k, by simp; omega, by simp [List.getD, show k < l.length by omega]⟩)
      rw [decide_eq_false this]; simp
theorem rjoins_l2_p {l : List Int} (hl : l.length ≤ 1000000) (hN : l.length < N) {m : Nat} (hm : l.all (inm m) = true) : ∀ (n k : Nat), l.length < n + k → k ≤ l.length → rjoins_l2 N n l k W s L F R = allI (dupI l) l.length k (l, W, s, L, F, R)
  | 0, k, h, _ => by omega
  | n + 1, k, h, hk => by
    unfold rjoins_l2
    by_cases c : k < l.length
    · have ih := rjoins_l2_p hl hN hm n (k + 1) (by omega) (by omega)
      rw [nat_succ] at ih
      have e := rjoins_l3_p (N := N) (W := W) (s := s) (L := L) (F := F) (R := R) hl c N 0 (by omega) (by omega)
      rw [show ((0 : Nat) : Int) = 0 from rfl, allI_0, neI_dup hm c] at e
      rw [br_dec (by omega), e]
      cases hb : dupI l k
      · rw [allI_no c hb]; rfl
      · rw [allI_yes c hb, if_pos rfl, ← ih]
        simp only [Option.bind_some]
        rw [chk_eq (by omega)]
    · rw [br_ndec (by omega), allI_end (by omega)]
theorem rjoins_l4_p (hN : 110 ≤ N) (h : Fine W s L F R) {l : List Int} (hl : l.length = L.length) (hm : l.all (inm F.length) = true) : ∀ (n k : Nat), l.length < n + k → k ≤ l.length → rjoins_l4 N n l k W s L F R = allI (cnI (canF W s L F) l) l.length k ()
  | 0, k, hn, _ => by omega
  | n + 1, k, hn, hk => by
    unfold rjoins_l4
    have hl6 := h.l6; have hf6 := h.f6
    by_cases c : k < l.length
    · have ih := rjoins_l4_p hN h hl hm n (k + 1) (by omega) (by omega)
      rw [nat_succ] at ih
      have hj : rjoins_j1 N (rjoins_l4 N n) l k W s L F R = allI (cnI (canF W s L F) l) l.length (k + 1) () := by
        unfold rjoins_j1
        rw [chk_eq (by omega), ih]
      have y := allI_yes (p := cnI (canF W s L F) l) (b := ()) c
      have no := allI_no (p := cnI (canF W s L F) l) (b := ()) c
      have hx := List.all_eq_true.1 hm _ (getD_mem (d := 0) c)
      unfold inm at hx
      rw [decide_eq_true_eq] at hx
      rw [br_dec (by omega), idx_eq (by omega) (gets c 0), hj]
      have ec : cnI (canF W s L F) l k = (decide (l.getD k 0 = -1) || canF W s L F k (l.getD k 0).toNat) := rfl
      by_cases c1 : l.getD k 0 = -1
      · rw [br_dec (by omega), y (by rw [ec, decide_eq_true c1]; rfl)]
      · obtain ⟨q, hq⟩ : ∃ q : Nat, l.getD k 0 = q := ⟨(l.getD k 0).toNat, by omega⟩
        rw [decide_eq_false c1, Bool.false_or] at ec
        rw [br_ndec (by omega), idx_eq (by omega) (gets c 0)]
        rw [hq] at hx ec ⊢
        rw [rpair_v hN h (by omega) (by omega)]
        simp only [Option.bind_some, Int.toNat_natCast] at ec ⊢
        rw [ec] at y no
        cases hb : canF W s L F k q
        · rw [no hb]; rfl
        · rw [y hb]; rfl
    · rw [br_ndec (by omega), allI_end (by omega)]
theorem rjoins_v (hN : 110 ≤ N) (h : Sm W L F R) {l : List Int} (hl : l.length ≤ 100) : rjoins_S N W s L F R l = some (errJ (errD W s L F R) L.length F.length (canF W s L F) l) := by
  unfold rjoins_S errJ
  rw [rcheck_v hN h]
  simp only [Option.bind_some]
  by_cases c : errD W s L F R = 0
  rotate_left
  · rw [br_nnd c, if_pos c]
  have hF := errD_iff.1 c
  rw [br_nd c, if_neg (not_not_intro c)]
  by_cases c1 : (l.length : Int) = (L.length : Int)
  rotate_left
  · rw [br_nnd c1, if_pos c1]
  have hl6 := hF.l6; have hf6 := hF.f6
  have e0 := rjoins_l1_p (N := N) (W := W) (s := s) (L := L) (R := R) (F := F) (by omega) (l := l) (by omega) N 0 (by omega) (by omega)
  rw [show ((0 : Nat) : Int) = 0 from rfl] at e0
  unfold alls at e0
  rw [List.drop_zero] at e0
  rw [br_nd c1, if_neg (not_not_intro c1), e0]
  by_cases c2 : l.all (inm F.length) = true
  rotate_left
  · rw [if_neg c2, Bool.eq_false_iff.2 c2]; rfl
  have e1 := rjoins_l2_p (N := N) (W := W) (s := s) (L := L) (F := F) (R := R) (l := l) (by omega) (by omega) c2 N 0 (by omega) (by omega)
  have e2 := rjoins_l4_p hN hF (by omega) c2 N 0 (by omega) (by omega)
  rw [show ((0 : Nat) : Int) = 0 from rfl, allI_0] at e1 e2
  rw [if_pos c2, c2, if_neg (by simp)]
  simp only [Option.bind_some]
  rw [e1]
  by_cases c3 : alI (dupI l) l.length = true
  rotate_left
  · rw [if_neg c3, Bool.eq_false_iff.2 c3]; rfl
  rw [if_pos c3, c3]
  simp only [Option.bind_some]
  rw [e2]
  by_cases c4 : alI (cnI (canF W s L F) l) l.length = true
  rotate_left
  · rw [if_neg c4, Bool.eq_false_iff.2 c4]; rfl
  rw [if_pos c4, c4]; rfl
end
end Go.Proofs.Ythncjilcflilcaa

namespace Go.Proofs.Ythncjilcflilcaa
set_option linter.all false
open Go

section
variable {N : Nat}
theorem sum_l1_p {l : List Int} {m : Int} (hl : l.length ≤ 1000) (hm : 0 ≤ m ∧ m ≤ 1000) (hr : ∀ x ∈ l, -m ≤ x ∧ x ≤ m) : ∀ (n k : Nat) (s : Int), l.length < n + k → k ≤ l.length → (-(m * k) ≤ s ∧ s ≤ m * k) → sum_l1 N n s l l.length k = some (s + (l.drop k).sum)
  | 0, k, s, h, _, _ => by omega
  | n + 1, k, s, h, hk, hs => by
    unfold sum_l1
    have hmk : m * (k : Int) ≤ 1000 * 1000 := Int.mul_le_mul hm.2 (by omega) (by omega) (by omega)
    by_cases c : k < l.length
    · have hx := hr _ (getD_mem (d := 0) c)
      have g := gets c 0
      rw [drop_cons c 0]
      generalize l.getD k 0 = x at *
      have e : m * ((k + 1 : Nat) : Int) = m * k + m := by rw [Int.natCast_add, Int.mul_add]; simp
      have ih := sum_l1_p hl hm hr n (k + 1) (s + x) (by omega) (by omega) (by omega)
      rw [nat_succ] at ih
      rw [br_dec (by omega), idx_eq (by omega) g, chk_eq (by omega), chk_eq (by omega), ih, List.sum_cons]
      congr 1; omega
    · rw [br_ndec (by omega), List.drop_of_length_le (by omega)]; simp
theorem sum_v {l : List Int} {m : Int} (hl : l.length ≤ 1000) (hN : l.length < N) (hm : 0 ≤ m ∧ m ≤ 1000) (hr : ∀ x ∈ l, -m ≤ x ∧ x ≤ m) : sum_S N l = some l.sum := by
  unfold sum_S
  have := sum_l1_p (N := N) hl hm hr N 0 0 (by omega) (by omega) (by simp)
  simp only [Int.natCast_zero, List.drop_zero, Int.zero_add] at this
  rw [this]; rfl
end
/-- What joins count, one by one. -/
def wlJ (t : Nat → Nat → Int) : Nat → List Int → List Int
  | _, [] => []
  | i, x :: l => (if x = -1 then [] else [t i x.toNat]) ++ wlJ t (i + 1) l
theorem wlJ_sum (t : Nat → Nat → Int) : ∀ (l : List Int) (i : Nat), (wlJ t i l).sum = valJ t i l
  | [], _ => rfl
  | x :: l, i => by
    rw [wlJ, valJ, List.sum_append, wlJ_sum t l (i + 1)]
    unfold pv
    split <;> simp
theorem wlJ_len (t : Nat → Nat → Int) : ∀ (l : List Int) (i : Nat), (wlJ t i l).length ≤ l.length
  | [], _ => Nat.le_refl _
  | x :: l, i => by
    have := wlJ_len t l (i + 1)
    rw [wlJ, List.length_append, List.length_cons]
    split <;> simp <;> omega
theorem wlJ_bound {t : Nat → Nat → Int} {m : Int} (h : ∀ i k, 0 ≤ t i k ∧ t i k ≤ m) : ∀ (l : List Int) (i : Nat), ∀ x ∈ wlJ t i l, 0 ≤ x ∧ x ≤ m
  | [], _, x, hx => by cases hx
  | y :: l, i, x, hx => by
    rw [wlJ, List.mem_append] at hx
    rcases hx with hx | hx
    · split at hx
      · cases hx
      · simp only [List.mem_singleton] at hx
        subst hx; exact h _ _
    · exact wlJ_bound h l (i + 1) x hx
section
variable {W : List Int} {s : Int} {L F : List (List Int)} {R : List Int} {A B : Nat → Nat → Int} {N : Nat}
theorem dworth_l1_p {l : List Int} (hl : l.length ≤ 6) (hF : F.length ≤ 6) (hm : l.all (inm F.length) = true) : ∀ (n k : Nat) (acc : List Int), l.length < n + k → k ≤ l.length → acc.length ≤ k → dworth_l1 N n (dkT W s L F R A B) l l.length k acc = some (acc ++ wlJ A k (l.drop k))
  | 0, k, _, h, _, _ => by omega
  | n + 1, k, acc, h, hk, ha => by
    unfold dworth_l1
    by_cases c : k < l.length
    · have hx := List.all_eq_true.1 hm _ (getD_mem (d := 0) c)
      unfold inm at hx
      rw [decide_eq_true_eq] at hx
      have hj : ∀ acc, acc.length ≤ k + 1 → dworth_j1 N (dworth_l1 N n) (dkT W s L F R A B) l l.length k acc = some (acc ++ wlJ A (k + 1) (l.drop (k + 1))) := fun acc ha => by
        have ih := dworth_l1_p hl hF hm n (k + 1) acc (by omega) (by omega) ha
        rw [nat_succ] at ih
        unfold dworth_j1
        rw [chk_eq (by omega), ih]
      rw [br_dec (by omega), idx_eq (by omega) (gets c 0), drop_cons c 0, wlJ]
      by_cases c1 : l.getD k 0 = -1
      · rw [br_nd c1, hj _ (by omega), if_pos c1, List.nil_append]
      · obtain ⟨q, hq⟩ : ∃ q : Nat, l.getD k 0 = q := ⟨(l.getD k 0).toNat, by omega⟩
        rw [br_nnd c1, if_neg c1]
        rw [hq] at hx ⊢
        rw [rng_eq (by omega), rng_eq (by omega)]
        simp only [Int.toNat_natCast]
        rw [get_T (by omega) (by omega), lim_eq (by simp; omega), hj _ (by simp; omega), List.append_assoc]
    · rw [br_ndec (by omega), List.drop_of_length_le (by omega)]
      simp [wlJ]
theorem dworth_v (hN : 110 ≤ N) (hA : ∀ i k, 0 ≤ A i k ∧ A i k ≤ 50) {l : List Int} (hl : l.length ≤ 6) (hF : F.length ≤ 6) (hm : l.all (inm F.length) = true) : dworth_S N (dkT W s L F R A B) l = some (valJ A 0 l) := by
  have e := dworth_l1_p (N := N) (W := W) (s := s) (L := L) (F := F) (R := R) (A := A) (B := B) hl hF hm N 0 [] (by omega) (by omega) (by simp)
  have h1 := wlJ_len A l 0
  rw [show ((0 : Nat) : Int) = 0 from rfl, List.drop_zero, List.nil_append] at e
  unfold dworth_S
  rw [e]
  simp only [Option.bind_some]
  rw [sum_v (m := 1000) (by omega) (by omega) (by omega) (fun x hx => by have := wlJ_bound hA l 0 x hx; omega), wlJ_sum]; rfl
theorem dreward_l1_p {l : List Int} (hl : l.length ≤ 6) (hR : l.length ≤ R.length) : ∀ (n k : Nat) (acc : List Int), l.length < n + k → k ≤ l.length → acc.length ≤ k → dreward_l1 N n (dkT W s L F R A B) l l.length k acc = some (acc ++ wlJ (fun i _ => R.getD i 0) k (l.drop k))
  | 0, k, _, h, _, _ => by omega
  | n + 1, k, acc, h, hk, ha => by
    unfold dreward_l1
    by_cases c : k < l.length
    · have hj : ∀ acc, acc.length ≤ k + 1 → dreward_j1 N (dreward_l1 N n) (dkT W s L F R A B) l l.length k acc = some (acc ++ wlJ (fun i _ => R.getD i 0) (k + 1) (l.drop (k + 1))) := fun acc ha => by
        have ih := dreward_l1_p hl hR n (k + 1) acc (by omega) (by omega) ha
        rw [nat_succ] at ih
        unfold dreward_j1
        rw [chk_eq (by omega), ih]
      rw [br_dec (by omega), idx_eq (by omega) (gets c 0), drop_cons c 0, wlJ]
      by_cases c1 : l.getD k 0 = -1
      · rw [br_nd c1, hj _ (by omega), if_pos c1, List.nil_append]
      · rw [br_nnd c1, if_neg c1, idx_eq (by omega) (show (dkT W s L F R A B).2.2.2.2.1[((k : Nat) : Int).toNat]? = some (R.getD k 0) from gets (l := R) (by omega) 0), lim_eq (by simp; omega), hj _ (by simp; omega), List.append_assoc]
    · rw [br_ndec (by omega), List.drop_of_length_le (by omega)]
      simp [wlJ]
theorem getD_R (hr : ∀ x ∈ R, 0 ≤ x ∧ x ≤ 99) (t : Nat) : 0 ≤ R.getD t 0 ∧ R.getD t 0 ≤ 99 := by
  by_cases h : t < R.length
  · exact hr _ (getD_mem (d := 0) h)
  · have : R.getD t 0 = 0 := by simp [List.getD, List.getElem?_eq_none (show R.length ≤ t by omega)]
    omega
theorem dreward_v (hN : 110 ≤ N) (hr : ∀ x ∈ R, 0 ≤ x ∧ x ≤ 99) {l : List Int} (hl : l.length ≤ 6) (hR : l.length ≤ R.length) : dreward_S N (dkT W s L F R A B) l = some (valJ (fun i _ => R.getD i 0) 0 l) := by
  have e := dreward_l1_p (N := N) (W := W) (s := s) (L := L) (F := F) (R := R) (A := A) (B := B) hl hR N 0 [] (by omega) (by omega) (by simp)
  have h1 := wlJ_len (fun i _ => R.getD i 0) l 0
  rw [show ((0 : Nat) : Int) = 0 from rfl, List.drop_zero, List.nil_append] at e
  unfold dreward_S
  rw [e]
  simp only [Option.bind_some]
  rw [sum_v (m := 1000) (by omega) (by omega) (by omega) (fun x hx => by have := wlJ_bound (t := fun i _ => R.getD i 0) (fun i _ => getD_R hr i) l 0 x hx; omega), wlJ_sum]; rfl
theorem rworth_l1_p (hN : 110 ≤ N) (h : Fine W s L F R) {l : List Int} (hl : l.length ≤ L.length) (hm : l.all (inm F.length) = true) : ∀ (n k : Nat) (x : Int), l.length < n + k → k ≤ l.length → 0 ≤ x ∧ x ≤ 50 * k → rworth_l1 N n l x k W s L F R = some (x + valJ (agF W L F) k (l.drop k))
  | 0, k, _, h, _, _ => by omega
  | n + 1, k, x, hn, hk, hx0 => by
    unfold rworth_l1
    have hl6 := h.l6
    by_cases c : k < l.length
    · have hx := List.all_eq_true.1 hm _ (getD_mem (d := 0) c)
      unfold inm at hx
      rw [decide_eq_true_eq] at hx
      have hj : ∀ x, 0 ≤ x ∧ x ≤ 50 * ((k : Int) + 1) → rworth_j1 N (rworth_l1 N n) l x k W s L F R = some (x + valJ (agF W L F) (k + 1) (l.drop (k + 1))) := fun x hx0 => by
        have ih := rworth_l1_p hN h hl hm n (k + 1) x (by omega) (by omega) (by omega)
        rw [nat_succ] at ih
        unfold rworth_j1
        rw [chk_eq (by omega), ih]
      rw [br_dec (by omega), idx_eq (by omega) (gets c 0), drop_cons c 0, valJ]
      by_cases c1 : l.getD k 0 = -1
      · rw [br_ndec (by omega), hj _ (by omega), c1, pv_none, Int.zero_add]
      · obtain ⟨q, hq⟩ : ∃ q : Nat, l.getD k 0 = q := ⟨(l.getD k 0).toNat, by omega⟩
        rw [br_dec (by omega), idx_eq (by omega) (gets c 0)]
        rw [hq] at hx ⊢
        have hb := agF_bound h k q
        rw [rpair_v hN h (by omega) (by omega), pv_some]
        simp only [Option.bind_some]
        rw [chk_eq (by omega), hj _ (by omega)]
        congr 1; omega
    · rw [br_ndec (by omega), List.drop_of_length_le (by omega)]
      simp [valJ]
theorem rworth_v (hN : 110 ≤ N) (h : Fine W s L F R) {l : List Int} (hl : l.length ≤ L.length) (hm : l.all (inm F.length) = true) : rworth_S N W s L F R l = some (valJ (agF W L F) 0 l) := by
  have e := rworth_l1_p hN h hl hm N 0 0 (by have := h.l6; omega) (by omega) (by omega)
  rw [show ((0 : Nat) : Int) = 0 from rfl, List.drop_zero, Int.zero_add] at e
  unfold rworth_S
  rw [e]; rfl
theorem rreward_l1_p (h : Fine W s L F R) {l : List Int} (hl : l.length ≤ L.length) (hm : l.all (inm F.length) = true) : ∀ (n k : Nat) (x : Int), l.length < n + k → k ≤ l.length → 0 ≤ x ∧ x ≤ 99 * k → rreward_l1 N n l x k W s L F R = some (x + valJ (fun i _ => R.getD i 0) k (l.drop k))
  | 0, k, _, h, _, _ => by omega
  | n + 1, k, x, hn, hk, hx0 => by
    unfold rreward_l1
    have hl6 := h.l6; have hrl := h.rl
    by_cases c : k < l.length
    · have hx := List.all_eq_true.1 hm _ (getD_mem (d := 0) c)
      unfold inm at hx
      rw [decide_eq_true_eq] at hx
      have hj : ∀ x, 0 ≤ x ∧ x ≤ 99 * ((k : Int) + 1) → rreward_j1 N (rreward_l1 N n) l x k W s L F R = some (x + valJ (fun i _ => R.getD i 0) (k + 1) (l.drop (k + 1))) := fun x hx0 => by
        have ih := rreward_l1_p h hl hm n (k + 1) x (by omega) (by omega) (by omega)
        rw [nat_succ] at ih
        unfold rreward_j1
        rw [chk_eq (by omega), ih]
      rw [br_dec (by omega), idx_eq (by omega) (gets c 0), drop_cons c 0, valJ]
      by_cases c1 : l.getD k 0 = -1
      · rw [br_ndec (by omega), hj _ (by omega), c1, pv_none, Int.zero_add]
      · have hb := getD_R h.r k
        have e : pv (fun i _ => R.getD i 0) k (l.getD k 0) = R.getD k 0 := if_neg c1
        rw [br_dec (by omega), idx_eq (by omega) (gets (by omega) 0), chk_eq (by omega), hj _ (by omega), e]
        congr 1; omega
    · rw [br_ndec (by omega), List.drop_of_length_le (by omega)]
      simp [valJ]
theorem rreward_v (hN : 110 ≤ N) (h : Fine W s L F R) {l : List Int} (hl : l.length ≤ L.length) (hm : l.all (inm F.length) = true) : rreward_S N W s L F R l = some (valJ (fun i _ => R.getD i 0) 0 l) := by
  have e := rreward_l1_p (N := N) h hl hm N 0 0 (by have := h.l6; omega) (by omega) (by omega)
  rw [show ((0 : Nat) : Int) = 0 from rfl, List.drop_zero, Int.zero_add] at e
  unfold rreward_S
  rw [e]; rfl
/-- What joins without an error are. -/
theorem errJ_fine {e : Int} {n m : Nat} {can : Nat → Nat → Bool} {l : List Int} (h : errJ e n m can l = 0) : e = 0 ∧ l.length = n ∧ l.all (inm m) = true ∧ alI (dupI l) l.length = true ∧ alI (cnI can l) l.length = true := by
  unfold errJ at h
  split at h
  · rename_i c; exact absurd h c
  rename_i c
  split at h
  · cases h
  rename_i c1
  split at h
  · cases h
  rename_i c2
  split at h
  · cases h
  rename_i c3
  split at h
  · cases h
  rename_i c4
  exact ⟨by omega, by omega, by simpa using c2, by simpa using c3, by simpa using c4⟩
theorem lworth_v (hN : 110 ≤ N) (h : Sm W L F R) {l : List Int} (hl : l.length ≤ 100) : lworth__S N W s L F R l = some (if errJ (errD W s L F R) L.length F.length (canF W s L F) l = 0 then (valJ (agF W L F) 0 l, 0) else (0, errJ (errD W s L F R) L.length F.length (canF W s L F) l)) := by
  unfold lworth__S
  rw [joined_v hN h hl]
  by_cases c : errJ (errD W s L F R) L.length F.length (canF W s L F) l = 0
  · obtain ⟨c1, c2, c3, _⟩ := errJ_fine c
    have hF := errD_iff.1 c1
    have hl6 := hF.l6
    rw [if_pos c, if_pos c]
    simp only [Option.bind_some]
    unfold dkO
    rw [br_nd (by first | trivial | rfl), dworth_v hN (agF_bound hF) (by omega) hF.f6 c3]; rfl
  · rw [if_neg c, if_neg c]
    simp only [Option.bind_some]
    rw [br_nnd c]
theorem lreward_v (hN : 110 ≤ N) (h : Sm W L F R) {l : List Int} (hl : l.length ≤ 100) : lreward__S N W s L F R l = some (if errJ (errD W s L F R) L.length F.length (canF W s L F) l = 0 then (valJ (fun i _ => R.getD i 0) 0 l, 0) else (0, errJ (errD W s L F R) L.length F.length (canF W s L F) l)) := by
  unfold lreward__S
  rw [joined_v hN h hl]
  by_cases c : errJ (errD W s L F R) L.length F.length (canF W s L F) l = 0
  · obtain ⟨c1, c2, c3, _⟩ := errJ_fine c
    have hF := errD_iff.1 c1
    have hl6 := hF.l6; have hrl := hF.rl
    rw [if_pos c, if_pos c]
    simp only [Option.bind_some]
    unfold dkO
    rw [br_nd (by first | trivial | rfl), dreward_v hN hF.r (by omega) (by omega)]; rfl
  · rw [if_neg c, if_neg c]
    simp only [Option.bind_some]
    rw [br_nnd c]
/-! ### What may be joined -/
def mayE (can : Nat → Nat → Bool) (m i : Nat) : List (Int × Unit) := (mayL can m i).map fun (j : Nat) => ((j : Int), ())
theorem mayR_T (hF : F.length ≤ 6) {i : Nat} (hi : i < 6) : mayR (dkT W s L F R A B) (dkT W s L F R A B) i = some (mayE (canT A B s) F.length i) := by
  unfold mayR mayE mayL mayF
  rw [if_pos ⟨⟨by omega, by omega⟩, hF, tabA_len _, tabA_len _⟩]
  congr 2
  simp only [Int.toNat_natCast, Nat.sub_zero]
  rw [← List.range_eq_range']
  refine List.filter_congr fun k hk => ?_
  have hk : k < F.length := by simpa [dkT] using hk
  unfold canD canT
  rw [agD_T hi (by omega), slD_T hi (by omega)]; rfl
end
end Go.Proofs.Ythncjilcflilcaa

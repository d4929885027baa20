/-
  Parts of a proof, put together: F3, F4, Fm3, FD1, FD2.
  Conditions: none.
-/
import Derived.Test.YthncjilcflilcaaZd
import Derived.Test.YthncjilcflilcaaZf
namespace Go.Proofs.Ythncjilcflilcaa
set_option linter.all false
open Go

def copyi_S (N : Nat) (l : Li) : Option Li :=
  grd (lmI (l.length : Int)) <|
  some (l.take (min l.length (List.replicate (l.length : Int).toNat (0 : Int)).length) ++ (List.replicate (l.length : Int).toNat (0 : Int)).drop (min l.length (List.replicate (l.length : Int).toNat (0 : Int)).length))
noncomputable def copyi_sp (N : Nat) : List Spec := []
theorem copyi_all (N : Nat) : AllP (SpecOK Try.prog) (copyi_sp N) := trivial
noncomputable def copyi_c : Code := (Try.f23.body).getD .skip
noncomputable abbrev copyi_B : Body := { c := copyi_c, n := 11, res := [.tmp 2], outs := [⟨[shL], []⟩], m0 := 0 }
abbrev copyi_rt : altD copyi_B.outs → Option Li := fun r => some r.1.1
abbrev copyi_st : Sta := ⟨[0], ⟨[shL], []⟩⟩
theorem copyi_eq (N : Nat) (l : Li) : ev (Z := Li) Try.prog (copyi_sp N) copyi_B [] [] (some copyi_rt) 400 false [.c [0], .c [1]] (stL copyi_st ((l, ()), ())) (stH copyi_st ((l, ()), ())) = copyi_S N l := by kernel_rfl
noncomputable def sp_copyi (N : Nat) : Spec := { f := 23, ins := ⟨[shL], []⟩, outs := [⟨[shL], []⟩], run := fun p k => (copyi_S N p.1.1).bind fun r => k ((r, ()), ()) }
theorem sp_copyi_ok (N : Nat) : SpecOK Try.prog (sp_copyi N) := fn_sound (B := copyi_B) (loops := []) (leaves := []) (fun p => copyi_S N p.1.1) (fun r => ((r, ()), ())) copyi_rt (fun _ _ _ => rfl) (fun r z h => by cases h; rfl) Try.func23 (by kernel_rfl) (by kernel_rfl) (by kernel_rfl) rfl rfl (by kernel_rfl) (fun args w => Sem.pv_run _ _ _ (by kernel_rfl) w) (copyi_all N) mixed trivial (fun z E Xc hE hX hret => trivial) (fun p => copyi_eq N p.1.1)

def copyr_l1 (N : Nat) : Nat → Ll → Int → Int → Ll → Option Ll
  | 0, _, _, _, _ => none
  | n_ + 1, u, u2, u3, out =>
    br (decide (u3 < u2))
      (idx u u3 fun x_1 =>
      (copyi_S N x_1).bind fun x_2 =>
      rng u3 out.length <|
      get out u3.toNat fun _ =>
      chk (u3 + 1) <|
      copyr_l1 N n_ u u2 (u3 + 1) (out.set u3.toNat x_2))
      (some (out))
def copyr_S (N : Nat) (l : Ll) : Option Ll :=
  grd (lmI (l.length : Int)) <|
  (copyr_l1 N N l (l.length : Int) 0 (List.replicate (l.length : Int).toNat ([] : Li))).bind fun out_4 =>
  some out_4
noncomputable def copyr_sp (N : Nat) : List Spec := [sp_copyi N]
theorem copyr_all (N : Nat) : AllP (SpecOK Try.prog) (copyr_sp N) := ⟨sp_copyi_ok N, trivial⟩
noncomputable def copyr_c : Code := (Try.f80.body).getD .skip
noncomputable abbrev copyr_B : Body := { c := copyr_c, n := 23, res := [.tmp 2], outs := [⟨[shQ], []⟩], m0 := 0 }
abbrev copyr_rt : altD copyr_B.outs → Option Ll := fun r => some r.1.1
abbrev copyr_l1_at : List PI := [.c [1, 1, 0, 1, 0, 0, 0], .c [1, 1, 0, 1, 0, 0, 1], .l [1, 1, 0, 1, 0, 0], .b 0, .c [1, 1, 1]]
abbrev copyr_l1_st : Sta := ⟨[3, 9, 10, 11], ⟨[.ols 0, shQ, shI, shI], [.lst (.sl (.int .i64))]⟩⟩
abbrev copyr_l1_h (rec : Ll → Int → Int → Ll → Option Ll) : Leaf Ll := ⟨copyr_l1_at, copyr_l1_st, fun p => rec p.1.2.1 p.1.2.2.1 p.1.2.2.2.1 p.2.1⟩
abbrev copyr_l1_e0 : Leaf Ll := ⟨[.c [1, 1, 1, 0], .c [1, 1, 1, 1]], ⟨[3], ⟨[.ols 0], [.lst (.sl (.int .i64))]⟩⟩, fun p => some (p.2.1)⟩
noncomputable def copyr_l1_L (N : Nat) : LoopS := { at_ := copyr_l1_at, sta := copyr_l1_st, exits := [([.c [1, 1, 1, 0], .c [1, 1, 1, 1]], ⟨[3], ⟨[.ols 0], [.lst (.sl (.int .i64))]⟩⟩)], run := fun p k => (copyr_l1 N N p.1.2.1 p.1.2.2.1 p.1.2.2.2.1 p.2.1).bind fun e => k (.inl (((), ()), (e, ()))) }
theorem copyr_l1_eq (N n_ : Nat) (u : Ll) (u2 : Int) (u3 : Int) (out : Ll) : ev (Z := Ll) Try.prog (copyr_sp N) copyr_B [] [copyr_l1_h (copyr_l1 N n_), copyr_l1_e0] none 400 true copyr_l1_at (stL copyr_l1_st (((), u, u2, u3, ()), (out, ()))) (stH copyr_l1_st (((), u, u2, u3, ()), (out, ()))) = copyr_l1 N (n_ + 1) u u2 u3 out := by kernel_rfl
theorem copyr_l1_ok (N : Nat) {top : Bool} : LoopOK Try.prog copyr_B.c copyr_B.n copyr_B.m0 top (copyr_l1_L N) := loop_of_ev (Z := Ll) (N := N) (fun m p => copyr_l1 N m p.1.2.1 p.1.2.2.1 p.1.2.2.2.1 p.2.1) (fun e => .inl (((), ()), (e, ()))) (fun _ _ _ => rfl) (fun _ => rfl) (fun m z E Xc hE hX hrec hx => leaf_of_ev (B := copyr_B) (loops := []) (leaves := [copyr_l1_h (copyr_l1 N m), copyr_l1_e0]) (copyr_all N) mixed trivial hE hX ⟨hrec, (fun p hp => by obtain rfl := Option.some.inj hp; exact hx), trivial⟩ RetOK.no (fun p => copyr_l1_eq N m p.1.2.1 p.1.2.2.1 p.1.2.2.2.1 p.2.1))
abbrev copyr_st : Sta := ⟨[0], ⟨[shQ], []⟩⟩
theorem copyr_eq (N : Nat) (l : Ll) : ev (Z := Ll) Try.prog (copyr_sp N) copyr_B [copyr_l1_L N] [] (some copyr_rt) 400 false [.c [0], .c [1]] (stL copyr_st ((l, ()), ())) (stH copyr_st ((l, ()), ())) = copyr_S N l := by kernel_rfl
noncomputable def sp_copyr (N : Nat) : Spec := { f := 80, ins := ⟨[shQ], []⟩, outs := [⟨[shQ], []⟩], run := fun p k => (copyr_S N p.1.1).bind fun r => k ((r, ()), ()) }
theorem sp_copyr_ok (N : Nat) : SpecOK Try.prog (sp_copyr N) := fn_sound (B := copyr_B) (loops := [copyr_l1_L N]) (leaves := []) (fun p => copyr_S N p.1.1) (fun r => ((r, ()), ())) copyr_rt (fun _ _ _ => rfl) (fun r z h => by cases h; rfl) Try.func80 (by kernel_rfl) (by kernel_rfl) (by kernel_rfl) rfl rfl (by kernel_rfl) (fun args w => Sem.pv_run _ _ _ (by kernel_rfl) w) (copyr_all N) mixed ⟨copyr_l1_ok N, trivial⟩ (fun z E Xc hE hX hret => trivial) (fun p => copyr_eq N p.1.1)

def copyd_S (N : Nat) (d : Li) (d2 : Int) (d3 : Ll) (d4 : Ll) (d5 : Li) : Option (Li × Int × Ll × Ll × Li) :=
  (copyi_S N d).bind fun x_1 =>
  (copyr_S N d3).bind fun x_2 =>
  (copyr_S N d4).bind fun x_3 =>
  (copyi_S N d5).bind fun x_4 =>
  some (x_1, d2, x_2, x_3, x_4)
noncomputable def copyd_sp (N : Nat) : List Spec := [sp_copyi N, sp_copyr N]
theorem copyd_all (N : Nat) : AllP (SpecOK Try.prog) (copyd_sp N) := ⟨sp_copyi_ok N, sp_copyr_ok N, trivial⟩
noncomputable def copyd_c : Code := (Try.f27.body).getD .skip
noncomputable abbrev copyd_B : Body := { c := copyd_c, n := 18, res := [.cell 2 26], outs := [⟨[shG], []⟩], m0 := 0 }
abbrev copyd_rt : altD copyd_B.outs → Option (Li × Int × Ll × Ll × Li) := fun r => some (r.1.1.1, r.1.1.2.1, r.1.1.2.2.1, r.1.1.2.2.2.1, r.1.1.2.2.2.2.1)
abbrev copyd_st : Sta := ⟨[0], ⟨[shG], []⟩⟩
theorem copyd_eq (N : Nat) (d : Li) (d2 : Int) (d3 : Ll) (d4 : Ll) (d5 : Li) : ev (Z := Li × Int × Ll × Ll × Li) Try.prog (copyd_sp N) copyd_B [] [] (some copyd_rt) 400 false [.c [0], .c [1]] (stL copyd_st (((d, d2, d3, d4, d5, ()), ()), ())) (stH copyd_st (((d, d2, d3, d4, d5, ()), ()), ())) = copyd_S N d d2 d3 d4 d5 := by kernel_rfl
noncomputable def sp_copyd (N : Nat) : Spec := { f := 27, ins := ⟨[shG], []⟩, outs := [⟨[shG], []⟩], run := fun p k => (copyd_S N p.1.1.1 p.1.1.2.1 p.1.1.2.2.1 p.1.1.2.2.2.1 p.1.1.2.2.2.2.1).bind fun r => k (((r.1, r.2.1, r.2.2.1, r.2.2.2.1, r.2.2.2.2, ()), ()), ()) }
theorem sp_copyd_ok (N : Nat) : SpecOK Try.prog (sp_copyd N) := fn_sound (B := copyd_B) (loops := []) (leaves := []) (fun p => copyd_S N p.1.1.1 p.1.1.2.1 p.1.1.2.2.1 p.1.1.2.2.2.1 p.1.1.2.2.2.2.1) (fun r => (((r.1, r.2.1, r.2.2.1, r.2.2.2.1, r.2.2.2.2, ()), ()), ())) copyd_rt (fun _ _ _ => rfl) (fun r z h => by cases h; rfl) Try.func27 (by kernel_rfl) (by kernel_rfl) (by kernel_rfl) rfl rfl (by kernel_rfl) (fun args w => Sem.pv_run _ _ _ (by kernel_rfl) w) (copyd_all N) mixed trivial (fun z E Xc hE hX hret => trivial) (fun p => copyd_eq N p.1.1.1 p.1.1.2.1 p.1.1.2.2.1 p.1.1.2.2.2.1 p.1.1.2.2.2.2.1)

def equalf_l1 (N : Nat) : Nat → Ll → Ll → Int → Int → Option ((Unit) ⊕ (Unit))
  | 0, _, _, _, _ => none
  | n_ + 1, s2, u, u2, u3 =>
    br (decide (u3 < u2))
      (idx u u3 fun x_1 =>
      idx s2 u3 fun x_2 =>
      (equali_S N x_1 x_2).bind fun x_3 =>
      br (!x_3)
        (some (.inl ()))
        (chk (u3 + 1) <|
        equalf_l1 N n_ s2 u u2 (u3 + 1)))
      (some (.inr ()))
def equalf_S (N : Nat) (s1 : Ll) (s2 : Ll) : Option Bool :=
  br (!decide ((s1.length : Int) = (s2.length : Int)))
    (some false)
    ((equalf_l1 N N s2 s1 (s1.length : Int) 0).bind fun e => match e with
    | .inl _ =>
      some false
    | .inr _ =>
      some true)
noncomputable def equalf_sp (N : Nat) : List Spec := [sp_equali N]
theorem equalf_all (N : Nat) : AllP (SpecOK Try.prog) (equalf_sp N) := ⟨sp_equali_ok N, trivial⟩
noncomputable def equalf_c : Code := (Try.f119.body).getD .skip
noncomputable abbrev equalf_B : Body := { c := equalf_c, n := 32, res := [.tmp 6], outs := [⟨[.b], []⟩], m0 := 0 }
abbrev equalf_rt : altD equalf_B.outs → Option Bool := fun r => some r.1.1
abbrev equalf_l1_at : List PI := [.c [1, 1, 0, 1, 0, 0, 0], .c [1, 1, 0, 1, 0, 0, 1], .l [1, 1, 0, 1, 0, 0], .b 0, .c [1, 1, 1]]
abbrev equalf_l1_st : Sta := ⟨[1, 2, 15, 16, 17], ⟨[shQ, .fn 97 [] [], shQ, shI, shI], []⟩⟩
abbrev equalf_l1_h (rec : Ll → Ll → Int → Int → Option ((Unit) ⊕ (Unit))) : Leaf ((Unit) ⊕ (Unit)) := ⟨equalf_l1_at, equalf_l1_st, fun p => rec p.1.1 p.1.2.2.1 p.1.2.2.2.1 p.1.2.2.2.2.1⟩
abbrev equalf_l1_e0 : Leaf ((Unit) ⊕ (Unit)) := ⟨[.c [1, 1, 0, 1, 0, 0, 1, 1, 0, 0, 1, 1, 1, 0, 0], .c [1, 1, 0, 1, 0, 0, 1, 1, 0, 0, 1, 1, 1, 0, 1], .b 1, .c [1, 1, 0, 1, 0, 0, 1, 1, 1], .l [1, 1, 0, 1, 0, 0], .b 0, .c [1, 1, 1]], ⟨[], ⟨[], []⟩⟩, fun p => some (.inl ())⟩
abbrev equalf_l1_e1 : Leaf ((Unit) ⊕ (Unit)) := ⟨[.c [1, 1, 1, 0], .c [1, 1, 1, 1]], ⟨[], ⟨[], []⟩⟩, fun p => some (.inr ())⟩
noncomputable def equalf_l1_L (N : Nat) : LoopS := { at_ := equalf_l1_at, sta := equalf_l1_st, exits := [([.c [1, 1, 0, 1, 0, 0, 1, 1, 0, 0, 1, 1, 1, 0, 0], .c [1, 1, 0, 1, 0, 0, 1, 1, 0, 0, 1, 1, 1, 0, 1], .b 1, .c [1, 1, 0, 1, 0, 0, 1, 1, 1], .l [1, 1, 0, 1, 0, 0], .b 0, .c [1, 1, 1]], ⟨[], ⟨[], []⟩⟩), ([.c [1, 1, 1, 0], .c [1, 1, 1, 1]], ⟨[], ⟨[], []⟩⟩)], run := fun p k => (equalf_l1 N N p.1.1 p.1.2.2.1 p.1.2.2.2.1 p.1.2.2.2.2.1).bind fun e => match e with | .inl x => k (.inl ((), ())) | .inr x => k (.inr (.inl ((), ()))) }
theorem equalf_l1_eq (N n_ : Nat) (s2 : Ll) (u : Ll) (u2 : Int) (u3 : Int) : ev (Z := (Unit) ⊕ (Unit)) Try.prog (equalf_sp N) equalf_B [] [equalf_l1_h (equalf_l1 N n_), equalf_l1_e0, equalf_l1_e1] none 400 true equalf_l1_at (stL equalf_l1_st ((s2, ((), ()), u, u2, u3, ()), ())) (stH equalf_l1_st ((s2, ((), ()), u, u2, u3, ()), ())) = equalf_l1 N (n_ + 1) s2 u u2 u3 := by kernel_rfl
theorem equalf_l1_ok (N : Nat) {top : Bool} : LoopOK Try.prog equalf_B.c equalf_B.n equalf_B.m0 top (equalf_l1_L N) := loop_of_ev (Z := (Unit) ⊕ (Unit)) (N := N) (fun m p => equalf_l1 N m p.1.1 p.1.2.2.1 p.1.2.2.2.1 p.1.2.2.2.2.1) (fun e => match e with | .inl x => .inl ((), ()) | .inr x => .inr (.inl ((), ()))) (fun _ p k => bind_congr_ (equalf_l1 N N p.1.1 p.1.2.2.1 p.1.2.2.2.1 p.1.2.2.2.2.1) _ _ (fun e => by rcases e with x | x <;> rfl)) (fun _ => rfl) (fun m z E Xc hE hX hrec hx => leaf_of_ev (B := equalf_B) (loops := []) (leaves := [equalf_l1_h (equalf_l1 N m), equalf_l1_e0, equalf_l1_e1]) (equalf_all N) mixed trivial hE hX ⟨hrec, (fun p hp => by obtain rfl := Option.some.inj hp; exact hx), (fun p hp => by obtain rfl := Option.some.inj hp; exact hx), trivial⟩ RetOK.no (fun p => equalf_l1_eq N m p.1.1 p.1.2.2.1 p.1.2.2.2.1 p.1.2.2.2.2.1))
abbrev equalf_st : Sta := ⟨[0, 1, 2], ⟨[shQ, shQ, .fn 97 [] []], []⟩⟩
theorem equalf_eq (N : Nat) (s1 : Ll) (s2 : Ll) : ev (Z := Bool) Try.prog (equalf_sp N) equalf_B [equalf_l1_L N] [] (some equalf_rt) 400 false [.c [0], .c [1]] (stL equalf_st ((s1, s2, ((), ()), ()), ())) (stH equalf_st ((s1, s2, ((), ()), ()), ())) = equalf_S N s1 s2 := by kernel_rfl
noncomputable def sp_equalf (N : Nat) : Spec := { f := 119, ins := ⟨[shQ, shQ, .fn 97 [] []], []⟩, outs := [⟨[.b], []⟩], run := fun p k => (equalf_S N p.1.1 p.1.2.1).bind fun r => k ((r, ()), ()) }
theorem sp_equalf_ok (N : Nat) : SpecOK Try.prog (sp_equalf N) := fn_sound (B := equalf_B) (loops := [equalf_l1_L N]) (leaves := []) (fun p => equalf_S N p.1.1 p.1.2.1) (fun r => ((r, ()), ())) equalf_rt (fun _ _ _ => rfl) (fun r z h => by cases h; rfl) Try.func119 (by kernel_rfl) (by kernel_rfl) (by kernel_rfl) rfl rfl (by kernel_rfl) (fun args w => Sem.pv_run _ _ _ (by kernel_rfl) w) (equalf_all N) mixed ⟨equalf_l1_ok N, trivial⟩ (fun z E Xc hE hX hret => trivial) (fun p => equalf_eq N p.1.1 p.1.2.1)

def liker_S (N : Nat) (a : Ll) (b : Ll) : Option Bool :=
  (equalf_S N a b).bind fun x_1 =>
  some x_1
noncomputable def liker_sp (N : Nat) : List Spec := [sp_equalf N]
theorem liker_all (N : Nat) : AllP (SpecOK Try.prog) (liker_sp N) := ⟨sp_equalf_ok N, trivial⟩
noncomputable def liker_c : Code := (Try.f82.body).getD .skip
noncomputable abbrev liker_B : Body := { c := liker_c, n := 8, res := [.tmp 4], outs := [⟨[.b], []⟩], m0 := 0 }
abbrev liker_rt : altD liker_B.outs → Option Bool := fun r => some r.1.1
abbrev liker_st : Sta := ⟨[0, 1], ⟨[shQ, shQ], []⟩⟩
theorem liker_eq (N : Nat) (a : Ll) (b : Ll) : ev (Z := Bool) Try.prog (liker_sp N) liker_B [] [] (some liker_rt) 400 false [.c [0], .c [1]] (stL liker_st ((a, b, ()), ())) (stH liker_st ((a, b, ()), ())) = liker_S N a b := by kernel_rfl
noncomputable def sp_liker (N : Nat) : Spec := { f := 82, ins := ⟨[shQ, shQ], []⟩, outs := [⟨[.b], []⟩], run := fun p k => (liker_S N p.1.1 p.1.2.1).bind fun r => k ((r, ()), ()) }
theorem sp_liker_ok (N : Nat) : SpecOK Try.prog (sp_liker N) := fn_sound (B := liker_B) (loops := []) (leaves := []) (fun p => liker_S N p.1.1 p.1.2.1) (fun r => ((r, ()), ())) liker_rt (fun _ _ _ => rfl) (fun r z h => by cases h; rfl) Try.func82 (by kernel_rfl) (by kernel_rfl) (by kernel_rfl) rfl rfl (by kernel_rfl) (fun args w => Sem.pv_run _ _ _ (by kernel_rfl) w) (liker_all N) mixed trivial (fun z E Xc hE hX hret => trivial) (fun p => liker_eq N p.1.1 p.1.2.1)

def same_S (N : Nat) (a : Li) (a2 : Int) (a3 : Ll) (a4 : Ll) (a5 : Li) (b : Li) (b2 : Int) (b3 : Ll) (b4 : Ll) (b5 : Li) : Option Bool :=
  (likei_S N a b).bind fun x_1 =>
  br x_1
    (br (decide (a2 = b2))
      ((liker_S N a3 b3).bind fun x_2 =>
      br x_2
        ((liker_S N a4 b4).bind fun x_3 =>
        br x_3
          ((likei_S N a5 b5).bind fun x_4 =>
          some x_4)
          (some false))
        (some false))
      (some false))
    (some false)
noncomputable def same_sp (N : Nat) : List Spec := [sp_likei N, sp_liker N]
theorem same_all (N : Nat) : AllP (SpecOK Try.prog) (same_sp N) := ⟨sp_likei_ok N, sp_liker_ok N, trivial⟩
noncomputable def same_c : Code := (Try.f30.body).getD .skip
noncomputable abbrev same_B : Body := { c := same_c, n := 38, res := [.tmp 4], outs := [⟨[.b], []⟩], m0 := 0 }
abbrev same_rt : altD same_B.outs → Option Bool := fun r => some r.1.1
abbrev same_st : Sta := ⟨[0, 1], ⟨[shG, shG], []⟩⟩
theorem same_eq (N : Nat) (a : Li) (a2 : Int) (a3 : Ll) (a4 : Ll) (a5 : Li) (b : Li) (b2 : Int) (b3 : Ll) (b4 : Ll) (b5 : Li) : ev (Z := Bool) Try.prog (same_sp N) same_B [] [] (some same_rt) 400 false [.c [0], .c [1]] (stL same_st (((a, a2, a3, a4, a5, ()), (b, b2, b3, b4, b5, ()), ()), ())) (stH same_st (((a, a2, a3, a4, a5, ()), (b, b2, b3, b4, b5, ()), ()), ())) = same_S N a a2 a3 a4 a5 b b2 b3 b4 b5 := by kernel_rfl
noncomputable def sp_same (N : Nat) : Spec := { f := 30, ins := ⟨[shG, shG], []⟩, outs := [⟨[.b], []⟩], run := fun p k => (same_S N p.1.1.1 p.1.1.2.1 p.1.1.2.2.1 p.1.1.2.2.2.1 p.1.1.2.2.2.2.1 p.1.2.1.1 p.1.2.1.2.1 p.1.2.1.2.2.1 p.1.2.1.2.2.2.1 p.1.2.1.2.2.2.2.1).bind fun r => k ((r, ()), ()) }
theorem sp_same_ok (N : Nat) : SpecOK Try.prog (sp_same N) := fn_sound (B := same_B) (loops := []) (leaves := []) (fun p => same_S N p.1.1.1 p.1.1.2.1 p.1.1.2.2.1 p.1.1.2.2.2.1 p.1.1.2.2.2.2.1 p.1.2.1.1 p.1.2.1.2.1 p.1.2.1.2.2.1 p.1.2.1.2.2.2.1 p.1.2.1.2.2.2.2.1) (fun r => ((r, ()), ())) same_rt (fun _ _ _ => rfl) (fun r z h => by cases h; rfl) Try.func30 (by kernel_rfl) (by kernel_rfl) (by kernel_rfl) rfl rfl (by kernel_rfl) (fun args w => Sem.pv_run _ _ _ (by kernel_rfl) w) (same_all N) mixed trivial (fun z E Xc hE hX hret => trivial) (fun p => same_eq N p.1.1.1 p.1.1.2.1 p.1.1.2.2.1 p.1.1.2.2.2.1 p.1.1.2.2.2.2.1 p.1.2.1.1 p.1.2.1.2.1 p.1.2.1.2.2.1 p.1.2.1.2.2.2.1 p.1.2.1.2.2.2.2.1)

def great_l2 (N : Nat) : Nat → Int → Int → Ll → Int → Int → (List Ll) → Option ((Unit) ⊕ (Int × Int × List Ll))
  | 0, _, _, _, _, _, _ => none
  | n_ + 1, u, u2, u3, u4, u5, g =>
    br (decide (u5 < u4))
      (idx u3 u5 fun x_2 =>
      br (decide (12 < (x_2.length : Int)))
        (some (.inl ()))
        (chk (u5 + 1) <|
        great_l2 N n_ u u2 u3 u4 (u5 + 1) g))
      (some (.inr (u, u2, g)))
def great_l1 (N : Nat) : Nat → Int → Int → (List Ll) → Option ((Unit) ⊕ (Unit))
  | 0, _, _, _ => none
  | n_ + 1, u, u2, g =>
    br (decide (u2 < u))
      (rng u2 g.length <|
      get g u2.toNat fun x_1 =>
      (great_l2 N N u u2 x_1 (x_1.length : Int) 0 g).bind fun e => match e with
      | .inl _ =>
        some (.inl ())
      | .inr (u_3, u2_4, g_5) =>
        chk (u2_4 + 1) <|
        great_l1 N n_ u_3 (u2_4 + 1) g_5)
      (some (.inr ()))
def great_S (N : Nat) (d : Li) (d2 : Int) (d3 : Ll) (d4 : Ll) (d5 : Li) : Option Bool :=
  br (decide (10 < (d.length : Int)))
    (some true)
    (br (decide (10 < (d3.length : Int)))
      (some true)
      (br (decide (10 < (d4.length : Int)))
        (some true)
        (br (decide (12 < (d5.length : Int)))
          (some true)
          ((great_l1 N N ([d3, d4].length : Int) 0 [d3, d4]).bind fun e => match e with
          | .inl _ =>
            some true
          | .inr _ =>
            some false))))
noncomputable def great_sp (N : Nat) : List Spec := []
theorem great_all (N : Nat) : AllP (SpecOK Try.prog) (great_sp N) := trivial
noncomputable def great_c : Code := (Try.f25.body).getD .skip
noncomputable abbrev great_B : Body := { c := great_c, n := 50, res := [.tmp 2], outs := [⟨[.b], []⟩], m0 := 0 }
abbrev great_rt : altD great_B.outs → Option Bool := fun r => some r.1.1
abbrev great_l2_at : List PI := [.c [1, 1, 0, 1, 0, 0, 1, 1, 0, 0, 1, 1, 0, 0, 0], .c [1, 1, 0, 1, 0, 0, 1, 1, 0, 0, 1, 1, 0, 0, 1], .l [1, 1, 0, 1, 0, 0, 1, 1, 0, 0, 1, 1, 0, 0], .b 2, .b 1, .c [1, 1, 0, 1, 0, 0, 1, 1, 1], .l [1, 1, 0, 1, 0, 0], .b 0, .c [1, 1, 1]]
abbrev great_l2_st : Sta := ⟨[33, 34, 35, 39, 40, 41], ⟨[.ols 0, shI, shI, shQ, shI, shI], [.lst (.sl (.sl (.int .i64)))]⟩⟩
abbrev great_l2_h (rec : Int → Int → Ll → Int → Int → (List Ll) → Option ((Unit) ⊕ (Int × Int × List Ll))) : Leaf ((Unit) ⊕ (Int × Int × List Ll)) := ⟨great_l2_at, great_l2_st, fun p => rec p.1.2.1 p.1.2.2.1 p.1.2.2.2.1 p.1.2.2.2.2.1 p.1.2.2.2.2.2.1 p.2.1⟩
abbrev great_l2_e0 : Leaf ((Unit) ⊕ (Int × Int × List Ll)) := ⟨[.c [1, 1, 0, 1, 0, 0, 1, 1, 0, 0, 1, 1, 0, 0, 1, 1, 0, 0, 1, 1, 0, 0], .c [1, 1, 0, 1, 0, 0, 1, 1, 0, 0, 1, 1, 0, 0, 1, 1, 0, 0, 1, 1, 0, 1], .b 3, .c [1, 1, 0, 1, 0, 0, 1, 1, 0, 0, 1, 1, 0, 0, 1, 1, 1], .l [1, 1, 0, 1, 0, 0, 1, 1, 0, 0, 1, 1, 0, 0], .b 2, .b 1, .c [1, 1, 0, 1, 0, 0, 1, 1, 1], .l [1, 1, 0, 1, 0, 0], .b 0, .c [1, 1, 1]], ⟨[], ⟨[], []⟩⟩, fun p => some (.inl ())⟩
abbrev great_l2_e1 : Leaf ((Unit) ⊕ (Int × Int × List Ll)) := ⟨[.c [1, 1, 0, 1, 0, 0, 1, 1, 1], .l [1, 1, 0, 1, 0, 0], .b 0, .c [1, 1, 1]], ⟨[33, 34, 35], ⟨[.ols 0, shI, shI], [.lst (.sl (.sl (.int .i64)))]⟩⟩, fun p => some (.inr (p.1.2.1, p.1.2.2.1, p.2.1))⟩
noncomputable def great_l2_L (N : Nat) : LoopS := { at_ := great_l2_at, sta := great_l2_st, exits := [([.c [1, 1, 0, 1, 0, 0, 1, 1, 0, 0, 1, 1, 0, 0, 1, 1, 0, 0, 1, 1, 0, 0], .c [1, 1, 0, 1, 0, 0, 1, 1, 0, 0, 1, 1, 0, 0, 1, 1, 0, 0, 1, 1, 0, 1], .b 3, .c [1, 1, 0, 1, 0, 0, 1, 1, 0, 0, 1, 1, 0, 0, 1, 1, 1], .l [1, 1, 0, 1, 0, 0, 1, 1, 0, 0, 1, 1, 0, 0], .b 2, .b 1, .c [1, 1, 0, 1, 0, 0, 1, 1, 1], .l [1, 1, 0, 1, 0, 0], .b 0, .c [1, 1, 1]], ⟨[], ⟨[], []⟩⟩), ([.c [1, 1, 0, 1, 0, 0, 1, 1, 1], .l [1, 1, 0, 1, 0, 0], .b 0, .c [1, 1, 1]], ⟨[33, 34, 35], ⟨[.ols 0, shI, shI], [.lst (.sl (.sl (.int .i64)))]⟩⟩)], run := fun p k => (great_l2 N N p.1.2.1 p.1.2.2.1 p.1.2.2.2.1 p.1.2.2.2.2.1 p.1.2.2.2.2.2.1 p.2.1).bind fun e => match e with | .inl x => k (.inl ((), ())) | .inr x => k (.inr (.inl (((), x.1, x.2.1, ()), (x.2.2, ())))) }
theorem great_l2_eq (N n_ : Nat) (u : Int) (u2 : Int) (u3 : Ll) (u4 : Int) (u5 : Int) (g : List Ll) : ev (Z := (Unit) ⊕ (Int × Int × List Ll)) Try.prog (great_sp N) great_B [] [great_l2_h (great_l2 N n_), great_l2_e0, great_l2_e1] none 400 true great_l2_at (stL great_l2_st (((), u, u2, u3, u4, u5, ()), (g, ()))) (stH great_l2_st (((), u, u2, u3, u4, u5, ()), (g, ()))) = great_l2 N (n_ + 1) u u2 u3 u4 u5 g := by kernel_rfl
theorem great_l2_ok (N : Nat) {top : Bool} : LoopOK Try.prog great_B.c great_B.n great_B.m0 top (great_l2_L N) := loop_of_ev (Z := (Unit) ⊕ (Int × Int × List Ll)) (N := N) (fun m p => great_l2 N m p.1.2.1 p.1.2.2.1 p.1.2.2.2.1 p.1.2.2.2.2.1 p.1.2.2.2.2.2.1 p.2.1) (fun e => match e with | .inl x => .inl ((), ()) | .inr x => .inr (.inl (((), x.1, x.2.1, ()), (x.2.2, ())))) (fun _ p k => bind_congr_ (great_l2 N N p.1.2.1 p.1.2.2.1 p.1.2.2.2.1 p.1.2.2.2.2.1 p.1.2.2.2.2.2.1 p.2.1) _ _ (fun e => by rcases e with x | x <;> rfl)) (fun _ => rfl) (fun m z E Xc hE hX hrec hx => leaf_of_ev (B := great_B) (loops := []) (leaves := [great_l2_h (great_l2 N m), great_l2_e0, great_l2_e1]) (great_all N) mixed trivial hE hX ⟨hrec, (fun p hp => by obtain rfl := Option.some.inj hp; exact hx), (fun p hp => by obtain rfl := Option.some.inj hp; exact hx), trivial⟩ RetOK.no (fun p => great_l2_eq N m p.1.2.1 p.1.2.2.1 p.1.2.2.2.1 p.1.2.2.2.2.1 p.1.2.2.2.2.2.1 p.2.1))
abbrev great_l1_at : List PI := [.c [1, 1, 0, 1, 0, 0, 0], .c [1, 1, 0, 1, 0, 0, 1], .l [1, 1, 0, 1, 0, 0], .b 0, .c [1, 1, 1]]
abbrev great_l1_st : Sta := ⟨[33, 34, 35], ⟨[.ols 0, shI, shI], [.lst (.sl (.sl (.int .i64)))]⟩⟩
abbrev great_l1_h (rec : Int → Int → (List Ll) → Option ((Unit) ⊕ (Unit))) : Leaf ((Unit) ⊕ (Unit)) := ⟨great_l1_at, great_l1_st, fun p => rec p.1.2.1 p.1.2.2.1 p.2.1⟩
abbrev great_l1_e0 : Leaf ((Unit) ⊕ (Unit)) := ⟨[.c [1, 1, 0, 1, 0, 0, 1, 1, 0, 0, 1, 1, 0, 0, 1, 1, 0, 0, 1, 1, 0, 0], .c [1, 1, 0, 1, 0, 0, 1, 1, 0, 0, 1, 1, 0, 0, 1, 1, 0, 0, 1, 1, 0, 1], .b 3, .c [1, 1, 0, 1, 0, 0, 1, 1, 0, 0, 1, 1, 0, 0, 1, 1, 1], .l [1, 1, 0, 1, 0, 0, 1, 1, 0, 0, 1, 1, 0, 0], .b 2, .b 1, .c [1, 1, 0, 1, 0, 0, 1, 1, 1], .l [1, 1, 0, 1, 0, 0], .b 0, .c [1, 1, 1]], ⟨[], ⟨[], []⟩⟩, fun p => some (.inl ())⟩
abbrev great_l1_e1 : Leaf ((Unit) ⊕ (Unit)) := ⟨[.c [1, 1, 1, 0], .c [1, 1, 1, 1]], ⟨[], ⟨[], []⟩⟩, fun p => some (.inr ())⟩
noncomputable def great_l1_L (N : Nat) : LoopS := { at_ := great_l1_at, sta := great_l1_st, exits := [([.c [1, 1, 0, 1, 0, 0, 1, 1, 0, 0, 1, 1, 0, 0, 1, 1, 0, 0, 1, 1, 0, 0], .c [1, 1, 0, 1, 0, 0, 1, 1, 0, 0, 1, 1, 0, 0, 1, 1, 0, 0, 1, 1, 0, 1], .b 3, .c [1, 1, 0, 1, 0, 0, 1, 1, 0, 0, 1, 1, 0, 0, 1, 1, 1], .l [1, 1, 0, 1, 0, 0, 1, 1, 0, 0, 1, 1, 0, 0], .b 2, .b 1, .c [1, 1, 0, 1, 0, 0, 1, 1, 1], .l [1, 1, 0, 1, 0, 0], .b 0, .c [1, 1, 1]], ⟨[], ⟨[], []⟩⟩), ([.c [1, 1, 1, 0], .c [1, 1, 1, 1]], ⟨[], ⟨[], []⟩⟩)], run := fun p k => (great_l1 N N p.1.2.1 p.1.2.2.1 p.2.1).bind fun e => match e with | .inl x => k (.inl ((), ())) | .inr x => k (.inr (.inl ((), ()))) }
theorem great_l1_eq (N n_ : Nat) (u : Int) (u2 : Int) (g : List Ll) : ev (Z := (Unit) ⊕ (Unit)) Try.prog (great_sp N) great_B [great_l2_L N] [great_l1_h (great_l1 N n_), great_l1_e0, great_l1_e1] none 400 true great_l1_at (stL great_l1_st (((), u, u2, ()), (g, ()))) (stH great_l1_st (((), u, u2, ()), (g, ()))) = great_l1 N (n_ + 1) u u2 g := by kernel_rfl
theorem great_l1_ok (N : Nat) {top : Bool} : LoopOK Try.prog great_B.c great_B.n great_B.m0 top (great_l1_L N) := loop_of_ev (Z := (Unit) ⊕ (Unit)) (N := N) (fun m p => great_l1 N m p.1.2.1 p.1.2.2.1 p.2.1) (fun e => match e with | .inl x => .inl ((), ()) | .inr x => .inr (.inl ((), ()))) (fun _ p k => bind_congr_ (great_l1 N N p.1.2.1 p.1.2.2.1 p.2.1) _ _ (fun e => by rcases e with x | x <;> rfl)) (fun _ => rfl) (fun m z E Xc hE hX hrec hx => leaf_of_ev (B := great_B) (loops := [great_l2_L N]) (leaves := [great_l1_h (great_l1 N m), great_l1_e0, great_l1_e1]) (great_all N) mixed ⟨great_l2_ok N, trivial⟩ hE hX ⟨hrec, (fun p hp => by obtain rfl := Option.some.inj hp; exact hx), (fun p hp => by obtain rfl := Option.some.inj hp; exact hx), trivial⟩ RetOK.no (fun p => great_l1_eq N m p.1.2.1 p.1.2.2.1 p.2.1))
abbrev great_st : Sta := ⟨[0], ⟨[shG], []⟩⟩
theorem great_eq (N : Nat) (d : Li) (d2 : Int) (d3 : Ll) (d4 : Ll) (d5 : Li) : ev (Z := Bool) Try.prog (great_sp N) great_B [great_l2_L N, great_l1_L N] [] (some great_rt) 400 false [.c [0], .c [1]] (stL great_st (((d, d2, d3, d4, d5, ()), ()), ())) (stH great_st (((d, d2, d3, d4, d5, ()), ()), ())) = great_S N d d2 d3 d4 d5 := by kernel_rfl
noncomputable def sp_great (N : Nat) : Spec := { f := 25, ins := ⟨[shG], []⟩, outs := [⟨[.b], []⟩], run := fun p k => (great_S N p.1.1.1 p.1.1.2.1 p.1.1.2.2.1 p.1.1.2.2.2.1 p.1.1.2.2.2.2.1).bind fun r => k ((r, ()), ()) }
theorem sp_great_ok (N : Nat) : SpecOK Try.prog (sp_great N) := fn_sound (B := great_B) (loops := [great_l2_L N, great_l1_L N]) (leaves := []) (fun p => great_S N p.1.1.1 p.1.1.2.1 p.1.1.2.2.1 p.1.1.2.2.2.1 p.1.1.2.2.2.2.1) (fun r => ((r, ()), ())) great_rt (fun _ _ _ => rfl) (fun r z h => by cases h; rfl) Try.func25 (by kernel_rfl) (by kernel_rfl) (by kernel_rfl) rfl rfl (by kernel_rfl) (fun args w => Sem.pv_run _ _ _ (by kernel_rfl) w) (great_all N) mixed ⟨great_l2_ok N, great_l1_ok N, trivial⟩ (fun z E Xc hE hX hret => trivial) (fun p => great_eq N p.1.1.1 p.1.1.2.1 p.1.1.2.2.1 p.1.1.2.2.2.1 p.1.1.2.2.2.2.1)

def wide_S (N : Nat) (d : Li) (d2 : Int) (d3 : Ll) (d4 : Ll) (d5 : Li) (things : Int) : Option Bool :=
  br (decide (things < (d3.length : Int)))
    (br (decide ((d3.length : Int) ≤ 6))
      (some true)
      (br (decide (things < (d4.length : Int)))
        (some (decide ((d4.length : Int) ≤ 6)))
        (some false)))
    (br (decide (things < (d4.length : Int)))
      (some (decide ((d4.length : Int) ≤ 6)))
      (some false))
noncomputable def wide_sp (N : Nat) : List Spec := []
theorem wide_all (N : Nat) : AllP (SpecOK Try.prog) (wide_sp N) := trivial
noncomputable def wide_c : Code := (Try.f26.body).getD .skip
noncomputable abbrev wide_B : Body := { c := wide_c, n := 29, res := [.tmp 4], outs := [⟨[.b], []⟩], m0 := 0 }
abbrev wide_rt : altD wide_B.outs → Option Bool := fun r => some r.1.1
abbrev wide_st : Sta := ⟨[0, 1], ⟨[shG, shI], []⟩⟩
theorem wide_eq (N : Nat) (d : Li) (d2 : Int) (d3 : Ll) (d4 : Ll) (d5 : Li) (things : Int) : ev (Z := Bool) Try.prog (wide_sp N) wide_B [] [] (some wide_rt) 400 false [.c [0], .c [1]] (stL wide_st (((d, d2, d3, d4, d5, ()), things, ()), ())) (stH wide_st (((d, d2, d3, d4, d5, ()), things, ()), ())) = wide_S N d d2 d3 d4 d5 things := by kernel_rfl
noncomputable def sp_wide (N : Nat) : Spec := { f := 26, ins := ⟨[shG, shI], []⟩, outs := [⟨[.b], []⟩], run := fun p k => (wide_S N p.1.1.1 p.1.1.2.1 p.1.1.2.2.1 p.1.1.2.2.2.1 p.1.1.2.2.2.2.1 p.1.2.1).bind fun r => k ((r, ()), ()) }
theorem sp_wide_ok (N : Nat) : SpecOK Try.prog (sp_wide N) := fn_sound (B := wide_B) (loops := []) (leaves := []) (fun p => wide_S N p.1.1.1 p.1.1.2.1 p.1.1.2.2.1 p.1.1.2.2.2.1 p.1.1.2.2.2.2.1 p.1.2.1) (fun r => ((r, ()), ())) wide_rt (fun _ _ _ => rfl) (fun r z h => by cases h; rfl) Try.func26 (by kernel_rfl) (by kernel_rfl) (by kernel_rfl) rfl rfl (by kernel_rfl) (fun args w => Sem.pv_run _ _ _ (by kernel_rfl) w) (wide_all N) mixed trivial (fun z E Xc hE hX hret => trivial) (fun p => wide_eq N p.1.1.1 p.1.1.2.1 p.1.1.2.2.1 p.1.1.2.2.2.1 p.1.1.2.2.2.2.1 p.1.2.1)

def off_S (N : Nat) (n : Int) (lo : Int) (hi : Int) : Option Bool :=
  br (decide (n < lo))
    (some true)
    (some (decide (hi < n)))
noncomputable def off_sp (N : Nat) : List Spec := []
theorem off_all (N : Nat) : AllP (SpecOK Try.prog) (off_sp N) := trivial
noncomputable def off_c : Code := (Try.f85.body).getD .skip
noncomputable abbrev off_B : Body := { c := off_c, n := 15, res := [.tmp 6], outs := [⟨[.b], []⟩], m0 := 0 }
abbrev off_rt : altD off_B.outs → Option Bool := fun r => some r.1.1
abbrev off_st : Sta := ⟨[0, 1, 2], ⟨[shI, shI, shI], []⟩⟩
theorem off_eq (N : Nat) (n : Int) (lo : Int) (hi : Int) : ev (Z := Bool) Try.prog (off_sp N) off_B [] [] (some off_rt) 400 false [.c [0], .c [1]] (stL off_st ((n, lo, hi, ()), ())) (stH off_st ((n, lo, hi, ()), ())) = off_S N n lo hi := by kernel_rfl
noncomputable def sp_off (N : Nat) : Spec := { f := 85, ins := ⟨[shI, shI, shI], []⟩, outs := [⟨[.b], []⟩], run := fun p k => (off_S N p.1.1 p.1.2.1 p.1.2.2.1).bind fun r => k ((r, ()), ()) }
theorem sp_off_ok (N : Nat) : SpecOK Try.prog (sp_off N) := fn_sound (B := off_B) (loops := []) (leaves := []) (fun p => off_S N p.1.1 p.1.2.1 p.1.2.2.1) (fun r => ((r, ()), ())) off_rt (fun _ _ _ => rfl) (fun r z h => by cases h; rfl) Try.func85 (by kernel_rfl) (by kernel_rfl) (by kernel_rfl) rfl rfl (by kernel_rfl) (fun args w => Sem.pv_run _ _ _ (by kernel_rfl) w) (off_all N) mixed trivial (fun z E Xc hE hX hret => trivial) (fun p => off_eq N p.1.1 p.1.2.1 p.1.2.2.1)

def described_l1 (N : Nat) : Nat → Ll → Int → Li → Int → Ll → Ll → Li → Option ((Unit) ⊕ (Unit))
  | 0, _, _, _, _, _, _, _ => none
  | n_ + 1, l, i, d, d2, d3, d4, d5 =>
    br (decide (i < (l.length : Int)))
      (idx l i fun x_1 =>
      br (!decide ((x_1.length : Int) = (d.length : Int)))
        (some (.inl ()))
        (chk (i + 1) <|
        described_l1 N n_ l (i + 1) d d2 d3 d4 d5))
      (some (.inr ()))
def described_S (N : Nat) (d : Li) (d2 : Int) (d3 : Ll) (d4 : Ll) (d5 : Li) (l : Ll) : Option Bool :=
  (described_l1 N N l 0 d d2 d3 d4 d5).bind fun e => match e with
  | .inl _ =>
    some false
  | .inr _ =>
    some true
noncomputable def described_sp (N : Nat) : List Spec := []
theorem described_all (N : Nat) : AllP (SpecOK Try.prog) (described_sp N) := trivial
noncomputable def described_c : Code := (Try.f100.body).getD .skip
noncomputable abbrev described_B : Body := { c := described_c, n := 21, res := [.tmp 4], outs := [⟨[.b], []⟩], m0 := 0 }
abbrev described_rt : altD described_B.outs → Option Bool := fun r => some r.1.1
abbrev described_l1_at : List PI := [.c [1, 0, 1, 0, 0, 0, 0], .c [1, 0, 1, 0, 0, 0, 1], .c [1, 0, 1, 0, 0, 1], .l [1, 0, 1, 0, 0], .b 0, .c [1, 1]]
abbrev described_l1_st : Sta := ⟨[1, 2, 5], ⟨[shQ, .own 0 0, shI], [.segs [shL, shI, shQ, shQ, shL]]⟩⟩
abbrev described_l1_h (rec : Ll → Int → Li → Int → Ll → Ll → Li → Option ((Unit) ⊕ (Unit))) : Leaf ((Unit) ⊕ (Unit)) := ⟨described_l1_at, described_l1_st, fun p => rec p.1.1 p.1.2.2.1 p.2.1.1 p.2.1.2.1 p.2.1.2.2.1 p.2.1.2.2.2.1 p.2.1.2.2.2.2.1⟩
abbrev described_l1_e0 : Leaf ((Unit) ⊕ (Unit)) := ⟨[.c [1, 0, 1, 0, 0, 1, 0, 0, 1, 0, 0], .c [1, 0, 1, 0, 0, 1, 0, 0, 1, 0, 1], .b 1, .c [1, 0, 1, 0, 0, 1, 1], .l [1, 0, 1, 0, 0], .b 0, .c [1, 1]], ⟨[], ⟨[], []⟩⟩, fun p => some (.inl ())⟩
abbrev described_l1_e1 : Leaf ((Unit) ⊕ (Unit)) := ⟨[.c [1, 1, 0], .c [1, 1, 1]], ⟨[], ⟨[], []⟩⟩, fun p => some (.inr ())⟩
noncomputable def described_l1_L (N : Nat) : LoopS := { at_ := described_l1_at, sta := described_l1_st, exits := [([.c [1, 0, 1, 0, 0, 1, 0, 0, 1, 0, 0], .c [1, 0, 1, 0, 0, 1, 0, 0, 1, 0, 1], .b 1, .c [1, 0, 1, 0, 0, 1, 1], .l [1, 0, 1, 0, 0], .b 0, .c [1, 1]], ⟨[], ⟨[], []⟩⟩), ([.c [1, 1, 0], .c [1, 1, 1]], ⟨[], ⟨[], []⟩⟩)], run := fun p k => (described_l1 N N p.1.1 p.1.2.2.1 p.2.1.1 p.2.1.2.1 p.2.1.2.2.1 p.2.1.2.2.2.1 p.2.1.2.2.2.2.1).bind fun e => match e with | .inl x => k (.inl ((), ())) | .inr x => k (.inr (.inl ((), ()))) }
theorem described_l1_eq (N n_ : Nat) (l : Ll) (i : Int) (d : Li) (d2 : Int) (d3 : Ll) (d4 : Ll) (d5 : Li) : ev (Z := (Unit) ⊕ (Unit)) Try.prog (described_sp N) described_B [] [described_l1_h (described_l1 N n_), described_l1_e0, described_l1_e1] none 400 true described_l1_at (stL described_l1_st ((l, (), i, ()), ((d, d2, d3, d4, d5, ()), ()))) (stH described_l1_st ((l, (), i, ()), ((d, d2, d3, d4, d5, ()), ()))) = described_l1 N (n_ + 1) l i d d2 d3 d4 d5 := by kernel_rfl
theorem described_l1_ok (N : Nat) {top : Bool} : LoopOK Try.prog described_B.c described_B.n described_B.m0 top (described_l1_L N) := loop_of_ev (Z := (Unit) ⊕ (Unit)) (N := N) (fun m p => described_l1 N m p.1.1 p.1.2.2.1 p.2.1.1 p.2.1.2.1 p.2.1.2.2.1 p.2.1.2.2.2.1 p.2.1.2.2.2.2.1) (fun e => match e with | .inl x => .inl ((), ()) | .inr x => .inr (.inl ((), ()))) (fun _ p k => bind_congr_ (described_l1 N N p.1.1 p.1.2.2.1 p.2.1.1 p.2.1.2.1 p.2.1.2.2.1 p.2.1.2.2.2.1 p.2.1.2.2.2.2.1) _ _ (fun e => by rcases e with x | x <;> rfl)) (fun _ => rfl) (fun m z E Xc hE hX hrec hx => leaf_of_ev (B := described_B) (loops := []) (leaves := [described_l1_h (described_l1 N m), described_l1_e0, described_l1_e1]) (described_all N) mixed trivial hE hX ⟨hrec, (fun p hp => by obtain rfl := Option.some.inj hp; exact hx), (fun p hp => by obtain rfl := Option.some.inj hp; exact hx), trivial⟩ RetOK.no (fun p => described_l1_eq N m p.1.1 p.1.2.2.1 p.2.1.1 p.2.1.2.1 p.2.1.2.2.1 p.2.1.2.2.2.1 p.2.1.2.2.2.2.1))
abbrev described_st : Sta := ⟨[0, 1], ⟨[shG, shQ], []⟩⟩
theorem described_eq (N : Nat) (d : Li) (d2 : Int) (d3 : Ll) (d4 : Ll) (d5 : Li) (l : Ll) : ev (Z := Bool) Try.prog (described_sp N) described_B [described_l1_L N] [] (some described_rt) 400 false [.c [0], .c [1]] (stL described_st (((d, d2, d3, d4, d5, ()), l, ()), ())) (stH described_st (((d, d2, d3, d4, d5, ()), l, ()), ())) = described_S N d d2 d3 d4 d5 l := by kernel_rfl
noncomputable def sp_described (N : Nat) : Spec := { f := 100, ins := ⟨[shG, shQ], []⟩, outs := [⟨[.b], []⟩], run := fun p k => (described_S N p.1.1.1 p.1.1.2.1 p.1.1.2.2.1 p.1.1.2.2.2.1 p.1.1.2.2.2.2.1 p.1.2.1).bind fun r => k ((r, ()), ()) }
theorem sp_described_ok (N : Nat) : SpecOK Try.prog (sp_described N) := fn_sound (B := described_B) (loops := [described_l1_L N]) (leaves := []) (fun p => described_S N p.1.1.1 p.1.1.2.1 p.1.1.2.2.1 p.1.1.2.2.2.1 p.1.1.2.2.2.2.1 p.1.2.1) (fun r => ((r, ()), ())) described_rt (fun _ _ _ => rfl) (fun r z h => by cases h; rfl) Try.func100 (by kernel_rfl) (by kernel_rfl) (by kernel_rfl) rfl rfl (by kernel_rfl) (fun args w => Sem.pv_run _ _ _ (by kernel_rfl) w) (described_all N) mixed ⟨described_l1_ok N, trivial⟩ (fun z E Xc hE hX hret => trivial) (fun p => described_eq N p.1.1.1 p.1.1.2.1 p.1.1.2.2.1 p.1.1.2.2.2.1 p.1.1.2.2.2.2.1 p.1.2.1)

def valued_l2 (N : Nat) : Nat → Ll → Int → Int → Option ((Unit) ⊕ (Ll × Int))
  | 0, _, _, _ => none
  | n_ + 1, l, i, t =>
    idx l i fun x_1 =>
    br (decide (t < (x_1.length : Int)))
      (idx l i fun x_2 =>
      idx x_2 t fun x_3 =>
      (off_S N x_3 (-1) 5).bind fun x_4 =>
      br x_4
        (some (.inl ()))
        (chk (t + 1) <|
        valued_l2 N n_ l i (t + 1)))
      (some (.inr (l, i)))
def valued_l1 (N : Nat) : Nat → Ll → Int → Option ((Unit) ⊕ (Unit))
  | 0, _, _ => none
  | n_ + 1, l, i =>
    br (decide (i < (l.length : Int)))
      ((valued_l2 N N l i 0).bind fun e => match e with
      | .inl _ =>
        some (.inl ())
      | .inr (l_5, i_6) =>
        chk (i_6 + 1) <|
        valued_l1 N n_ l_5 (i_6 + 1))
      (some (.inr ()))
def valued_S (N : Nat) (l : Ll) : Option Bool :=
  (valued_l1 N N l 0).bind fun e => match e with
  | .inl _ =>
    some false
  | .inr _ =>
    some true
noncomputable def valued_sp (N : Nat) : List Spec := [sp_off N]
theorem valued_all (N : Nat) : AllP (SpecOK Try.prog) (valued_sp N) := ⟨sp_off_ok N, trivial⟩
noncomputable def valued_c : Code := (Try.f101.body).getD .skip
noncomputable abbrev valued_B : Body := { c := valued_c, n := 28, res := [.tmp 2], outs := [⟨[.b], []⟩], m0 := 0 }
abbrev valued_rt : altD valued_B.outs → Option Bool := fun r => some r.1.1
abbrev valued_l2_at : List PI := [.c [1, 0, 1, 0, 0, 1, 0, 0, 1, 0, 0, 0, 0], .c [1, 0, 1, 0, 0, 1, 0, 0, 1, 0, 0, 0, 1], .c [1, 0, 1, 0, 0, 1, 0, 0, 1, 0, 0, 1], .l [1, 0, 1, 0, 0, 1, 0, 0, 1, 0, 0], .b 2, .b 1, .c [1, 0, 1, 0, 0, 1, 1], .l [1, 0, 1, 0, 0], .b 0, .c [1, 1]]
abbrev valued_l2_st : Sta := ⟨[0, 3, 4], ⟨[shQ, shI, shI], []⟩⟩
abbrev valued_l2_h (rec : Ll → Int → Int → Option ((Unit) ⊕ (Ll × Int))) : Leaf ((Unit) ⊕ (Ll × Int)) := ⟨valued_l2_at, valued_l2_st, fun p => rec p.1.1 p.1.2.1 p.1.2.2.1⟩
abbrev valued_l2_e0 : Leaf ((Unit) ⊕ (Ll × Int)) := ⟨[.c [1, 0, 1, 0, 0, 1, 0, 0, 1, 0, 0, 1, 0, 0, 1, 0, 0], .c [1, 0, 1, 0, 0, 1, 0, 0, 1, 0, 0, 1, 0, 0, 1, 0, 1], .b 3, .c [1, 0, 1, 0, 0, 1, 0, 0, 1, 0, 0, 1, 1], .l [1, 0, 1, 0, 0, 1, 0, 0, 1, 0, 0], .b 2, .b 1, .c [1, 0, 1, 0, 0, 1, 1], .l [1, 0, 1, 0, 0], .b 0, .c [1, 1]], ⟨[], ⟨[], []⟩⟩, fun p => some (.inl ())⟩
abbrev valued_l2_e1 : Leaf ((Unit) ⊕ (Ll × Int)) := ⟨[.c [1, 0, 1, 0, 0, 1, 1], .l [1, 0, 1, 0, 0], .b 0, .c [1, 1]], ⟨[0, 3], ⟨[shQ, shI], []⟩⟩, fun p => some (.inr (p.1.1, p.1.2.1))⟩
noncomputable def valued_l2_L (N : Nat) : LoopS := { at_ := valued_l2_at, sta := valued_l2_st, exits := [([.c [1, 0, 1, 0, 0, 1, 0, 0, 1, 0, 0, 1, 0, 0, 1, 0, 0], .c [1, 0, 1, 0, 0, 1, 0, 0, 1, 0, 0, 1, 0, 0, 1, 0, 1], .b 3, .c [1, 0, 1, 0, 0, 1, 0, 0, 1, 0, 0, 1, 1], .l [1, 0, 1, 0, 0, 1, 0, 0, 1, 0, 0], .b 2, .b 1, .c [1, 0, 1, 0, 0, 1, 1], .l [1, 0, 1, 0, 0], .b 0, .c [1, 1]], ⟨[], ⟨[], []⟩⟩), ([.c [1, 0, 1, 0, 0, 1, 1], .l [1, 0, 1, 0, 0], .b 0, .c [1, 1]], ⟨[0, 3], ⟨[shQ, shI], []⟩⟩)], run := fun p k => (valued_l2 N N p.1.1 p.1.2.1 p.1.2.2.1).bind fun e => match e with | .inl x => k (.inl ((), ())) | .inr x => k (.inr (.inl ((x.1, x.2, ()), ()))) }
theorem valued_l2_eq (N n_ : Nat) (l : Ll) (i : Int) (t : Int) : ev (Z := (Unit) ⊕ (Ll × Int)) Try.prog (valued_sp N) valued_B [] [valued_l2_h (valued_l2 N n_), valued_l2_e0, valued_l2_e1] none 400 true valued_l2_at (stL valued_l2_st ((l, i, t, ()), ())) (stH valued_l2_st ((l, i, t, ()), ())) = valued_l2 N (n_ + 1) l i t := by kernel_rfl
theorem valued_l2_ok (N : Nat) {top : Bool} : LoopOK Try.prog valued_B.c valued_B.n valued_B.m0 top (valued_l2_L N) := loop_of_ev (Z := (Unit) ⊕ (Ll × Int)) (N := N) (fun m p => valued_l2 N m p.1.1 p.1.2.1 p.1.2.2.1) (fun e => match e with | .inl x => .inl ((), ()) | .inr x => .inr (.inl ((x.1, x.2, ()), ()))) (fun _ p k => bind_congr_ (valued_l2 N N p.1.1 p.1.2.1 p.1.2.2.1) _ _ (fun e => by rcases e with x | x <;> rfl)) (fun _ => rfl) (fun m z E Xc hE hX hrec hx => leaf_of_ev (B := valued_B) (loops := []) (leaves := [valued_l2_h (valued_l2 N m), valued_l2_e0, valued_l2_e1]) (valued_all N) mixed trivial hE hX ⟨hrec, (fun p hp => by obtain rfl := Option.some.inj hp; exact hx), (fun p hp => by obtain rfl := Option.some.inj hp; exact hx), trivial⟩ RetOK.no (fun p => valued_l2_eq N m p.1.1 p.1.2.1 p.1.2.2.1))
abbrev valued_l1_at : List PI := [.c [1, 0, 1, 0, 0, 0, 0], .c [1, 0, 1, 0, 0, 0, 1], .c [1, 0, 1, 0, 0, 1], .l [1, 0, 1, 0, 0], .b 0, .c [1, 1]]
abbrev valued_l1_st : Sta := ⟨[0, 3], ⟨[shQ, shI], []⟩⟩
abbrev valued_l1_h (rec : Ll → Int → Option ((Unit) ⊕ (Unit))) : Leaf ((Unit) ⊕ (Unit)) := ⟨valued_l1_at, valued_l1_st, fun p => rec p.1.1 p.1.2.1⟩
abbrev valued_l1_e0 : Leaf ((Unit) ⊕ (Unit)) := ⟨[.c [1, 0, 1, 0, 0, 1, 0, 0, 1, 0, 0, 1, 0, 0, 1, 0, 0], .c [1, 0, 1, 0, 0, 1, 0, 0, 1, 0, 0, 1, 0, 0, 1, 0, 1], .b 3, .c [1, 0, 1, 0, 0, 1, 0, 0, 1, 0, 0, 1, 1], .l [1, 0, 1, 0, 0, 1, 0, 0, 1, 0, 0], .b 2, .b 1, .c [1, 0, 1, 0, 0, 1, 1], .l [1, 0, 1, 0, 0], .b 0, .c [1, 1]], ⟨[], ⟨[], []⟩⟩, fun p => some (.inl ())⟩
abbrev valued_l1_e1 : Leaf ((Unit) ⊕ (Unit)) := ⟨[.c [1, 1, 0], .c [1, 1, 1]], ⟨[], ⟨[], []⟩⟩, fun p => some (.inr ())⟩
noncomputable def valued_l1_L (N : Nat) : LoopS := { at_ := valued_l1_at, sta := valued_l1_st, exits := [([.c [1, 0, 1, 0, 0, 1, 0, 0, 1, 0, 0, 1, 0, 0, 1, 0, 0], .c [1, 0, 1, 0, 0, 1, 0, 0, 1, 0, 0, 1, 0, 0, 1, 0, 1], .b 3, .c [1, 0, 1, 0, 0, 1, 0, 0, 1, 0, 0, 1, 1], .l [1, 0, 1, 0, 0, 1, 0, 0, 1, 0, 0], .b 2, .b 1, .c [1, 0, 1, 0, 0, 1, 1], .l [1, 0, 1, 0, 0], .b 0, .c [1, 1]], ⟨[], ⟨[], []⟩⟩), ([.c [1, 1, 0], .c [1, 1, 1]], ⟨[], ⟨[], []⟩⟩)], run := fun p k => (valued_l1 N N p.1.1 p.1.2.1).bind fun e => match e with | .inl x => k (.inl ((), ())) | .inr x => k (.inr (.inl ((), ()))) }
theorem valued_l1_eq (N n_ : Nat) (l : Ll) (i : Int) : ev (Z := (Unit) ⊕ (Unit)) Try.prog (valued_sp N) valued_B [valued_l2_L N] [valued_l1_h (valued_l1 N n_), valued_l1_e0, valued_l1_e1] none 400 true valued_l1_at (stL valued_l1_st ((l, i, ()), ())) (stH valued_l1_st ((l, i, ()), ())) = valued_l1 N (n_ + 1) l i := by kernel_rfl
theorem valued_l1_ok (N : Nat) {top : Bool} : LoopOK Try.prog valued_B.c valued_B.n valued_B.m0 top (valued_l1_L N) := loop_of_ev (Z := (Unit) ⊕ (Unit)) (N := N) (fun m p => valued_l1 N m p.1.1 p.1.2.1) (fun e => match e with | .inl x => .inl ((), ()) | .inr x => .inr (.inl ((), ()))) (fun _ p k => bind_congr_ (valued_l1 N N p.1.1 p.1.2.1) _ _ (fun e => by rcases e with x | x <;> rfl)) (fun _ => rfl) (fun m z E Xc hE hX hrec hx => leaf_of_ev (B := valued_B) (loops := [valued_l2_L N]) (leaves := [valued_l1_h (valued_l1 N m), valued_l1_e0, valued_l1_e1]) (valued_all N) mixed ⟨valued_l2_ok N, trivial⟩ hE hX ⟨hrec, (fun p hp => by obtain rfl := Option.some.inj hp; exact hx), (fun p hp => by obtain rfl := Option.some.inj hp; exact hx), trivial⟩ RetOK.no (fun p => valued_l1_eq N m p.1.1 p.1.2.1))
abbrev valued_st : Sta := ⟨[0], ⟨[shQ], []⟩⟩
theorem valued_eq (N : Nat) (l : Ll) : ev (Z := Bool) Try.prog (valued_sp N) valued_B [valued_l2_L N, valued_l1_L N] [] (some valued_rt) 400 false [.c [0], .c [1]] (stL valued_st ((l, ()), ())) (stH valued_st ((l, ()), ())) = valued_S N l := by kernel_rfl
noncomputable def sp_valued (N : Nat) : Spec := { f := 101, ins := ⟨[shQ], []⟩, outs := [⟨[.b], []⟩], run := fun p k => (valued_S N p.1.1).bind fun r => k ((r, ()), ()) }
theorem sp_valued_ok (N : Nat) : SpecOK Try.prog (sp_valued N) := fn_sound (B := valued_B) (loops := [valued_l2_L N, valued_l1_L N]) (leaves := []) (fun p => valued_S N p.1.1) (fun r => ((r, ()), ())) valued_rt (fun _ _ _ => rfl) (fun r z h => by cases h; rfl) Try.func101 (by kernel_rfl) (by kernel_rfl) (by kernel_rfl) rfl rfl (by kernel_rfl) (fun args w => Sem.pv_run _ _ _ (by kernel_rfl) w) (valued_all N) mixed ⟨valued_l2_ok N, valued_l1_ok N, trivial⟩ (fun z E Xc hE hX hret => trivial) (fun p => valued_eq N p.1.1)

def rcheck_l1 (N : Nat) : Nat → Int → Li → Int → Ll → Ll → Li → Option ((Unit) ⊕ (Li × Int × Ll × Ll × Li))
  | 0, _, _, _, _, _, _ => none
  | n_ + 1, t, d, d2, d3, d4, d5 =>
    br (decide (t < (d.length : Int)))
      (idx d t fun x_4 =>
      (off_S N x_4 1 9).bind fun x_5 =>
      br x_5
        (some (.inl ()))
        (chk (t + 1) <|
        rcheck_l1 N n_ (t + 1) d d2 d3 d4 d5))
      (some (.inr (d, d2, d3, d4, d5)))
def rcheck_l2 (N : Nat) : Nat → Int → Li → Int → Ll → Ll → Li → Option ((Unit) ⊕ (Li × Int × Ll × Ll × Li))
  | 0, _, _, _, _, _, _ => none
  | n_ + 1, i, d, d2, d3, d4, d5 =>
    br (decide (i < (d5.length : Int)))
      (idx d5 i fun x_11 =>
      (off_S N x_11 0 99).bind fun x_12 =>
      br x_12
        (some (.inl ()))
        (chk (i + 1) <|
        rcheck_l2 N n_ (i + 1) d d2 d3 d4 d5))
      (some (.inr (d, d2, d3, d4, d5)))
def rcheck_S (N : Nat) (d : Li) (d2 : Int) (d3 : Ll) (d4 : Ll) (d5 : Li) : Option Int :=
  (off_S N (d.length : Int) 1 5).bind fun x_1 =>
  br x_1
    (some 2)
    (br (decide (6 < (d3.length : Int)))
      (some 2)
      (br (decide (6 < (d4.length : Int)))
        (some 2)
        ((described_S N d d2 d3 d4 d5 d3).bind fun x_2 =>
        br (!x_2)
          (some 2)
          ((described_S N d d2 d3 d4 d5 d4).bind fun x_3 =>
          br (!x_3)
            (some 2)
            (br (!decide ((d5.length : Int) = (d3.length : Int)))
              (some 2)
              ((rcheck_l1 N N 0 d d2 d3 d4 d5).bind fun e => match e with
              | .inl _ =>
                some 3
              | .inr (d_6, d2_7, d3_8, d4_9, d5_10) =>
                (rcheck_l2 N N 0 d_6 d2_7 d3_8 d4_9 d5_10).bind fun e => match e with
                | .inl _ =>
                  some 3
                | .inr (d_13, d2_14, d3_15, d4_16, d5_17) =>
                  (off_S N d2_14 0 3).bind fun x_18 =>
                  br x_18
                    (some 3)
                    ((valued_S N d3_15).bind fun x_19 =>
                    br (!x_19)
                      (some 3)
                      ((valued_S N d4_16).bind fun x_20 =>
                      br (!x_20)
                        (some 3)
                        (some 0)))))))))
noncomputable def rcheck_sp (N : Nat) : List Spec := [sp_off N, sp_described N, sp_valued N]
theorem rcheck_all (N : Nat) : AllP (SpecOK Try.prog) (rcheck_sp N) := ⟨sp_off_ok N, sp_described_ok N, sp_valued_ok N, trivial⟩
noncomputable def rcheck_c : Code := (Try.f57.body).getD .skip
noncomputable abbrev rcheck_B : Body := { c := rcheck_c, n := 83, res := [.tmp 2], outs := [⟨[shI], []⟩], m0 := 0 }
abbrev rcheck_rt : altD rcheck_B.outs → Option Int := fun r => some r.1.1
abbrev rcheck_l1_at : List PI := [.c [1, 1, 1, 0, 1, 0, 0, 0, 0], .c [1, 1, 1, 0, 1, 0, 0, 0, 1], .c [1, 1, 1, 0, 1, 0, 0, 1], .l [1, 1, 1, 0, 1, 0, 0], .b 0, .c [1, 1, 1, 1]]
abbrev rcheck_l1_st : Sta := ⟨[1, 3], ⟨[.own 0 0, shI], [.segs [shL, shI, shQ, shQ, shL]]⟩⟩
abbrev rcheck_l1_h (rec : Int → Li → Int → Ll → Ll → Li → Option ((Unit) ⊕ (Li × Int × Ll × Ll × Li))) : Leaf ((Unit) ⊕ (Li × Int × Ll × Ll × Li)) := ⟨rcheck_l1_at, rcheck_l1_st, fun p => rec p.1.2.1 p.2.1.1 p.2.1.2.1 p.2.1.2.2.1 p.2.1.2.2.2.1 p.2.1.2.2.2.2.1⟩
abbrev rcheck_l1_e0 : Leaf ((Unit) ⊕ (Li × Int × Ll × Ll × Li)) := ⟨[.c [1, 1, 1, 0, 1, 0, 0, 1, 0, 0, 1, 0, 0], .c [1, 1, 1, 0, 1, 0, 0, 1, 0, 0, 1, 0, 1], .b 1, .c [1, 1, 1, 0, 1, 0, 0, 1, 1], .l [1, 1, 1, 0, 1, 0, 0], .b 0, .c [1, 1, 1, 1]], ⟨[], ⟨[], []⟩⟩, fun p => some (.inl ())⟩
abbrev rcheck_l1_e1 : Leaf ((Unit) ⊕ (Li × Int × Ll × Ll × Li)) := ⟨[.c [1, 1, 1, 1, 0, 0], .c [1, 1, 1, 1, 0, 1], .c [1, 1, 1, 1, 1]], ⟨[1], ⟨[.own 0 0], [.segs [shL, shI, shQ, shQ, shL]]⟩⟩, fun p => some (.inr (p.2.1.1, p.2.1.2.1, p.2.1.2.2.1, p.2.1.2.2.2.1, p.2.1.2.2.2.2.1))⟩
noncomputable def rcheck_l1_L (N : Nat) : LoopS := { at_ := rcheck_l1_at, sta := rcheck_l1_st, exits := [([.c [1, 1, 1, 0, 1, 0, 0, 1, 0, 0, 1, 0, 0], .c [1, 1, 1, 0, 1, 0, 0, 1, 0, 0, 1, 0, 1], .b 1, .c [1, 1, 1, 0, 1, 0, 0, 1, 1], .l [1, 1, 1, 0, 1, 0, 0], .b 0, .c [1, 1, 1, 1]], ⟨[], ⟨[], []⟩⟩), ([.c [1, 1, 1, 1, 0, 0], .c [1, 1, 1, 1, 0, 1], .c [1, 1, 1, 1, 1]], ⟨[1], ⟨[.own 0 0], [.segs [shL, shI, shQ, shQ, shL]]⟩⟩)], run := fun p k => (rcheck_l1 N N p.1.2.1 p.2.1.1 p.2.1.2.1 p.2.1.2.2.1 p.2.1.2.2.2.1 p.2.1.2.2.2.2.1).bind fun e => match e with | .inl x => k (.inl ((), ())) | .inr x => k (.inr (.inl (((), ()), ((x.1, x.2.1, x.2.2.1, x.2.2.2.1, x.2.2.2.2, ()), ())))) }
theorem rcheck_l1_eq (N n_ : Nat) (t : Int) (d : Li) (d2 : Int) (d3 : Ll) (d4 : Ll) (d5 : Li) : ev (Z := (Unit) ⊕ (Li × Int × Ll × Ll × Li)) Try.prog (rcheck_sp N) rcheck_B [] [rcheck_l1_h (rcheck_l1 N n_), rcheck_l1_e0, rcheck_l1_e1] none 400 true rcheck_l1_at (stL rcheck_l1_st (((), t, ()), ((d, d2, d3, d4, d5, ()), ()))) (stH rcheck_l1_st (((), t, ()), ((d, d2, d3, d4, d5, ()), ()))) = rcheck_l1 N (n_ + 1) t d d2 d3 d4 d5 := by kernel_rfl
theorem rcheck_l1_ok (N : Nat) {top : Bool} : LoopOK Try.prog rcheck_B.c rcheck_B.n rcheck_B.m0 top (rcheck_l1_L N) := loop_of_ev (Z := (Unit) ⊕ (Li × Int × Ll × Ll × Li)) (N := N) (fun m p => rcheck_l1 N m p.1.2.1 p.2.1.1 p.2.1.2.1 p.2.1.2.2.1 p.2.1.2.2.2.1 p.2.1.2.2.2.2.1) (fun e => match e with | .inl x => .inl ((), ()) | .inr x => .inr (.inl (((), ()), ((x.1, x.2.1, x.2.2.1, x.2.2.2.1, x.2.2.2.2, ()), ())))) (fun _ p k => bind_congr_ (rcheck_l1 N N p.1.2.1 p.2.1.1 p.2.1.2.1 p.2.1.2.2.1 p.2.1.2.2.2.1 p.2.1.2.2.2.2.1) _ _ (fun e => by rcases e with x | x <;> rfl)) (fun _ => rfl) (fun m z E Xc hE hX hrec hx => leaf_of_ev (B := rcheck_B) (loops := []) (leaves := [rcheck_l1_h (rcheck_l1 N m), rcheck_l1_e0, rcheck_l1_e1]) (rcheck_all N) mixed trivial hE hX ⟨hrec, (fun p hp => by obtain rfl := Option.some.inj hp; exact hx), (fun p hp => by obtain rfl := Option.some.inj hp; exact hx), trivial⟩ RetOK.no (fun p => rcheck_l1_eq N m p.1.2.1 p.2.1.1 p.2.1.2.1 p.2.1.2.2.1 p.2.1.2.2.2.1 p.2.1.2.2.2.2.1))
abbrev rcheck_l2_at : List PI := [.c [1, 1, 1, 1, 0, 1, 0, 0, 0, 0], .c [1, 1, 1, 1, 0, 1, 0, 0, 0, 1], .c [1, 1, 1, 1, 0, 1, 0, 0, 1], .l [1, 1, 1, 1, 0, 1, 0, 0], .b 2, .c [1, 1, 1, 1, 1]]
abbrev rcheck_l2_st : Sta := ⟨[1, 4], ⟨[.own 0 0, shI], [.segs [shL, shI, shQ, shQ, shL]]⟩⟩
abbrev rcheck_l2_h (rec : Int → Li → Int → Ll → Ll → Li → Option ((Unit) ⊕ (Li × Int × Ll × Ll × Li))) : Leaf ((Unit) ⊕ (Li × Int × Ll × Ll × Li)) := ⟨rcheck_l2_at, rcheck_l2_st, fun p => rec p.1.2.1 p.2.1.1 p.2.1.2.1 p.2.1.2.2.1 p.2.1.2.2.2.1 p.2.1.2.2.2.2.1⟩
abbrev rcheck_l2_e0 : Leaf ((Unit) ⊕ (Li × Int × Ll × Ll × Li)) := ⟨[.c [1, 1, 1, 1, 0, 1, 0, 0, 1, 0, 0, 1, 0, 0], .c [1, 1, 1, 1, 0, 1, 0, 0, 1, 0, 0, 1, 0, 1], .b 3, .c [1, 1, 1, 1, 0, 1, 0, 0, 1, 1], .l [1, 1, 1, 1, 0, 1, 0, 0], .b 2, .c [1, 1, 1, 1, 1]], ⟨[], ⟨[], []⟩⟩, fun p => some (.inl ())⟩
abbrev rcheck_l2_e1 : Leaf ((Unit) ⊕ (Li × Int × Ll × Ll × Li)) := ⟨[.c [1, 1, 1, 1, 1, 0, 0], .c [1, 1, 1, 1, 1, 0, 1], .c [1, 1, 1, 1, 1, 1]], ⟨[1], ⟨[.own 0 0], [.segs [shL, shI, shQ, shQ, shL]]⟩⟩, fun p => some (.inr (p.2.1.1, p.2.1.2.1, p.2.1.2.2.1, p.2.1.2.2.2.1, p.2.1.2.2.2.2.1))⟩
noncomputable def rcheck_l2_L (N : Nat) : LoopS := { at_ := rcheck_l2_at, sta := rcheck_l2_st, exits := [([.c [1, 1, 1, 1, 0, 1, 0, 0, 1, 0, 0, 1, 0, 0], .c [1, 1, 1, 1, 0, 1, 0, 0, 1, 0, 0, 1, 0, 1], .b 3, .c [1, 1, 1, 1, 0, 1, 0, 0, 1, 1], .l [1, 1, 1, 1, 0, 1, 0, 0], .b 2, .c [1, 1, 1, 1, 1]], ⟨[], ⟨[], []⟩⟩), ([.c [1, 1, 1, 1, 1, 0, 0], .c [1, 1, 1, 1, 1, 0, 1], .c [1, 1, 1, 1, 1, 1]], ⟨[1], ⟨[.own 0 0], [.segs [shL, shI, shQ, shQ, shL]]⟩⟩)], run := fun p k => (rcheck_l2 N N p.1.2.1 p.2.1.1 p.2.1.2.1 p.2.1.2.2.1 p.2.1.2.2.2.1 p.2.1.2.2.2.2.1).bind fun e => match e with | .inl x => k (.inl ((), ())) | .inr x => k (.inr (.inl (((), ()), ((x.1, x.2.1, x.2.2.1, x.2.2.2.1, x.2.2.2.2, ()), ())))) }
theorem rcheck_l2_eq (N n_ : Nat) (i : Int) (d : Li) (d2 : Int) (d3 : Ll) (d4 : Ll) (d5 : Li) : ev (Z := (Unit) ⊕ (Li × Int × Ll × Ll × Li)) Try.prog (rcheck_sp N) rcheck_B [rcheck_l1_L N] [rcheck_l2_h (rcheck_l2 N n_), rcheck_l2_e0, rcheck_l2_e1] none 400 true rcheck_l2_at (stL rcheck_l2_st (((), i, ()), ((d, d2, d3, d4, d5, ()), ()))) (stH rcheck_l2_st (((), i, ()), ((d, d2, d3, d4, d5, ()), ()))) = rcheck_l2 N (n_ + 1) i d d2 d3 d4 d5 := by kernel_rfl
theorem rcheck_l2_ok (N : Nat) {top : Bool} : LoopOK Try.prog rcheck_B.c rcheck_B.n rcheck_B.m0 top (rcheck_l2_L N) := loop_of_ev (Z := (Unit) ⊕ (Li × Int × Ll × Ll × Li)) (N := N) (fun m p => rcheck_l2 N m p.1.2.1 p.2.1.1 p.2.1.2.1 p.2.1.2.2.1 p.2.1.2.2.2.1 p.2.1.2.2.2.2.1) (fun e => match e with | .inl x => .inl ((), ()) | .inr x => .inr (.inl (((), ()), ((x.1, x.2.1, x.2.2.1, x.2.2.2.1, x.2.2.2.2, ()), ())))) (fun _ p k => bind_congr_ (rcheck_l2 N N p.1.2.1 p.2.1.1 p.2.1.2.1 p.2.1.2.2.1 p.2.1.2.2.2.1 p.2.1.2.2.2.2.1) _ _ (fun e => by rcases e with x | x <;> rfl)) (fun _ => rfl) (fun m z E Xc hE hX hrec hx => leaf_of_ev (B := rcheck_B) (loops := [rcheck_l1_L N]) (leaves := [rcheck_l2_h (rcheck_l2 N m), rcheck_l2_e0, rcheck_l2_e1]) (rcheck_all N) mixed ⟨rcheck_l1_ok N, trivial⟩ hE hX ⟨hrec, (fun p hp => by obtain rfl := Option.some.inj hp; exact hx), (fun p hp => by obtain rfl := Option.some.inj hp; exact hx), trivial⟩ RetOK.no (fun p => rcheck_l2_eq N m p.1.2.1 p.2.1.1 p.2.1.2.1 p.2.1.2.2.1 p.2.1.2.2.2.1 p.2.1.2.2.2.2.1))
abbrev rcheck_st : Sta := ⟨[0], ⟨[shG], []⟩⟩
theorem rcheck_eq (N : Nat) (d : Li) (d2 : Int) (d3 : Ll) (d4 : Ll) (d5 : Li) : ev (Z := Int) Try.prog (rcheck_sp N) rcheck_B [rcheck_l1_L N, rcheck_l2_L N] [] (some rcheck_rt) 400 false [.c [0], .c [1]] (stL rcheck_st (((d, d2, d3, d4, d5, ()), ()), ())) (stH rcheck_st (((d, d2, d3, d4, d5, ()), ()), ())) = rcheck_S N d d2 d3 d4 d5 := by kernel_rfl
noncomputable def sp_rcheck (N : Nat) : Spec := { f := 57, ins := ⟨[shG], []⟩, outs := [⟨[shI], []⟩], run := fun p k => (rcheck_S N p.1.1.1 p.1.1.2.1 p.1.1.2.2.1 p.1.1.2.2.2.1 p.1.1.2.2.2.2.1).bind fun r => k ((r, ()), ()) }
theorem sp_rcheck_ok (N : Nat) : SpecOK Try.prog (sp_rcheck N) := fn_sound (B := rcheck_B) (loops := [rcheck_l1_L N, rcheck_l2_L N]) (leaves := []) (fun p => rcheck_S N p.1.1.1 p.1.1.2.1 p.1.1.2.2.1 p.1.1.2.2.2.1 p.1.1.2.2.2.2.1) (fun r => ((r, ()), ())) rcheck_rt (fun _ _ _ => rfl) (fun r z h => by cases h; rfl) Try.func57 (by kernel_rfl) (by kernel_rfl) (by kernel_rfl) rfl rfl (by kernel_rfl) (fun args w => Sem.pv_run _ _ _ (by kernel_rfl) w) (rcheck_all N) mixed ⟨rcheck_l1_ok N, rcheck_l2_ok N, trivial⟩ (fun z E Xc hE hX hret => trivial) (fun p => rcheck_eq N p.1.1.1 p.1.1.2.1 p.1.1.2.2.1 p.1.1.2.2.2.1 p.1.1.2.2.2.2.1)

def rpair_j2 (N : Nat) (rec : Int → Int → Int → Int → Int → Li → Int → Ll → Ll → Li → Option (Int × Int × Li × Int × Ll × Ll × Li)) (lost : Int) (found : Int) (n : Int) (slips : Int) (t : Int) (d : Li) (d2 : Int) (d3 : Ll) (d4 : Ll) (d5 : Li) : Option (Int × Int × Li × Int × Ll × Ll × Li) :=
  chk (t + 1) <|
  rec lost found n slips (t + 1) d d2 d3 d4 d5
def rpair_j1 (N : Nat) (rec : Int → Int → Int → Int → Int → Li → Int → Ll → Ll → Li → Option (Int × Int × Li × Int × Ll × Ll × Li)) (lost : Int) (found : Int) (n : Int) (slips : Int) (t : Int) (a : Int) (b : Int) (d : Li) (d2 : Int) (d3 : Ll) (d4 : Ll) (d5 : Li) : Option (Int × Int × Li × Int × Ll × Ll × Li) :=
  br (decide (0 ≤ a))
    (br (decide (0 ≤ b))
      (br (!decide (a = b))
        (chk (slips + 1) <|
        rpair_j2 N (rec) lost found n (slips + 1) t d d2 d3 d4 d5)
        (rpair_j2 N (rec) lost found n slips t d d2 d3 d4 d5))
      (rpair_j2 N (rec) lost found n slips t d d2 d3 d4 d5))
    (rpair_j2 N (rec) lost found n slips t d d2 d3 d4 d5)
def rpair_l1 (N : Nat) : Nat → Int → Int → Int → Int → Int → Li → Int → Ll → Ll → Li → Option (Int × Int × Li × Int × Ll × Ll × Li)
  | 0, _, _, _, _, _, _, _, _, _, _ => none
  | n_ + 1, lost, found, n, slips, t, d, d2, d3, d4, d5 =>
    br (decide (t < (d.length : Int)))
      (idx d3 lost fun x_1 =>
      idx x_1 t fun x_2 =>
      idx d4 found fun x_3 =>
      idx x_3 t fun x_4 =>
      br (decide (0 ≤ x_2))
        (br (decide (0 ≤ x_4))
          (br (decide (x_2 = x_4))
            (idx d t fun x_5 =>
            chk (n + x_5) <|
            rpair_j1 N (rpair_l1 N n_) lost found (n + x_5) slips t x_2 x_4 d d2 d3 d4 d5)
            (rpair_j1 N (rpair_l1 N n_) lost found n slips t x_2 x_4 d d2 d3 d4 d5))
          (rpair_j1 N (rpair_l1 N n_) lost found n slips t x_2 x_4 d d2 d3 d4 d5))
        (rpair_j1 N (rpair_l1 N n_) lost found n slips t x_2 x_4 d d2 d3 d4 d5))
      (some ((n, slips, d, d2, d3, d4, d5)))
def rpair_S (N : Nat) (d : Li) (d2 : Int) (d3 : Ll) (d4 : Ll) (d5 : Li) (lost : Int) (found : Int) : Option (Int × Int × Bool) :=
  (rpair_l1 N N lost found 0 0 0 d d2 d3 d4 d5).bind fun (n_6, slips_7, d_8, d2_9, d3_10, d4_11, d5_12) =>
  br (decide (0 < n_6))
    (some (n_6, slips_7, (decide (slips_7 ≤ d2_9))))
    (some (n_6, slips_7, false))
noncomputable def rpair_sp (N : Nat) : List Spec := []
theorem rpair_all (N : Nat) : AllP (SpecOK Try.prog) (rpair_sp N) := trivial
noncomputable def rpair_c : Code := (Try.f92.body).getD .skip
noncomputable abbrev rpair_B : Body := { c := rpair_c, n := 78, res := [.tmp 6, .tmp 7, .tmp 8], outs := [⟨[shI, shI, .b], []⟩], m0 := 0 }
abbrev rpair_rt : altD rpair_B.outs → Option (Int × Int × Bool) := fun r => some (r.1.1, r.1.2.1, r.1.2.2.1)
abbrev rpair_l1_at : List PI := [.c [1, 1, 0, 1, 0, 0, 0, 0], .c [1, 1, 0, 1, 0, 0, 0, 1], .c [1, 1, 0, 1, 0, 0, 1], .l [1, 1, 0, 1, 0, 0], .b 0, .c [1, 1, 1]]
abbrev rpair_l1_st : Sta := ⟨[1, 2, 3, 9, 10, 11], ⟨[shI, shI, .own 0 0, shI, shI, shI], [.segs [shL, shI, shQ, shQ, shL]]⟩⟩
abbrev rpair_l1_h (rec : Int → Int → Int → Int → Int → Li → Int → Ll → Ll → Li → Option (Int × Int × Li × Int × Ll × Ll × Li)) : Leaf (Int × Int × Li × Int × Ll × Ll × Li) := ⟨rpair_l1_at, rpair_l1_st, fun p => rec p.1.1 p.1.2.1 p.1.2.2.2.1 p.1.2.2.2.2.1 p.1.2.2.2.2.2.1 p.2.1.1 p.2.1.2.1 p.2.1.2.2.1 p.2.1.2.2.2.1 p.2.1.2.2.2.2.1⟩
abbrev rpair_l1_e0 : Leaf (Int × Int × Li × Int × Ll × Ll × Li) := ⟨[.c [1, 1, 1, 0], .c [1, 1, 1, 1]], ⟨[3, 9, 10], ⟨[.own 0 0, shI, shI], [.segs [shL, shI, shQ, shQ, shL]]⟩⟩, fun p => some ((p.1.2.1, p.1.2.2.1, p.2.1.1, p.2.1.2.1, p.2.1.2.2.1, p.2.1.2.2.2.1, p.2.1.2.2.2.2.1))⟩
abbrev rpair_j2_at : List PI := [.c [1, 1, 0, 1, 0, 0, 1, 1], .l [1, 1, 0, 1, 0, 0], .b 0, .c [1, 1, 1]]
abbrev rpair_j2_st : Sta := ⟨[1, 2, 3, 9, 10, 11], ⟨[shI, shI, .own 0 0, shI, shI, shI], [.segs [shL, shI, shQ, shQ, shL]]⟩⟩
abbrev rpair_j2_k (N : Nat) (rec : Int → Int → Int → Int → Int → Li → Int → Ll → Ll → Li → Option (Int × Int × Li × Int × Ll × Ll × Li)) : Leaf (Int × Int × Li × Int × Ll × Ll × Li) := ⟨rpair_j2_at, rpair_j2_st, fun p => rpair_j2 N rec p.1.1 p.1.2.1 p.1.2.2.2.1 p.1.2.2.2.2.1 p.1.2.2.2.2.2.1 p.2.1.1 p.2.1.2.1 p.2.1.2.2.1 p.2.1.2.2.2.1 p.2.1.2.2.2.2.1⟩
theorem rpair_j2_eq (N : Nat) (rec : Int → Int → Int → Int → Int → Li → Int → Ll → Ll → Li → Option (Int × Int × Li × Int × Ll × Ll × Li)) (lost : Int) (found : Int) (n : Int) (slips : Int) (t : Int) (d : Li) (d2 : Int) (d3 : Ll) (d4 : Ll) (d5 : Li) : ev (Z := Int × Int × Li × Int × Ll × Ll × Li) Try.prog (rpair_sp N) rpair_B [] [rpair_l1_h rec, rpair_l1_e0] none 400 true rpair_j2_at (stL rpair_j2_st ((lost, found, (), n, slips, t, ()), ((d, d2, d3, d4, d5, ()), ()))) (stH rpair_j2_st ((lost, found, (), n, slips, t, ()), ((d, d2, d3, d4, d5, ()), ()))) = rpair_j2 N rec lost found n slips t d d2 d3 d4 d5 := by kernel_rfl
theorem rpair_j2_lf (N : Nat) (rec : Int → Int → Int → Int → Int → Li → Int → Ll → Ll → Li → Option (Int × Int × Li × Int × Ll × Ll × Li)) {z : Int × Int × Li × Int × Ll × Ll × Li} {top : Bool} {E : EE} {Xc : Ctx} (hE : EOK rpair_B.m0 E) (hX : CxOK top Xc) (hrec : LeafOK Try.prog rpair_B.c rpair_B.n rpair_B.m0 E Xc z (rpair_l1_h rec)) (h0 : LeafOK Try.prog rpair_B.c rpair_B.n rpair_B.m0 E Xc z rpair_l1_e0) : LeafOK Try.prog rpair_B.c rpair_B.n rpair_B.m0 E Xc z (rpair_j2_k N rec) := leaf_of_ev (B := rpair_B) (loops := []) (leaves := [rpair_l1_h rec, rpair_l1_e0]) (rpair_all N) mixed trivial hE hX ⟨hrec, h0, trivial⟩ RetOK.no (fun p => rpair_j2_eq N rec p.1.1 p.1.2.1 p.1.2.2.2.1 p.1.2.2.2.2.1 p.1.2.2.2.2.2.1 p.2.1.1 p.2.1.2.1 p.2.1.2.2.1 p.2.1.2.2.2.1 p.2.1.2.2.2.2.1)
abbrev rpair_j1_at : List PI := [.c [1, 1, 0, 1, 0, 0, 1, 0, 0, 1, 1, 0], .c [1, 1, 0, 1, 0, 0, 1, 0, 0, 1, 1, 1], .b 1, .c [1, 1, 0, 1, 0, 0, 1, 1], .l [1, 1, 0, 1, 0, 0], .b 0, .c [1, 1, 1]]
abbrev rpair_j1_st : Sta := ⟨[1, 2, 3, 9, 10, 11, 12, 13], ⟨[shI, shI, .own 0 0, shI, shI, shI, shI, shI], [.segs [shL, shI, shQ, shQ, shL]]⟩⟩
abbrev rpair_j1_k (N : Nat) (rec : Int → Int → Int → Int → Int → Li → Int → Ll → Ll → Li → Option (Int × Int × Li × Int × Ll × Ll × Li)) : Leaf (Int × Int × Li × Int × Ll × Ll × Li) := ⟨rpair_j1_at, rpair_j1_st, fun p => rpair_j1 N rec p.1.1 p.1.2.1 p.1.2.2.2.1 p.1.2.2.2.2.1 p.1.2.2.2.2.2.1 p.1.2.2.2.2.2.2.1 p.1.2.2.2.2.2.2.2.1 p.2.1.1 p.2.1.2.1 p.2.1.2.2.1 p.2.1.2.2.2.1 p.2.1.2.2.2.2.1⟩
theorem rpair_j1_eq (N : Nat) (rec : Int → Int → Int → Int → Int → Li → Int → Ll → Ll → Li → Option (Int × Int × Li × Int × Ll × Ll × Li)) (lost : Int) (found : Int) (n : Int) (slips : Int) (t : Int) (a : Int) (b : Int) (d : Li) (d2 : Int) (d3 : Ll) (d4 : Ll) (d5 : Li) : ev (Z := Int × Int × Li × Int × Ll × Ll × Li) Try.prog (rpair_sp N) rpair_B [] [rpair_l1_h rec, rpair_l1_e0, rpair_j2_k N rec] none 400 true rpair_j1_at (stL rpair_j1_st ((lost, found, (), n, slips, t, a, b, ()), ((d, d2, d3, d4, d5, ()), ()))) (stH rpair_j1_st ((lost, found, (), n, slips, t, a, b, ()), ((d, d2, d3, d4, d5, ()), ()))) = rpair_j1 N rec lost found n slips t a b d d2 d3 d4 d5 := by kernel_rfl
theorem rpair_j1_lf (N : Nat) (rec : Int → Int → Int → Int → Int → Li → Int → Ll → Ll → Li → Option (Int × Int × Li × Int × Ll × Ll × Li)) {z : Int × Int × Li × Int × Ll × Ll × Li} {top : Bool} {E : EE} {Xc : Ctx} (hE : EOK rpair_B.m0 E) (hX : CxOK top Xc) (hrec : LeafOK Try.prog rpair_B.c rpair_B.n rpair_B.m0 E Xc z (rpair_l1_h rec)) (h0 : LeafOK Try.prog rpair_B.c rpair_B.n rpair_B.m0 E Xc z rpair_l1_e0) : LeafOK Try.prog rpair_B.c rpair_B.n rpair_B.m0 E Xc z (rpair_j1_k N rec) := leaf_of_ev (B := rpair_B) (loops := []) (leaves := [rpair_l1_h rec, rpair_l1_e0, rpair_j2_k N rec]) (rpair_all N) mixed trivial hE hX ⟨hrec, h0, rpair_j2_lf N rec hE hX hrec h0, trivial⟩ RetOK.no (fun p => rpair_j1_eq N rec p.1.1 p.1.2.1 p.1.2.2.2.1 p.1.2.2.2.2.1 p.1.2.2.2.2.2.1 p.1.2.2.2.2.2.2.1 p.1.2.2.2.2.2.2.2.1 p.2.1.1 p.2.1.2.1 p.2.1.2.2.1 p.2.1.2.2.2.1 p.2.1.2.2.2.2.1)
noncomputable def rpair_l1_L (N : Nat) : LoopS := { at_ := rpair_l1_at, sta := rpair_l1_st, exits := [([.c [1, 1, 1, 0], .c [1, 1, 1, 1]], ⟨[3, 9, 10], ⟨[.own 0 0, shI, shI], [.segs [shL, shI, shQ, shQ, shL]]⟩⟩)], run := fun p k => (rpair_l1 N N p.1.1 p.1.2.1 p.1.2.2.2.1 p.1.2.2.2.2.1 p.1.2.2.2.2.2.1 p.2.1.1 p.2.1.2.1 p.2.1.2.2.1 p.2.1.2.2.2.1 p.2.1.2.2.2.2.1).bind fun e => k (.inl (((), e.1, e.2.1, ()), ((e.2.2.1, e.2.2.2.1, e.2.2.2.2.1, e.2.2.2.2.2.1, e.2.2.2.2.2.2, ()), ()))) }
theorem rpair_l1_eq (N n_ : Nat) (lost : Int) (found : Int) (n : Int) (slips : Int) (t : Int) (d : Li) (d2 : Int) (d3 : Ll) (d4 : Ll) (d5 : Li) : ev (Z := Int × Int × Li × Int × Ll × Ll × Li) Try.prog (rpair_sp N) rpair_B [] [rpair_l1_h (rpair_l1 N n_), rpair_l1_e0, rpair_j2_k N (rpair_l1 N n_), rpair_j1_k N (rpair_l1 N n_)] none 400 true rpair_l1_at (stL rpair_l1_st ((lost, found, (), n, slips, t, ()), ((d, d2, d3, d4, d5, ()), ()))) (stH rpair_l1_st ((lost, found, (), n, slips, t, ()), ((d, d2, d3, d4, d5, ()), ()))) = rpair_l1 N (n_ + 1) lost found n slips t d d2 d3 d4 d5 := by kernel_rfl
theorem rpair_l1_ok (N : Nat) {top : Bool} : LoopOK Try.prog rpair_B.c rpair_B.n rpair_B.m0 top (rpair_l1_L N) := loop_of_ev (Z := Int × Int × Li × Int × Ll × Ll × Li) (N := N) (fun m p => rpair_l1 N m p.1.1 p.1.2.1 p.1.2.2.2.1 p.1.2.2.2.2.1 p.1.2.2.2.2.2.1 p.2.1.1 p.2.1.2.1 p.2.1.2.2.1 p.2.1.2.2.2.1 p.2.1.2.2.2.2.1) (fun e => .inl (((), e.1, e.2.1, ()), ((e.2.2.1, e.2.2.2.1, e.2.2.2.2.1, e.2.2.2.2.2.1, e.2.2.2.2.2.2, ()), ()))) (fun _ _ _ => rfl) (fun _ => rfl) (fun m z E Xc hE hX hrec hx => leaf_of_ev (B := rpair_B) (loops := []) (leaves := [rpair_l1_h (rpair_l1 N m), rpair_l1_e0, rpair_j2_k N (rpair_l1 N m), rpair_j1_k N (rpair_l1 N m)]) (rpair_all N) mixed trivial hE hX ⟨hrec, (fun p hp => by obtain rfl := Option.some.inj hp; exact hx), rpair_j2_lf N _ hE hX hrec (fun p hp => by obtain rfl := Option.some.inj hp; exact hx), rpair_j1_lf N _ hE hX hrec (fun p hp => by obtain rfl := Option.some.inj hp; exact hx), trivial⟩ RetOK.no (fun p => rpair_l1_eq N m p.1.1 p.1.2.1 p.1.2.2.2.1 p.1.2.2.2.2.1 p.1.2.2.2.2.2.1 p.2.1.1 p.2.1.2.1 p.2.1.2.2.1 p.2.1.2.2.2.1 p.2.1.2.2.2.2.1))
abbrev rpair_st : Sta := ⟨[0, 1, 2], ⟨[shG, shI, shI], []⟩⟩
theorem rpair_eq (N : Nat) (d : Li) (d2 : Int) (d3 : Ll) (d4 : Ll) (d5 : Li) (lost : Int) (found : Int) : ev (Z := Int × Int × Bool) Try.prog (rpair_sp N) rpair_B [rpair_l1_L N] [] (some rpair_rt) 400 false [.c [0], .c [1]] (stL rpair_st (((d, d2, d3, d4, d5, ()), lost, found, ()), ())) (stH rpair_st (((d, d2, d3, d4, d5, ()), lost, found, ()), ())) = rpair_S N d d2 d3 d4 d5 lost found := by kernel_rfl
noncomputable def sp_rpair (N : Nat) : Spec := { f := 92, ins := ⟨[shG, shI, shI], []⟩, outs := [⟨[shI, shI, .b], []⟩], run := fun p k => (rpair_S N p.1.1.1 p.1.1.2.1 p.1.1.2.2.1 p.1.1.2.2.2.1 p.1.1.2.2.2.2.1 p.1.2.1 p.1.2.2.1).bind fun r => k ((r.1, r.2.1, r.2.2, ()), ()) }
theorem sp_rpair_ok (N : Nat) : SpecOK Try.prog (sp_rpair N) := fn_sound (B := rpair_B) (loops := [rpair_l1_L N]) (leaves := []) (fun p => rpair_S N p.1.1.1 p.1.1.2.1 p.1.1.2.2.1 p.1.1.2.2.2.1 p.1.1.2.2.2.2.1 p.1.2.1 p.1.2.2.1) (fun r => ((r.1, r.2.1, r.2.2, ()), ())) rpair_rt (fun _ _ _ => rfl) (fun r z h => by cases h; rfl) Try.func92 (by kernel_rfl) (by kernel_rfl) (by kernel_rfl) rfl rfl (by kernel_rfl) (fun args w => Sem.pv_run _ _ _ (by kernel_rfl) w) (rpair_all N) mixed ⟨rpair_l1_ok N, trivial⟩ (fun z E Xc hE hX hret => trivial) (fun p => rpair_eq N p.1.1.1 p.1.1.2.1 p.1.1.2.2.1 p.1.1.2.2.2.1 p.1.1.2.2.2.2.1 p.1.2.1 p.1.2.2.1)

def ragree_S (N : Nat) (d : Li) (d2 : Int) (d3 : Ll) (d4 : Ll) (d5 : Li) (lost : Int) (found : Int) : Option (Int × Int × Bool × Int) :=
  (rcheck_S N d d2 d3 d4 d5).bind fun x_1 =>
  br (!decide (x_1 = 0))
    (some (0, 0, false, x_1))
    (chk ((d3.length : Int) - 1) <|
    (off_S N lost 0 ((d3.length : Int) - 1)).bind fun x_2 =>
    br x_2
      (some (0, 0, false, 1))
      (chk ((d4.length : Int) - 1) <|
      (off_S N found 0 ((d4.length : Int) - 1)).bind fun x_3 =>
      br x_3
        (some (0, 0, false, 1))
        ((rpair_S N d d2 d3 d4 d5 lost found).bind fun (x_4, y_5, y_6) =>
        some (x_4, y_5, y_6, 0))))
noncomputable def ragree_sp (N : Nat) : List Spec := [sp_off N, sp_rcheck N, sp_rpair N]
theorem ragree_all (N : Nat) : AllP (SpecOK Try.prog) (ragree_sp N) := ⟨sp_off_ok N, sp_rcheck_ok N, sp_rpair_ok N, trivial⟩
noncomputable def ragree_c : Code := (Try.f52.body).getD .skip
noncomputable abbrev ragree_B : Body := { c := ragree_c, n := 44, res := [.tmp 6, .tmp 7, .tmp 8, .tmp 9], outs := [⟨[shI, shI, .b, shI], []⟩], m0 := 0 }
abbrev ragree_rt : altD ragree_B.outs → Option (Int × Int × Bool × Int) := fun r => some (r.1.1, r.1.2.1, r.1.2.2.1, r.1.2.2.2.1)
abbrev ragree_st : Sta := ⟨[0, 1, 2], ⟨[shG, shI, shI], []⟩⟩
theorem ragree_eq (N : Nat) (d : Li) (d2 : Int) (d3 : Ll) (d4 : Ll) (d5 : Li) (lost : Int) (found : Int) : ev (Z := Int × Int × Bool × Int) Try.prog (ragree_sp N) ragree_B [] [] (some ragree_rt) 400 false [.c [0], .c [1]] (stL ragree_st (((d, d2, d3, d4, d5, ()), lost, found, ()), ())) (stH ragree_st (((d, d2, d3, d4, d5, ()), lost, found, ()), ())) = ragree_S N d d2 d3 d4 d5 lost found := by kernel_rfl
noncomputable def sp_ragree (N : Nat) : Spec := { f := 52, ins := ⟨[shG, shI, shI], []⟩, outs := [⟨[shI, shI, .b, shI], []⟩], run := fun p k => (ragree_S N p.1.1.1 p.1.1.2.1 p.1.1.2.2.1 p.1.1.2.2.2.1 p.1.1.2.2.2.2.1 p.1.2.1 p.1.2.2.1).bind fun r => k ((r.1, r.2.1, r.2.2.1, r.2.2.2, ()), ()) }
theorem sp_ragree_ok (N : Nat) : SpecOK Try.prog (sp_ragree N) := fn_sound (B := ragree_B) (loops := []) (leaves := []) (fun p => ragree_S N p.1.1.1 p.1.1.2.1 p.1.1.2.2.1 p.1.1.2.2.2.1 p.1.1.2.2.2.2.1 p.1.2.1 p.1.2.2.1) (fun r => ((r.1, r.2.1, r.2.2.1, r.2.2.2, ()), ())) ragree_rt (fun _ _ _ => rfl) (fun r z h => by cases h; rfl) Try.func52 (by kernel_rfl) (by kernel_rfl) (by kernel_rfl) rfl rfl (by kernel_rfl) (fun args w => Sem.pv_run _ _ _ (by kernel_rfl) w) (ragree_all N) mixed trivial (fun z E Xc hE hX hret => trivial) (fun p => ragree_eq N p.1.1.1 p.1.1.2.1 p.1.1.2.2.1 p.1.1.2.2.2.1 p.1.1.2.2.2.2.1 p.1.2.1 p.1.2.2.1)

def rjoins_l1 (N : Nat) : Nat → Li → Int → Li → Int → Ll → Ll → Li → Option ((Unit) ⊕ (Li × Li × Int × Ll × Ll × Li))
  | 0, _, _, _, _, _, _, _ => none
  | n_ + 1, l, i, d, d2, d3, d4, d5 =>
    br (decide (i < (l.length : Int)))
      (idx l i fun x_2 =>
      chk ((d4.length : Int) - 1) <|
      (off_S N x_2 (-1) ((d4.length : Int) - 1)).bind fun x_3 =>
      br x_3
        (some (.inl ()))
        (chk (i + 1) <|
        rjoins_l1 N n_ l (i + 1) d d2 d3 d4 d5))
      (some (.inr (l, d, d2, d3, d4, d5)))
def rjoins_l3 (N : Nat) : Nat → Li → Int → Int → Li → Int → Ll → Ll → Li → Option ((Unit) ⊕ (Li × Int × Li × Int × Ll × Ll × Li))
  | 0, _, _, _, _, _, _, _, _ => none
  | n_ + 1, l, i, k, d, d2, d3, d4, d5 =>
    br (decide (k < i))
      (idx l i fun x_10 =>
      br (decide (0 ≤ x_10))
        (idx l i fun x_11 =>
        idx l k fun x_12 =>
        br (decide (x_11 = x_12))
          (some (.inl ()))
          (chk (k + 1) <|
          rjoins_l3 N n_ l i (k + 1) d d2 d3 d4 d5))
        (chk (k + 1) <|
        rjoins_l3 N n_ l i (k + 1) d d2 d3 d4 d5))
      (some (.inr (l, i, d, d2, d3, d4, d5)))
def rjoins_l2 (N : Nat) : Nat → Li → Int → Li → Int → Ll → Ll → Li → Option ((Unit) ⊕ (Li × Li × Int × Ll × Ll × Li))
  | 0, _, _, _, _, _, _, _ => none
  | n_ + 1, l, i, d, d2, d3, d4, d5 =>
    br (decide (i < (l.length : Int)))
      ((rjoins_l3 N N l i 0 d d2 d3 d4 d5).bind fun e => match e with
      | .inl _ =>
        some (.inl ())
      | .inr (l_13, i_14, d_15, d2_16, d3_17, d4_18, d5_19) =>
        chk (i_14 + 1) <|
        rjoins_l2 N n_ l_13 (i_14 + 1) d_15 d2_16 d3_17 d4_18 d5_19)
      (some (.inr (l, d, d2, d3, d4, d5)))
def rjoins_j1 (N : Nat) (rec : Li → Int → Li → Int → Ll → Ll → Li → Option ((Unit) ⊕ (Unit))) (l : Li) (i : Int) (d : Li) (d2 : Int) (d3 : Ll) (d4 : Ll) (d5 : Li) : Option ((Unit) ⊕ (Unit)) :=
  chk (i + 1) <|
  rec l (i + 1) d d2 d3 d4 d5
def rjoins_l4 (N : Nat) : Nat → Li → Int → Li → Int → Ll → Ll → Li → Option ((Unit) ⊕ (Unit))
  | 0, _, _, _, _, _, _, _ => none
  | n_ + 1, l, i, d, d2, d3, d4, d5 =>
    br (decide (i < (l.length : Int)))
      (idx l i fun x_26 =>
      br (decide (x_26 < 0))
        (rjoins_j1 N (rjoins_l4 N n_) l i d d2 d3 d4 d5)
        (idx l i fun x_27 =>
        (rpair_S N d d2 d3 d4 d5 i x_27).bind fun (x_28, y_29, y_30) =>
        br (!y_30)
          (some (.inl ()))
          (rjoins_j1 N (rjoins_l4 N n_) l i d d2 d3 d4 d5)))
      (some (.inr ()))
def rjoins_S (N : Nat) (d : Li) (d2 : Int) (d3 : Ll) (d4 : Ll) (d5 : Li) (l : Li) : Option Int :=
  (rcheck_S N d d2 d3 d4 d5).bind fun x_1 =>
  br (!decide (x_1 = 0))
    (some x_1)
    (br (!decide ((l.length : Int) = (d3.length : Int)))
      (some 2)
      ((rjoins_l1 N N l 0 d d2 d3 d4 d5).bind fun e => match e with
      | .inl _ =>
        some 1
      | .inr (l_4, d_5, d2_6, d3_7, d4_8, d5_9) =>
        (rjoins_l2 N N l_4 0 d_5 d2_6 d3_7 d4_8 d5_9).bind fun e => match e with
        | .inl _ =>
          some 5
        | .inr (l_20, d_21, d2_22, d3_23, d4_24, d5_25) =>
          (rjoins_l4 N N l_20 0 d_21 d2_22 d3_23 d4_24 d5_25).bind fun e => match e with
          | .inl _ =>
            some 8
          | .inr _ =>
            some 0))
noncomputable def rjoins_sp (N : Nat) : List Spec := [sp_off N, sp_rcheck N, sp_rpair N]
theorem rjoins_all (N : Nat) : AllP (SpecOK Try.prog) (rjoins_sp N) := ⟨sp_off_ok N, sp_rcheck_ok N, sp_rpair_ok N, trivial⟩
noncomputable def rjoins_c : Code := (Try.f42.body).getD .skip
noncomputable abbrev rjoins_B : Body := { c := rjoins_c, n := 90, res := [.tmp 4], outs := [⟨[shI], []⟩], m0 := 0 }
abbrev rjoins_rt : altD rjoins_B.outs → Option Int := fun r => some r.1.1
abbrev rjoins_l1_at : List PI := [.c [1, 1, 1, 0, 1, 0, 0, 0, 0], .c [1, 1, 1, 0, 1, 0, 0, 0, 1], .c [1, 1, 1, 0, 1, 0, 0, 1], .l [1, 1, 1, 0, 1, 0, 0], .b 0, .c [1, 1, 1, 1]]
abbrev rjoins_l1_st : Sta := ⟨[1, 2, 6], ⟨[shL, .own 0 0, shI], [.segs [shL, shI, shQ, shQ, shL]]⟩⟩
abbrev rjoins_l1_h (rec : Li → Int → Li → Int → Ll → Ll → Li → Option ((Unit) ⊕ (Li × Li × Int × Ll × Ll × Li))) : Leaf ((Unit) ⊕ (Li × Li × Int × Ll × Ll × Li)) := ⟨rjoins_l1_at, rjoins_l1_st, fun p => rec p.1.1 p.1.2.2.1 p.2.1.1 p.2.1.2.1 p.2.1.2.2.1 p.2.1.2.2.2.1 p.2.1.2.2.2.2.1⟩
abbrev rjoins_l1_e0 : Leaf ((Unit) ⊕ (Li × Li × Int × Ll × Ll × Li)) := ⟨[.c [1, 1, 1, 0, 1, 0, 0, 1, 0, 0, 1, 0, 0], .c [1, 1, 1, 0, 1, 0, 0, 1, 0, 0, 1, 0, 1], .b 1, .c [1, 1, 1, 0, 1, 0, 0, 1, 1], .l [1, 1, 1, 0, 1, 0, 0], .b 0, .c [1, 1, 1, 1]], ⟨[], ⟨[], []⟩⟩, fun p => some (.inl ())⟩
abbrev rjoins_l1_e1 : Leaf ((Unit) ⊕ (Li × Li × Int × Ll × Ll × Li)) := ⟨[.c [1, 1, 1, 1, 0, 0], .c [1, 1, 1, 1, 0, 1], .c [1, 1, 1, 1, 1]], ⟨[1, 2], ⟨[shL, .own 0 0], [.segs [shL, shI, shQ, shQ, shL]]⟩⟩, fun p => some (.inr (p.1.1, p.2.1.1, p.2.1.2.1, p.2.1.2.2.1, p.2.1.2.2.2.1, p.2.1.2.2.2.2.1))⟩
noncomputable def rjoins_l1_L (N : Nat) : LoopS := { at_ := rjoins_l1_at, sta := rjoins_l1_st, exits := [([.c [1, 1, 1, 0, 1, 0, 0, 1, 0, 0, 1, 0, 0], .c [1, 1, 1, 0, 1, 0, 0, 1, 0, 0, 1, 0, 1], .b 1, .c [1, 1, 1, 0, 1, 0, 0, 1, 1], .l [1, 1, 1, 0, 1, 0, 0], .b 0, .c [1, 1, 1, 1]], ⟨[], ⟨[], []⟩⟩), ([.c [1, 1, 1, 1, 0, 0], .c [1, 1, 1, 1, 0, 1], .c [1, 1, 1, 1, 1]], ⟨[1, 2], ⟨[shL, .own 0 0], [.segs [shL, shI, shQ, shQ, shL]]⟩⟩)], run := fun p k => (rjoins_l1 N N p.1.1 p.1.2.2.1 p.2.1.1 p.2.1.2.1 p.2.1.2.2.1 p.2.1.2.2.2.1 p.2.1.2.2.2.2.1).bind fun e => match e with | .inl x => k (.inl ((), ())) | .inr x => k (.inr (.inl ((x.1, (), ()), ((x.2.1, x.2.2.1, x.2.2.2.1, x.2.2.2.2.1, x.2.2.2.2.2, ()), ())))) }
theorem rjoins_l1_eq (N n_ : Nat) (l : Li) (i : Int) (d : Li) (d2 : Int) (d3 : Ll) (d4 : Ll) (d5 : Li) : ev (Z := (Unit) ⊕ (Li × Li × Int × Ll × Ll × Li)) Try.prog (rjoins_sp N) rjoins_B [] [rjoins_l1_h (rjoins_l1 N n_), rjoins_l1_e0, rjoins_l1_e1] none 400 true rjoins_l1_at (stL rjoins_l1_st ((l, (), i, ()), ((d, d2, d3, d4, d5, ()), ()))) (stH rjoins_l1_st ((l, (), i, ()), ((d, d2, d3, d4, d5, ()), ()))) = rjoins_l1 N (n_ + 1) l i d d2 d3 d4 d5 := by kernel_rfl
theorem rjoins_l1_ok (N : Nat) {top : Bool} : LoopOK Try.prog rjoins_B.c rjoins_B.n rjoins_B.m0 top (rjoins_l1_L N) := loop_of_ev (Z := (Unit) ⊕ (Li × Li × Int × Ll × Ll × Li)) (N := N) (fun m p => rjoins_l1 N m p.1.1 p.1.2.2.1 p.2.1.1 p.2.1.2.1 p.2.1.2.2.1 p.2.1.2.2.2.1 p.2.1.2.2.2.2.1) (fun e => match e with | .inl x => .inl ((), ()) | .inr x => .inr (.inl ((x.1, (), ()), ((x.2.1, x.2.2.1, x.2.2.2.1, x.2.2.2.2.1, x.2.2.2.2.2, ()), ())))) (fun _ p k => bind_congr_ (rjoins_l1 N N p.1.1 p.1.2.2.1 p.2.1.1 p.2.1.2.1 p.2.1.2.2.1 p.2.1.2.2.2.1 p.2.1.2.2.2.2.1) _ _ (fun e => by rcases e with x | x <;> rfl)) (fun _ => rfl) (fun m z E Xc hE hX hrec hx => leaf_of_ev (B := rjoins_B) (loops := []) (leaves := [rjoins_l1_h (rjoins_l1 N m), rjoins_l1_e0, rjoins_l1_e1]) (rjoins_all N) mixed trivial hE hX ⟨hrec, (fun p hp => by obtain rfl := Option.some.inj hp; exact hx), (fun p hp => by obtain rfl := Option.some.inj hp; exact hx), trivial⟩ RetOK.no (fun p => rjoins_l1_eq N m p.1.1 p.1.2.2.1 p.2.1.1 p.2.1.2.1 p.2.1.2.2.1 p.2.1.2.2.2.1 p.2.1.2.2.2.2.1))
abbrev rjoins_l3_at : List PI := [.c [1, 1, 1, 1, 0, 1, 0, 0, 1, 0, 0, 1, 0, 0, 0, 0], .c [1, 1, 1, 1, 0, 1, 0, 0, 1, 0, 0, 1, 0, 0, 0, 1], .c [1, 1, 1, 1, 0, 1, 0, 0, 1, 0, 0, 1, 0, 0, 1], .l [1, 1, 1, 1, 0, 1, 0, 0, 1, 0, 0, 1, 0, 0], .b 4, .b 3, .c [1, 1, 1, 1, 0, 1, 0, 0, 1, 1], .l [1, 1, 1, 1, 0, 1, 0, 0], .b 2, .c [1, 1, 1, 1, 1]]
abbrev rjoins_l3_st : Sta := ⟨[1, 2, 7, 8], ⟨[shL, .own 0 0, shI, shI], [.segs [shL, shI, shQ, shQ, shL]]⟩⟩
abbrev rjoins_l3_h (rec : Li → Int → Int → Li → Int → Ll → Ll → Li → Option ((Unit) ⊕ (Li × Int × Li × Int × Ll × Ll × Li))) : Leaf ((Unit) ⊕ (Li × Int × Li × Int × Ll × Ll × Li)) := ⟨rjoins_l3_at, rjoins_l3_st, fun p => rec p.1.1 p.1.2.2.1 p.1.2.2.2.1 p.2.1.1 p.2.1.2.1 p.2.1.2.2.1 p.2.1.2.2.2.1 p.2.1.2.2.2.2.1⟩
abbrev rjoins_l3_e0 : Leaf ((Unit) ⊕ (Li × Int × Li × Int × Ll × Ll × Li)) := ⟨[.c [1, 1, 1, 1, 0, 1, 0, 0, 1, 0, 0, 1, 0, 0, 1, 0, 0, 1, 0, 0], .c [1, 1, 1, 1, 0, 1, 0, 0, 1, 0, 0, 1, 0, 0, 1, 0, 0, 1, 0, 1], .b 5, .c [1, 1, 1, 1, 0, 1, 0, 0, 1, 0, 0, 1, 0, 0, 1, 1], .l [1, 1, 1, 1, 0, 1, 0, 0, 1, 0, 0, 1, 0, 0], .b 4, .b 3, .c [1, 1, 1, 1, 0, 1, 0, 0, 1, 1], .l [1, 1, 1, 1, 0, 1, 0, 0], .b 2, .c [1, 1, 1, 1, 1]], ⟨[], ⟨[], []⟩⟩, fun p => some (.inl ())⟩
abbrev rjoins_l3_e1 : Leaf ((Unit) ⊕ (Li × Int × Li × Int × Ll × Ll × Li)) := ⟨[.c [1, 1, 1, 1, 0, 1, 0, 0, 1, 1], .l [1, 1, 1, 1, 0, 1, 0, 0], .b 2, .c [1, 1, 1, 1, 1]], ⟨[1, 2, 7], ⟨[shL, .own 0 0, shI], [.segs [shL, shI, shQ, shQ, shL]]⟩⟩, fun p => some (.inr (p.1.1, p.1.2.2.1, p.2.1.1, p.2.1.2.1, p.2.1.2.2.1, p.2.1.2.2.2.1, p.2.1.2.2.2.2.1))⟩
noncomputable def rjoins_l3_L (N : Nat) : LoopS := { at_ := rjoins_l3_at, sta := rjoins_l3_st, exits := [([.c [1, 1, 1, 1, 0, 1, 0, 0, 1, 0, 0, 1, 0, 0, 1, 0, 0, 1, 0, 0], .c [1, 1, 1, 1, 0, 1, 0, 0, 1, 0, 0, 1, 0, 0, 1, 0, 0, 1, 0, 1], .b 5, .c [1, 1, 1, 1, 0, 1, 0, 0, 1, 0, 0, 1, 0, 0, 1, 1], .l [1, 1, 1, 1, 0, 1, 0, 0, 1, 0, 0, 1, 0, 0], .b 4, .b 3, .c [1, 1, 1, 1, 0, 1, 0, 0, 1, 1], .l [1, 1, 1, 1, 0, 1, 0, 0], .b 2, .c [1, 1, 1, 1, 1]], ⟨[], ⟨[], []⟩⟩), ([.c [1, 1, 1, 1, 0, 1, 0, 0, 1, 1], .l [1, 1, 1, 1, 0, 1, 0, 0], .b 2, .c [1, 1, 1, 1, 1]], ⟨[1, 2, 7], ⟨[shL, .own 0 0, shI], [.segs [shL, shI, shQ, shQ, shL]]⟩⟩)], run := fun p k => (rjoins_l3 N N p.1.1 p.1.2.2.1 p.1.2.2.2.1 p.2.1.1 p.2.1.2.1 p.2.1.2.2.1 p.2.1.2.2.2.1 p.2.1.2.2.2.2.1).bind fun e => match e with | .inl x => k (.inl ((), ())) | .inr x => k (.inr (.inl ((x.1, (), x.2.1, ()), ((x.2.2.1, x.2.2.2.1, x.2.2.2.2.1, x.2.2.2.2.2.1, x.2.2.2.2.2.2, ()), ())))) }
theorem rjoins_l3_eq (N n_ : Nat) (l : Li) (i : Int) (k : Int) (d : Li) (d2 : Int) (d3 : Ll) (d4 : Ll) (d5 : Li) : ev (Z := (Unit) ⊕ (Li × Int × Li × Int × Ll × Ll × Li)) Try.prog (rjoins_sp N) rjoins_B [rjoins_l1_L N] [rjoins_l3_h (rjoins_l3 N n_), rjoins_l3_e0, rjoins_l3_e1] none 400 true rjoins_l3_at (stL rjoins_l3_st ((l, (), i, k, ()), ((d, d2, d3, d4, d5, ()), ()))) (stH rjoins_l3_st ((l, (), i, k, ()), ((d, d2, d3, d4, d5, ()), ()))) = rjoins_l3 N (n_ + 1) l i k d d2 d3 d4 d5 := by kernel_rfl
theorem rjoins_l3_ok (N : Nat) {top : Bool} : LoopOK Try.prog rjoins_B.c rjoins_B.n rjoins_B.m0 top (rjoins_l3_L N) := loop_of_ev (Z := (Unit) ⊕ (Li × Int × Li × Int × Ll × Ll × Li)) (N := N) (fun m p => rjoins_l3 N m p.1.1 p.1.2.2.1 p.1.2.2.2.1 p.2.1.1 p.2.1.2.1 p.2.1.2.2.1 p.2.1.2.2.2.1 p.2.1.2.2.2.2.1) (fun e => match e with | .inl x => .inl ((), ()) | .inr x => .inr (.inl ((x.1, (), x.2.1, ()), ((x.2.2.1, x.2.2.2.1, x.2.2.2.2.1, x.2.2.2.2.2.1, x.2.2.2.2.2.2, ()), ())))) (fun _ p k => bind_congr_ (rjoins_l3 N N p.1.1 p.1.2.2.1 p.1.2.2.2.1 p.2.1.1 p.2.1.2.1 p.2.1.2.2.1 p.2.1.2.2.2.1 p.2.1.2.2.2.2.1) _ _ (fun e => by rcases e with x | x <;> rfl)) (fun _ => rfl) (fun m z E Xc hE hX hrec hx => leaf_of_ev (B := rjoins_B) (loops := [rjoins_l1_L N]) (leaves := [rjoins_l3_h (rjoins_l3 N m), rjoins_l3_e0, rjoins_l3_e1]) (rjoins_all N) mixed ⟨rjoins_l1_ok N, trivial⟩ hE hX ⟨hrec, (fun p hp => by obtain rfl := Option.some.inj hp; exact hx), (fun p hp => by obtain rfl := Option.some.inj hp; exact hx), trivial⟩ RetOK.no (fun p => rjoins_l3_eq N m p.1.1 p.1.2.2.1 p.1.2.2.2.1 p.2.1.1 p.2.1.2.1 p.2.1.2.2.1 p.2.1.2.2.2.1 p.2.1.2.2.2.2.1))
abbrev rjoins_l2_at : List PI := [.c [1, 1, 1, 1, 0, 1, 0, 0, 0, 0], .c [1, 1, 1, 1, 0, 1, 0, 0, 0, 1], .c [1, 1, 1, 1, 0, 1, 0, 0, 1], .l [1, 1, 1, 1, 0, 1, 0, 0], .b 2, .c [1, 1, 1, 1, 1]]
abbrev rjoins_l2_st : Sta := ⟨[1, 2, 7], ⟨[shL, .own 0 0, shI], [.segs [shL, shI, shQ, shQ, shL]]⟩⟩
abbrev rjoins_l2_h (rec : Li → Int → Li → Int → Ll → Ll → Li → Option ((Unit) ⊕ (Li × Li × Int × Ll × Ll × Li))) : Leaf ((Unit) ⊕ (Li × Li × Int × Ll × Ll × Li)) := ⟨rjoins_l2_at, rjoins_l2_st, fun p => rec p.1.1 p.1.2.2.1 p.2.1.1 p.2.1.2.1 p.2.1.2.2.1 p.2.1.2.2.2.1 p.2.1.2.2.2.2.1⟩
abbrev rjoins_l2_e0 : Leaf ((Unit) ⊕ (Li × Li × Int × Ll × Ll × Li)) := ⟨[.c [1, 1, 1, 1, 0, 1, 0, 0, 1, 0, 0, 1, 0, 0, 1, 0, 0, 1, 0, 0], .c [1, 1, 1, 1, 0, 1, 0, 0, 1, 0, 0, 1, 0, 0, 1, 0, 0, 1, 0, 1], .b 5, .c [1, 1, 1, 1, 0, 1, 0, 0, 1, 0, 0, 1, 0, 0, 1, 1], .l [1, 1, 1, 1, 0, 1, 0, 0, 1, 0, 0, 1, 0, 0], .b 4, .b 3, .c [1, 1, 1, 1, 0, 1, 0, 0, 1, 1], .l [1, 1, 1, 1, 0, 1, 0, 0], .b 2, .c [1, 1, 1, 1, 1]], ⟨[], ⟨[], []⟩⟩, fun p => some (.inl ())⟩
abbrev rjoins_l2_e1 : Leaf ((Unit) ⊕ (Li × Li × Int × Ll × Ll × Li)) := ⟨[.c [1, 1, 1, 1, 1, 0, 0], .c [1, 1, 1, 1, 1, 0, 1], .c [1, 1, 1, 1, 1, 1]], ⟨[1, 2], ⟨[shL, .own 0 0], [.segs [shL, shI, shQ, shQ, shL]]⟩⟩, fun p => some (.inr (p.1.1, p.2.1.1, p.2.1.2.1, p.2.1.2.2.1, p.2.1.2.2.2.1, p.2.1.2.2.2.2.1))⟩
noncomputable def rjoins_l2_L (N : Nat) : LoopS := { at_ := rjoins_l2_at, sta := rjoins_l2_st, exits := [([.c [1, 1, 1, 1, 0, 1, 0, 0, 1, 0, 0, 1, 0, 0, 1, 0, 0, 1, 0, 0], .c [1, 1, 1, 1, 0, 1, 0, 0, 1, 0, 0, 1, 0, 0, 1, 0, 0, 1, 0, 1], .b 5, .c [1, 1, 1, 1, 0, 1, 0, 0, 1, 0, 0, 1, 0, 0, 1, 1], .l [1, 1, 1, 1, 0, 1, 0, 0, 1, 0, 0, 1, 0, 0], .b 4, .b 3, .c [1, 1, 1, 1, 0, 1, 0, 0, 1, 1], .l [1, 1, 1, 1, 0, 1, 0, 0], .b 2, .c [1, 1, 1, 1, 1]], ⟨[], ⟨[], []⟩⟩), ([.c [1, 1, 1, 1, 1, 0, 0], .c [1, 1, 1, 1, 1, 0, 1], .c [1, 1, 1, 1, 1, 1]], ⟨[1, 2], ⟨[shL, .own 0 0], [.segs [shL, shI, shQ, shQ, shL]]⟩⟩)], run := fun p k => (rjoins_l2 N N p.1.1 p.1.2.2.1 p.2.1.1 p.2.1.2.1 p.2.1.2.2.1 p.2.1.2.2.2.1 p.2.1.2.2.2.2.1).bind fun e => match e with | .inl x => k (.inl ((), ())) | .inr x => k (.inr (.inl ((x.1, (), ()), ((x.2.1, x.2.2.1, x.2.2.2.1, x.2.2.2.2.1, x.2.2.2.2.2, ()), ())))) }
theorem rjoins_l2_eq (N n_ : Nat) (l : Li) (i : Int) (d : Li) (d2 : Int) (d3 : Ll) (d4 : Ll) (d5 : Li) : ev (Z := (Unit) ⊕ (Li × Li × Int × Ll × Ll × Li)) Try.prog (rjoins_sp N) rjoins_B [rjoins_l1_L N, rjoins_l3_L N] [rjoins_l2_h (rjoins_l2 N n_), rjoins_l2_e0, rjoins_l2_e1] none 400 true rjoins_l2_at (stL rjoins_l2_st ((l, (), i, ()), ((d, d2, d3, d4, d5, ()), ()))) (stH rjoins_l2_st ((l, (), i, ()), ((d, d2, d3, d4, d5, ()), ()))) = rjoins_l2 N (n_ + 1) l i d d2 d3 d4 d5 := by kernel_rfl
theorem rjoins_l2_ok (N : Nat) {top : Bool} : LoopOK Try.prog rjoins_B.c rjoins_B.n rjoins_B.m0 top (rjoins_l2_L N) := loop_of_ev (Z := (Unit) ⊕ (Li × Li × Int × Ll × Ll × Li)) (N := N) (fun m p => rjoins_l2 N m p.1.1 p.1.2.2.1 p.2.1.1 p.2.1.2.1 p.2.1.2.2.1 p.2.1.2.2.2.1 p.2.1.2.2.2.2.1) (fun e => match e with | .inl x => .inl ((), ()) | .inr x => .inr (.inl ((x.1, (), ()), ((x.2.1, x.2.2.1, x.2.2.2.1, x.2.2.2.2.1, x.2.2.2.2.2, ()), ())))) (fun _ p k => bind_congr_ (rjoins_l2 N N p.1.1 p.1.2.2.1 p.2.1.1 p.2.1.2.1 p.2.1.2.2.1 p.2.1.2.2.2.1 p.2.1.2.2.2.2.1) _ _ (fun e => by rcases e with x | x <;> rfl)) (fun _ => rfl) (fun m z E Xc hE hX hrec hx => leaf_of_ev (B := rjoins_B) (loops := [rjoins_l1_L N, rjoins_l3_L N]) (leaves := [rjoins_l2_h (rjoins_l2 N m), rjoins_l2_e0, rjoins_l2_e1]) (rjoins_all N) mixed ⟨rjoins_l1_ok N, rjoins_l3_ok N, trivial⟩ hE hX ⟨hrec, (fun p hp => by obtain rfl := Option.some.inj hp; exact hx), (fun p hp => by obtain rfl := Option.some.inj hp; exact hx), trivial⟩ RetOK.no (fun p => rjoins_l2_eq N m p.1.1 p.1.2.2.1 p.2.1.1 p.2.1.2.1 p.2.1.2.2.1 p.2.1.2.2.2.1 p.2.1.2.2.2.2.1))
abbrev rjoins_l4_at : List PI := [.c [1, 1, 1, 1, 1, 0, 1, 0, 0, 0, 0], .c [1, 1, 1, 1, 1, 0, 1, 0, 0, 0, 1], .c [1, 1, 1, 1, 1, 0, 1, 0, 0, 1], .l [1, 1, 1, 1, 1, 0, 1, 0, 0], .b 6, .c [1, 1, 1, 1, 1, 1]]
abbrev rjoins_l4_st : Sta := ⟨[1, 2, 9], ⟨[shL, .own 0 0, shI], [.segs [shL, shI, shQ, shQ, shL]]⟩⟩
abbrev rjoins_l4_h (rec : Li → Int → Li → Int → Ll → Ll → Li → Option ((Unit) ⊕ (Unit))) : Leaf ((Unit) ⊕ (Unit)) := ⟨rjoins_l4_at, rjoins_l4_st, fun p => rec p.1.1 p.1.2.2.1 p.2.1.1 p.2.1.2.1 p.2.1.2.2.1 p.2.1.2.2.2.1 p.2.1.2.2.2.2.1⟩
abbrev rjoins_l4_e0 : Leaf ((Unit) ⊕ (Unit)) := ⟨[.c [1, 1, 1, 1, 1, 0, 1, 0, 0, 1, 0, 0, 1, 1, 1, 0, 0], .c [1, 1, 1, 1, 1, 0, 1, 0, 0, 1, 0, 0, 1, 1, 1, 0, 1], .b 7, .c [1, 1, 1, 1, 1, 0, 1, 0, 0, 1, 1], .l [1, 1, 1, 1, 1, 0, 1, 0, 0], .b 6, .c [1, 1, 1, 1, 1, 1]], ⟨[], ⟨[], []⟩⟩, fun p => some (.inl ())⟩
abbrev rjoins_l4_e1 : Leaf ((Unit) ⊕ (Unit)) := ⟨[.c [1, 1, 1, 1, 1, 1, 0], .c [1, 1, 1, 1, 1, 1, 1]], ⟨[], ⟨[], []⟩⟩, fun p => some (.inr ())⟩
abbrev rjoins_j1_at : List PI := [.c [1, 1, 1, 1, 1, 0, 1, 0, 0, 1, 1], .l [1, 1, 1, 1, 1, 0, 1, 0, 0], .b 6, .c [1, 1, 1, 1, 1, 1]]
abbrev rjoins_j1_st : Sta := ⟨[1, 2, 9], ⟨[shL, .own 0 0, shI], [.segs [shL, shI, shQ, shQ, shL]]⟩⟩
abbrev rjoins_j1_k (N : Nat) (rec : Li → Int → Li → Int → Ll → Ll → Li → Option ((Unit) ⊕ (Unit))) : Leaf ((Unit) ⊕ (Unit)) := ⟨rjoins_j1_at, rjoins_j1_st, fun p => rjoins_j1 N rec p.1.1 p.1.2.2.1 p.2.1.1 p.2.1.2.1 p.2.1.2.2.1 p.2.1.2.2.2.1 p.2.1.2.2.2.2.1⟩
theorem rjoins_j1_eq (N : Nat) (rec : Li → Int → Li → Int → Ll → Ll → Li → Option ((Unit) ⊕ (Unit))) (l : Li) (i : Int) (d : Li) (d2 : Int) (d3 : Ll) (d4 : Ll) (d5 : Li) : ev (Z := (Unit) ⊕ (Unit)) Try.prog (rjoins_sp N) rjoins_B [rjoins_l1_L N, rjoins_l3_L N, rjoins_l2_L N] [rjoins_l4_h rec, rjoins_l4_e0, rjoins_l4_e1] none 400 true rjoins_j1_at (stL rjoins_j1_st ((l, (), i, ()), ((d, d2, d3, d4, d5, ()), ()))) (stH rjoins_j1_st ((l, (), i, ()), ((d, d2, d3, d4, d5, ()), ()))) = rjoins_j1 N rec l i d d2 d3 d4 d5 := by kernel_rfl
theorem rjoins_j1_lf (N : Nat) (rec : Li → Int → Li → Int → Ll → Ll → Li → Option ((Unit) ⊕ (Unit))) {z : (Unit) ⊕ (Unit)} {top : Bool} {E : EE} {Xc : Ctx} (hE : EOK rjoins_B.m0 E) (hX : CxOK top Xc) (hrec : LeafOK Try.prog rjoins_B.c rjoins_B.n rjoins_B.m0 E Xc z (rjoins_l4_h rec)) (h0 : LeafOK Try.prog rjoins_B.c rjoins_B.n rjoins_B.m0 E Xc z rjoins_l4_e0) (h1 : LeafOK Try.prog rjoins_B.c rjoins_B.n rjoins_B.m0 E Xc z rjoins_l4_e1) : LeafOK Try.prog rjoins_B.c rjoins_B.n rjoins_B.m0 E Xc z (rjoins_j1_k N rec) := leaf_of_ev (B := rjoins_B) (loops := [rjoins_l1_L N, rjoins_l3_L N, rjoins_l2_L N]) (leaves := [rjoins_l4_h rec, rjoins_l4_e0, rjoins_l4_e1]) (rjoins_all N) mixed ⟨rjoins_l1_ok N, rjoins_l3_ok N, rjoins_l2_ok N, trivial⟩ hE hX ⟨hrec, h0, h1, trivial⟩ RetOK.no (fun p => rjoins_j1_eq N rec p.1.1 p.1.2.2.1 p.2.1.1 p.2.1.2.1 p.2.1.2.2.1 p.2.1.2.2.2.1 p.2.1.2.2.2.2.1)
noncomputable def rjoins_l4_L (N : Nat) : LoopS := { at_ := rjoins_l4_at, sta := rjoins_l4_st, exits := [([.c [1, 1, 1, 1, 1, 0, 1, 0, 0, 1, 0, 0, 1, 1, 1, 0, 0], .c [1, 1, 1, 1, 1, 0, 1, 0, 0, 1, 0, 0, 1, 1, 1, 0, 1], .b 7, .c [1, 1, 1, 1, 1, 0, 1, 0, 0, 1, 1], .l [1, 1, 1, 1, 1, 0, 1, 0, 0], .b 6, .c [1, 1, 1, 1, 1, 1]], ⟨[], ⟨[], []⟩⟩), ([.c [1, 1, 1, 1, 1, 1, 0], .c [1, 1, 1, 1, 1, 1, 1]], ⟨[], ⟨[], []⟩⟩)], run := fun p k => (rjoins_l4 N N p.1.1 p.1.2.2.1 p.2.1.1 p.2.1.2.1 p.2.1.2.2.1 p.2.1.2.2.2.1 p.2.1.2.2.2.2.1).bind fun e => match e with | .inl x => k (.inl ((), ())) | .inr x => k (.inr (.inl ((), ()))) }
theorem rjoins_l4_eq (N n_ : Nat) (l : Li) (i : Int) (d : Li) (d2 : Int) (d3 : Ll) (d4 : Ll) (d5 : Li) : ev (Z := (Unit) ⊕ (Unit)) Try.prog (rjoins_sp N) rjoins_B [rjoins_l1_L N, rjoins_l3_L N, rjoins_l2_L N] [rjoins_l4_h (rjoins_l4 N n_), rjoins_l4_e0, rjoins_l4_e1, rjoins_j1_k N (rjoins_l4 N n_)] none 400 true rjoins_l4_at (stL rjoins_l4_st ((l, (), i, ()), ((d, d2, d3, d4, d5, ()), ()))) (stH rjoins_l4_st ((l, (), i, ()), ((d, d2, d3, d4, d5, ()), ()))) = rjoins_l4 N (n_ + 1) l i d d2 d3 d4 d5 := by kernel_rfl
theorem rjoins_l4_ok (N : Nat) {top : Bool} : LoopOK Try.prog rjoins_B.c rjoins_B.n rjoins_B.m0 top (rjoins_l4_L N) := loop_of_ev (Z := (Unit) ⊕ (Unit)) (N := N) (fun m p => rjoins_l4 N m p.1.1 p.1.2.2.1 p.2.1.1 p.2.1.2.1 p.2.1.2.2.1 p.2.1.2.2.2.1 p.2.1.2.2.2.2.1) (fun e => match e with | .inl x => .inl ((), ()) | .inr x => .inr (.inl ((), ()))) (fun _ p k => bind_congr_ (rjoins_l4 N N p.1.1 p.1.2.2.1 p.2.1.1 p.2.1.2.1 p.2.1.2.2.1 p.2.1.2.2.2.1 p.2.1.2.2.2.2.1) _ _ (fun e => by rcases e with x | x <;> rfl)) (fun _ => rfl) (fun m z E Xc hE hX hrec hx => leaf_of_ev (B := rjoins_B) (loops := [rjoins_l1_L N, rjoins_l3_L N, rjoins_l2_L N]) (leaves := [rjoins_l4_h (rjoins_l4 N m), rjoins_l4_e0, rjoins_l4_e1, rjoins_j1_k N (rjoins_l4 N m)]) (rjoins_all N) mixed ⟨rjoins_l1_ok N, rjoins_l3_ok N, rjoins_l2_ok N, trivial⟩ hE hX ⟨hrec, (fun p hp => by obtain rfl := Option.some.inj hp; exact hx), (fun p hp => by obtain rfl := Option.some.inj hp; exact hx), rjoins_j1_lf N _ hE hX hrec (fun p hp => by obtain rfl := Option.some.inj hp; exact hx) (fun p hp => by obtain rfl := Option.some.inj hp; exact hx), trivial⟩ RetOK.no (fun p => rjoins_l4_eq N m p.1.1 p.1.2.2.1 p.2.1.1 p.2.1.2.1 p.2.1.2.2.1 p.2.1.2.2.2.1 p.2.1.2.2.2.2.1))
abbrev rjoins_st : Sta := ⟨[0, 1], ⟨[shG, shL], []⟩⟩
theorem rjoins_eq (N : Nat) (d : Li) (d2 : Int) (d3 : Ll) (d4 : Ll) (d5 : Li) (l : Li) : ev (Z := Int) Try.prog (rjoins_sp N) rjoins_B [rjoins_l1_L N, rjoins_l3_L N, rjoins_l2_L N, rjoins_l4_L N] [] (some rjoins_rt) 400 false [.c [0], .c [1]] (stL rjoins_st (((d, d2, d3, d4, d5, ()), l, ()), ())) (stH rjoins_st (((d, d2, d3, d4, d5, ()), l, ()), ())) = rjoins_S N d d2 d3 d4 d5 l := by kernel_rfl
noncomputable def sp_rjoins (N : Nat) : Spec := { f := 42, ins := ⟨[shG, shL], []⟩, outs := [⟨[shI], []⟩], run := fun p k => (rjoins_S N p.1.1.1 p.1.1.2.1 p.1.1.2.2.1 p.1.1.2.2.2.1 p.1.1.2.2.2.2.1 p.1.2.1).bind fun r => k ((r, ()), ()) }
theorem sp_rjoins_ok (N : Nat) : SpecOK Try.prog (sp_rjoins N) := fn_sound (B := rjoins_B) (loops := [rjoins_l1_L N, rjoins_l3_L N, rjoins_l2_L N, rjoins_l4_L N]) (leaves := []) (fun p => rjoins_S N p.1.1.1 p.1.1.2.1 p.1.1.2.2.1 p.1.1.2.2.2.1 p.1.1.2.2.2.2.1 p.1.2.1) (fun r => ((r, ()), ())) rjoins_rt (fun _ _ _ => rfl) (fun r z h => by cases h; rfl) Try.func42 (by kernel_rfl) (by kernel_rfl) (by kernel_rfl) rfl rfl (by kernel_rfl) (fun args w => Sem.pv_run _ _ _ (by kernel_rfl) w) (rjoins_all N) mixed ⟨rjoins_l1_ok N, rjoins_l3_ok N, rjoins_l2_ok N, rjoins_l4_ok N, trivial⟩ (fun z E Xc hE hX hret => trivial) (fun p => rjoins_eq N p.1.1.1 p.1.1.2.1 p.1.1.2.2.1 p.1.1.2.2.2.1 p.1.1.2.2.2.2.1 p.1.2.1)

def rworth_j1 (N : Nat) (rec : Li → Int → Int → Li → Int → Ll → Ll → Li → Option Int) (l : Li) (sum : Int) (i : Int) (d : Li) (d2 : Int) (d3 : Ll) (d4 : Ll) (d5 : Li) : Option Int :=
  chk (i + 1) <|
  rec l sum (i + 1) d d2 d3 d4 d5
def rworth_l1 (N : Nat) : Nat → Li → Int → Int → Li → Int → Ll → Ll → Li → Option Int
  | 0, _, _, _, _, _, _, _, _ => none
  | n_ + 1, l, sum, i, d, d2, d3, d4, d5 =>
    br (decide (i < (l.length : Int)))
      (idx l i fun x_1 =>
      br (decide (0 ≤ x_1))
        (idx l i fun x_2 =>
        (rpair_S N d d2 d3 d4 d5 i x_2).bind fun (x_3, y_4, y_5) =>
        chk (sum + x_3) <|
        rworth_j1 N (rworth_l1 N n_) l (sum + x_3) i d d2 d3 d4 d5)
        (rworth_j1 N (rworth_l1 N n_) l sum i d d2 d3 d4 d5))
      (some (sum))
def rworth_S (N : Nat) (d : Li) (d2 : Int) (d3 : Ll) (d4 : Ll) (d5 : Li) (l : Li) : Option Int :=
  (rworth_l1 N N l 0 0 d d2 d3 d4 d5).bind fun sum_6 =>
  some sum_6
noncomputable def rworth_sp (N : Nat) : List Spec := [sp_rpair N]
theorem rworth_all (N : Nat) : AllP (SpecOK Try.prog) (rworth_sp N) := ⟨sp_rpair_ok N, trivial⟩
noncomputable def rworth_c : Code := (Try.f43.body).getD .skip
noncomputable abbrev rworth_B : Body := { c := rworth_c, n := 36, res := [.tmp 4], outs := [⟨[shI], []⟩], m0 := 0 }
abbrev rworth_rt : altD rworth_B.outs → Option Int := fun r => some r.1.1
abbrev rworth_l1_at : List PI := [.c [1, 1, 0, 1, 0, 0, 0, 0], .c [1, 1, 0, 1, 0, 0, 0, 1], .c [1, 1, 0, 1, 0, 0, 1], .l [1, 1, 0, 1, 0, 0], .b 0, .c [1, 1, 1]]
abbrev rworth_l1_st : Sta := ⟨[1, 2, 5, 6], ⟨[shL, .own 0 0, shI, shI], [.segs [shL, shI, shQ, shQ, shL]]⟩⟩
abbrev rworth_l1_h (rec : Li → Int → Int → Li → Int → Ll → Ll → Li → Option Int) : Leaf Int := ⟨rworth_l1_at, rworth_l1_st, fun p => rec p.1.1 p.1.2.2.1 p.1.2.2.2.1 p.2.1.1 p.2.1.2.1 p.2.1.2.2.1 p.2.1.2.2.2.1 p.2.1.2.2.2.2.1⟩
abbrev rworth_l1_e0 : Leaf Int := ⟨[.c [1, 1, 1, 0], .c [1, 1, 1, 1]], ⟨[5], ⟨[shI], []⟩⟩, fun p => some (p.1.1)⟩
abbrev rworth_j1_at : List PI := [.c [1, 1, 0, 1, 0, 0, 1, 1], .l [1, 1, 0, 1, 0, 0], .b 0, .c [1, 1, 1]]
abbrev rworth_j1_st : Sta := ⟨[1, 2, 5, 6], ⟨[shL, .own 0 0, shI, shI], [.segs [shL, shI, shQ, shQ, shL]]⟩⟩
abbrev rworth_j1_k (N : Nat) (rec : Li → Int → Int → Li → Int → Ll → Ll → Li → Option Int) : Leaf Int := ⟨rworth_j1_at, rworth_j1_st, fun p => rworth_j1 N rec p.1.1 p.1.2.2.1 p.1.2.2.2.1 p.2.1.1 p.2.1.2.1 p.2.1.2.2.1 p.2.1.2.2.2.1 p.2.1.2.2.2.2.1⟩
theorem rworth_j1_eq (N : Nat) (rec : Li → Int → Int → Li → Int → Ll → Ll → Li → Option Int) (l : Li) (sum : Int) (i : Int) (d : Li) (d2 : Int) (d3 : Ll) (d4 : Ll) (d5 : Li) : ev (Z := Int) Try.prog (rworth_sp N) rworth_B [] [rworth_l1_h rec, rworth_l1_e0] none 400 true rworth_j1_at (stL rworth_j1_st ((l, (), sum, i, ()), ((d, d2, d3, d4, d5, ()), ()))) (stH rworth_j1_st ((l, (), sum, i, ()), ((d, d2, d3, d4, d5, ()), ()))) = rworth_j1 N rec l sum i d d2 d3 d4 d5 := by kernel_rfl
theorem rworth_j1_lf (N : Nat) (rec : Li → Int → Int → Li → Int → Ll → Ll → Li → Option Int) {z : Int} {top : Bool} {E : EE} {Xc : Ctx} (hE : EOK rworth_B.m0 E) (hX : CxOK top Xc) (hrec : LeafOK Try.prog rworth_B.c rworth_B.n rworth_B.m0 E Xc z (rworth_l1_h rec)) (h0 : LeafOK Try.prog rworth_B.c rworth_B.n rworth_B.m0 E Xc z rworth_l1_e0) : LeafOK Try.prog rworth_B.c rworth_B.n rworth_B.m0 E Xc z (rworth_j1_k N rec) := leaf_of_ev (B := rworth_B) (loops := []) (leaves := [rworth_l1_h rec, rworth_l1_e0]) (rworth_all N) mixed trivial hE hX ⟨hrec, h0, trivial⟩ RetOK.no (fun p => rworth_j1_eq N rec p.1.1 p.1.2.2.1 p.1.2.2.2.1 p.2.1.1 p.2.1.2.1 p.2.1.2.2.1 p.2.1.2.2.2.1 p.2.1.2.2.2.2.1)
noncomputable def rworth_l1_L (N : Nat) : LoopS := { at_ := rworth_l1_at, sta := rworth_l1_st, exits := [([.c [1, 1, 1, 0], .c [1, 1, 1, 1]], ⟨[5], ⟨[shI], []⟩⟩)], run := fun p k => (rworth_l1 N N p.1.1 p.1.2.2.1 p.1.2.2.2.1 p.2.1.1 p.2.1.2.1 p.2.1.2.2.1 p.2.1.2.2.2.1 p.2.1.2.2.2.2.1).bind fun e => k (.inl ((e, ()), ())) }
theorem rworth_l1_eq (N n_ : Nat) (l : Li) (sum : Int) (i : Int) (d : Li) (d2 : Int) (d3 : Ll) (d4 : Ll) (d5 : Li) : ev (Z := Int) Try.prog (rworth_sp N) rworth_B [] [rworth_l1_h (rworth_l1 N n_), rworth_l1_e0, rworth_j1_k N (rworth_l1 N n_)] none 400 true rworth_l1_at (stL rworth_l1_st ((l, (), sum, i, ()), ((d, d2, d3, d4, d5, ()), ()))) (stH rworth_l1_st ((l, (), sum, i, ()), ((d, d2, d3, d4, d5, ()), ()))) = rworth_l1 N (n_ + 1) l sum i d d2 d3 d4 d5 := by kernel_rfl
theorem rworth_l1_ok (N : Nat) {top : Bool} : LoopOK Try.prog rworth_B.c rworth_B.n rworth_B.m0 top (rworth_l1_L N) := loop_of_ev (Z := Int) (N := N) (fun m p => rworth_l1 N m p.1.1 p.1.2.2.1 p.1.2.2.2.1 p.2.1.1 p.2.1.2.1 p.2.1.2.2.1 p.2.1.2.2.2.1 p.2.1.2.2.2.2.1) (fun e => .inl ((e, ()), ())) (fun _ _ _ => rfl) (fun _ => rfl) (fun m z E Xc hE hX hrec hx => leaf_of_ev (B := rworth_B) (loops := []) (leaves := [rworth_l1_h (rworth_l1 N m), rworth_l1_e0, rworth_j1_k N (rworth_l1 N m)]) (rworth_all N) mixed trivial hE hX ⟨hrec, (fun p hp => by obtain rfl := Option.some.inj hp; exact hx), rworth_j1_lf N _ hE hX hrec (fun p hp => by obtain rfl := Option.some.inj hp; exact hx), trivial⟩ RetOK.no (fun p => rworth_l1_eq N m p.1.1 p.1.2.2.1 p.1.2.2.2.1 p.2.1.1 p.2.1.2.1 p.2.1.2.2.1 p.2.1.2.2.2.1 p.2.1.2.2.2.2.1))
abbrev rworth_st : Sta := ⟨[0, 1], ⟨[shG, shL], []⟩⟩
theorem rworth_eq (N : Nat) (d : Li) (d2 : Int) (d3 : Ll) (d4 : Ll) (d5 : Li) (l : Li) : ev (Z := Int) Try.prog (rworth_sp N) rworth_B [rworth_l1_L N] [] (some rworth_rt) 400 false [.c [0], .c [1]] (stL rworth_st (((d, d2, d3, d4, d5, ()), l, ()), ())) (stH rworth_st (((d, d2, d3, d4, d5, ()), l, ()), ())) = rworth_S N d d2 d3 d4 d5 l := by kernel_rfl
noncomputable def sp_rworth (N : Nat) : Spec := { f := 43, ins := ⟨[shG, shL], []⟩, outs := [⟨[shI], []⟩], run := fun p k => (rworth_S N p.1.1.1 p.1.1.2.1 p.1.1.2.2.1 p.1.1.2.2.2.1 p.1.1.2.2.2.2.1 p.1.2.1).bind fun r => k ((r, ()), ()) }
theorem sp_rworth_ok (N : Nat) : SpecOK Try.prog (sp_rworth N) := fn_sound (B := rworth_B) (loops := [rworth_l1_L N]) (leaves := []) (fun p => rworth_S N p.1.1.1 p.1.1.2.1 p.1.1.2.2.1 p.1.1.2.2.2.1 p.1.1.2.2.2.2.1 p.1.2.1) (fun r => ((r, ()), ())) rworth_rt (fun _ _ _ => rfl) (fun r z h => by cases h; rfl) Try.func43 (by kernel_rfl) (by kernel_rfl) (by kernel_rfl) rfl rfl (by kernel_rfl) (fun args w => Sem.pv_run _ _ _ (by kernel_rfl) w) (rworth_all N) mixed ⟨rworth_l1_ok N, trivial⟩ (fun z E Xc hE hX hret => trivial) (fun p => rworth_eq N p.1.1.1 p.1.1.2.1 p.1.1.2.2.1 p.1.1.2.2.2.1 p.1.1.2.2.2.2.1 p.1.2.1)

noncomputable abbrev lists_self (self : Int → Int → Option Ll) : Spec := { f := 125, ins := ⟨[shI, shI], []⟩, outs := [⟨[.ols 0], [.lst (.sl (.int .i64))]⟩], run := fun p k => (self p.1.1 p.1.2.1).bind fun r => k (((), ()), (r, ())) }
def lists_l2 (N : Nat) (self : Int → Int → Option Ll) : Nat → Int → Int → Int → Ll → Ll → Option (Int × Int × Ll × Ll)
  | 0, _, _, _, _, _ => none
  | n_ + 1, many, i, k, out, rest =>
    br (decide (k < many))
      (rng i rest.length <|
      get rest i.toNat fun x_2 =>
      lim (([] : Li).length + x_2.length) <|
      lim ((([] : Li) ++ x_2).length + [k].length) <|
      lim (out.length + ([((([] : Li) ++ x_2) ++ [k])]).length) <|
      chk (k + 1) <|
      lists_l2 N self n_ many i (k + 1) (out ++ [((([] : Li) ++ x_2) ++ [k])]) rest)
      (some ((many, i, out, rest)))
def lists_l1 (N : Nat) (self : Int → Int → Option Ll) : Nat → Int → Int → Ll → Ll → Option Ll
  | 0, _, _, _, _ => none
  | n_ + 1, many, i, out, rest =>
    br (decide (i < (rest.length : Int)))
      ((lists_l2 N self N many i (-1) out rest).bind fun (many_3, i_4, out_5, rest_6) =>
      chk (i_4 + 1) <|
      lists_l1 N self n_ many_3 (i_4 + 1) out_5 rest_6)
      (some (out))
def lists_S (N : Nat) (self : Int → Int → Option Ll) (long : Int) (many : Int) : Option Ll :=
  br (decide (long = 0))
    (some ([[]]))
    (chk (long - 1) <|
    (self (long - 1) many).bind fun x_1 =>
    (lists_l1 N self N many 0 [] x_1).bind fun out_7 =>
    some out_7)
noncomputable def lists_sp (N : Nat) (self : Int → Int → Option Ll) : List Spec := [lists_self self]
theorem lists_all (N : Nat) (self : Int → Int → Option Ll) (hself : SpecOK Try.prog (lists_self self)) : AllP (SpecOK Try.prog) (lists_sp N self) := ⟨hself, trivial⟩
noncomputable def lists_c : Code := (Try.f125.body).getD .skip
noncomputable abbrev lists_B : Body := { c := lists_c, n := 40, res := [.tmp 4], outs := [⟨[.ols 0], [.lst (.sl (.int .i64))]⟩], m0 := 0 }
abbrev lists_rt : altD lists_B.outs → Option Ll := fun r => some r.2.1
abbrev lists_l2_at : List PI := [.c [1, 1, 1, 1, 0, 1, 0, 0, 1, 0, 0, 1, 0, 0, 0, 0], .c [1, 1, 1, 1, 0, 1, 0, 0, 1, 0, 0, 1, 0, 0, 0, 1], .c [1, 1, 1, 1, 0, 1, 0, 0, 1, 0, 0, 1, 0, 0, 1], .l [1, 1, 1, 1, 0, 1, 0, 0, 1, 0, 0, 1, 0, 0], .b 2, .b 1, .c [1, 1, 1, 1, 0, 1, 0, 0, 1, 1], .l [1, 1, 1, 1, 0, 1, 0, 0], .b 0, .c [1, 1, 1, 1, 1]]
abbrev lists_l2_st : Sta := ⟨[1, 5, 6, 7, 8], ⟨[shI, .ols 0, .ols 1, shI, shI], [.lst (.sl (.int .i64)), .lst (.sl (.int .i64))]⟩⟩
abbrev lists_l2_h (rec : Int → Int → Int → Ll → Ll → Option (Int × Int × Ll × Ll)) : Leaf (Int × Int × Ll × Ll) := ⟨lists_l2_at, lists_l2_st, fun p => rec p.1.1 p.1.2.2.2.1 p.1.2.2.2.2.1 p.2.1 p.2.2.1⟩
abbrev lists_l2_e0 : Leaf (Int × Int × Ll × Ll) := ⟨[.c [1, 1, 1, 1, 0, 1, 0, 0, 1, 1], .l [1, 1, 1, 1, 0, 1, 0, 0], .b 0, .c [1, 1, 1, 1, 1]], ⟨[1, 5, 6, 7], ⟨[shI, .ols 0, .ols 1, shI], [.lst (.sl (.int .i64)), .lst (.sl (.int .i64))]⟩⟩, fun p => some ((p.1.1, p.1.2.2.2.1, p.2.1, p.2.2.1))⟩
noncomputable def lists_l2_L (N : Nat) (self : Int → Int → Option Ll) : LoopS := { at_ := lists_l2_at, sta := lists_l2_st, exits := [([.c [1, 1, 1, 1, 0, 1, 0, 0, 1, 1], .l [1, 1, 1, 1, 0, 1, 0, 0], .b 0, .c [1, 1, 1, 1, 1]], ⟨[1, 5, 6, 7], ⟨[shI, .ols 0, .ols 1, shI], [.lst (.sl (.int .i64)), .lst (.sl (.int .i64))]⟩⟩)], run := fun p k => (lists_l2 N self N p.1.1 p.1.2.2.2.1 p.1.2.2.2.2.1 p.2.1 p.2.2.1).bind fun e => k (.inl ((e.1, (), (), e.2.1, ()), (e.2.2.1, e.2.2.2, ()))) }
theorem lists_l2_eq (N : Nat) (self : Int → Int → Option Ll) (n_ : Nat) (many : Int) (i : Int) (k : Int) (out : Ll) (rest : Ll) : ev (Z := Int × Int × Ll × Ll) Try.prog (lists_sp N self) lists_B [] [lists_l2_h (lists_l2 N self n_), lists_l2_e0] none 400 true lists_l2_at (stL lists_l2_st ((many, (), (), i, k, ()), (out, rest, ()))) (stH lists_l2_st ((many, (), (), i, k, ()), (out, rest, ()))) = lists_l2 N self (n_ + 1) many i k out rest := by kernel_rfl
theorem lists_l2_ok (N : Nat) (self : Int → Int → Option Ll) (hself : SpecOK Try.prog (lists_self self)) {top : Bool} : LoopOK Try.prog lists_B.c lists_B.n lists_B.m0 top (lists_l2_L N self) := loop_of_ev (Z := Int × Int × Ll × Ll) (N := N) (fun m p => lists_l2 N self m p.1.1 p.1.2.2.2.1 p.1.2.2.2.2.1 p.2.1 p.2.2.1) (fun e => .inl ((e.1, (), (), e.2.1, ()), (e.2.2.1, e.2.2.2, ()))) (fun _ _ _ => rfl) (fun _ => rfl) (fun m z E Xc hE hX hrec hx => leaf_of_ev (B := lists_B) (loops := []) (leaves := [lists_l2_h (lists_l2 N self m), lists_l2_e0]) (lists_all N self hself) mixed trivial hE hX ⟨hrec, (fun p hp => by obtain rfl := Option.some.inj hp; exact hx), trivial⟩ RetOK.no (fun p => lists_l2_eq N self m p.1.1 p.1.2.2.2.1 p.1.2.2.2.2.1 p.2.1 p.2.2.1))
abbrev lists_l1_at : List PI := [.c [1, 1, 1, 1, 0, 1, 0, 0, 0, 0], .c [1, 1, 1, 1, 0, 1, 0, 0, 0, 1], .c [1, 1, 1, 1, 0, 1, 0, 0, 1], .l [1, 1, 1, 1, 0, 1, 0, 0], .b 0, .c [1, 1, 1, 1, 1]]
abbrev lists_l1_st : Sta := ⟨[1, 5, 6, 7], ⟨[shI, .ols 0, .ols 1, shI], [.lst (.sl (.int .i64)), .lst (.sl (.int .i64))]⟩⟩
abbrev lists_l1_h (rec : Int → Int → Ll → Ll → Option Ll) : Leaf Ll := ⟨lists_l1_at, lists_l1_st, fun p => rec p.1.1 p.1.2.2.2.1 p.2.1 p.2.2.1⟩
abbrev lists_l1_e0 : Leaf Ll := ⟨[.c [1, 1, 1, 1, 1, 0], .c [1, 1, 1, 1, 1, 1]], ⟨[5], ⟨[.ols 0], [.lst (.sl (.int .i64))]⟩⟩, fun p => some (p.2.1)⟩
noncomputable def lists_l1_L (N : Nat) (self : Int → Int → Option Ll) : LoopS := { at_ := lists_l1_at, sta := lists_l1_st, exits := [([.c [1, 1, 1, 1, 1, 0], .c [1, 1, 1, 1, 1, 1]], ⟨[5], ⟨[.ols 0], [.lst (.sl (.int .i64))]⟩⟩)], run := fun p k => (lists_l1 N self N p.1.1 p.1.2.2.2.1 p.2.1 p.2.2.1).bind fun e => k (.inl (((), ()), (e, ()))) }
theorem lists_l1_eq (N : Nat) (self : Int → Int → Option Ll) (n_ : Nat) (many : Int) (i : Int) (out : Ll) (rest : Ll) : ev (Z := Ll) Try.prog (lists_sp N self) lists_B [lists_l2_L N self] [lists_l1_h (lists_l1 N self n_), lists_l1_e0] none 400 true lists_l1_at (stL lists_l1_st ((many, (), (), i, ()), (out, rest, ()))) (stH lists_l1_st ((many, (), (), i, ()), (out, rest, ()))) = lists_l1 N self (n_ + 1) many i out rest := by kernel_rfl
theorem lists_l1_ok (N : Nat) (self : Int → Int → Option Ll) (hself : SpecOK Try.prog (lists_self self)) {top : Bool} : LoopOK Try.prog lists_B.c lists_B.n lists_B.m0 top (lists_l1_L N self) := loop_of_ev (Z := Ll) (N := N) (fun m p => lists_l1 N self m p.1.1 p.1.2.2.2.1 p.2.1 p.2.2.1) (fun e => .inl (((), ()), (e, ()))) (fun _ _ _ => rfl) (fun _ => rfl) (fun m z E Xc hE hX hrec hx => leaf_of_ev (B := lists_B) (loops := [lists_l2_L N self]) (leaves := [lists_l1_h (lists_l1 N self m), lists_l1_e0]) (lists_all N self hself) mixed ⟨lists_l2_ok N self hself, trivial⟩ hE hX ⟨hrec, (fun p hp => by obtain rfl := Option.some.inj hp; exact hx), trivial⟩ RetOK.no (fun p => lists_l1_eq N self m p.1.1 p.1.2.2.2.1 p.2.1 p.2.2.1))
abbrev lists_st : Sta := ⟨[0, 1], ⟨[shI, shI], []⟩⟩
theorem lists_eq (N : Nat) (self : Int → Int → Option Ll) (long : Int) (many : Int) : ev (Z := Ll) Try.prog (lists_sp N self) lists_B [lists_l2_L N self, lists_l1_L N self] [] (some lists_rt) 400 false [.c [0], .c [1]] (stL lists_st ((long, many, ()), ())) (stH lists_st ((long, many, ()), ())) = lists_S N self long many := by kernel_rfl
theorem lists_self_ok (N : Nat) (self : Int → Int → Option Ll) (hself : SpecOK Try.prog (lists_self self)) : SpecOK Try.prog (lists_self (lists_S N self)) := fn_sound (B := lists_B) (loops := [lists_l2_L N self, lists_l1_L N self]) (leaves := []) (fun p => lists_S N self p.1.1 p.1.2.1) (fun r => (((), ()), (r, ()))) lists_rt (fun _ _ _ => rfl) (fun r z h => by cases h; rfl) Try.func125 (by kernel_rfl) (by kernel_rfl) (by kernel_rfl) rfl rfl (by kernel_rfl) (fun args w => Sem.pv_run _ _ _ (by kernel_rfl) w) (lists_all N self hself) mixed ⟨lists_l2_ok N self hself, lists_l1_ok N self hself, trivial⟩ (fun z E Xc hE hX hret => trivial) (fun p => lists_eq N self p.1.1 p.1.2.1)
def lists_R (N : Nat) : Nat → Int → Int → Option Ll
  | 0 => fun _ _ => none
  | n + 1 => lists_S N (lists_R N n)
theorem lists_R_ok (N : Nat) : ∀ n, SpecOK Try.prog (lists_self (lists_R N n))
  | 0 => SpecOK.none (fun _ _ _ => rfl) (fun args w => Sem.pv_run _ _ _ (by kernel_rfl) w)
  | n + 1 => lists_self_ok N (lists_R N n) (lists_R_ok N n)
noncomputable abbrev sp_lists (N : Nat) : Spec := lists_self (lists_R N N)
theorem sp_lists_ok (N : Nat) : SpecOK Try.prog (sp_lists N) := lists_R_ok N N

def all_j1 (N : Nat) (rec : Int → Li → Int → Ll → Ll → Li → Ll → Ll → Option Ll) (i : Int) (d : Li) (d2 : Int) (d3 : Ll) (d4 : Ll) (d5 : Li) (out : Ll) (l : Ll) : Option Ll :=
  chk (i + 1) <|
  rec (i + 1) d d2 d3 d4 d5 out l
def all_l1 (N : Nat) : Nat → Int → Li → Int → Ll → Ll → Li → Ll → Ll → Option Ll
  | 0, _, _, _, _, _, _, _, _ => none
  | n_ + 1, i, d, d2, d3, d4, d5, out, l =>
    br (decide (i < (l.length : Int)))
      (rng i l.length <|
      get l i.toNat fun x_2 =>
      (rjoins_S N d d2 d3 d4 d5 x_2).bind fun x_3 =>
      br (decide (x_3 = 0))
        (rng i l.length <|
        get l i.toNat fun x_4 =>
        lim (out.length + [x_4].length) <|
        all_j1 N (all_l1 N n_) i d d2 d3 d4 d5 (out ++ [x_4]) l)
        (all_j1 N (all_l1 N n_) i d d2 d3 d4 d5 out l))
      (some (out))
def all_S (N : Nat) (d : Li) (d2 : Int) (d3 : Ll) (d4 : Ll) (d5 : Li) : Option Ll :=
  (lists_R N N (d3.length : Int) (d4.length : Int)).bind fun x_1 =>
  (all_l1 N N 0 d d2 d3 d4 d5 [] x_1).bind fun out_5 =>
  some out_5
noncomputable def all_sp (N : Nat) : List Spec := [sp_rjoins N, sp_lists N]
theorem all_all (N : Nat) : AllP (SpecOK Try.prog) (all_sp N) := ⟨sp_rjoins_ok N, sp_lists_ok N, trivial⟩
noncomputable def all_c : Code := (Try.f99.body).getD .skip
noncomputable abbrev all_B : Body := { c := all_c, n := 34, res := [.tmp 2], outs := [⟨[shQ], []⟩], m0 := 0 }
abbrev all_rt : altD all_B.outs → Option Ll := fun r => some r.1.1
abbrev all_l1_at : List PI := [.c [1, 1, 1, 0, 1, 0, 0, 0, 0], .c [1, 1, 1, 0, 1, 0, 0, 0, 1], .c [1, 1, 1, 0, 1, 0, 0, 1], .l [1, 1, 1, 0, 1, 0, 0], .b 0, .c [1, 1, 1, 1]]
abbrev all_l1_st : Sta := ⟨[1, 3, 4, 5], ⟨[.own 0 0, .ols 1, .ols 2, shI], [.segs [shL, shI, shQ, shQ, shL], .lst (.sl (.int .i64)), .lst (.sl (.int .i64))]⟩⟩
abbrev all_l1_h (rec : Int → Li → Int → Ll → Ll → Li → Ll → Ll → Option Ll) : Leaf Ll := ⟨all_l1_at, all_l1_st, fun p => rec p.1.2.2.2.1 p.2.1.1 p.2.1.2.1 p.2.1.2.2.1 p.2.1.2.2.2.1 p.2.1.2.2.2.2.1 p.2.2.1 p.2.2.2.1⟩
abbrev all_l1_e0 : Leaf Ll := ⟨[.c [1, 1, 1, 1, 0], .c [1, 1, 1, 1, 1]], ⟨[3], ⟨[.ols 0], [.lst (.sl (.int .i64))]⟩⟩, fun p => some (p.2.1)⟩
abbrev all_j1_at : List PI := [.c [1, 1, 1, 0, 1, 0, 0, 1, 1], .l [1, 1, 1, 0, 1, 0, 0], .b 0, .c [1, 1, 1, 1]]
abbrev all_j1_st : Sta := ⟨[1, 3, 4, 5], ⟨[.own 0 0, .ols 1, .ols 2, shI], [.segs [shL, shI, shQ, shQ, shL], .lst (.sl (.int .i64)), .lst (.sl (.int .i64))]⟩⟩
abbrev all_j1_k (N : Nat) (rec : Int → Li → Int → Ll → Ll → Li → Ll → Ll → Option Ll) : Leaf Ll := ⟨all_j1_at, all_j1_st, fun p => all_j1 N rec p.1.2.2.2.1 p.2.1.1 p.2.1.2.1 p.2.1.2.2.1 p.2.1.2.2.2.1 p.2.1.2.2.2.2.1 p.2.2.1 p.2.2.2.1⟩
theorem all_j1_eq (N : Nat) (rec : Int → Li → Int → Ll → Ll → Li → Ll → Ll → Option Ll) (i : Int) (d : Li) (d2 : Int) (d3 : Ll) (d4 : Ll) (d5 : Li) (out : Ll) (l : Ll) : ev (Z := Ll) Try.prog (all_sp N) all_B [] [all_l1_h rec, all_l1_e0] none 400 true all_j1_at (stL all_j1_st (((), (), (), i, ()), ((d, d2, d3, d4, d5, ()), out, l, ()))) (stH all_j1_st (((), (), (), i, ()), ((d, d2, d3, d4, d5, ()), out, l, ()))) = all_j1 N rec i d d2 d3 d4 d5 out l := by kernel_rfl
theorem all_j1_lf (N : Nat) (rec : Int → Li → Int → Ll → Ll → Li → Ll → Ll → Option Ll) {z : Ll} {top : Bool} {E : EE} {Xc : Ctx} (hE : EOK all_B.m0 E) (hX : CxOK top Xc) (hrec : LeafOK Try.prog all_B.c all_B.n all_B.m0 E Xc z (all_l1_h rec)) (h0 : LeafOK Try.prog all_B.c all_B.n all_B.m0 E Xc z all_l1_e0) : LeafOK Try.prog all_B.c all_B.n all_B.m0 E Xc z (all_j1_k N rec) := leaf_of_ev (B := all_B) (loops := []) (leaves := [all_l1_h rec, all_l1_e0]) (all_all N) mixed trivial hE hX ⟨hrec, h0, trivial⟩ RetOK.no (fun p => all_j1_eq N rec p.1.2.2.2.1 p.2.1.1 p.2.1.2.1 p.2.1.2.2.1 p.2.1.2.2.2.1 p.2.1.2.2.2.2.1 p.2.2.1 p.2.2.2.1)
noncomputable def all_l1_L (N : Nat) : LoopS := { at_ := all_l1_at, sta := all_l1_st, exits := [([.c [1, 1, 1, 1, 0], .c [1, 1, 1, 1, 1]], ⟨[3], ⟨[.ols 0], [.lst (.sl (.int .i64))]⟩⟩)], run := fun p k => (all_l1 N N p.1.2.2.2.1 p.2.1.1 p.2.1.2.1 p.2.1.2.2.1 p.2.1.2.2.2.1 p.2.1.2.2.2.2.1 p.2.2.1 p.2.2.2.1).bind fun e => k (.inl (((), ()), (e, ()))) }
theorem all_l1_eq (N n_ : Nat) (i : Int) (d : Li) (d2 : Int) (d3 : Ll) (d4 : Ll) (d5 : Li) (out : Ll) (l : Ll) : ev (Z := Ll) Try.prog (all_sp N) all_B [] [all_l1_h (all_l1 N n_), all_l1_e0, all_j1_k N (all_l1 N n_)] none 400 true all_l1_at (stL all_l1_st (((), (), (), i, ()), ((d, d2, d3, d4, d5, ()), out, l, ()))) (stH all_l1_st (((), (), (), i, ()), ((d, d2, d3, d4, d5, ()), out, l, ()))) = all_l1 N (n_ + 1) i d d2 d3 d4 d5 out l := by kernel_rfl
theorem all_l1_ok (N : Nat) {top : Bool} : LoopOK Try.prog all_B.c all_B.n all_B.m0 top (all_l1_L N) := loop_of_ev (Z := Ll) (N := N) (fun m p => all_l1 N m p.1.2.2.2.1 p.2.1.1 p.2.1.2.1 p.2.1.2.2.1 p.2.1.2.2.2.1 p.2.1.2.2.2.2.1 p.2.2.1 p.2.2.2.1) (fun e => .inl (((), ()), (e, ()))) (fun _ _ _ => rfl) (fun _ => rfl) (fun m z E Xc hE hX hrec hx => leaf_of_ev (B := all_B) (loops := []) (leaves := [all_l1_h (all_l1 N m), all_l1_e0, all_j1_k N (all_l1 N m)]) (all_all N) mixed trivial hE hX ⟨hrec, (fun p hp => by obtain rfl := Option.some.inj hp; exact hx), all_j1_lf N _ hE hX hrec (fun p hp => by obtain rfl := Option.some.inj hp; exact hx), trivial⟩ RetOK.no (fun p => all_l1_eq N m p.1.2.2.2.1 p.2.1.1 p.2.1.2.1 p.2.1.2.2.1 p.2.1.2.2.2.1 p.2.1.2.2.2.2.1 p.2.2.1 p.2.2.2.1))
abbrev all_st : Sta := ⟨[0], ⟨[shG], []⟩⟩
theorem all_eq (N : Nat) (d : Li) (d2 : Int) (d3 : Ll) (d4 : Ll) (d5 : Li) : ev (Z := Ll) Try.prog (all_sp N) all_B [all_l1_L N] [] (some all_rt) 400 false [.c [0], .c [1]] (stL all_st (((d, d2, d3, d4, d5, ()), ()), ())) (stH all_st (((d, d2, d3, d4, d5, ()), ()), ())) = all_S N d d2 d3 d4 d5 := by kernel_rfl
noncomputable def sp_all (N : Nat) : Spec := { f := 99, ins := ⟨[shG], []⟩, outs := [⟨[shQ], []⟩], run := fun p k => (all_S N p.1.1.1 p.1.1.2.1 p.1.1.2.2.1 p.1.1.2.2.2.1 p.1.1.2.2.2.2.1).bind fun r => k ((r, ()), ()) }
theorem sp_all_ok (N : Nat) : SpecOK Try.prog (sp_all N) := fn_sound (B := all_B) (loops := [all_l1_L N]) (leaves := []) (fun p => all_S N p.1.1.1 p.1.1.2.1 p.1.1.2.2.1 p.1.1.2.2.2.1 p.1.1.2.2.2.2.1) (fun r => ((r, ()), ())) all_rt (fun _ _ _ => rfl) (fun r z h => by cases h; rfl) Try.func99 (by kernel_rfl) (by kernel_rfl) (by kernel_rfl) rfl rfl (by kernel_rfl) (fun args w => Sem.pv_run _ _ _ (by kernel_rfl) w) (all_all N) mixed ⟨all_l1_ok N, trivial⟩ (fun z E Xc hE hX hret => trivial) (fun p => all_eq N p.1.1.1 p.1.1.2.1 p.1.1.2.2.1 p.1.1.2.2.2.1 p.1.1.2.2.2.2.1)

def rbest_l1 (N : Nat) : Nat → Ll → Int → Int → Li → Int → Ll → Ll → Li → Option (Ll × Int × Li × Int × Ll × Ll × Li)
  | 0, _, _, _, _, _, _, _, _ => none
  | n_ + 1, all, most, i, d, d2, d3, d4, d5 =>
    br (decide (i < (all.length : Int)))
      (idx all i fun x_2 =>
      (rworth_S N d d2 d3 d4 d5 x_2).bind fun x_3 =>
      chk (i + 1) <|
      rbest_l1 N n_ all (max most x_3) (i + 1) d d2 d3 d4 d5)
      (some ((all, most, d, d2, d3, d4, d5)))
def rbest_j1 (N : Nat) (rec : Ll → Int → Int → Li → Int → Ll → Ll → Li → Ll → Option (Int × Ll)) (all : Ll) (most : Int) (i : Int) (d : Li) (d2 : Int) (d3 : Ll) (d4 : Ll) (d5 : Li) (out : Ll) : Option (Int × Ll) :=
  chk (i + 1) <|
  rec all most (i + 1) d d2 d3 d4 d5 out
def rbest_l2 (N : Nat) : Nat → Ll → Int → Int → Li → Int → Ll → Ll → Li → Ll → Option (Int × Ll)
  | 0, _, _, _, _, _, _, _, _, _ => none
  | n_ + 1, all, most, i, d, d2, d3, d4, d5, out =>
    br (decide (i < (all.length : Int)))
      (idx all i fun x_11 =>
      (rworth_S N d d2 d3 d4 d5 x_11).bind fun x_12 =>
      br (decide (x_12 = most))
        (idx all i fun x_13 =>
        lim (out.length + [x_13].length) <|
        rbest_j1 N (rbest_l2 N n_) all most i d d2 d3 d4 d5 (out ++ [x_13]))
        (rbest_j1 N (rbest_l2 N n_) all most i d d2 d3 d4 d5 out))
      (some ((most, out)))
def rbest_S (N : Nat) (d : Li) (d2 : Int) (d3 : Ll) (d4 : Ll) (d5 : Li) : Option (Ll × Int) :=
  (all_S N d d2 d3 d4 d5).bind fun x_1 =>
  (rbest_l1 N N x_1 0 0 d d2 d3 d4 d5).bind fun (all_4, most_5, d_6, d2_7, d3_8, d4_9, d5_10) =>
  (rbest_l2 N N all_4 most_5 0 d_6 d2_7 d3_8 d4_9 d5_10 []).bind fun (most_14, out_15) =>
  some (out_15, most_14)
noncomputable def rbest_sp (N : Nat) : List Spec := [sp_rworth N, sp_all N]
theorem rbest_all (N : Nat) : AllP (SpecOK Try.prog) (rbest_sp N) := ⟨sp_rworth_ok N, sp_all_ok N, trivial⟩
noncomputable def rbest_c : Code := (Try.f53.body).getD .skip
noncomputable abbrev rbest_B : Body := { c := rbest_c, n := 48, res := [.tmp 2, .tmp 3], outs := [⟨[shQ, shI], []⟩], m0 := 0 }
abbrev rbest_rt : altD rbest_B.outs → Option (Ll × Int) := fun r => some (r.1.1, r.1.2.1)
abbrev rbest_l1_at : List PI := [.c [1, 1, 1, 0, 1, 0, 0, 0, 0], .c [1, 1, 1, 0, 1, 0, 0, 0, 1], .c [1, 1, 1, 0, 1, 0, 0, 1], .l [1, 1, 1, 0, 1, 0, 0], .b 0, .c [1, 1, 1, 1]]
abbrev rbest_l1_st : Sta := ⟨[1, 4, 5, 6], ⟨[.own 0 0, shQ, shI, shI], [.segs [shL, shI, shQ, shQ, shL]]⟩⟩
abbrev rbest_l1_h (rec : Ll → Int → Int → Li → Int → Ll → Ll → Li → Option (Ll × Int × Li × Int × Ll × Ll × Li)) : Leaf (Ll × Int × Li × Int × Ll × Ll × Li) := ⟨rbest_l1_at, rbest_l1_st, fun p => rec p.1.2.1 p.1.2.2.1 p.1.2.2.2.1 p.2.1.1 p.2.1.2.1 p.2.1.2.2.1 p.2.1.2.2.2.1 p.2.1.2.2.2.2.1⟩
abbrev rbest_l1_e0 : Leaf (Ll × Int × Li × Int × Ll × Ll × Li) := ⟨[.c [1, 1, 1, 1, 0], .c [1, 1, 1, 1, 1]], ⟨[1, 4, 5], ⟨[.own 0 0, shQ, shI], [.segs [shL, shI, shQ, shQ, shL]]⟩⟩, fun p => some ((p.1.2.1, p.1.2.2.1, p.2.1.1, p.2.1.2.1, p.2.1.2.2.1, p.2.1.2.2.2.1, p.2.1.2.2.2.2.1))⟩
noncomputable def rbest_l1_L (N : Nat) : LoopS := { at_ := rbest_l1_at, sta := rbest_l1_st, exits := [([.c [1, 1, 1, 1, 0], .c [1, 1, 1, 1, 1]], ⟨[1, 4, 5], ⟨[.own 0 0, shQ, shI], [.segs [shL, shI, shQ, shQ, shL]]⟩⟩)], run := fun p k => (rbest_l1 N N p.1.2.1 p.1.2.2.1 p.1.2.2.2.1 p.2.1.1 p.2.1.2.1 p.2.1.2.2.1 p.2.1.2.2.2.1 p.2.1.2.2.2.2.1).bind fun e => k (.inl (((), e.1, e.2.1, ()), ((e.2.2.1, e.2.2.2.1, e.2.2.2.2.1, e.2.2.2.2.2.1, e.2.2.2.2.2.2, ()), ()))) }
theorem rbest_l1_eq (N n_ : Nat) (all : Ll) (most : Int) (i : Int) (d : Li) (d2 : Int) (d3 : Ll) (d4 : Ll) (d5 : Li) : ev (Z := Ll × Int × Li × Int × Ll × Ll × Li) Try.prog (rbest_sp N) rbest_B [] [rbest_l1_h (rbest_l1 N n_), rbest_l1_e0] none 400 true rbest_l1_at (stL rbest_l1_st (((), all, most, i, ()), ((d, d2, d3, d4, d5, ()), ()))) (stH rbest_l1_st (((), all, most, i, ()), ((d, d2, d3, d4, d5, ()), ()))) = rbest_l1 N (n_ + 1) all most i d d2 d3 d4 d5 := by kernel_rfl
theorem rbest_l1_ok (N : Nat) {top : Bool} : LoopOK Try.prog rbest_B.c rbest_B.n rbest_B.m0 top (rbest_l1_L N) := loop_of_ev (Z := Ll × Int × Li × Int × Ll × Ll × Li) (N := N) (fun m p => rbest_l1 N m p.1.2.1 p.1.2.2.1 p.1.2.2.2.1 p.2.1.1 p.2.1.2.1 p.2.1.2.2.1 p.2.1.2.2.2.1 p.2.1.2.2.2.2.1) (fun e => .inl (((), e.1, e.2.1, ()), ((e.2.2.1, e.2.2.2.1, e.2.2.2.2.1, e.2.2.2.2.2.1, e.2.2.2.2.2.2, ()), ()))) (fun _ _ _ => rfl) (fun _ => rfl) (fun m z E Xc hE hX hrec hx => leaf_of_ev (B := rbest_B) (loops := []) (leaves := [rbest_l1_h (rbest_l1 N m), rbest_l1_e0]) (rbest_all N) mixed trivial hE hX ⟨hrec, (fun p hp => by obtain rfl := Option.some.inj hp; exact hx), trivial⟩ RetOK.no (fun p => rbest_l1_eq N m p.1.2.1 p.1.2.2.1 p.1.2.2.2.1 p.2.1.1 p.2.1.2.1 p.2.1.2.2.1 p.2.1.2.2.2.1 p.2.1.2.2.2.2.1))
abbrev rbest_l2_at : List PI := [.c [1, 1, 1, 1, 1, 0, 1, 0, 0, 0, 0], .c [1, 1, 1, 1, 1, 0, 1, 0, 0, 0, 1], .c [1, 1, 1, 1, 1, 0, 1, 0, 0, 1], .l [1, 1, 1, 1, 1, 0, 1, 0, 0], .b 2, .c [1, 1, 1, 1, 1, 1]]
abbrev rbest_l2_st : Sta := ⟨[1, 4, 5, 7, 8], ⟨[.own 0 0, shQ, shI, .ols 1, shI], [.segs [shL, shI, shQ, shQ, shL], .lst (.sl (.int .i64))]⟩⟩
abbrev rbest_l2_h (rec : Ll → Int → Int → Li → Int → Ll → Ll → Li → Ll → Option (Int × Ll)) : Leaf (Int × Ll) := ⟨rbest_l2_at, rbest_l2_st, fun p => rec p.1.2.1 p.1.2.2.1 p.1.2.2.2.2.1 p.2.1.1 p.2.1.2.1 p.2.1.2.2.1 p.2.1.2.2.2.1 p.2.1.2.2.2.2.1 p.2.2.1⟩
abbrev rbest_l2_e0 : Leaf (Int × Ll) := ⟨[.c [1, 1, 1, 1, 1, 1, 0], .c [1, 1, 1, 1, 1, 1, 1]], ⟨[5, 7], ⟨[shI, .ols 0], [.lst (.sl (.int .i64))]⟩⟩, fun p => some ((p.1.1, p.2.1))⟩
abbrev rbest_j1_at : List PI := [.c [1, 1, 1, 1, 1, 0, 1, 0, 0, 1, 1], .l [1, 1, 1, 1, 1, 0, 1, 0, 0], .b 2, .c [1, 1, 1, 1, 1, 1]]
abbrev rbest_j1_st : Sta := ⟨[1, 4, 5, 7, 8], ⟨[.own 0 0, shQ, shI, .ols 1, shI], [.segs [shL, shI, shQ, shQ, shL], .lst (.sl (.int .i64))]⟩⟩
abbrev rbest_j1_k (N : Nat) (rec : Ll → Int → Int → Li → Int → Ll → Ll → Li → Ll → Option (Int × Ll)) : Leaf (Int × Ll) := ⟨rbest_j1_at, rbest_j1_st, fun p => rbest_j1 N rec p.1.2.1 p.1.2.2.1 p.1.2.2.2.2.1 p.2.1.1 p.2.1.2.1 p.2.1.2.2.1 p.2.1.2.2.2.1 p.2.1.2.2.2.2.1 p.2.2.1⟩
theorem rbest_j1_eq (N : Nat) (rec : Ll → Int → Int → Li → Int → Ll → Ll → Li → Ll → Option (Int × Ll)) (all : Ll) (most : Int) (i : Int) (d : Li) (d2 : Int) (d3 : Ll) (d4 : Ll) (d5 : Li) (out : Ll) : ev (Z := Int × Ll) Try.prog (rbest_sp N) rbest_B [rbest_l1_L N] [rbest_l2_h rec, rbest_l2_e0] none 400 true rbest_j1_at (stL rbest_j1_st (((), all, most, (), i, ()), ((d, d2, d3, d4, d5, ()), out, ()))) (stH rbest_j1_st (((), all, most, (), i, ()), ((d, d2, d3, d4, d5, ()), out, ()))) = rbest_j1 N rec all most i d d2 d3 d4 d5 out := by kernel_rfl
theorem rbest_j1_lf (N : Nat) (rec : Ll → Int → Int → Li → Int → Ll → Ll → Li → Ll → Option (Int × Ll)) {z : Int × Ll} {top : Bool} {E : EE} {Xc : Ctx} (hE : EOK rbest_B.m0 E) (hX : CxOK top Xc) (hrec : LeafOK Try.prog rbest_B.c rbest_B.n rbest_B.m0 E Xc z (rbest_l2_h rec)) (h0 : LeafOK Try.prog rbest_B.c rbest_B.n rbest_B.m0 E Xc z rbest_l2_e0) : LeafOK Try.prog rbest_B.c rbest_B.n rbest_B.m0 E Xc z (rbest_j1_k N rec) := leaf_of_ev (B := rbest_B) (loops := [rbest_l1_L N]) (leaves := [rbest_l2_h rec, rbest_l2_e0]) (rbest_all N) mixed ⟨rbest_l1_ok N, trivial⟩ hE hX ⟨hrec, h0, trivial⟩ RetOK.no (fun p => rbest_j1_eq N rec p.1.2.1 p.1.2.2.1 p.1.2.2.2.2.1 p.2.1.1 p.2.1.2.1 p.2.1.2.2.1 p.2.1.2.2.2.1 p.2.1.2.2.2.2.1 p.2.2.1)
noncomputable def rbest_l2_L (N : Nat) : LoopS := { at_ := rbest_l2_at, sta := rbest_l2_st, exits := [([.c [1, 1, 1, 1, 1, 1, 0], .c [1, 1, 1, 1, 1, 1, 1]], ⟨[5, 7], ⟨[shI, .ols 0], [.lst (.sl (.int .i64))]⟩⟩)], run := fun p k => (rbest_l2 N N p.1.2.1 p.1.2.2.1 p.1.2.2.2.2.1 p.2.1.1 p.2.1.2.1 p.2.1.2.2.1 p.2.1.2.2.2.1 p.2.1.2.2.2.2.1 p.2.2.1).bind fun e => k (.inl ((e.1, (), ()), (e.2, ()))) }
theorem rbest_l2_eq (N n_ : Nat) (all : Ll) (most : Int) (i : Int) (d : Li) (d2 : Int) (d3 : Ll) (d4 : Ll) (d5 : Li) (out : Ll) : ev (Z := Int × Ll) Try.prog (rbest_sp N) rbest_B [rbest_l1_L N] [rbest_l2_h (rbest_l2 N n_), rbest_l2_e0, rbest_j1_k N (rbest_l2 N n_)] none 400 true rbest_l2_at (stL rbest_l2_st (((), all, most, (), i, ()), ((d, d2, d3, d4, d5, ()), out, ()))) (stH rbest_l2_st (((), all, most, (), i, ()), ((d, d2, d3, d4, d5, ()), out, ()))) = rbest_l2 N (n_ + 1) all most i d d2 d3 d4 d5 out := by kernel_rfl
theorem rbest_l2_ok (N : Nat) {top : Bool} : LoopOK Try.prog rbest_B.c rbest_B.n rbest_B.m0 top (rbest_l2_L N) := loop_of_ev (Z := Int × Ll) (N := N) (fun m p => rbest_l2 N m p.1.2.1 p.1.2.2.1 p.1.2.2.2.2.1 p.2.1.1 p.2.1.2.1 p.2.1.2.2.1 p.2.1.2.2.2.1 p.2.1.2.2.2.2.1 p.2.2.1) (fun e => .inl ((e.1, (), ()), (e.2, ()))) (fun _ _ _ => rfl) (fun _ => rfl) (fun m z E Xc hE hX hrec hx => leaf_of_ev (B := rbest_B) (loops := [rbest_l1_L N]) (leaves := [rbest_l2_h (rbest_l2 N m), rbest_l2_e0, rbest_j1_k N (rbest_l2 N m)]) (rbest_all N) mixed ⟨rbest_l1_ok N, trivial⟩ hE hX ⟨hrec, (fun p hp => by obtain rfl := Option.some.inj hp; exact hx), rbest_j1_lf N _ hE hX hrec (fun p hp => by obtain rfl := Option.some.inj hp; exact hx), trivial⟩ RetOK.no (fun p => rbest_l2_eq N m p.1.2.1 p.1.2.2.1 p.1.2.2.2.2.1 p.2.1.1 p.2.1.2.1 p.2.1.2.2.1 p.2.1.2.2.2.1 p.2.1.2.2.2.2.1 p.2.2.1))
abbrev rbest_st : Sta := ⟨[0], ⟨[shG], []⟩⟩
theorem rbest_eq (N : Nat) (d : Li) (d2 : Int) (d3 : Ll) (d4 : Ll) (d5 : Li) : ev (Z := Ll × Int) Try.prog (rbest_sp N) rbest_B [rbest_l1_L N, rbest_l2_L N] [] (some rbest_rt) 400 false [.c [0], .c [1]] (stL rbest_st (((d, d2, d3, d4, d5, ()), ()), ())) (stH rbest_st (((d, d2, d3, d4, d5, ()), ()), ())) = rbest_S N d d2 d3 d4 d5 := by kernel_rfl
noncomputable def sp_rbest (N : Nat) : Spec := { f := 53, ins := ⟨[shG], []⟩, outs := [⟨[shQ, shI], []⟩], run := fun p k => (rbest_S N p.1.1.1 p.1.1.2.1 p.1.1.2.2.1 p.1.1.2.2.2.1 p.1.1.2.2.2.2.1).bind fun r => k ((r.1, r.2, ()), ()) }
theorem sp_rbest_ok (N : Nat) : SpecOK Try.prog (sp_rbest N) := fn_sound (B := rbest_B) (loops := [rbest_l1_L N, rbest_l2_L N]) (leaves := []) (fun p => rbest_S N p.1.1.1 p.1.1.2.1 p.1.1.2.2.1 p.1.1.2.2.2.1 p.1.1.2.2.2.2.1) (fun r => ((r.1, r.2, ()), ())) rbest_rt (fun _ _ _ => rfl) (fun r z h => by cases h; rfl) Try.func53 (by kernel_rfl) (by kernel_rfl) (by kernel_rfl) rfl rfl (by kernel_rfl) (fun args w => Sem.pv_run _ _ _ (by kernel_rfl) w) (rbest_all N) mixed ⟨rbest_l1_ok N, rbest_l2_ok N, trivial⟩ (fun z E Xc hE hX hret => trivial) (fun p => rbest_eq N p.1.1.1 p.1.1.2.1 p.1.1.2.2.1 p.1.1.2.2.2.1 p.1.1.2.2.2.2.1)

def apart_j1 (N : Nat) (rec : Li → Li → Int → Int → Option Int) (a : Li) (b : Li) (n : Int) (i : Int) : Option Int :=
  chk (i + 1) <|
  rec a b n (i + 1)
def apart_l1 (N : Nat) : Nat → Li → Li → Int → Int → Option Int
  | 0, _, _, _, _ => none
  | n_ + 1, a, b, n, i =>
    br (decide (i < (a.length : Int)))
      (idx a i fun x_1 =>
      idx b i fun x_2 =>
      br (!decide (x_1 = x_2))
        (chk (n + 1) <|
        apart_j1 N (apart_l1 N n_) a b (n + 1) i)
        (apart_j1 N (apart_l1 N n_) a b n i))
      (some (n))
def apart_S (N : Nat) (a : Li) (b : Li) : Option Int :=
  (apart_l1 N N a b 0 0).bind fun n_3 =>
  some n_3
noncomputable def apart_sp (N : Nat) : List Spec := []
theorem apart_all (N : Nat) : AllP (SpecOK Try.prog) (apart_sp N) := trivial
noncomputable def apart_c : Code := (Try.f51.body).getD .skip
noncomputable abbrev apart_B : Body := { c := apart_c, n := 25, res := [.tmp 4], outs := [⟨[shI], []⟩], m0 := 0 }
abbrev apart_rt : altD apart_B.outs → Option Int := fun r => some r.1.1
abbrev apart_l1_at : List PI := [.c [1, 1, 0, 1, 0, 0, 0, 0], .c [1, 1, 0, 1, 0, 0, 0, 1], .c [1, 1, 0, 1, 0, 0, 1], .l [1, 1, 0, 1, 0, 0], .b 0, .c [1, 1, 1]]
abbrev apart_l1_st : Sta := ⟨[0, 1, 5, 6], ⟨[shL, shL, shI, shI], []⟩⟩
abbrev apart_l1_h (rec : Li → Li → Int → Int → Option Int) : Leaf Int := ⟨apart_l1_at, apart_l1_st, fun p => rec p.1.1 p.1.2.1 p.1.2.2.1 p.1.2.2.2.1⟩
abbrev apart_l1_e0 : Leaf Int := ⟨[.c [1, 1, 1, 0], .c [1, 1, 1, 1]], ⟨[5], ⟨[shI], []⟩⟩, fun p => some (p.1.1)⟩
abbrev apart_j1_at : List PI := [.c [1, 1, 0, 1, 0, 0, 1, 1], .l [1, 1, 0, 1, 0, 0], .b 0, .c [1, 1, 1]]
abbrev apart_j1_st : Sta := ⟨[0, 1, 5, 6], ⟨[shL, shL, shI, shI], []⟩⟩
abbrev apart_j1_k (N : Nat) (rec : Li → Li → Int → Int → Option Int) : Leaf Int := ⟨apart_j1_at, apart_j1_st, fun p => apart_j1 N rec p.1.1 p.1.2.1 p.1.2.2.1 p.1.2.2.2.1⟩
theorem apart_j1_eq (N : Nat) (rec : Li → Li → Int → Int → Option Int) (a : Li) (b : Li) (n : Int) (i : Int) : ev (Z := Int) Try.prog (apart_sp N) apart_B [] [apart_l1_h rec, apart_l1_e0] none 400 true apart_j1_at (stL apart_j1_st ((a, b, n, i, ()), ())) (stH apart_j1_st ((a, b, n, i, ()), ())) = apart_j1 N rec a b n i := by kernel_rfl
theorem apart_j1_lf (N : Nat) (rec : Li → Li → Int → Int → Option Int) {z : Int} {top : Bool} {E : EE} {Xc : Ctx} (hE : EOK apart_B.m0 E) (hX : CxOK top Xc) (hrec : LeafOK Try.prog apart_B.c apart_B.n apart_B.m0 E Xc z (apart_l1_h rec)) (h0 : LeafOK Try.prog apart_B.c apart_B.n apart_B.m0 E Xc z apart_l1_e0) : LeafOK Try.prog apart_B.c apart_B.n apart_B.m0 E Xc z (apart_j1_k N rec) := leaf_of_ev (B := apart_B) (loops := []) (leaves := [apart_l1_h rec, apart_l1_e0]) (apart_all N) mixed trivial hE hX ⟨hrec, h0, trivial⟩ RetOK.no (fun p => apart_j1_eq N rec p.1.1 p.1.2.1 p.1.2.2.1 p.1.2.2.2.1)
noncomputable def apart_l1_L (N : Nat) : LoopS := { at_ := apart_l1_at, sta := apart_l1_st, exits := [([.c [1, 1, 1, 0], .c [1, 1, 1, 1]], ⟨[5], ⟨[shI], []⟩⟩)], run := fun p k => (apart_l1 N N p.1.1 p.1.2.1 p.1.2.2.1 p.1.2.2.2.1).bind fun e => k (.inl ((e, ()), ())) }
theorem apart_l1_eq (N n_ : Nat) (a : Li) (b : Li) (n : Int) (i : Int) : ev (Z := Int) Try.prog (apart_sp N) apart_B [] [apart_l1_h (apart_l1 N n_), apart_l1_e0, apart_j1_k N (apart_l1 N n_)] none 400 true apart_l1_at (stL apart_l1_st ((a, b, n, i, ()), ())) (stH apart_l1_st ((a, b, n, i, ()), ())) = apart_l1 N (n_ + 1) a b n i := by kernel_rfl
theorem apart_l1_ok (N : Nat) {top : Bool} : LoopOK Try.prog apart_B.c apart_B.n apart_B.m0 top (apart_l1_L N) := loop_of_ev (Z := Int) (N := N) (fun m p => apart_l1 N m p.1.1 p.1.2.1 p.1.2.2.1 p.1.2.2.2.1) (fun e => .inl ((e, ()), ())) (fun _ _ _ => rfl) (fun _ => rfl) (fun m z E Xc hE hX hrec hx => leaf_of_ev (B := apart_B) (loops := []) (leaves := [apart_l1_h (apart_l1 N m), apart_l1_e0, apart_j1_k N (apart_l1 N m)]) (apart_all N) mixed trivial hE hX ⟨hrec, (fun p hp => by obtain rfl := Option.some.inj hp; exact hx), apart_j1_lf N _ hE hX hrec (fun p hp => by obtain rfl := Option.some.inj hp; exact hx), trivial⟩ RetOK.no (fun p => apart_l1_eq N m p.1.1 p.1.2.1 p.1.2.2.1 p.1.2.2.2.1))
abbrev apart_st : Sta := ⟨[0, 1], ⟨[shL, shL], []⟩⟩
theorem apart_eq (N : Nat) (a : Li) (b : Li) : ev (Z := Int) Try.prog (apart_sp N) apart_B [apart_l1_L N] [] (some apart_rt) 400 false [.c [0], .c [1]] (stL apart_st ((a, b, ()), ())) (stH apart_st ((a, b, ()), ())) = apart_S N a b := by kernel_rfl
noncomputable def sp_apart (N : Nat) : Spec := { f := 51, ins := ⟨[shL, shL], []⟩, outs := [⟨[shI], []⟩], run := fun p k => (apart_S N p.1.1 p.1.2.1).bind fun r => k ((r, ()), ()) }
theorem sp_apart_ok (N : Nat) : SpecOK Try.prog (sp_apart N) := fn_sound (B := apart_B) (loops := [apart_l1_L N]) (leaves := []) (fun p => apart_S N p.1.1 p.1.2.1) (fun r => ((r, ()), ())) apart_rt (fun _ _ _ => rfl) (fun r z h => by cases h; rfl) Try.func51 (by kernel_rfl) (by kernel_rfl) (by kernel_rfl) rfl rfl (by kernel_rfl) (fun args w => Sem.pv_run _ _ _ (by kernel_rfl) w) (apart_all N) mixed ⟨apart_l1_ok N, trivial⟩ (fun z E Xc hE hX hret => trivial) (fun p => apart_eq N p.1.1 p.1.2.1)

def rchange_j1 (N : Nat) (rec : Li → Ll → Int → Int → Li → Int → Ll → Ll → Li → Option Int) (l : Li) (all : Ll) (few : Int) (i : Int) (d : Li) (d2 : Int) (d3 : Ll) (d4 : Ll) (d5 : Li) : Option Int :=
  chk (i + 1) <|
  rec l all few (i + 1) d d2 d3 d4 d5
def rchange_l1 (N : Nat) : Nat → Li → Ll → Int → Int → Li → Int → Ll → Ll → Li → Option Int
  | 0, _, _, _, _, _, _, _, _, _ => none
  | n_ + 1, l, all, few, i, d, d2, d3, d4, d5 =>
    br (decide (i < (all.length : Int)))
      (idx all i fun x_3 =>
      (apart_S N l x_3).bind fun x_4 =>
      idx all i fun x_5 =>
      (rworth_S N d d2 d3 d4 d5 x_5).bind fun x_6 =>
      (rworth_S N d d2 d3 d4 d5 l).bind fun x_7 =>
      br (decide (x_7 < x_6))
        (br (decide (few = 0))
          (rchange_j1 N (rchange_l1 N n_) l all x_4 i d d2 d3 d4 d5)
          (br (decide (x_4 < few))
            (rchange_j1 N (rchange_l1 N n_) l all x_4 i d d2 d3 d4 d5)
            (rchange_j1 N (rchange_l1 N n_) l all few i d d2 d3 d4 d5)))
        (rchange_j1 N (rchange_l1 N n_) l all few i d d2 d3 d4 d5))
      (some (few))
def rchange_S (N : Nat) (d : Li) (d2 : Int) (d3 : Ll) (d4 : Ll) (d5 : Li) (l : Li) : Option (Int × Int) :=
  (rjoins_S N d d2 d3 d4 d5 l).bind fun x_1 =>
  br (!decide (x_1 = 0))
    (some (0, x_1))
    ((all_S N d d2 d3 d4 d5).bind fun x_2 =>
    (rchange_l1 N N l x_2 0 0 d d2 d3 d4 d5).bind fun few_8 =>
    br (decide (few_8 = 0))
      (some (0, 6))
      (some (few_8, 0)))
noncomputable def rchange_sp (N : Nat) : List Spec := [sp_rjoins N, sp_rworth N, sp_all N, sp_apart N]
theorem rchange_all (N : Nat) : AllP (SpecOK Try.prog) (rchange_sp N) := ⟨sp_rjoins_ok N, sp_rworth_ok N, sp_all_ok N, sp_apart_ok N, trivial⟩
noncomputable def rchange_c : Code := (Try.f50.body).getD .skip
noncomputable abbrev rchange_B : Body := { c := rchange_c, n := 54, res := [.tmp 4, .tmp 5], outs := [⟨[shI, shI], []⟩], m0 := 0 }
abbrev rchange_rt : altD rchange_B.outs → Option (Int × Int) := fun r => some (r.1.1, r.1.2.1)
abbrev rchange_l1_at : List PI := [.c [1, 1, 1, 1, 0, 1, 0, 0, 0, 0], .c [1, 1, 1, 1, 0, 1, 0, 0, 0, 1], .c [1, 1, 1, 1, 0, 1, 0, 0, 1], .l [1, 1, 1, 1, 0, 1, 0, 0], .b 0, .c [1, 1, 1, 1, 1]]
abbrev rchange_l1_st : Sta := ⟨[1, 2, 7, 8, 9], ⟨[shL, .own 0 0, shQ, shI, shI], [.segs [shL, shI, shQ, shQ, shL]]⟩⟩
abbrev rchange_l1_h (rec : Li → Ll → Int → Int → Li → Int → Ll → Ll → Li → Option Int) : Leaf Int := ⟨rchange_l1_at, rchange_l1_st, fun p => rec p.1.1 p.1.2.2.1 p.1.2.2.2.1 p.1.2.2.2.2.1 p.2.1.1 p.2.1.2.1 p.2.1.2.2.1 p.2.1.2.2.2.1 p.2.1.2.2.2.2.1⟩
abbrev rchange_l1_e0 : Leaf Int := ⟨[.c [1, 1, 1, 1, 1, 0, 0], .c [1, 1, 1, 1, 1, 0, 1], .c [1, 1, 1, 1, 1, 1]], ⟨[8], ⟨[shI], []⟩⟩, fun p => some (p.1.1)⟩
abbrev rchange_j1_at : List PI := [.c [1, 1, 1, 1, 0, 1, 0, 0, 1, 1], .l [1, 1, 1, 1, 0, 1, 0, 0], .b 0, .c [1, 1, 1, 1, 1]]
abbrev rchange_j1_st : Sta := ⟨[1, 2, 7, 8, 9], ⟨[shL, .own 0 0, shQ, shI, shI], [.segs [shL, shI, shQ, shQ, shL]]⟩⟩
abbrev rchange_j1_k (N : Nat) (rec : Li → Ll → Int → Int → Li → Int → Ll → Ll → Li → Option Int) : Leaf Int := ⟨rchange_j1_at, rchange_j1_st, fun p => rchange_j1 N rec p.1.1 p.1.2.2.1 p.1.2.2.2.1 p.1.2.2.2.2.1 p.2.1.1 p.2.1.2.1 p.2.1.2.2.1 p.2.1.2.2.2.1 p.2.1.2.2.2.2.1⟩
theorem rchange_j1_eq (N : Nat) (rec : Li → Ll → Int → Int → Li → Int → Ll → Ll → Li → Option Int) (l : Li) (all : Ll) (few : Int) (i : Int) (d : Li) (d2 : Int) (d3 : Ll) (d4 : Ll) (d5 : Li) : ev (Z := Int) Try.prog (rchange_sp N) rchange_B [] [rchange_l1_h rec, rchange_l1_e0] none 400 true rchange_j1_at (stL rchange_j1_st ((l, (), all, few, i, ()), ((d, d2, d3, d4, d5, ()), ()))) (stH rchange_j1_st ((l, (), all, few, i, ()), ((d, d2, d3, d4, d5, ()), ()))) = rchange_j1 N rec l all few i d d2 d3 d4 d5 := by kernel_rfl
theorem rchange_j1_lf (N : Nat) (rec : Li → Ll → Int → Int → Li → Int → Ll → Ll → Li → Option Int) {z : Int} {top : Bool} {E : EE} {Xc : Ctx} (hE : EOK rchange_B.m0 E) (hX : CxOK top Xc) (hrec : LeafOK Try.prog rchange_B.c rchange_B.n rchange_B.m0 E Xc z (rchange_l1_h rec)) (h0 : LeafOK Try.prog rchange_B.c rchange_B.n rchange_B.m0 E Xc z rchange_l1_e0) : LeafOK Try.prog rchange_B.c rchange_B.n rchange_B.m0 E Xc z (rchange_j1_k N rec) := leaf_of_ev (B := rchange_B) (loops := []) (leaves := [rchange_l1_h rec, rchange_l1_e0]) (rchange_all N) mixed trivial hE hX ⟨hrec, h0, trivial⟩ RetOK.no (fun p => rchange_j1_eq N rec p.1.1 p.1.2.2.1 p.1.2.2.2.1 p.1.2.2.2.2.1 p.2.1.1 p.2.1.2.1 p.2.1.2.2.1 p.2.1.2.2.2.1 p.2.1.2.2.2.2.1)
noncomputable def rchange_l1_L (N : Nat) : LoopS := { at_ := rchange_l1_at, sta := rchange_l1_st, exits := [([.c [1, 1, 1, 1, 1, 0, 0], .c [1, 1, 1, 1, 1, 0, 1], .c [1, 1, 1, 1, 1, 1]], ⟨[8], ⟨[shI], []⟩⟩)], run := fun p k => (rchange_l1 N N p.1.1 p.1.2.2.1 p.1.2.2.2.1 p.1.2.2.2.2.1 p.2.1.1 p.2.1.2.1 p.2.1.2.2.1 p.2.1.2.2.2.1 p.2.1.2.2.2.2.1).bind fun e => k (.inl ((e, ()), ())) }
theorem rchange_l1_eq (N n_ : Nat) (l : Li) (all : Ll) (few : Int) (i : Int) (d : Li) (d2 : Int) (d3 : Ll) (d4 : Ll) (d5 : Li) : ev (Z := Int) Try.prog (rchange_sp N) rchange_B [] [rchange_l1_h (rchange_l1 N n_), rchange_l1_e0, rchange_j1_k N (rchange_l1 N n_)] none 400 true rchange_l1_at (stL rchange_l1_st ((l, (), all, few, i, ()), ((d, d2, d3, d4, d5, ()), ()))) (stH rchange_l1_st ((l, (), all, few, i, ()), ((d, d2, d3, d4, d5, ()), ()))) = rchange_l1 N (n_ + 1) l all few i d d2 d3 d4 d5 := by kernel_rfl
theorem rchange_l1_ok (N : Nat) {top : Bool} : LoopOK Try.prog rchange_B.c rchange_B.n rchange_B.m0 top (rchange_l1_L N) := loop_of_ev (Z := Int) (N := N) (fun m p => rchange_l1 N m p.1.1 p.1.2.2.1 p.1.2.2.2.1 p.1.2.2.2.2.1 p.2.1.1 p.2.1.2.1 p.2.1.2.2.1 p.2.1.2.2.2.1 p.2.1.2.2.2.2.1) (fun e => .inl ((e, ()), ())) (fun _ _ _ => rfl) (fun _ => rfl) (fun m z E Xc hE hX hrec hx => leaf_of_ev (B := rchange_B) (loops := []) (leaves := [rchange_l1_h (rchange_l1 N m), rchange_l1_e0, rchange_j1_k N (rchange_l1 N m)]) (rchange_all N) mixed trivial hE hX ⟨hrec, (fun p hp => by obtain rfl := Option.some.inj hp; exact hx), rchange_j1_lf N _ hE hX hrec (fun p hp => by obtain rfl := Option.some.inj hp; exact hx), trivial⟩ RetOK.no (fun p => rchange_l1_eq N m p.1.1 p.1.2.2.1 p.1.2.2.2.1 p.1.2.2.2.2.1 p.2.1.1 p.2.1.2.1 p.2.1.2.2.1 p.2.1.2.2.2.1 p.2.1.2.2.2.2.1))
abbrev rchange_st : Sta := ⟨[0, 1], ⟨[shG, shL], []⟩⟩
theorem rchange_eq (N : Nat) (d : Li) (d2 : Int) (d3 : Ll) (d4 : Ll) (d5 : Li) (l : Li) : ev (Z := Int × Int) Try.prog (rchange_sp N) rchange_B [rchange_l1_L N] [] (some rchange_rt) 400 false [.c [0], .c [1]] (stL rchange_st (((d, d2, d3, d4, d5, ()), l, ()), ())) (stH rchange_st (((d, d2, d3, d4, d5, ()), l, ()), ())) = rchange_S N d d2 d3 d4 d5 l := by kernel_rfl
noncomputable def sp_rchange (N : Nat) : Spec := { f := 50, ins := ⟨[shG, shL], []⟩, outs := [⟨[shI, shI], []⟩], run := fun p k => (rchange_S N p.1.1.1 p.1.1.2.1 p.1.1.2.2.1 p.1.1.2.2.2.1 p.1.1.2.2.2.2.1 p.1.2.1).bind fun r => k ((r.1, r.2, ()), ()) }
theorem sp_rchange_ok (N : Nat) : SpecOK Try.prog (sp_rchange N) := fn_sound (B := rchange_B) (loops := [rchange_l1_L N]) (leaves := []) (fun p => rchange_S N p.1.1.1 p.1.1.2.1 p.1.1.2.2.1 p.1.1.2.2.2.1 p.1.1.2.2.2.2.1 p.1.2.1) (fun r => ((r.1, r.2, ()), ())) rchange_rt (fun _ _ _ => rfl) (fun r z h => by cases h; rfl) Try.func50 (by kernel_rfl) (by kernel_rfl) (by kernel_rfl) rfl rfl (by kernel_rfl) (fun args w => Sem.pv_run _ _ _ (by kernel_rfl) w) (rchange_all N) mixed ⟨rchange_l1_ok N, trivial⟩ (fun z E Xc hE hX hret => trivial) (fun p => rchange_eq N p.1.1.1 p.1.1.2.1 p.1.1.2.2.1 p.1.1.2.2.2.1 p.1.1.2.2.2.2.1 p.1.2.1)

def rfates_j1 (N : Nat) (rec : Ll → Int → Int → Int → Int → Option (Ll × Int)) (best : Ll) (lost : Int) (found : Int) (with_ : Int) (i : Int) : Option (Ll × Int) :=
  chk (i + 1) <|
  rec best lost found with_ (i + 1)
def rfates_l1 (N : Nat) : Nat → Ll → Int → Int → Int → Int → Option (Ll × Int)
  | 0, _, _, _, _, _ => none
  | n_ + 1, best, lost, found, with_, i =>
    br (decide (i < (best.length : Int)))
      (idx best i fun x_1 =>
      idx x_1 lost fun x_2 =>
      br (decide (x_2 = found))
        (chk (with_ + 1) <|
        rfates_j1 N (rfates_l1 N n_) best lost found (with_ + 1) i)
        (rfates_j1 N (rfates_l1 N n_) best lost found with_ i))
      (some ((best, with_)))
def rfates_S (N : Nat) (best : Ll) (lost : Int) (found : Int) : Option Int :=
  (rfates_l1 N N best lost found 0 0).bind fun (best_3, with__4) =>
  br (decide (with__4 = (best_3.length : Int)))
    (some 1)
    (br (decide (with__4 = 0))
      (some 2)
      (some 0))
noncomputable def rfates_sp (N : Nat) : List Spec := []
theorem rfates_all (N : Nat) : AllP (SpecOK Try.prog) (rfates_sp N) := trivial
noncomputable def rfates_c : Code := (Try.f54.body).getD .skip
noncomputable abbrev rfates_B : Body := { c := rfates_c, n := 32, res := [.tmp 6], outs := [⟨[shI], []⟩], m0 := 0 }
abbrev rfates_rt : altD rfates_B.outs → Option Int := fun r => some r.1.1
abbrev rfates_l1_at : List PI := [.c [1, 1, 0, 1, 0, 0, 0, 0], .c [1, 1, 0, 1, 0, 0, 0, 1], .c [1, 1, 0, 1, 0, 0, 1], .l [1, 1, 0, 1, 0, 0], .b 0, .c [1, 1, 1]]
abbrev rfates_l1_st : Sta := ⟨[0, 1, 2, 7, 8], ⟨[shQ, shI, shI, shI, shI], []⟩⟩
abbrev rfates_l1_h (rec : Ll → Int → Int → Int → Int → Option (Ll × Int)) : Leaf (Ll × Int) := ⟨rfates_l1_at, rfates_l1_st, fun p => rec p.1.1 p.1.2.1 p.1.2.2.1 p.1.2.2.2.1 p.1.2.2.2.2.1⟩
abbrev rfates_l1_e0 : Leaf (Ll × Int) := ⟨[.c [1, 1, 1, 0, 0], .c [1, 1, 1, 0, 1], .c [1, 1, 1, 1]], ⟨[0, 7], ⟨[shQ, shI], []⟩⟩, fun p => some ((p.1.1, p.1.2.1))⟩
abbrev rfates_j1_at : List PI := [.c [1, 1, 0, 1, 0, 0, 1, 1], .l [1, 1, 0, 1, 0, 0], .b 0, .c [1, 1, 1]]
abbrev rfates_j1_st : Sta := ⟨[0, 1, 2, 7, 8], ⟨[shQ, shI, shI, shI, shI], []⟩⟩
abbrev rfates_j1_k (N : Nat) (rec : Ll → Int → Int → Int → Int → Option (Ll × Int)) : Leaf (Ll × Int) := ⟨rfates_j1_at, rfates_j1_st, fun p => rfates_j1 N rec p.1.1 p.1.2.1 p.1.2.2.1 p.1.2.2.2.1 p.1.2.2.2.2.1⟩
theorem rfates_j1_eq (N : Nat) (rec : Ll → Int → Int → Int → Int → Option (Ll × Int)) (best : Ll) (lost : Int) (found : Int) (with_ : Int) (i : Int) : ev (Z := Ll × Int) Try.prog (rfates_sp N) rfates_B [] [rfates_l1_h rec, rfates_l1_e0] none 400 true rfates_j1_at (stL rfates_j1_st ((best, lost, found, with_, i, ()), ())) (stH rfates_j1_st ((best, lost, found, with_, i, ()), ())) = rfates_j1 N rec best lost found with_ i := by kernel_rfl
theorem rfates_j1_lf (N : Nat) (rec : Ll → Int → Int → Int → Int → Option (Ll × Int)) {z : Ll × Int} {top : Bool} {E : EE} {Xc : Ctx} (hE : EOK rfates_B.m0 E) (hX : CxOK top Xc) (hrec : LeafOK Try.prog rfates_B.c rfates_B.n rfates_B.m0 E Xc z (rfates_l1_h rec)) (h0 : LeafOK Try.prog rfates_B.c rfates_B.n rfates_B.m0 E Xc z rfates_l1_e0) : LeafOK Try.prog rfates_B.c rfates_B.n rfates_B.m0 E Xc z (rfates_j1_k N rec) := leaf_of_ev (B := rfates_B) (loops := []) (leaves := [rfates_l1_h rec, rfates_l1_e0]) (rfates_all N) mixed trivial hE hX ⟨hrec, h0, trivial⟩ RetOK.no (fun p => rfates_j1_eq N rec p.1.1 p.1.2.1 p.1.2.2.1 p.1.2.2.2.1 p.1.2.2.2.2.1)
noncomputable def rfates_l1_L (N : Nat) : LoopS := { at_ := rfates_l1_at, sta := rfates_l1_st, exits := [([.c [1, 1, 1, 0, 0], .c [1, 1, 1, 0, 1], .c [1, 1, 1, 1]], ⟨[0, 7], ⟨[shQ, shI], []⟩⟩)], run := fun p k => (rfates_l1 N N p.1.1 p.1.2.1 p.1.2.2.1 p.1.2.2.2.1 p.1.2.2.2.2.1).bind fun e => k (.inl ((e.1, e.2, ()), ())) }
theorem rfates_l1_eq (N n_ : Nat) (best : Ll) (lost : Int) (found : Int) (with_ : Int) (i : Int) : ev (Z := Ll × Int) Try.prog (rfates_sp N) rfates_B [] [rfates_l1_h (rfates_l1 N n_), rfates_l1_e0, rfates_j1_k N (rfates_l1 N n_)] none 400 true rfates_l1_at (stL rfates_l1_st ((best, lost, found, with_, i, ()), ())) (stH rfates_l1_st ((best, lost, found, with_, i, ()), ())) = rfates_l1 N (n_ + 1) best lost found with_ i := by kernel_rfl
theorem rfates_l1_ok (N : Nat) {top : Bool} : LoopOK Try.prog rfates_B.c rfates_B.n rfates_B.m0 top (rfates_l1_L N) := loop_of_ev (Z := Ll × Int) (N := N) (fun m p => rfates_l1 N m p.1.1 p.1.2.1 p.1.2.2.1 p.1.2.2.2.1 p.1.2.2.2.2.1) (fun e => .inl ((e.1, e.2, ()), ())) (fun _ _ _ => rfl) (fun _ => rfl) (fun m z E Xc hE hX hrec hx => leaf_of_ev (B := rfates_B) (loops := []) (leaves := [rfates_l1_h (rfates_l1 N m), rfates_l1_e0, rfates_j1_k N (rfates_l1 N m)]) (rfates_all N) mixed trivial hE hX ⟨hrec, (fun p hp => by obtain rfl := Option.some.inj hp; exact hx), rfates_j1_lf N _ hE hX hrec (fun p hp => by obtain rfl := Option.some.inj hp; exact hx), trivial⟩ RetOK.no (fun p => rfates_l1_eq N m p.1.1 p.1.2.1 p.1.2.2.1 p.1.2.2.2.1 p.1.2.2.2.2.1))
abbrev rfates_st : Sta := ⟨[0, 1, 2], ⟨[shQ, shI, shI], []⟩⟩
theorem rfates_eq (N : Nat) (best : Ll) (lost : Int) (found : Int) : ev (Z := Int) Try.prog (rfates_sp N) rfates_B [rfates_l1_L N] [] (some rfates_rt) 400 false [.c [0], .c [1]] (stL rfates_st ((best, lost, found, ()), ())) (stH rfates_st ((best, lost, found, ()), ())) = rfates_S N best lost found := by kernel_rfl
noncomputable def sp_rfates (N : Nat) : Spec := { f := 54, ins := ⟨[shQ, shI, shI], []⟩, outs := [⟨[shI], []⟩], run := fun p k => (rfates_S N p.1.1 p.1.2.1 p.1.2.2.1).bind fun r => k ((r, ()), ()) }
theorem sp_rfates_ok (N : Nat) : SpecOK Try.prog (sp_rfates N) := fn_sound (B := rfates_B) (loops := [rfates_l1_L N]) (leaves := []) (fun p => rfates_S N p.1.1 p.1.2.1 p.1.2.2.1) (fun r => ((r, ()), ())) rfates_rt (fun _ _ _ => rfl) (fun r z h => by cases h; rfl) Try.func54 (by kernel_rfl) (by kernel_rfl) (by kernel_rfl) rfl rfl (by kernel_rfl) (fun args w => Sem.pv_run _ _ _ (by kernel_rfl) w) (rfates_all N) mixed ⟨rfates_l1_ok N, trivial⟩ (fun z E Xc hE hX hret => trivial) (fun p => rfates_eq N p.1.1 p.1.2.1 p.1.2.2.1)

def rspare_j1 (N : Nat) (rec : Int → Int → Li → Int → Ll → Ll → Li → Li → Option Li) (most : Int) (k : Int) (d : Li) (d2 : Int) (d3 : Ll) (d4 : Ll) (d5 : Li) (out : Li) : Option Li :=
  chk (k + 1) <|
  rec most (k + 1) d d2 d3 d4 d5 out
def rspare_l1 (N : Nat) : Nat → Int → Int → Li → Int → Ll → Ll → Li → Li → Option Li
  | 0, _, _, _, _, _, _, _, _ => none
  | n_ + 1, most, k, d, d2, d3, d4, d5, out =>
    br (decide (k < (d4.length : Int)))
      (grd (decide ((0 : Int) ≤ k ∧ k ≤ (d4.length : Int))) <|
      lim (([] : Ll).length + (d4.take k.toNat).length) <|
      chk (k + 1) <|
      grd (decide ((0 : Int) ≤ (k + 1) ∧ (k + 1) ≤ (d4.length : Int))) <|
      lim ((([] : Ll) ++ (d4.take k.toNat)).length + (d4.drop ((k + 1).toNat)).length) <|
      (rbest_S N d d2 d3 ((([] : Ll) ++ (d4.take k.toNat)) ++ (d4.drop ((k + 1).toNat))) d5).bind fun (x_4, y_5) =>
      br (decide (y_5 = most))
        (lim (out.length + [k].length) <|
        rspare_j1 N (rspare_l1 N n_) most k d d2 d3 d4 d5 (out ++ [k]))
        (rspare_j1 N (rspare_l1 N n_) most k d d2 d3 d4 d5 out))
      (some (out))
def rspare_S (N : Nat) (d : Li) (d2 : Int) (d3 : Ll) (d4 : Ll) (d5 : Li) : Option (Li × Int) :=
  (rcheck_S N d d2 d3 d4 d5).bind fun x_1 =>
  br (!decide (x_1 = 0))
    (some ([], x_1))
    ((rbest_S N d d2 d3 d4 d5).bind fun (x_2, y_3) =>
    (rspare_l1 N N y_3 0 d d2 d3 d4 d5 []).bind fun out_6 =>
    some (out_6, 0))
noncomputable def rspare_sp (N : Nat) : List Spec := [sp_rcheck N, sp_rbest N]
theorem rspare_all (N : Nat) : AllP (SpecOK Try.prog) (rspare_sp N) := ⟨sp_rcheck_ok N, sp_rbest_ok N, trivial⟩
noncomputable def rspare_c : Code := (Try.f55.body).getD .skip
noncomputable abbrev rspare_B : Body := { c := rspare_c, n := 56, res := [.tmp 2, .tmp 3], outs := [⟨[shL, shI], []⟩], m0 := 0 }
abbrev rspare_rt : altD rspare_B.outs → Option (Li × Int) := fun r => some (r.1.1, r.1.2.1)
abbrev rspare_l1_at : List PI := [.c [1, 1, 1, 1, 0, 1, 0, 0, 0, 0], .c [1, 1, 1, 1, 0, 1, 0, 0, 0, 1], .c [1, 1, 1, 1, 0, 1, 0, 0, 1], .l [1, 1, 1, 1, 0, 1, 0, 0], .b 0, .c [1, 1, 1, 1, 1]]
abbrev rspare_l1_st : Sta := ⟨[1, 6, 7, 8], ⟨[.own 0 0, shI, .ols 1, shI], [.segs [shL, shI, shQ, shQ, shL], .lst (.int .i64)]⟩⟩
abbrev rspare_l1_h (rec : Int → Int → Li → Int → Ll → Ll → Li → Li → Option Li) : Leaf Li := ⟨rspare_l1_at, rspare_l1_st, fun p => rec p.1.2.1 p.1.2.2.2.1 p.2.1.1 p.2.1.2.1 p.2.1.2.2.1 p.2.1.2.2.2.1 p.2.1.2.2.2.2.1 p.2.2.1⟩
abbrev rspare_l1_e0 : Leaf Li := ⟨[.c [1, 1, 1, 1, 1, 0], .c [1, 1, 1, 1, 1, 1]], ⟨[7], ⟨[.ols 0], [.lst (.int .i64)]⟩⟩, fun p => some (p.2.1)⟩
abbrev rspare_j1_at : List PI := [.c [1, 1, 1, 1, 0, 1, 0, 0, 1, 1], .l [1, 1, 1, 1, 0, 1, 0, 0], .b 0, .c [1, 1, 1, 1, 1]]
abbrev rspare_j1_st : Sta := ⟨[1, 6, 7, 8], ⟨[.own 0 0, shI, .ols 1, shI], [.segs [shL, shI, shQ, shQ, shL], .lst (.int .i64)]⟩⟩
abbrev rspare_j1_k (N : Nat) (rec : Int → Int → Li → Int → Ll → Ll → Li → Li → Option Li) : Leaf Li := ⟨rspare_j1_at, rspare_j1_st, fun p => rspare_j1 N rec p.1.2.1 p.1.2.2.2.1 p.2.1.1 p.2.1.2.1 p.2.1.2.2.1 p.2.1.2.2.2.1 p.2.1.2.2.2.2.1 p.2.2.1⟩
theorem rspare_j1_eq (N : Nat) (rec : Int → Int → Li → Int → Ll → Ll → Li → Li → Option Li) (most : Int) (k : Int) (d : Li) (d2 : Int) (d3 : Ll) (d4 : Ll) (d5 : Li) (out : Li) : ev (Z := Li) Try.prog (rspare_sp N) rspare_B [] [rspare_l1_h rec, rspare_l1_e0] none 400 true rspare_j1_at (stL rspare_j1_st (((), most, (), k, ()), ((d, d2, d3, d4, d5, ()), out, ()))) (stH rspare_j1_st (((), most, (), k, ()), ((d, d2, d3, d4, d5, ()), out, ()))) = rspare_j1 N rec most k d d2 d3 d4 d5 out := by kernel_rfl
theorem rspare_j1_lf (N : Nat) (rec : Int → Int → Li → Int → Ll → Ll → Li → Li → Option Li) {z : Li} {top : Bool} {E : EE} {Xc : Ctx} (hE : EOK rspare_B.m0 E) (hX : CxOK top Xc) (hrec : LeafOK Try.prog rspare_B.c rspare_B.n rspare_B.m0 E Xc z (rspare_l1_h rec)) (h0 : LeafOK Try.prog rspare_B.c rspare_B.n rspare_B.m0 E Xc z rspare_l1_e0) : LeafOK Try.prog rspare_B.c rspare_B.n rspare_B.m0 E Xc z (rspare_j1_k N rec) := leaf_of_ev (B := rspare_B) (loops := []) (leaves := [rspare_l1_h rec, rspare_l1_e0]) (rspare_all N) mixed trivial hE hX ⟨hrec, h0, trivial⟩ RetOK.no (fun p => rspare_j1_eq N rec p.1.2.1 p.1.2.2.2.1 p.2.1.1 p.2.1.2.1 p.2.1.2.2.1 p.2.1.2.2.2.1 p.2.1.2.2.2.2.1 p.2.2.1)
noncomputable def rspare_l1_L (N : Nat) : LoopS := { at_ := rspare_l1_at, sta := rspare_l1_st, exits := [([.c [1, 1, 1, 1, 1, 0], .c [1, 1, 1, 1, 1, 1]], ⟨[7], ⟨[.ols 0], [.lst (.int .i64)]⟩⟩)], run := fun p k => (rspare_l1 N N p.1.2.1 p.1.2.2.2.1 p.2.1.1 p.2.1.2.1 p.2.1.2.2.1 p.2.1.2.2.2.1 p.2.1.2.2.2.2.1 p.2.2.1).bind fun e => k (.inl (((), ()), (e, ()))) }
theorem rspare_l1_eq (N n_ : Nat) (most : Int) (k : Int) (d : Li) (d2 : Int) (d3 : Ll) (d4 : Ll) (d5 : Li) (out : Li) : ev (Z := Li) Try.prog (rspare_sp N) rspare_B [] [rspare_l1_h (rspare_l1 N n_), rspare_l1_e0, rspare_j1_k N (rspare_l1 N n_)] none 400 true rspare_l1_at (stL rspare_l1_st (((), most, (), k, ()), ((d, d2, d3, d4, d5, ()), out, ()))) (stH rspare_l1_st (((), most, (), k, ()), ((d, d2, d3, d4, d5, ()), out, ()))) = rspare_l1 N (n_ + 1) most k d d2 d3 d4 d5 out := by kernel_rfl
theorem rspare_l1_ok (N : Nat) {top : Bool} : LoopOK Try.prog rspare_B.c rspare_B.n rspare_B.m0 top (rspare_l1_L N) := loop_of_ev (Z := Li) (N := N) (fun m p => rspare_l1 N m p.1.2.1 p.1.2.2.2.1 p.2.1.1 p.2.1.2.1 p.2.1.2.2.1 p.2.1.2.2.2.1 p.2.1.2.2.2.2.1 p.2.2.1) (fun e => .inl (((), ()), (e, ()))) (fun _ _ _ => rfl) (fun _ => rfl) (fun m z E Xc hE hX hrec hx => leaf_of_ev (B := rspare_B) (loops := []) (leaves := [rspare_l1_h (rspare_l1 N m), rspare_l1_e0, rspare_j1_k N (rspare_l1 N m)]) (rspare_all N) mixed trivial hE hX ⟨hrec, (fun p hp => by obtain rfl := Option.some.inj hp; exact hx), rspare_j1_lf N _ hE hX hrec (fun p hp => by obtain rfl := Option.some.inj hp; exact hx), trivial⟩ RetOK.no (fun p => rspare_l1_eq N m p.1.2.1 p.1.2.2.2.1 p.2.1.1 p.2.1.2.1 p.2.1.2.2.1 p.2.1.2.2.2.1 p.2.1.2.2.2.2.1 p.2.2.1))
abbrev rspare_st : Sta := ⟨[0], ⟨[shG], []⟩⟩
theorem rspare_eq (N : Nat) (d : Li) (d2 : Int) (d3 : Ll) (d4 : Ll) (d5 : Li) : ev (Z := Li × Int) Try.prog (rspare_sp N) rspare_B [rspare_l1_L N] [] (some rspare_rt) 400 false [.c [0], .c [1]] (stL rspare_st (((d, d2, d3, d4, d5, ()), ()), ())) (stH rspare_st (((d, d2, d3, d4, d5, ()), ()), ())) = rspare_S N d d2 d3 d4 d5 := by kernel_rfl
noncomputable def sp_rspare (N : Nat) : Spec := { f := 55, ins := ⟨[shG], []⟩, outs := [⟨[shL, shI], []⟩], run := fun p k => (rspare_S N p.1.1.1 p.1.1.2.1 p.1.1.2.2.1 p.1.1.2.2.2.1 p.1.1.2.2.2.2.1).bind fun r => k ((r.1, r.2, ()), ()) }
theorem sp_rspare_ok (N : Nat) : SpecOK Try.prog (sp_rspare N) := fn_sound (B := rspare_B) (loops := [rspare_l1_L N]) (leaves := []) (fun p => rspare_S N p.1.1.1 p.1.1.2.1 p.1.1.2.2.1 p.1.1.2.2.2.1 p.1.1.2.2.2.2.1) (fun r => ((r.1, r.2, ()), ())) rspare_rt (fun _ _ _ => rfl) (fun r z h => by cases h; rfl) Try.func55 (by kernel_rfl) (by kernel_rfl) (by kernel_rfl) rfl rfl (by kernel_rfl) (fun args w => Sem.pv_run _ _ _ (by kernel_rfl) w) (rspare_all N) mixed ⟨rspare_l1_ok N, trivial⟩ (fun z E Xc hE hX hret => trivial) (fun p => rspare_eq N p.1.1.1 p.1.1.2.1 p.1.1.2.2.1 p.1.1.2.2.2.1 p.1.1.2.2.2.2.1)

def fchange_j1 (N : Nat) (joins : Li) (mine : Li) (d : Li) (d2 : Int) (d3 : Ll) (d4 : Ll) (d5 : Li) (own : Li) (own2 : Int) (own3 : Ll) (own4 : Ll) (own5 : Li) (x : Li) (x2 : Int) (x3 : Ll) (x4 : Ll) (x5 : Li) : Option Bool :=
  (spare_S N own own2 own3 own4 own5).bind fun (x_34, y_35) =>
  (rspare_S N x x2 x3 x4 x5).bind fun (x_36, y_37) =>
  br (decide (y_35 = y_37))
    ((likei_S N x_34 x_36).bind fun x_38 =>
    br x_38
      ((same_S N own own2 own3 own4 own5 d d2 d3 d4 d5).bind fun x_39 =>
      br x_39
        ((likei_S N mine joins).bind fun x_40 =>
        br x_40
          ((awake_S N).bind fun x_41 =>
          some x_41)
          (some false))
        (some false))
      (some false))
    (some false)
def fchange_S (N : Nat) (d : Li) (d2 : Int) (d3 : Ll) (d4 : Ll) (d5 : Li) (joins : Li) (lost : Int) (found : Int) : Option Bool :=
  (great_S N d d2 d3 d4 d5).bind fun x_1 =>
  br x_1
    ((awake_S N).bind fun x_2 =>
    some x_2)
    ((wide_S N d d2 d3 d4 d5 4).bind fun x_3 =>
    br x_3
      ((awake_S N).bind fun x_4 =>
      some x_4)
      (br (decide (12 < (joins.length : Int)))
        ((awake_S N).bind fun x_5 =>
        some x_5)
        ((copyd_S N d d2 d3 d4 d5).bind fun (x_6, y_7, y_8, y_9, y_10) =>
        (copyd_S N d d2 d3 d4 d5).bind fun (x_11, y_12, y_13, y_14, y_15) =>
        (copyi_S N joins).bind fun x_16 =>
        (change_S N x_6 y_7 y_8 y_9 y_10 x_16).bind fun (x_17, y_18) =>
        (rchange_S N x_11 y_12 y_13 y_14 y_15 joins).bind fun (x_19, y_20) =>
        br (!decide (y_18 = y_20))
          (some false)
          (br (!decide (y_18 = 0))
            (br (decide (0 < (x_17.length : Int)))
              (some false)
              (br (decide (y_18 = 0))
                ((rjoins_S N x_11 y_12 y_13 y_14 y_15 x_17).bind fun x_21 =>
                br (!decide (x_21 = 0))
                  (some false)
                  ((rworth_S N x_11 y_12 y_13 y_14 y_15 x_17).bind fun x_22 =>
                  (rworth_S N x_11 y_12 y_13 y_14 y_15 joins).bind fun x_23 =>
                  br (decide (x_22 ≤ x_23))
                    (some false)
                    ((apart_S N x_17 joins).bind fun x_24 =>
                    br (!decide (x_24 = x_19))
                      (some false)
                      ((fates_S N x_6 y_7 y_8 y_9 y_10 lost found).bind fun (x_25, y_26) =>
                      (ragree_S N x_11 y_12 y_13 y_14 y_15 lost found).bind fun (x_27, y_28, y_29, y_30) =>
                      br (!decide (y_26 = y_30))
                        (some false)
                        (br (!decide (y_26 = 0))
                          (br (!decide (x_25 = 0))
                            (some false)
                            (br (decide (y_26 = 0))
                              ((rbest_S N x_11 y_12 y_13 y_14 y_15).bind fun (x_31, y_32) =>
                              (rfates_S N x_31 lost found).bind fun x_33 =>
                              br (!decide (x_25 = x_33))
                                (some false)
                                (fchange_j1 N joins x_16 d d2 d3 d4 d5 x_6 y_7 y_8 y_9 y_10 x_11 y_12 y_13 y_14 y_15))
                              (fchange_j1 N joins x_16 d d2 d3 d4 d5 x_6 y_7 y_8 y_9 y_10 x_11 y_12 y_13 y_14 y_15)))
                          (br (decide (y_26 = 0))
                            ((rbest_S N x_11 y_12 y_13 y_14 y_15).bind fun (x_42, y_43) =>
                            (rfates_S N x_42 lost found).bind fun x_44 =>
                            br (!decide (x_25 = x_44))
                              (some false)
                              (fchange_j1 N joins x_16 d d2 d3 d4 d5 x_6 y_7 y_8 y_9 y_10 x_11 y_12 y_13 y_14 y_15))
                            (fchange_j1 N joins x_16 d d2 d3 d4 d5 x_6 y_7 y_8 y_9 y_10 x_11 y_12 y_13 y_14 y_15)))))))
                ((fates_S N x_6 y_7 y_8 y_9 y_10 lost found).bind fun (x_45, y_46) =>
                (ragree_S N x_11 y_12 y_13 y_14 y_15 lost found).bind fun (x_47, y_48, y_49, y_50) =>
                br (!decide (y_46 = y_50))
                  (some false)
                  (br (!decide (y_46 = 0))
                    (br (!decide (x_45 = 0))
                      (some false)
                      (br (decide (y_46 = 0))
                        ((rbest_S N x_11 y_12 y_13 y_14 y_15).bind fun (x_51, y_52) =>
                        (rfates_S N x_51 lost found).bind fun x_53 =>
                        br (!decide (x_45 = x_53))
                          (some false)
                          (fchange_j1 N joins x_16 d d2 d3 d4 d5 x_6 y_7 y_8 y_9 y_10 x_11 y_12 y_13 y_14 y_15))
                        (fchange_j1 N joins x_16 d d2 d3 d4 d5 x_6 y_7 y_8 y_9 y_10 x_11 y_12 y_13 y_14 y_15)))
                    (br (decide (y_46 = 0))
                      ((rbest_S N x_11 y_12 y_13 y_14 y_15).bind fun (x_54, y_55) =>
                      (rfates_S N x_54 lost found).bind fun x_56 =>
                      br (!decide (x_45 = x_56))
                        (some false)
                        (fchange_j1 N joins x_16 d d2 d3 d4 d5 x_6 y_7 y_8 y_9 y_10 x_11 y_12 y_13 y_14 y_15))
                      (fchange_j1 N joins x_16 d d2 d3 d4 d5 x_6 y_7 y_8 y_9 y_10 x_11 y_12 y_13 y_14 y_15))))))
            (br (decide (y_18 = 0))
              ((rjoins_S N x_11 y_12 y_13 y_14 y_15 x_17).bind fun x_57 =>
              br (!decide (x_57 = 0))
                (some false)
                ((rworth_S N x_11 y_12 y_13 y_14 y_15 x_17).bind fun x_58 =>
                (rworth_S N x_11 y_12 y_13 y_14 y_15 joins).bind fun x_59 =>
                br (decide (x_58 ≤ x_59))
                  (some false)
                  ((apart_S N x_17 joins).bind fun x_60 =>
                  br (!decide (x_60 = x_19))
                    (some false)
                    ((fates_S N x_6 y_7 y_8 y_9 y_10 lost found).bind fun (x_61, y_62) =>
                    (ragree_S N x_11 y_12 y_13 y_14 y_15 lost found).bind fun (x_63, y_64, y_65, y_66) =>
                    br (!decide (y_62 = y_66))
                      (some false)
                      (br (!decide (y_62 = 0))
                        (br (!decide (x_61 = 0))
                          (some false)
                          (br (decide (y_62 = 0))
                            ((rbest_S N x_11 y_12 y_13 y_14 y_15).bind fun (x_67, y_68) =>
                            (rfates_S N x_67 lost found).bind fun x_69 =>
                            br (!decide (x_61 = x_69))
                              (some false)
                              (fchange_j1 N joins x_16 d d2 d3 d4 d5 x_6 y_7 y_8 y_9 y_10 x_11 y_12 y_13 y_14 y_15))
                            (fchange_j1 N joins x_16 d d2 d3 d4 d5 x_6 y_7 y_8 y_9 y_10 x_11 y_12 y_13 y_14 y_15)))
                        (br (decide (y_62 = 0))
                          ((rbest_S N x_11 y_12 y_13 y_14 y_15).bind fun (x_70, y_71) =>
                          (rfates_S N x_70 lost found).bind fun x_72 =>
                          br (!decide (x_61 = x_72))
                            (some false)
                            (fchange_j1 N joins x_16 d d2 d3 d4 d5 x_6 y_7 y_8 y_9 y_10 x_11 y_12 y_13 y_14 y_15))
                          (fchange_j1 N joins x_16 d d2 d3 d4 d5 x_6 y_7 y_8 y_9 y_10 x_11 y_12 y_13 y_14 y_15)))))))
              ((fates_S N x_6 y_7 y_8 y_9 y_10 lost found).bind fun (x_73, y_74) =>
              (ragree_S N x_11 y_12 y_13 y_14 y_15 lost found).bind fun (x_75, y_76, y_77, y_78) =>
              br (!decide (y_74 = y_78))
                (some false)
                (br (!decide (y_74 = 0))
                  (br (!decide (x_73 = 0))
                    (some false)
                    (br (decide (y_74 = 0))
                      ((rbest_S N x_11 y_12 y_13 y_14 y_15).bind fun (x_79, y_80) =>
                      (rfates_S N x_79 lost found).bind fun x_81 =>
                      br (!decide (x_73 = x_81))
                        (some false)
                        (fchange_j1 N joins x_16 d d2 d3 d4 d5 x_6 y_7 y_8 y_9 y_10 x_11 y_12 y_13 y_14 y_15))
                      (fchange_j1 N joins x_16 d d2 d3 d4 d5 x_6 y_7 y_8 y_9 y_10 x_11 y_12 y_13 y_14 y_15)))
                  (br (decide (y_74 = 0))
                    ((rbest_S N x_11 y_12 y_13 y_14 y_15).bind fun (x_82, y_83) =>
                    (rfates_S N x_82 lost found).bind fun x_84 =>
                    br (!decide (x_73 = x_84))
                      (some false)
                      (fchange_j1 N joins x_16 d d2 d3 d4 d5 x_6 y_7 y_8 y_9 y_10 x_11 y_12 y_13 y_14 y_15))
                    (fchange_j1 N joins x_16 d d2 d3 d4 d5 x_6 y_7 y_8 y_9 y_10 x_11 y_12 y_13 y_14 y_15)))))))))
noncomputable def fchange_sp (N : Nat) : List Spec := [sp_change N, sp_fates N, sp_spare N, sp_likei N, sp_awake N, sp_copyi N, sp_copyd N, sp_same N, sp_great N, sp_wide N, sp_ragree N, sp_rjoins N, sp_rworth N, sp_rbest N, sp_apart N, sp_rchange N, sp_rfates N, sp_rspare N]
theorem fchange_all (N : Nat) : AllP (SpecOK Try.prog) (fchange_sp N) := ⟨sp_change_ok N, sp_fates_ok N, sp_spare_ok N, sp_likei_ok N, sp_awake_ok N, sp_copyi_ok N, sp_copyd_ok N, sp_same_ok N, sp_great_ok N, sp_wide_ok N, sp_ragree_ok N, sp_rjoins_ok N, sp_rworth_ok N, sp_rbest_ok N, sp_apart_ok N, sp_rchange_ok N, sp_rfates_ok N, sp_rspare_ok N, trivial⟩
noncomputable def fchange_c : Code := (Try.f12.body).getD .skip
noncomputable abbrev fchange_B : Body := { c := fchange_c, n := 157, res := [.tmp 8], outs := [⟨[.b], []⟩], m0 := 0 }
abbrev fchange_rt : altD fchange_B.outs → Option Bool := fun r => some r.1.1
abbrev fchange_j1_at : List PI := [.c [1, 1, 1, 1, 1, 1, 1, 1, 1, 1, 1, 0], .c [1, 1, 1, 1, 1, 1, 1, 1, 1, 1, 1, 1]]
abbrev fchange_j1_st : Sta := ⟨[1, 4, 9, 10, 11], ⟨[shL, .own 0 0, .own 1 0, .own 2 0, shL], [.segs [shL, shI, shQ, shQ, shL], .segs [shL, shI, shQ, shQ, shL], .segs [shL, shI, shQ, shQ, shL]]⟩⟩
abbrev fchange_j1_k (N : Nat) : Leaf Bool := ⟨fchange_j1_at, fchange_j1_st, fun p => fchange_j1 N p.1.1 p.1.2.2.2.2.1 p.2.1.1 p.2.1.2.1 p.2.1.2.2.1 p.2.1.2.2.2.1 p.2.1.2.2.2.2.1 p.2.2.1.1 p.2.2.1.2.1 p.2.2.1.2.2.1 p.2.2.1.2.2.2.1 p.2.2.1.2.2.2.2.1 p.2.2.2.1.1 p.2.2.2.1.2.1 p.2.2.2.1.2.2.1 p.2.2.2.1.2.2.2.1 p.2.2.2.1.2.2.2.2.1⟩
theorem fchange_j1_eq (N : Nat) (joins : Li) (mine : Li) (d : Li) (d2 : Int) (d3 : Ll) (d4 : Ll) (d5 : Li) (own : Li) (own2 : Int) (own3 : Ll) (own4 : Ll) (own5 : Li) (x : Li) (x2 : Int) (x3 : Ll) (x4 : Ll) (x5 : Li) : ev (Z := Bool) Try.prog (fchange_sp N) fchange_B [] [] (some fchange_rt) 400 true fchange_j1_at (stL fchange_j1_st ((joins, (), (), (), mine, ()), ((d, d2, d3, d4, d5, ()), (own, own2, own3, own4, own5, ()), (x, x2, x3, x4, x5, ()), ()))) (stH fchange_j1_st ((joins, (), (), (), mine, ()), ((d, d2, d3, d4, d5, ()), (own, own2, own3, own4, own5, ()), (x, x2, x3, x4, x5, ()), ()))) = fchange_j1 N joins mine d d2 d3 d4 d5 own own2 own3 own4 own5 x x2 x3 x4 x5 := by kernel_rfl
theorem fchange_j1_lf (N : Nat) {z : Bool} {E : EE} {Xc : Ctx} (hE : EOK fchange_B.m0 E) (hX : CxOK true Xc) (hret : RetOK Try.prog fchange_B E Xc z (some fchange_rt)) : LeafOK Try.prog fchange_B.c fchange_B.n fchange_B.m0 E Xc z (fchange_j1_k N) := leaf_of_ev (B := fchange_B) (loops := []) (leaves := []) (fchange_all N) mixed trivial hE hX trivial hret (fun p => fchange_j1_eq N p.1.1 p.1.2.2.2.2.1 p.2.1.1 p.2.1.2.1 p.2.1.2.2.1 p.2.1.2.2.2.1 p.2.1.2.2.2.2.1 p.2.2.1.1 p.2.2.1.2.1 p.2.2.1.2.2.1 p.2.2.1.2.2.2.1 p.2.2.1.2.2.2.2.1 p.2.2.2.1.1 p.2.2.2.1.2.1 p.2.2.2.1.2.2.1 p.2.2.2.1.2.2.2.1 p.2.2.2.1.2.2.2.2.1)
abbrev fchange_st : Sta := ⟨[0, 1, 2, 3], ⟨[shG, shL, shI, shI], []⟩⟩
theorem fchange_eq (N : Nat) (d : Li) (d2 : Int) (d3 : Ll) (d4 : Ll) (d5 : Li) (joins : Li) (lost : Int) (found : Int) : ev (Z := Bool) Try.prog (fchange_sp N) fchange_B [] [fchange_j1_k N] (some fchange_rt) 400 false [.c [0], .c [1]] (stL fchange_st (((d, d2, d3, d4, d5, ()), joins, lost, found, ()), ())) (stH fchange_st (((d, d2, d3, d4, d5, ()), joins, lost, found, ()), ())) = fchange_S N d d2 d3 d4 d5 joins lost found := by kernel_rfl
noncomputable def sp_fchange (N : Nat) : Spec := { f := 12, ins := ⟨[shG, shL, shI, shI], []⟩, outs := [⟨[.b], []⟩], run := fun p k => (fchange_S N p.1.1.1 p.1.1.2.1 p.1.1.2.2.1 p.1.1.2.2.2.1 p.1.1.2.2.2.2.1 p.1.2.1 p.1.2.2.1 p.1.2.2.2.1).bind fun r => k ((r, ()), ()) }
theorem sp_fchange_ok (N : Nat) : SpecOK Try.prog (sp_fchange N) := fn_sound (B := fchange_B) (loops := []) (leaves := [fchange_j1_k N]) (fun p => fchange_S N p.1.1.1 p.1.1.2.1 p.1.1.2.2.1 p.1.1.2.2.2.1 p.1.1.2.2.2.2.1 p.1.2.1 p.1.2.2.1 p.1.2.2.2.1) (fun r => ((r, ()), ())) fchange_rt (fun _ _ _ => rfl) (fun r z h => by cases h; rfl) Try.func12 (by kernel_rfl) (by kernel_rfl) (by kernel_rfl) rfl rfl (by kernel_rfl) (fun args w => Sem.pv_run _ _ _ (by kernel_rfl) w) (fchange_all N) mixed trivial (fun z E Xc hE hX hret => ⟨fchange_j1_lf N hE hX hret, trivial⟩) (fun p => fchange_eq N p.1.1.1 p.1.1.2.1 p.1.1.2.2.1 p.1.1.2.2.2.1 p.1.1.2.2.2.2.1 p.1.2.1 p.1.2.2.1 p.1.2.2.2.1)

end Go.Proofs.Ythncjilcflilcaa

namespace Go.Proofs.Ythncjilcflilcaa
set_option linter.all false
open Go

end Go.Proofs.Ythncjilcflilcaa

namespace Go.Proofs.Ythncjilcflilcaa
set_option linter.all false
open Go

/-! ### Numbers without one -/
def up (i x : Nat) : Nat := if x < i then x else x + 1
def dn (i x : Nat) : Nat := if x < i then x else x - 1
def upI (k : Nat) (v : Int) : Int := if v < k then v else v + 1
def dnI (k : Nat) (v : Int) : Int := if v < k then v else v - 1
theorem up_lt {i x n : Nat} (h : x < n - 1) : up i x < n := by unfold up; split <;> omega
theorem dn_lt {i x n : Nat} (hi : i < n) (h : x < n) (hne : x ≠ i) : dn i x < n - 1 := by unfold dn; split <;> omega
theorem up_dn {i x : Nat} (h : x ≠ i) : up i (dn i x) = x := by unfold dn up; split <;> first | omega | (split <;> omega)
theorem upI_none (k : Nat) : upI k (-1) = -1 := by unfold upI; rw [if_pos (by omega)]
theorem dnI_none (k : Nat) : dnI k (-1) = -1 := by unfold dnI; rw [if_pos (by omega)]
theorem upI_nat (k y : Nat) : upI k (y : Int) = (up k y : Nat) := by unfold upI up; split <;> first | omega | (split <;> omega)
theorem dnI_nat {k y : Nat} (h : y ≠ k) : dnI k (y : Int) = (dn k y : Nat) := by unfold dnI dn; split <;> first | omega | (split <;> omega)
theorem dnI_upI (k : Nat) {v : Int} (h : -1 ≤ v) : dnI k (upI k v) = v := by unfold dnI upI; split <;> first | omega | (split <;> omega)
theorem upI_dnI {k : Nat} {v : Int} (h : v ≠ k) : upI k (dnI k v) = v := by unfold dnI upI; split <;> first | omega | (split <;> omega)
theorem upI_ne (k : Nat) (v : Int) : upI k v ≠ k := by unfold upI; split <;> omega
theorem upI_inj {k : Nat} {a b : Int} (ha : -1 ≤ a) (hb : -1 ≤ b) (h : upI k a = upI k b) : a = b := by rw [← dnI_upI k ha, h, dnI_upI k hb]
theorem dnI_inj {k : Nat} {a b : Int} (ha : a ≠ k) (hb : b ≠ k) (h : dnI k a = dnI k b) : a = b := by rw [← upI_dnI ha, h, upI_dnI hb]
section
variable {n m : Nat} {can : Nat → Nat → Bool} {t : Nat → Nat → Int}
theorem Mt.bd {J : Nat → Int} (h : Mt n m can J) {i : Nat} (hi : i < n) : -1 ≤ J i ∧ J i < m := by
  rcases h.ok i hi with e | ⟨k, e, hk, _⟩ <;> omega
/-! ### Without a found thing -/
theorem Mt.dnF {J : Nat → Int} {k : Nat} (hk : k < m) (h : Mt n m can J) (hu : ¬ Usd n J k) : Mt n (m - 1) (fun x y => can x (up k y)) (fun x => dnI k (J x)) ∧ wt (fun x y => t x (up k y)) n (fun x => dnI k (J x)) = wt t n J := by
  have hne : ∀ i, i < n → J i ≠ k := fun i hi e => hu ⟨i, hi, e⟩
  refine ⟨⟨fun i hi => ?_, fun i j hi hj hij he => ?_⟩, sumN_congr fun i hi => ?_⟩
  · rcases h.ok i hi with e | ⟨y, e, hy, hc⟩
    · exact .inl (by rw [e, dnI_none])
    · have hyk : y ≠ k := fun e2 => hne i hi (by rw [e, e2])
      exact .inr ⟨dn k y, by rw [e, dnI_nat hyk], dn_lt hk hy hyk, by rw [up_dn hyk]; exact hc⟩
  · have := h.inj i j hi hj hij (dnI_inj (hne i hi) (hne j hj) he)
    show dnI k (J i) = -1
    rw [this, dnI_none]
  · show pv _ i (dnI k (J i)) = pv t i (J i)
    rcases h.ok i hi with e | ⟨y, e, hy, hc⟩
    · rw [e, dnI_none, pv_none, pv_none]
    · have hyk : y ≠ k := fun e2 => hne i hi (by rw [e, e2])
      rw [e, dnI_nat hyk, pv_some, pv_some, up_dn hyk]
theorem Mt.upF {J : Nat → Int} {k : Nat} (h : Mt n (m - 1) (fun x y => can x (up k y)) J) : Mt n m can (fun x => upI k (J x)) ∧ (¬ Usd n (fun x => upI k (J x)) k) ∧ wt t n (fun x => upI k (J x)) = wt (fun x y => t x (up k y)) n J := by
  refine ⟨⟨fun i hi => ?_, fun i j hi hj hij he => ?_⟩, fun ⟨i, hi, e⟩ => upI_ne k _ e, sumN_congr fun i hi => ?_⟩
  · rcases h.ok i hi with e | ⟨y, e, hy, hc⟩
    · exact .inl (by rw [e, upI_none])
    · exact .inr ⟨up k y, by rw [e, upI_nat], up_lt hy, hc⟩
  · have := h.inj i j hi hj hij (upI_inj (h.bd hi).1 (h.bd hj).1 he)
    show upI k (J i) = -1
    rw [this, upI_none]
  · show pv t i (upI k (J i)) = pv _ i (J i)
    rcases h.ok i hi with e | ⟨y, e, hy, hc⟩
    · rw [e, upI_none, pv_none, pv_none]
    · rw [e, upI_nat, pv_some, pv_some]
theorem IsMax.uniq {fr : Nat → Prop} {v v' : Int} (h : IsMax n m can t fr v) (h' : IsMax n m can t fr v') : v = v' := by
  obtain ⟨J, a, b, c⟩ := h.ex
  obtain ⟨J', a', b', c'⟩ := h'.ex
  have := h.le J' a' b'
  have := h'.le J a b
  omega
theorem IsMax.congr {fr fr' : Nat → Prop} {v : Int} (h : IsMax n m can t fr v) (hf : ∀ k, fr k ↔ fr' k) : IsMax n m can t fr' v := by
  have : fr = fr' := funext fun k => propext (hf k)
  rw [← this]; exact h
/-- What is best without a found thing is what is best of all that leave it. -/
theorem IsMax.rmF {k : Nat} {v : Int} (hk : k < m) (h : IsMax n (m - 1) (fun x y => can x (up k y)) (fun x y => t x (up k y)) (fun _ => False) v) : IsMax n m can t (· = k) v := by
  obtain ⟨J, a, _, c⟩ := h.ex
  obtain ⟨u1, u2, u3⟩ := Mt.upF (t := t) a
  refine ⟨⟨_, u1, fun x hx => by subst hx; exact u2, by rw [u3, c]⟩, fun J hJ hu => ?_⟩
  obtain ⟨d1, d2⟩ := Mt.dnF (t := t) hk hJ (hu k rfl)
  rw [← d2]
  exact h.le _ d1 (fun _ h => h.elim)
/-! ### Without a lost thing -/
/-! ### How many joins join two things -/
theorem mem_joins {l : List Int} {u : Nat} : l ∈ joinsL can m n 0 u ↔ l.length = n ∧ Mt n m can (fnJ l) ∧ ∀ k, u.testBit k = true → ¬ Usd n (fnJ l) k := by
  constructor
  · intro h
    obtain ⟨h1, h2, _⟩ := list_mt (t := fun _ _ => 0) h
    exact ⟨(mem_joinsL.1 h).1, h1, h2⟩
  · rintro ⟨h1, h2⟩
    exact mem_joinsL.2 ⟨h1, okJ_mt.2 (by rw [h1]; exact h2)⟩
theorem val_joins {l : List Int} (h : l.length = n) : valJ t 0 l = wt t n (fnJ l) := by rw [valJ_wt, h]
theorem Mt.congr {J J' : Nat → Int} (h : Mt n m can J) (he : ∀ i, i < n → J i = J' i) : Mt n m can J' := by
  refine ⟨fun i hi => by rw [← he i hi]; exact h.ok i hi, fun i j hi hj hij e => ?_⟩
  rw [← he i hi, ← he j hj] at e
  rw [← he i hi]
  exact h.inj i j hi hj hij e
end
end Go.Proofs.Ythncjilcflilcaa

namespace Go.Proofs.Ythncjilcflilcaa
set_option linter.all false
open Go

theorem drop_cons {α : Type} {l : List α} {k : Nat} (h : k < l.length) (d : α) : l.drop k = l.getD k d :: l.drop (k + 1) := by
  rw [List.drop_eq_getElem_cons h]; simp [List.getD, h]
theorem gets {α : Type} {l : List α} {k : Nat} (h : k < l.length) (d : α) : l[((k : Nat) : Int).toNat]? = some (l.getD k d) := by simp [List.getD, h]
theorem getD_mem {α : Type} {l : List α} {i : Nat} {d : α} (h : i < l.length) : l.getD i d ∈ l := by
  simp [List.getD, h]
theorem nat_succ (k : Nat) : ((k + 1 : Nat) : Int) = (k : Int) + 1 := by omega
theorem in_v (N : Nat) (n lo hi : Int) : in__S N n lo hi = some (decide (lo ≤ n ∧ n ≤ hi)) := by
  unfold in__S br
  by_cases h : lo ≤ n <;> simp [h]
theorem every_gen {α : Type} {f : α → Option Bool} {p : α → Bool} {s : List α} {N : Nat} (hf : ∀ x ∈ s, f x = some (p x)) (hs : s.length ≤ 1000000) (hN : s.length < N) :
    (((ixS (fun x => (f x).bind fun c => some (!c)) N s).bind fun x => some (decide (0 ≤ x))).bind fun x => some (!x)) = some (s.all p) := by
  rw [ixS_any (p := fun x => !p x) (fun x hx => by rw [hf x hx]; rfl) hs hN]
  simp only [Option.bind_some, any_not]
/-- The limits of a desk's numbers. -/
def okv (x : Int) : Bool := decide (-1 ≤ x ∧ x ≤ 5)
def okw (x : Int) : Bool := decide (1 ≤ x ∧ x ≤ 9)
def okr (x : Int) : Bool := decide (0 ≤ x ∧ x ≤ 99)
def okl (n : Nat) (r : List Int) : Bool := decide (r.length = n)
/-- What is looked at is small. -/
structure Sm (W : List Int) (L F : List (List Int)) (R : List Int) : Prop where
  w : W.length ≤ 100
  l : L.length ≤ 100
  f : F.length ≤ 100
  r : R.length ≤ 100
  lr : ∀ x ∈ L, x.length ≤ 100
  fr : ∀ x ∈ F, x.length ≤ 100
section
variable (N : Nat)
theorem ixfv_gen : ∀ (n : Nat) (s : List Int) (u u2 : Int), ixfv_l1 N n s u u2 = ixL (every1v_S N) n s u u2
  | 0, _, _, _ => rfl
  | n + 1, s, u, u2 => by unfold ixfv_l1 ixL; simp only [ixfv_gen n]
theorem ixfva_gen : ∀ (n : Nat) (s : List (List Int)) (u u2 : Int), ixfva_l1 N n s u u2 = ixL (every1va_S N) n s u u2
  | 0, _, _, _ => rfl
  | n + 1, s, u, u2 => by unfold ixfva_l1 ixL; simp only [ixfva_gen n]
theorem ixfw_gen : ∀ (n : Nat) (s : List Int) (u u2 : Int), ixfw_l1 N n s u u2 = ixL (every1w_S N) n s u u2
  | 0, _, _, _ => rfl
  | n + 1, s, u, u2 => by unfold ixfw_l1 ixL; simp only [ixfw_gen n]
theorem ixfr_gen : ∀ (n : Nat) (s : List Int) (u u2 : Int), ixfr_l1 N n s u u2 = ixL (every1r_S N) n s u u2
  | 0, _, _, _ => rfl
  | n + 1, s, u, u2 => by unfold ixfr_l1 ixL; simp only [ixfr_gen n]
end
section
variable {N : Nat} {W : List Int} {s : Int} {L F : List (List Int)} {R : List Int}
theorem everyv_v {l : List Int} (h : l.length ≤ 1000000) (hN : l.length < N) : everyv_S N l = some (l.all okv) := by
  unfold everyv_S cofv_S ixfv_S
  rw [← every_gen (f := check21_S N) (p := okv) (s := l) (N := N) (fun x _ => ?_) h hN]
  · unfold ixS
    rw [ixfv_gen]
    rfl
  · unfold check21_S okv
    rw [in_v]; rfl
theorem everyw_v {l : List Int} (h : l.length ≤ 1000000) (hN : l.length < N) : everyw_S N l = some (l.all okw) := by
  unfold everyw_S cofw_S ixfw_S
  rw [← every_gen (f := check3_S N) (p := okw) (s := l) (N := N) (fun x _ => ?_) h hN]
  · unfold ixS
    rw [ixfw_gen]
    rfl
  · unfold check3_S okw
    rw [in_v]; rfl
theorem everyr_v {l : List Int} (h : l.length ≤ 1000000) (hN : l.length < N) : everyr_S N l = some (l.all okr) := by
  unfold everyr_S cofr_S ixfr_S
  rw [← every_gen (f := check4_S N) (p := okr) (s := l) (N := N) (fun x _ => ?_) h hN]
  · unfold ixS
    rw [ixfr_gen]
    rfl
  · unfold check4_S okr
    rw [in_v]; rfl
theorem everyva_v {l : List (List Int)} (h : l.length ≤ 1000000) (hN : l.length < N) (hr : ∀ x ∈ l, x.length ≤ 1000000 ∧ x.length < N) : everyva_S N l = some (l.all fun r => r.all okv) := by
  unfold everyva_S cofva_S ixfva_S
  rw [← every_gen (f := check2_S N) (p := fun r => r.all okv) (s := l) (N := N) (fun x hx => ?_) h hN]
  · unfold ixS
    rw [ixfva_gen]
    rfl
  · unfold check2_S
    rw [everyv_v (hr x hx).1 (hr x hx).2]; rfl
theorem ixflo_gen : ∀ (n : Nat) (l : List (List Int)) (u u2 : Int), ixflo_l1 N n l u u2 (W, s, L, F, R) = (ixL (fun x => some (!okl W.length x)) n l u u2).map fun r => match r with | .inl i => .inl (i, (W, s, L, F, R)) | .inr _ => .inr (W, s, L, F, R)
  | 0, _, _, _ => rfl
  | n + 1, l, u, u2 => by
    have e : ∀ x, every1lo_S N x (W, s, L, F, R) = some (!okl W.length x, (W, s, L, F, R)) := fun x => by
      unfold every1lo_S check1_S okl
      simp only [Option.bind_some]
      congr 3
      exact decide_eq_decide.2 (by omega)
    unfold ixflo_l1 ixL
    simp only [e, Option.bind_some, ixflo_gen n]
    unfold br
    split
    · unfold idx
      split
      · cases l[u2.toNat]? with
        | none => rfl
        | some a =>
          dsimp only
          cases okl W.length a
          · rfl
          · simp only [Bool.not_true, Bool.false_eq_true, if_false]
            unfold chk
            split <;> rfl
      · rfl
    · rfl
theorem everylo_v {l : List (List Int)} (h : l.length ≤ 1000000) (hN : l.length < N) : everylo_S N l (W, s, L, F, R) = some (l.all (okl W.length)) := by
  unfold everylo_S coflo_S ixflo_S
  rw [← every_gen (f := fun x => some (okl W.length x)) (p := okl W.length) (s := l) (N := N) (fun x _ => rfl) h hN]
  unfold ixS
  rw [ixflo_gen]
  simp only [Option.bind_some]
  cases ixL (fun x => some (!okl W.length x)) N l l.length 0 with
  | none => rfl
  | some r => cases r <;> rfl
end
/-- The error of a desk. -/
def errD (W : List Int) (s : Int) (L F : List (List Int)) (R : List Int) : Int :=
  if ¬ (1 ≤ (W.length : Int) ∧ (W.length : Int) ≤ 5) then 2 else if 6 < (L.length : Int) then 2 else if 6 < (F.length : Int) then 2 else if L.all (okl W.length) = false then 2 else if F.all (okl W.length) = false then 2 else
  if ¬ ((R.length : Int) = (L.length : Int)) then 2 else if (W.all okw && decide (0 ≤ s ∧ s ≤ 3) && R.all okr && (L.all fun r => r.all okv) && F.all fun r => r.all okv) = true then 0 else 3
section
variable {N : Nat} {W : List Int} {s : Int} {L F : List (List Int)} {R : List Int}
theorem check_v (hN : 110 ≤ N) (h : Sm W L F R) : check_S N W s L F R = some (errD W s L F R) := by
  obtain ⟨hw, hl, hf, hr, hlr, hfr⟩ := h
  unfold check_S errD
  rw [in_v]
  simp only [Option.bind_some]
  by_cases c1 : 1 ≤ (W.length : Int) ∧ (W.length : Int) ≤ 5
  rotate_left
  · rw [br_nnd c1, if_pos c1]
  rw [br_nd c1, if_neg (by simpa using c1)]
  by_cases c2 : 6 < (L.length : Int)
  · rw [br_dec c2, if_pos c2]
  rw [br_ndec c2, if_neg c2]
  by_cases c3 : 6 < (F.length : Int)
  · rw [br_dec c3, if_pos c3]
  rw [br_ndec c3, if_neg c3, everylo_v (by omega) (by omega), everylo_v (by omega) (by omega), everyw_v (by omega) (by omega), in_v, everyr_v (by omega) (by omega),
    everyva_v (by omega) (by omega) (fun x hx => ⟨by have := hlr x hx; omega, by have := hlr x hx; omega⟩), everyva_v (by omega) (by omega) (fun x hx => ⟨by have := hfr x hx; omega, by have := hfr x hx; omega⟩)]
  simp only [Option.bind_some]
  cases L.all (okl W.length)
  · rfl
  cases F.all (okl W.length)
  · rfl
  by_cases c4 : (R.length : Int) = (L.length : Int)
  rotate_left
  · simp only [Bool.not_true, br_false, Bool.true_eq_false, if_false]
    rw [br_nnd c4, if_pos c4]
  simp only [Bool.not_true, br_false, Bool.true_eq_false, if_false]
  rw [br_nd c4, if_neg (not_not_intro c4)]
  cases W.all okw <;> cases decide (0 ≤ s ∧ s ≤ 3) <;> cases R.all okr <;> cases (L.all fun r => r.all okv) <;> cases (F.all fun r => r.all okv) <;> rfl
theorem off_v (n lo hi : Int) : off_S N n lo hi = some (!decide (lo ≤ n ∧ n ≤ hi)) := by
  unfold off_S
  by_cases c : n < lo
  · rw [br_dec c]; congr 1; simp; omega
  · rw [br_ndec c]; congr 1
    by_cases d : n ≤ hi
    · rw [decide_eq_false (show ¬ hi < n by omega), decide_eq_true (show lo ≤ n ∧ n ≤ hi from ⟨by omega, d⟩)]; rfl
    · rw [decide_eq_true (show hi < n by omega), decide_eq_false (fun h : lo ≤ n ∧ n ≤ hi => d h.2)]; rfl
/-- A loop through a list that ends at the first element that isn't so. -/
def alls {α β : Type} (p : α → Bool) (s : List α) (k : Nat) (b : β) : Option (Unit ⊕ β) := some (if (s.drop k).all p then .inr b else .inl ())
theorem alls_yes {α β : Type} {p : α → Bool} {s : List α} {k : Nat} {b : β} (d : α) (h : k < s.length) (hp : p (s.getD k d) = true) : alls p s k b = alls p s (k + 1) b := by
  unfold alls; rw [drop_cons h d, List.all_cons, hp, Bool.true_and]
theorem alls_no {α β : Type} {p : α → Bool} {s : List α} {k : Nat} {b : β} (d : α) (h : k < s.length) (hp : p (s.getD k d) = false) : alls p s k b = some (.inl ()) := by
  unfold alls; rw [drop_cons h d, List.all_cons, hp, Bool.false_and]; rfl
theorem alls_end {α β : Type} {p : α → Bool} {s : List α} {k : Nat} {b : β} (h : s.length ≤ k) : alls p s k b = some (.inr b) := by
  unfold alls; rw [List.drop_of_length_le h]; rfl
theorem described_l1_p (hw : W.length ≤ 1000000) {l : List (List Int)} (hl : l.length ≤ 1000000) : ∀ (n k : Nat), l.length < n + k → k ≤ l.length → described_l1 N n l k W s L F R = alls (okl W.length) l k ()
  | 0, k, h, _ => by omega
  | n + 1, k, h, hk => by
    unfold described_l1
    by_cases c : k < l.length
    · have ih := described_l1_p hw hl n (k + 1) (by omega) (by omega)
      rw [nat_succ] at ih
      rw [br_dec (by omega), idx_eq (by omega) (gets c [])]
      by_cases c1 : ((l.getD k []).length : Int) = W.length
      · rw [br_nd c1, chk_eq (by omega), ih, alls_yes [] c (by unfold okl; rw [decide_eq_true_eq]; omega)]
      · rw [br_nnd c1, alls_no [] c (by unfold okl; rw [decide_eq_false_iff_not]; omega)]
    · rw [br_ndec (by omega), alls_end (by omega)]
theorem described_v (hw : W.length ≤ 1000000) {l : List (List Int)} (hl : l.length ≤ 1000000) (hN : l.length < N) : described_S N W s L F R l = some (l.all (okl W.length)) := by
  unfold described_S
  have := described_l1_p (N := N) (s := s) (L := L) (F := F) (R := R) hw hl N 0 (by omega) (by omega)
  rw [show ((0 : Nat) : Int) = 0 from rfl] at this
  rw [this]
  unfold alls
  simp only [List.drop_zero, Option.bind_some]
  cases l.all (okl W.length) <;> rfl
theorem valued_l2_p {l : List (List Int)} {i : Nat} (hi : i < l.length) (hr : (l.getD i []).length ≤ 1000000) : ∀ (n k : Nat), (l.getD i []).length < n + k → k ≤ (l.getD i []).length → valued_l2 N n l i k = alls okv (l.getD i []) k (l, (i : Int))
  | 0, k, h, _ => by omega
  | n + 1, k, h, hk => by
    unfold valued_l2
    rw [idx_eq (by omega) (gets hi [])]
    by_cases c : k < (l.getD i []).length
    · have ih := valued_l2_p hi hr n (k + 1) (by omega) (by omega)
      rw [nat_succ] at ih
      rw [br_dec (by omega), idx_eq (by omega) (gets hi []), idx_eq (by omega) (gets c 0), off_v]
      simp only [Option.bind_some]
      by_cases c1 : -1 ≤ (l.getD i []).getD k 0 ∧ (l.getD i []).getD k 0 ≤ 5
      · rw [br_nd c1, chk_eq (by omega), ih, alls_yes 0 c (by simp only [okv, c1, and_self, decide_true])]
      · rw [br_nnd c1, alls_no 0 c (by simp only [okv, c1, decide_false])]
    · rw [br_ndec (by omega), alls_end (by omega)]
theorem valued_l1_p {l : List (List Int)} (hl : l.length ≤ 1000000) (hr : ∀ x ∈ l, x.length ≤ 1000000 ∧ x.length < N) : ∀ (n k : Nat), l.length < n + k → k ≤ l.length → valued_l1 N n l k = alls (fun r => r.all okv) l k ()
  | 0, k, h, _ => by omega
  | n + 1, k, h, hk => by
    unfold valued_l1
    by_cases c : k < l.length
    · have ih := valued_l1_p hl hr n (k + 1) (by omega) (by omega)
      rw [nat_succ] at ih
      have e := valued_l2_p (N := N) c (hr _ (getD_mem c)).1 N 0 (by have := (hr _ (getD_mem (d := []) c)).2; omega) (by omega)
      rw [show ((0 : Nat) : Int) = 0 from rfl] at e
      rw [br_dec (by omega), e]
      by_cases hb : (l.getD k []).all okv = true
      · rw [alls_yes (p := fun r => r.all okv) [] c hb, ← ih]
        unfold alls
        rw [List.drop_zero, if_pos hb]
        exact chk_eq (by omega)
      · rw [alls_no (p := fun r => r.all okv) [] c (Bool.eq_false_iff.2 hb)]
        unfold alls
        rw [List.drop_zero, if_neg hb]
        rfl
    · rw [br_ndec (by omega), alls_end (by omega)]
theorem valued_v {l : List (List Int)} (hl : l.length ≤ 1000000) (hN : l.length < N) (hr : ∀ x ∈ l, x.length ≤ 1000000 ∧ x.length < N) : valued_S N l = some (l.all fun r => r.all okv) := by
  unfold valued_S
  have := valued_l1_p (N := N) hl hr N 0 (by omega) (by omega)
  rw [show ((0 : Nat) : Int) = 0 from rfl] at this
  rw [this]
  unfold alls
  simp only [List.drop_zero, Option.bind_some]
  cases (l.all fun r => r.all okv) <;> rfl
theorem rcheck_l1_p (hw : W.length ≤ 1000000) : ∀ (n k : Nat), W.length < n + k → k ≤ W.length → rcheck_l1 N n k W s L F R = alls okw W k (W, s, L, F, R)
  | 0, k, h, _ => by omega
  | n + 1, k, h, hk => by
    unfold rcheck_l1
    by_cases c : k < W.length
    · have ih := rcheck_l1_p hw n (k + 1) (by omega) (by omega)
      rw [nat_succ] at ih
      rw [br_dec (by omega), idx_eq (by omega) (gets c 0), off_v]
      simp only [Option.bind_some]
      by_cases c1 : 1 ≤ W.getD k 0 ∧ W.getD k 0 ≤ 9
      · rw [br_nd c1, chk_eq (by omega), ih, alls_yes 0 c (by simp only [okw, c1, and_self, decide_true])]
      · rw [br_nnd c1, alls_no 0 c (by simp only [okw, c1, decide_false])]
    · rw [br_ndec (by omega), alls_end (by omega)]
theorem rcheck_l2_p (hw : R.length ≤ 1000000) : ∀ (n k : Nat), R.length < n + k → k ≤ R.length → rcheck_l2 N n k W s L F R = alls okr R k (W, s, L, F, R)
  | 0, k, h, _ => by omega
  | n + 1, k, h, hk => by
    unfold rcheck_l2
    by_cases c : k < R.length
    · have ih := rcheck_l2_p hw n (k + 1) (by omega) (by omega)
      rw [nat_succ] at ih
      rw [br_dec (by omega), idx_eq (by omega) (gets c 0), off_v]
      simp only [Option.bind_some]
      by_cases c1 : 0 ≤ R.getD k 0 ∧ R.getD k 0 ≤ 99
      · rw [br_nd c1, chk_eq (by omega), ih, alls_yes 0 c (by simp only [okr, c1, and_self, decide_true])]
      · rw [br_nnd c1, alls_no 0 c (by simp only [okr, c1, decide_false])]
    · rw [br_ndec (by omega), alls_end (by omega)]
theorem rcheck_v (hN : 110 ≤ N) (h : Sm W L F R) : rcheck_S N W s L F R = some (errD W s L F R) := by
  obtain ⟨hw, hl, hf, hr, hlr, hfr⟩ := h
  unfold rcheck_S errD
  rw [off_v]
  simp only [Option.bind_some]
  by_cases c1 : 1 ≤ (W.length : Int) ∧ (W.length : Int) ≤ 5
  rotate_left
  · rw [br_nnd c1, if_pos c1]
  rw [br_nd c1, if_neg (by simpa using c1)]
  by_cases c2 : 6 < (L.length : Int)
  · rw [br_dec c2, if_pos c2]
  rw [br_ndec c2, if_neg c2]
  by_cases c3 : 6 < (F.length : Int)
  · rw [br_dec c3, if_pos c3]
  have e1 := rcheck_l1_p (N := N) (s := s) (L := L) (F := F) (R := R) (W := W) (by omega) N 0 (by omega) (by omega)
  have e2 := rcheck_l2_p (N := N) (s := s) (L := L) (F := F) (W := W) (R := R) (by omega) N 0 (by omega) (by omega)
  rw [show ((0 : Nat) : Int) = 0 from rfl] at e1 e2
  rw [br_ndec c3, if_neg c3, described_v (by omega) (by omega) (by omega), described_v (by omega) (by omega) (by omega), e1]
  unfold alls at e2 ⊢
  simp only [List.drop_zero, Option.bind_some] at e2 ⊢
  cases L.all (okl W.length)
  · rfl
  cases F.all (okl W.length)
  · rfl
  by_cases c4 : (R.length : Int) = (L.length : Int)
  rotate_left
  · simp only [Bool.not_true, br_false, Bool.true_eq_false, if_false]
    rw [br_nnd c4, if_pos c4]
  simp only [Bool.not_true, br_false, Bool.true_eq_false, if_false]
  rw [br_nd c4, if_neg (not_not_intro c4)]
  by_cases d1 : W.all okw = true
  rotate_left
  · rw [if_neg d1, if_neg (by rw [Bool.eq_false_iff.2 d1]; simp)]
  rw [if_pos d1, d1]
  dsimp only
  rw [e2]
  simp only [Option.bind_some]
  by_cases d2 : R.all okr = true
  rotate_left
  · rw [if_neg d2, if_neg (by rw [Bool.eq_false_iff.2 d2]; simp)]
  rw [if_pos d2, d2]
  dsimp only
  rw [off_v, valued_v (N := N) (l := L) (by omega) (by omega) (fun x hx => ⟨by have := hlr x hx; omega, by have := hlr x hx; omega⟩), valued_v (N := N) (l := F) (by omega) (by omega) (fun x hx => ⟨by have := hfr x hx; omega, by have := hfr x hx; omega⟩)]
  simp only [Option.bind_some]
  cases decide (0 ≤ s ∧ s ≤ 3) <;> cases (L.all fun r => r.all okv) <;> cases (F.all fun r => r.all okv) <;> rfl
end
section
variable {N : Nat}
theorem copyi_v {l : List Int} (h : l.length ≤ 1000000) : copyi_S N l = some l := by
  unfold copyi_S
  rw [grd_eq (lmI_iff.2 (by omega))]
  simp
theorem take_succ' {α : Type} {l : List α} {k : Nat} (c : k < l.length) (d : α) : l.take (k + 1) = l.take k ++ [l.getD k d] := by
  rw [List.take_add_one]; simp [List.getD, c]
theorem likei_v {l : List Int} (h : l.length ≤ 1000) (hN : l.length < N) : likei_S N l l = some true := by
  have e : ∀ (n k : Nat), l.length < n + k → k ≤ l.length → equali_l1 N n l l l.length k = some (.inr ()) := by
    intro n
    induction n with
    | zero => intro k h _; omega
    | succ n ih =>
      intro k h2 hk
      unfold equali_l1
      by_cases c : k < l.length
      · have := ih (k + 1) (by omega) (by omega)
        rw [show ((k + 1 : Nat) : Int) = (k : Int) + 1 by omega] at this
        rw [br_dec (by omega), idx_eq (by omega) (gets c 0), idx_eq (by omega) (gets c 0), br_nd rfl, chk_eq (by omega), this]
      · rw [br_ndec (by omega)]
  have e0 := e N 0 (by omega) (by omega)
  simp only [Int.natCast_zero] at e0
  unfold likei_S equali_S
  rw [br_nd rfl, e0]; rfl
end
end Go.Proofs.Ythncjilcflilcaa

namespace Go.Proofs.Ythncjilcflilcaa
set_option linter.all false
open Go

def tabA (g : Nat → Int) : List Int := (List.range 36).map g
theorem tabA_len (g : Nat → Int) : (tabA g).length = 36 := by simp [tabA]
theorem tabA_get {g : Nat → Int} {x : Nat} (h : x < 36) : (tabA g).getD x 0 = g x := by simp [tabA, List.getD, h]
theorem tabA_set (g : Nat → Int) (x : Nat) (v : Int) : (tabA g).set x v = tabA (upd g x v) := by
  refine List.ext_getElem (by simp [tabA]) fun i h1 h2 => ?_
  simp only [tabA, List.getElem_set, List.getElem_map, List.getElem_range, upd]
  by_cases e : x = i
  · rw [if_pos e, if_pos e.symm]
  · rw [if_neg e, if_neg (Ne.symm e)]
theorem tabA_congr {g h : Nat → Int} (e : ∀ x, x < 36 → g x = h x) : tabA g = tabA h := by
  unfold tabA
  refine List.map_congr_left fun x hx => e x (by simpa using hx)
/-- What two descriptions agree in, and how often they slip, up to a trait. -/
def agA (W a b : List Int) (t : Nat) : Int := if a.getD t 0 = b.getD t 0 ∧ a.getD t 0 ≠ -1 then W.getD t 0 else 0
def slA (a b : List Int) (t : Nat) : Int := if a.getD t 0 ≠ -1 ∧ b.getD t 0 ≠ -1 ∧ a.getD t 0 ≠ b.getD t 0 then 1 else 0
def agP (W a b : List Int) (k : Nat) : Int := sumN (agA W a b) k
def slP (a b : List Int) (k : Nat) : Int := sumN (slA a b) k
def agF (W : List Int) (L F : List (List Int)) (i k : Nat) : Int := if i < L.length ∧ k < F.length then agP W (L.getD i []) (F.getD k []) W.length else 0
def slF (W : List Int) (L F : List (List Int)) (i k : Nat) : Int := if i < L.length ∧ k < F.length then slP (L.getD i []) (F.getD k []) W.length else 0
theorem sumN_bound {f : Nat → Int} {m : Int} (h : ∀ i, 0 ≤ f i ∧ f i ≤ m) (hm : 0 ≤ m ∧ m ≤ 10) : ∀ n : Nat, n ≤ 1000 → 0 ≤ sumN f n ∧ sumN f n ≤ 10 * n
  | 0, _ => by simp [sumN]
  | n + 1, hn => by
    have h1 := sumN_bound h hm n (by omega)
    have h2 := h n
    rw [sumN]; omega
/-- A desk without an error. -/
structure Fine (W : List Int) (s : Int) (L F : List (List Int)) (R : List Int) : Prop where
  w1 : 1 ≤ W.length
  w5 : W.length ≤ 5
  l6 : L.length ≤ 6
  f6 : F.length ≤ 6
  lw : ∀ x ∈ L, x.length = W.length
  fw : ∀ x ∈ F, x.length = W.length
  rl : R.length = L.length
  w : ∀ x ∈ W, 1 ≤ x ∧ x ≤ 9
  s : 0 ≤ s ∧ s ≤ 3
  r : ∀ x ∈ R, 0 ≤ x ∧ x ≤ 99
  lv : ∀ r ∈ L, ∀ x ∈ r, -1 ≤ x ∧ x ≤ 5
  fv : ∀ r ∈ F, ∀ x ∈ r, -1 ≤ x ∧ x ≤ 5
section
variable {W : List Int} {s : Int} {L F : List (List Int)} {R : List Int}
theorem errD_iff : errD W s L F R = 0 ↔ Fine W s L F R := by
  unfold errD
  constructor
  · intro h
    split at h
    · cases h
    rename_i c1
    split at h
    · cases h
    rename_i c2
    split at h
    · cases h
    rename_i c3
    split at h
    · cases h
    rename_i c4
    split at h
    · cases h
    rename_i c5
    split at h
    · cases h
    rename_i c6
    split at h
    rotate_left
    · cases h
    rename_i c7
    simp only [Bool.and_eq_true, List.all_eq_true, okw, okr, okv, decide_eq_true_eq] at c7
    simp only [Bool.not_eq_false, List.all_eq_true, okl, decide_eq_true_eq] at c4 c5
    exact ⟨by omega, by omega, by omega, by omega, c4, c5, by omega, c7.1.1.1.1, c7.1.1.1.2, c7.1.1.2, c7.1.2, c7.2⟩
  · intro h
    have c4 : L.all (okl W.length) = true := by simpa [okl] using h.lw
    have c5 : F.all (okl W.length) = true := by simpa [okl] using h.fw
    have h1 := h.w1; have h2 := h.w5; have h3 := h.l6; have h4 := h.f6; have h5 := h.rl
    rw [if_neg (by omega), if_neg (by omega), if_neg (by omega), if_neg (by simp [c4]), if_neg (by simp [c5]), if_neg (by omega), if_pos]
    simp only [Bool.and_eq_true, List.all_eq_true, okw, okr, okv, decide_eq_true_eq]
    exact ⟨⟨⟨⟨h.w, h.s⟩, h.r⟩, h.lv⟩, h.fv⟩
theorem Fine.sm (h : Fine W s L F R) : Sm W L F R := by
  have h1 := h.w1; have h2 := h.w5; have h3 := h.l6; have h4 := h.f6; have h5 := h.rl
  exact ⟨by omega, by omega, by omega, by omega, fun x hx => by have := h.lw x hx; omega, fun x hx => by have := h.fw x hx; omega⟩
/-- The desk at work. -/
def dkT (W : List Int) (s : Int) (L F : List (List Int)) (R : List Int) (A B : Nat → Nat → Int) : Dk := (W, s, L, F, R, tabA (fun x => A (x / 6) (x % 6)), tabA (fun x => B (x / 6) (x % 6)), ())
def dkO (W : List Int) (s : Int) (L F : List (List Int)) (R : List Int) : Dk := dkT W s L F R (agF W L F) (slF W L F)
theorem getD_W (hw : ∀ x ∈ W, 1 ≤ x ∧ x ≤ 9) (t : Nat) : 0 ≤ W.getD t 0 ∧ W.getD t 0 ≤ 9 := by
  by_cases h : t < W.length
  · have := hw _ (getD_mem (d := 0) h); omega
  · have : W.getD t 0 = 0 := by simp [List.getD, List.getElem?_eq_none (show W.length ≤ t by omega)]
    omega
theorem agA_bound (hw : ∀ x ∈ W, 1 ≤ x ∧ x ≤ 9) (a b : List Int) (t : Nat) : 0 ≤ agA W a b t ∧ agA W a b t ≤ 9 := by
  have := getD_W hw t
  unfold agA; split <;> omega
theorem slA_bound (a b : List Int) (t : Nat) : 0 ≤ slA a b t ∧ slA a b t ≤ 1 := by unfold slA; split <;> omega
theorem agP_bound (hw : ∀ x ∈ W, 1 ≤ x ∧ x ≤ 9) (a b : List Int) {t : Nat} (ht : t ≤ 5) : 0 ≤ agP W a b t ∧ agP W a b t ≤ 50 := by
  have := sumN_bound (agA_bound hw a b) (by omega) t (by omega)
  unfold agP; omega
theorem slP_bound (a b : List Int) {t : Nat} (ht : t ≤ 5) : 0 ≤ slP a b t ∧ slP a b t ≤ 50 := by
  have := sumN_bound (slA_bound a b) (by omega) t (by omega)
  unfold slP; omega
theorem upd_upd {α : Type} (J : Nat → α) (i : Nat) (v w : α) : upd (upd J i v) i w = upd J i w := by
  funext x; unfold upd; split <;> rfl
theorem upd_id {α : Type} (J : Nat → α) (i : Nat) : upd J i (J i) = J := by
  funext x; unfold upd; split
  · rename_i e; rw [e]
  · rfl
theorem opened_l3_p {N : Nat} (h : Fine W s L F R) {i k : Nat} (hi : i < 6) (hk : k < 6) {a b : List Int} (ha : a.length = W.length) (hb : b.length = W.length) {u u4 : List (List Int)} {u2 u3 u5 u6 : Int} {o1 o5 : List Int} {o2 : Int} {o3 o4 : List (List Int)} :
    ∀ (n t : Nat) (g g' : Nat → Int), W.length < n + t → t ≤ W.length → g (i * 6 + k) = agP W a b t → g' (i * 6 + k) = slP a b t →
      opened_l3 N n i a k b u u2 u3 u4 u5 u6 a a.length t W s L F R o1 o2 o3 o4 o5 (tabA g) (tabA g') = some ((i : Int), a, u, u2, u3, u4, u5, u6, W, s, L, F, R, o1, o2, o3, o4, o5, tabA (upd g (i * 6 + k) (agP W a b W.length)), tabA (upd g' (i * 6 + k) (slP a b W.length)))
  | 0, t, _, _, hn, ht, _, _ => by omega
  | n + 1, t, g, g', hn, ht, e1, e2 => by
    unfold opened_l3
    have hw5 := h.w5
    by_cases c : t < W.length
    · have hx : i * 6 + k < 36 := by omega
      have hj : ∀ g g' : Nat → Int, opened_j1 N (opened_l3 N n) i a k b u u2 u3 u4 u5 u6 a a.length t W s L F R o1 o2 o3 o4 o5 (tabA g) (tabA g') = opened_l3 N n i a k b u u2 u3 u4 u5 u6 a a.length ((t + 1 : Nat) : Int) W s L F R o1 o2 o3 o4 o5 (tabA g) (tabA g') := fun g g' => by
        unfold opened_j1
        rw [chk_eq (by omega)]; rfl
      have b1 := agP_bound h.w a b (t := t) (by omega)
      have b2 := slP_bound a b (t := t) (by omega)
      have b3 := getD_W h.w t
      have s1 : agP W a b (t + 1) = agP W a b t + agA W a b t := rfl
      have s2 : slP a b (t + 1) = slP a b t + slA a b t := rfl
      rw [br_dec (by omega), idx_eq (by omega) (gets (by omega) 0)]
      unfold agA at s1
      unfold slA at s2
      by_cases c1 : a.getD t 0 = -1
      · rw [if_neg (by omega)] at s1 s2
        rw [br_dec c1, hj, opened_l3_p h hi hk ha hb n (t + 1) g g' (by omega) (by omega) (by omega) (by omega)]
      rw [br_ndec c1, idx_eq (by omega) (gets (by omega) 0)]
      by_cases c2 : b.getD t 0 = -1
      · rw [if_neg (by omega)] at s1 s2
        rw [br_dec c2, hj, opened_l3_p h hi hk ha hb n (t + 1) g g' (by omega) (by omega) (by omega) (by omega)]
      rw [br_ndec c2, idx_eq (by omega) (gets (by omega) 0)]
      by_cases c3 : a.getD t 0 = b.getD t 0
      · rw [if_pos ⟨c3, c1⟩] at s1
        rw [if_neg (by omega)] at s2
        rw [br_dec c3, rng_eq (by omega), rng_eq (by omega)]
        simp only [Int.toNat_natCast]
        rw [get_get 0 (by rw [tabA_len]; exact hx), tabA_get hx, e1, idx_eq (by omega) (gets (k := t) (l := W) (by omega) 0), chk_eq (by omega), rng_eq (by omega), rng_eq (by omega), get_get 0 (by rw [tabA_len]; exact hx), tabA_set, hj,
          opened_l3_p h hi hk ha hb n (t + 1) _ _ (by omega) (by omega) (by rw [upd_self]; omega) (by omega), upd_upd]
      · rw [if_neg (by omega)] at s1
        rw [if_pos ⟨c1, c2, c3⟩] at s2
        rw [br_ndec c3, rng_eq (by omega), rng_eq (by omega)]
        simp only [Int.toNat_natCast]
        rw [get_get 0 (by rw [tabA_len]; exact hx), tabA_get hx, e2, chk_eq (by omega), rng_eq (by omega), rng_eq (by omega), get_get 0 (by rw [tabA_len]; exact hx), tabA_set, hj,
          opened_l3_p h hi hk ha hb n (t + 1) _ _ (by omega) (by omega) (by omega) (by rw [upd_self]; omega), upd_upd]
    · obtain rfl : t = W.length := by omega
      rw [br_ndec (by omega), ← e1, ← e2, upd_id, upd_id]
/-- Tables that are filled up to a pair. -/
def gK (A : Nat → Nat → Int) (i k : Nat) : Nat → Int := fun x => if x / 6 < i ∨ (x / 6 = i ∧ x % 6 < k) then A (x / 6) (x % 6) else 0
theorem gK_step (A : Nat → Nat → Int) {i k : Nat} (hk : k < 6) : upd (gK A i k) (i * 6 + k) (A i k) = gK A i (k + 1) := by
  funext x
  unfold upd gK
  by_cases e : x = i * 6 + k
  · rw [if_pos e, if_pos (by omega), show x / 6 = i by omega, show x % 6 = k by omega]
  · rw [if_neg e]
    by_cases c : x / 6 < i ∨ (x / 6 = i ∧ x % 6 < k)
    · rw [if_pos c, if_pos (by omega)]
    · rw [if_neg c, if_neg (by omega)]
theorem gK_self (A : Nat → Nat → Int) {i k : Nat} (hk : k < 6) : gK A i k (i * 6 + k) = 0 := if_neg (by omega)
theorem gK_row {A : Nat → Nat → Int} {i m : Nat} (h : ∀ k, m ≤ k → A i k = 0) : gK A i m = gK A (i + 1) 0 := by
  funext x
  unfold gK
  by_cases c : x / 6 < i ∨ (x / 6 = i ∧ x % 6 < m)
  · rw [if_pos c, if_pos (by omega)]
  · rw [if_neg c]
    by_cases d : x / 6 = i
    · rw [if_pos (by omega), d, h _ (by omega)]
    · rw [if_neg (by omega)]
theorem gK_all {A : Nat → Nat → Int} {n : Nat} (h : ∀ i k, n ≤ i → A i k = 0) : gK A n 0 = fun x => A (x / 6) (x % 6) := by
  funext x
  unfold gK
  by_cases c : x / 6 < n
  · rw [if_pos (.inl c)]
  · rw [if_neg (by omega), h _ _ (by omega)]
theorem opened_l2_p {N : Nat} (hN : 110 ≤ N) (h : Fine W s L F R) {i : Nat} (hi : i < L.length) {u : List (List Int)} {u2 u3 : Int} {o1 o5 : List Int} {o2 : Int} {o3 o4 : List (List Int)} :
    ∀ (n k : Nat), F.length < n + k → k ≤ F.length →
      opened_l2 N n i (L.getD i []) u u2 u3 F F.length k W s L F R o1 o2 o3 o4 o5 (tabA (gK (agF W L F) i k)) (tabA (gK (slF W L F) i k)) = some (u, u2, u3, W, s, L, F, R, o1, o2, o3, o4, o5, tabA (gK (agF W L F) (i + 1) 0), tabA (gK (slF W L F) (i + 1) 0))
  | 0, k, hn, hk => by omega
  | n + 1, k, hn, hk => by
    unfold opened_l2
    have hl6 := h.l6; have hf6 := h.f6; have hw5 := h.w5
    by_cases c : k < F.length
    · have ih := opened_l2_p hN h hi (u := u) (u2 := u2) (u3 := u3) (o1 := o1) (o5 := o5) (o2 := o2) (o3 := o3) (o4 := o4) n (k + 1) (by omega) (by omega)
      rw [nat_succ] at ih
      have e := opened_l3_p (N := N) h (i := i) (k := k) (by omega) (by omega) (h.lw _ (getD_mem (d := []) hi)) (h.fw _ (getD_mem (d := []) c)) (u := u) (u4 := F) (u2 := u2) (u3 := u3) (u5 := F.length) (u6 := k) (o1 := o1) (o5 := o5) (o2 := o2) (o3 := o3) (o4 := o4)
        N 0 (gK (agF W L F) i k) (gK (slF W L F) i k) (by omega) (by omega) (gK_self _ (by omega)) (gK_self _ (by omega))
      have a1 : agP W (L.getD i []) (F.getD k []) W.length = agF W L F i k := (if_pos ⟨hi, c⟩).symm
      have a2 : slP (L.getD i []) (F.getD k []) W.length = slF W L F i k := (if_pos ⟨hi, c⟩).symm
      rw [a1, a2, gK_step _ (by omega), gK_step _ (by omega), show ((0 : Nat) : Int) = 0 from rfl] at e
      rw [br_dec (by omega), idx_eq (by omega) (gets c []), e]
      simp only [Option.bind_some]
      rw [chk_eq (by omega)]
      exact ih
    · obtain rfl : k = F.length := by omega
      rw [br_ndec (by omega), gK_row (A := agF W L F) (i := i) (m := F.length) (fun k hk => by unfold agF; exact if_neg (by omega)), gK_row (A := slF W L F) (i := i) (m := F.length) (fun k hk => by unfold slF; exact if_neg (by omega))]
theorem opened_l1_p {N : Nat} (hN : 110 ≤ N) (h : Fine W s L F R) {o1 o5 : List Int} {o2 : Int} {o3 o4 : List (List Int)} :
    ∀ (n i : Nat), L.length < n + i → i ≤ L.length →
      opened_l1 N n L L.length i W s L F R o1 o2 o3 o4 o5 (tabA (gK (agF W L F) i 0)) (tabA (gK (slF W L F) i 0)) = some (o1, o2, o3, o4, o5, tabA (fun x => agF W L F (x / 6) (x % 6)), tabA (fun x => slF W L F (x / 6) (x % 6)))
  | 0, i, hn, hi => by omega
  | n + 1, i, hn, hi => by
    unfold opened_l1
    have hl6 := h.l6; have hf6 := h.f6
    by_cases c : i < L.length
    · have ih := opened_l1_p hN h (o1 := o1) (o5 := o5) (o2 := o2) (o3 := o3) (o4 := o4) n (i + 1) (by omega) (by omega)
      rw [nat_succ] at ih
      have e := opened_l2_p hN h c (u := L) (u2 := L.length) (u3 := i) (o1 := o1) (o5 := o5) (o2 := o2) (o3 := o3) (o4 := o4) N 0 (by omega) (by omega)
      rw [show ((0 : Nat) : Int) = 0 from rfl] at e
      rw [br_dec (by omega), idx_eq (by omega) (gets c []), e]
      simp only [Option.bind_some]
      rw [chk_eq (by omega)]
      exact ih
    · obtain rfl : i = L.length := by omega
      rw [br_ndec (by omega), gK_all (A := agF W L F) (fun i k hi => by unfold agF; exact if_neg (by omega)), gK_all (A := slF W L F) (fun i k hi => by unfold slF; exact if_neg (by omega))]
theorem opened_v {N : Nat} (hN : 110 ≤ N) (h : Sm W L F R) : opened_S N W s L F R = some (if errD W s L F R = 0 then .inl (dkO W s L F R, 0) else .inr (errD W s L F R)) := by
  unfold opened_S
  rw [check_v hN h]
  simp only [Option.bind_some]
  by_cases c : errD W s L F R = 0
  · have hF := errD_iff.1 c
    have e := opened_l1_p hN hF (o1 := W) (o2 := s) (o3 := L) (o4 := F) (o5 := R) N 0 (by have := hF.l6; omega) (by omega)
    have z : ∀ A : Nat → Nat → Int, tabA (gK A 0 0) = List.replicate 36 (0 : Int) := fun A => by
      rw [show gK A 0 0 = fun _ => 0 by funext x; exact if_neg (by omega)]; rfl
    rw [z, z, show ((0 : Nat) : Int) = 0 from rfl] at e
    rw [br_nd c, if_pos c, e]; rfl
  · rw [br_nnd c, if_neg c]
end
end Go.Proofs.Ythncjilcflilcaa

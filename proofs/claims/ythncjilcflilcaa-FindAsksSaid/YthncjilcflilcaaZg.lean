/-
  Parts of a proof, put together: F3, F4, FCo, F6, FW1.
  Conditions: none.
-/
import Derived.Test.YthncjilcflilcaaZe
import Derived.Test.YthncjilcflilcaaZf
namespace Go.Proofs.Ythncjilcflilcaa
set_option linter.all false
open Go

def copyi_S (N : Nat) (l : Li) : Option Li :=
  grd (lmI (l.length : Int)) <|
  some (l.take (min l.length (List.replicate (l.length : Int).toNat (0 : Int)).length) ++ (List.replicate (l.length : Int).toNat (0 : Int)).drop (min l.length (List.replicate (l.length : Int).toNat (0 : Int)).length))
noncomputable def copyi_sp (N : Nat) : List Spec := []
theorem copyi_all (N : Nat) : AllP (SpecOK Try.prog) (copyi_sp N) := trivial
noncomputable def copyi_c : Code := (Try.f23.body).getD .skip
noncomputable abbrev copyi_B : Body := { c := copyi_c, n := 11, res := [.tmp 2], outs := [⟨[shL], []⟩], m0 := 0 }
abbrev copyi_rt : altD copyi_B.outs → Option Li := fun r => some r.1.1
abbrev copyi_st : Sta := ⟨[0], ⟨[shL], []⟩⟩
theorem copyi_eq (N : Nat) (l : Li) : ev (Z := Li) Try.prog (copyi_sp N) copyi_B [] [] (some copyi_rt) 400 false [.c [0], .c [1]] (stL copyi_st ((l, ()), ())) (stH copyi_st ((l, ()), ())) = copyi_S N l := by kernel_rfl
noncomputable def sp_copyi (N : Nat) : Spec := { f := 23, ins := ⟨[shL], []⟩, outs := [⟨[shL], []⟩], run := fun p k => (copyi_S N p.1.1).bind fun r => k ((r, ()), ()) }
theorem sp_copyi_ok (N : Nat) : SpecOK Try.prog (sp_copyi N) := fn_sound (B := copyi_B) (loops := []) (leaves := []) (fun p => copyi_S N p.1.1) (fun r => ((r, ()), ())) copyi_rt (fun _ _ _ => rfl) (fun r z h => by cases h; rfl) Try.func23 (by kernel_rfl) (by kernel_rfl) (by kernel_rfl) rfl rfl (by kernel_rfl) (fun args w => Sem.pv_run _ _ _ (by kernel_rfl) w) (copyi_all N) mixed trivial (fun z E Xc hE hX hret => trivial) (fun p => copyi_eq N p.1.1)

def copyr_l1 (N : Nat) : Nat → Ll → Int → Int → Ll → Option Ll
  | 0, _, _, _, _ => none
  | n_ + 1, u, u2, u3, out =>
    br (decide (u3 < u2))
      (idx u u3 fun x_1 =>
      (copyi_S N x_1).bind fun x_2 =>
      rng u3 out.length <|
      get out u3.toNat fun _ =>
      chk (u3 + 1) <|
      copyr_l1 N n_ u u2 (u3 + 1) (out.set u3.toNat x_2))
      (some (out))
def copyr_S (N : Nat) (l : Ll) : Option Ll :=
  grd (lmI (l.length : Int)) <|
  (copyr_l1 N N l (l.length : Int) 0 (List.replicate (l.length : Int).toNat ([] : Li))).bind fun out_4 =>
  some out_4
noncomputable def copyr_sp (N : Nat) : List Spec := [sp_copyi N]
theorem copyr_all (N : Nat) : AllP (SpecOK Try.prog) (copyr_sp N) := ⟨sp_copyi_ok N, trivial⟩
noncomputable def copyr_c : Code := (Try.f80.body).getD .skip
noncomputable abbrev copyr_B : Body := { c := copyr_c, n := 23, res := [.tmp 2], outs := [⟨[shQ], []⟩], m0 := 0 }
abbrev copyr_rt : altD copyr_B.outs → Option Ll := fun r => some r.1.1
abbrev copyr_l1_at : List PI := [.c [1, 1, 0, 1, 0, 0, 0], .c [1, 1, 0, 1, 0, 0, 1], .l [1, 1, 0, 1, 0, 0], .b 0, .c [1, 1, 1]]
abbrev copyr_l1_st : Sta := ⟨[3, 9, 10, 11], ⟨[.ols 0, shQ, shI, shI], [.lst (.sl (.int .i64))]⟩⟩
abbrev copyr_l1_h (rec : Ll → Int → Int → Ll → Option Ll) : Leaf Ll := ⟨copyr_l1_at, copyr_l1_st, fun p => rec p.1.2.1 p.1.2.2.1 p.1.2.2.2.1 p.2.1⟩
abbrev copyr_l1_e0 : Leaf Ll := ⟨[.c [1, 1, 1, 0], .c [1, 1, 1, 1]], ⟨[3], ⟨[.ols 0], [.lst (.sl (.int .i64))]⟩⟩, fun p => some (p.2.1)⟩
noncomputable def copyr_l1_L (N : Nat) : LoopS := { at_ := copyr_l1_at, sta := copyr_l1_st, exits := [([.c [1, 1, 1, 0], .c [1, 1, 1, 1]], ⟨[3], ⟨[.ols 0], [.lst (.sl (.int .i64))]⟩⟩)], run := fun p k => (copyr_l1 N N p.1.2.1 p.1.2.2.1 p.1.2.2.2.1 p.2.1).bind fun e => k (.inl (((), ()), (e, ()))) }
theorem copyr_l1_eq (N n_ : Nat) (u : Ll) (u2 : Int) (u3 : Int) (out : Ll) : ev (Z := Ll) Try.prog (copyr_sp N) copyr_B [] [copyr_l1_h (copyr_l1 N n_), copyr_l1_e0] none 400 true copyr_l1_at (stL copyr_l1_st (((), u, u2, u3, ()), (out, ()))) (stH copyr_l1_st (((), u, u2, u3, ()), (out, ()))) = copyr_l1 N (n_ + 1) u u2 u3 out := by kernel_rfl
theorem copyr_l1_ok (N : Nat) {top : Bool} : LoopOK Try.prog copyr_B.c copyr_B.n copyr_B.m0 top (copyr_l1_L N) := loop_of_ev (Z := Ll) (N := N) (fun m p => copyr_l1 N m p.1.2.1 p.1.2.2.1 p.1.2.2.2.1 p.2.1) (fun e => .inl (((), ()), (e, ()))) (fun _ _ _ => rfl) (fun _ => rfl) (fun m z E Xc hE hX hrec hx => leaf_of_ev (B := copyr_B) (loops := []) (leaves := [copyr_l1_h (copyr_l1 N m), copyr_l1_e0]) (copyr_all N) mixed trivial hE hX ⟨hrec, (fun p hp => by obtain rfl := Option.some.inj hp; exact hx), trivial⟩ RetOK.no (fun p => copyr_l1_eq N m p.1.2.1 p.1.2.2.1 p.1.2.2.2.1 p.2.1))
abbrev copyr_st : Sta := ⟨[0], ⟨[shQ], []⟩⟩
theorem copyr_eq (N : Nat) (l : Ll) : ev (Z := Ll) Try.prog (copyr_sp N) copyr_B [copyr_l1_L N] [] (some copyr_rt) 400 false [.c [0], .c [1]] (stL copyr_st ((l, ()), ())) (stH copyr_st ((l, ()), ())) = copyr_S N l := by kernel_rfl
noncomputable def sp_copyr (N : Nat) : Spec := { f := 80, ins := ⟨[shQ], []⟩, outs := [⟨[shQ], []⟩], run := fun p k => (copyr_S N p.1.1).bind fun r => k ((r, ()), ()) }
theorem sp_copyr_ok (N : Nat) : SpecOK Try.prog (sp_copyr N) := fn_sound (B := copyr_B) (loops := [copyr_l1_L N]) (leaves := []) (fun p => copyr_S N p.1.1) (fun r => ((r, ()), ())) copyr_rt (fun _ _ _ => rfl) (fun r z h => by cases h; rfl) Try.func80 (by kernel_rfl) (by kernel_rfl) (by kernel_rfl) rfl rfl (by kernel_rfl) (fun args w => Sem.pv_run _ _ _ (by kernel_rfl) w) (copyr_all N) mixed ⟨copyr_l1_ok N, trivial⟩ (fun z E Xc hE hX hret => trivial) (fun p => copyr_eq N p.1.1)

def copyd_S (N : Nat) (d : Li) (d2 : Int) (d3 : Ll) (d4 : Ll) (d5 : Li) : Option (Li × Int × Ll × Ll × Li) :=
  (copyi_S N d).bind fun x_1 =>
  (copyr_S N d3).bind fun x_2 =>
  (copyr_S N d4).bind fun x_3 =>
  (copyi_S N d5).bind fun x_4 =>
  some (x_1, d2, x_2, x_3, x_4)
noncomputable def copyd_sp (N : Nat) : List Spec := [sp_copyi N, sp_copyr N]
theorem copyd_all (N : Nat) : AllP (SpecOK Try.prog) (copyd_sp N) := ⟨sp_copyi_ok N, sp_copyr_ok N, trivial⟩
noncomputable def copyd_c : Code := (Try.f27.body).getD .skip
noncomputable abbrev copyd_B : Body := { c := copyd_c, n := 18, res := [.cell 2 26], outs := [⟨[shG], []⟩], m0 := 0 }
abbrev copyd_rt : altD copyd_B.outs → Option (Li × Int × Ll × Ll × Li) := fun r => some (r.1.1.1, r.1.1.2.1, r.1.1.2.2.1, r.1.1.2.2.2.1, r.1.1.2.2.2.2.1)
abbrev copyd_st : Sta := ⟨[0], ⟨[shG], []⟩⟩
theorem copyd_eq (N : Nat) (d : Li) (d2 : Int) (d3 : Ll) (d4 : Ll) (d5 : Li) : ev (Z := Li × Int × Ll × Ll × Li) Try.prog (copyd_sp N) copyd_B [] [] (some copyd_rt) 400 false [.c [0], .c [1]] (stL copyd_st (((d, d2, d3, d4, d5, ()), ()), ())) (stH copyd_st (((d, d2, d3, d4, d5, ()), ()), ())) = copyd_S N d d2 d3 d4 d5 := by kernel_rfl
noncomputable def sp_copyd (N : Nat) : Spec := { f := 27, ins := ⟨[shG], []⟩, outs := [⟨[shG], []⟩], run := fun p k => (copyd_S N p.1.1.1 p.1.1.2.1 p.1.1.2.2.1 p.1.1.2.2.2.1 p.1.1.2.2.2.2.1).bind fun r => k (((r.1, r.2.1, r.2.2.1, r.2.2.2.1, r.2.2.2.2, ()), ()), ()) }
theorem sp_copyd_ok (N : Nat) : SpecOK Try.prog (sp_copyd N) := fn_sound (B := copyd_B) (loops := []) (leaves := []) (fun p => copyd_S N p.1.1.1 p.1.1.2.1 p.1.1.2.2.1 p.1.1.2.2.2.1 p.1.1.2.2.2.2.1) (fun r => (((r.1, r.2.1, r.2.2.1, r.2.2.2.1, r.2.2.2.2, ()), ()), ())) copyd_rt (fun _ _ _ => rfl) (fun r z h => by cases h; rfl) Try.func27 (by kernel_rfl) (by kernel_rfl) (by kernel_rfl) rfl rfl (by kernel_rfl) (fun args w => Sem.pv_run _ _ _ (by kernel_rfl) w) (copyd_all N) mixed trivial (fun z E Xc hE hX hret => trivial) (fun p => copyd_eq N p.1.1.1 p.1.1.2.1 p.1.1.2.2.1 p.1.1.2.2.2.1 p.1.1.2.2.2.2.1)

def equalf_l1 (N : Nat) : Nat → Ll → Ll → Int → Int → Option ((Unit) ⊕ (Unit))
  | 0, _, _, _, _ => none
  | n_ + 1, s2, u, u2, u3 =>
    br (decide (u3 < u2))
      (idx u u3 fun x_1 =>
      idx s2 u3 fun x_2 =>
      (equali_S N x_1 x_2).bind fun x_3 =>
      br (!x_3)
        (some (.inl ()))
        (chk (u3 + 1) <|
        equalf_l1 N n_ s2 u u2 (u3 + 1)))
      (some (.inr ()))
def equalf_S (N : Nat) (s1 : Ll) (s2 : Ll) : Option Bool :=
  br (!decide ((s1.length : Int) = (s2.length : Int)))
    (some false)
    ((equalf_l1 N N s2 s1 (s1.length : Int) 0).bind fun e => match e with
    | .inl _ =>
      some false
    | .inr _ =>
      some true)
noncomputable def equalf_sp (N : Nat) : List Spec := [sp_equali N]
theorem equalf_all (N : Nat) : AllP (SpecOK Try.prog) (equalf_sp N) := ⟨sp_equali_ok N, trivial⟩
noncomputable def equalf_c : Code := (Try.f119.body).getD .skip
noncomputable abbrev equalf_B : Body := { c := equalf_c, n := 32, res := [.tmp 6], outs := [⟨[.b], []⟩], m0 := 0 }
abbrev equalf_rt : altD equalf_B.outs → Option Bool := fun r => some r.1.1
abbrev equalf_l1_at : List PI := [.c [1, 1, 0, 1, 0, 0, 0], .c [1, 1, 0, 1, 0, 0, 1], .l [1, 1, 0, 1, 0, 0], .b 0, .c [1, 1, 1]]
abbrev equalf_l1_st : Sta := ⟨[1, 2, 15, 16, 17], ⟨[shQ, .fn 97 [] [], shQ, shI, shI], []⟩⟩
abbrev equalf_l1_h (rec : Ll → Ll → Int → Int → Option ((Unit) ⊕ (Unit))) : Leaf ((Unit) ⊕ (Unit)) := ⟨equalf_l1_at, equalf_l1_st, fun p => rec p.1.1 p.1.2.2.1 p.1.2.2.2.1 p.1.2.2.2.2.1⟩
abbrev equalf_l1_e0 : Leaf ((Unit) ⊕ (Unit)) := ⟨[.c [1, 1, 0, 1, 0, 0, 1, 1, 0, 0, 1, 1, 1, 0, 0], .c [1, 1, 0, 1, 0, 0, 1, 1, 0, 0, 1, 1, 1, 0, 1], .b 1, .c [1, 1, 0, 1, 0, 0, 1, 1, 1], .l [1, 1, 0, 1, 0, 0], .b 0, .c [1, 1, 1]], ⟨[], ⟨[], []⟩⟩, fun p => some (.inl ())⟩
abbrev equalf_l1_e1 : Leaf ((Unit) ⊕ (Unit)) := ⟨[.c [1, 1, 1, 0], .c [1, 1, 1, 1]], ⟨[], ⟨[], []⟩⟩, fun p => some (.inr ())⟩
noncomputable def equalf_l1_L (N : Nat) : LoopS := { at_ := equalf_l1_at, sta := equalf_l1_st, exits := [([.c [1, 1, 0, 1, 0, 0, 1, 1, 0, 0, 1, 1, 1, 0, 0], .c [1, 1, 0, 1, 0, 0, 1, 1, 0, 0, 1, 1, 1, 0, 1], .b 1, .c [1, 1, 0, 1, 0, 0, 1, 1, 1], .l [1, 1, 0, 1, 0, 0], .b 0, .c [1, 1, 1]], ⟨[], ⟨[], []⟩⟩), ([.c [1, 1, 1, 0], .c [1, 1, 1, 1]], ⟨[], ⟨[], []⟩⟩)], run := fun p k => (equalf_l1 N N p.1.1 p.1.2.2.1 p.1.2.2.2.1 p.1.2.2.2.2.1).bind fun e => match e with | .inl x => k (.inl ((), ())) | .inr x => k (.inr (.inl ((), ()))) }
theorem equalf_l1_eq (N n_ : Nat) (s2 : Ll) (u : Ll) (u2 : Int) (u3 : Int) : ev (Z := (Unit) ⊕ (Unit)) Try.prog (equalf_sp N) equalf_B [] [equalf_l1_h (equalf_l1 N n_), equalf_l1_e0, equalf_l1_e1] none 400 true equalf_l1_at (stL equalf_l1_st ((s2, ((), ()), u, u2, u3, ()), ())) (stH equalf_l1_st ((s2, ((), ()), u, u2, u3, ()), ())) = equalf_l1 N (n_ + 1) s2 u u2 u3 := by kernel_rfl
theorem equalf_l1_ok (N : Nat) {top : Bool} : LoopOK Try.prog equalf_B.c equalf_B.n equalf_B.m0 top (equalf_l1_L N) := loop_of_ev (Z := (Unit) ⊕ (Unit)) (N := N) (fun m p => equalf_l1 N m p.1.1 p.1.2.2.1 p.1.2.2.2.1 p.1.2.2.2.2.1) (fun e => match e with | .inl x => .inl ((), ()) | .inr x => .inr (.inl ((), ()))) (fun _ p k => bind_congr_ (equalf_l1 N N p.1.1 p.1.2.2.1 p.1.2.2.2.1 p.1.2.2.2.2.1) _ _ (fun e => by rcases e with x | x <;> rfl)) (fun _ => rfl) (fun m z E Xc hE hX hrec hx => leaf_of_ev (B := equalf_B) (loops := []) (leaves := [equalf_l1_h (equalf_l1 N m), equalf_l1_e0, equalf_l1_e1]) (equalf_all N) mixed trivial hE hX ⟨hrec, (fun p hp => by obtain rfl := Option.some.inj hp; exact hx), (fun p hp => by obtain rfl := Option.some.inj hp; exact hx), trivial⟩ RetOK.no (fun p => equalf_l1_eq N m p.1.1 p.1.2.2.1 p.1.2.2.2.1 p.1.2.2.2.2.1))
abbrev equalf_st : Sta := ⟨[0, 1, 2], ⟨[shQ, shQ, .fn 97 [] []], []⟩⟩
theorem equalf_eq (N : Nat) (s1 : Ll) (s2 : Ll) : ev (Z := Bool) Try.prog (equalf_sp N) equalf_B [equalf_l1_L N] [] (some equalf_rt) 400 false [.c [0], .c [1]] (stL equalf_st ((s1, s2, ((), ()), ()), ())) (stH equalf_st ((s1, s2, ((), ()), ()), ())) = equalf_S N s1 s2 := by kernel_rfl
noncomputable def sp_equalf (N : Nat) : Spec := { f := 119, ins := ⟨[shQ, shQ, .fn 97 [] []], []⟩, outs := [⟨[.b], []⟩], run := fun p k => (equalf_S N p.1.1 p.1.2.1).bind fun r => k ((r, ()), ()) }
theorem sp_equalf_ok (N : Nat) : SpecOK Try.prog (sp_equalf N) := fn_sound (B := equalf_B) (loops := [equalf_l1_L N]) (leaves := []) (fun p => equalf_S N p.1.1 p.1.2.1) (fun r => ((r, ()), ())) equalf_rt (fun _ _ _ => rfl) (fun r z h => by cases h; rfl) Try.func119 (by kernel_rfl) (by kernel_rfl) (by kernel_rfl) rfl rfl (by kernel_rfl) (fun args w => Sem.pv_run _ _ _ (by kernel_rfl) w) (equalf_all N) mixed ⟨equalf_l1_ok N, trivial⟩ (fun z E Xc hE hX hret => trivial) (fun p => equalf_eq N p.1.1 p.1.2.1)

def liker_S (N : Nat) (a : Ll) (b : Ll) : Option Bool :=
  (equalf_S N a b).bind fun x_1 =>
  some x_1
noncomputable def liker_sp (N : Nat) : List Spec := [sp_equalf N]
theorem liker_all (N : Nat) : AllP (SpecOK Try.prog) (liker_sp N) := ⟨sp_equalf_ok N, trivial⟩
noncomputable def liker_c : Code := (Try.f82.body).getD .skip
noncomputable abbrev liker_B : Body := { c := liker_c, n := 8, res := [.tmp 4], outs := [⟨[.b], []⟩], m0 := 0 }
abbrev liker_rt : altD liker_B.outs → Option Bool := fun r => some r.1.1
abbrev liker_st : Sta := ⟨[0, 1], ⟨[shQ, shQ], []⟩⟩
theorem liker_eq (N : Nat) (a : Ll) (b : Ll) : ev (Z := Bool) Try.prog (liker_sp N) liker_B [] [] (some liker_rt) 400 false [.c [0], .c [1]] (stL liker_st ((a, b, ()), ())) (stH liker_st ((a, b, ()), ())) = liker_S N a b := by kernel_rfl
noncomputable def sp_liker (N : Nat) : Spec := { f := 82, ins := ⟨[shQ, shQ], []⟩, outs := [⟨[.b], []⟩], run := fun p k => (liker_S N p.1.1 p.1.2.1).bind fun r => k ((r, ()), ()) }
theorem sp_liker_ok (N : Nat) : SpecOK Try.prog (sp_liker N) := fn_sound (B := liker_B) (loops := []) (leaves := []) (fun p => liker_S N p.1.1 p.1.2.1) (fun r => ((r, ()), ())) liker_rt (fun _ _ _ => rfl) (fun r z h => by cases h; rfl) Try.func82 (by kernel_rfl) (by kernel_rfl) (by kernel_rfl) rfl rfl (by kernel_rfl) (fun args w => Sem.pv_run _ _ _ (by kernel_rfl) w) (liker_all N) mixed trivial (fun z E Xc hE hX hret => trivial) (fun p => liker_eq N p.1.1 p.1.2.1)

def same_S (N : Nat) (a : Li) (a2 : Int) (a3 : Ll) (a4 : Ll) (a5 : Li) (b : Li) (b2 : Int) (b3 : Ll) (b4 : Ll) (b5 : Li) : Option Bool :=
  (likei_S N a b).bind fun x_1 =>
  br x_1
    (br (decide (a2 = b2))
      ((liker_S N a3 b3).bind fun x_2 =>
      br x_2
        ((liker_S N a4 b4).bind fun x_3 =>
        br x_3
          ((likei_S N a5 b5).bind fun x_4 =>
          some x_4)
          (some false))
        (some false))
      (some false))
    (some false)
noncomputable def same_sp (N : Nat) : List Spec := [sp_likei N, sp_liker N]
theorem same_all (N : Nat) : AllP (SpecOK Try.prog) (same_sp N) := ⟨sp_likei_ok N, sp_liker_ok N, trivial⟩
noncomputable def same_c : Code := (Try.f30.body).getD .skip
noncomputable abbrev same_B : Body := { c := same_c, n := 38, res := [.tmp 4], outs := [⟨[.b], []⟩], m0 := 0 }
abbrev same_rt : altD same_B.outs → Option Bool := fun r => some r.1.1
abbrev same_st : Sta := ⟨[0, 1], ⟨[shG, shG], []⟩⟩
theorem same_eq (N : Nat) (a : Li) (a2 : Int) (a3 : Ll) (a4 : Ll) (a5 : Li) (b : Li) (b2 : Int) (b3 : Ll) (b4 : Ll) (b5 : Li) : ev (Z := Bool) Try.prog (same_sp N) same_B [] [] (some same_rt) 400 false [.c [0], .c [1]] (stL same_st (((a, a2, a3, a4, a5, ()), (b, b2, b3, b4, b5, ()), ()), ())) (stH same_st (((a, a2, a3, a4, a5, ()), (b, b2, b3, b4, b5, ()), ()), ())) = same_S N a a2 a3 a4 a5 b b2 b3 b4 b5 := by kernel_rfl
noncomputable def sp_same (N : Nat) : Spec := { f := 30, ins := ⟨[shG, shG], []⟩, outs := [⟨[.b], []⟩], run := fun p k => (same_S N p.1.1.1 p.1.1.2.1 p.1.1.2.2.1 p.1.1.2.2.2.1 p.1.1.2.2.2.2.1 p.1.2.1.1 p.1.2.1.2.1 p.1.2.1.2.2.1 p.1.2.1.2.2.2.1 p.1.2.1.2.2.2.2.1).bind fun r => k ((r, ()), ()) }
theorem sp_same_ok (N : Nat) : SpecOK Try.prog (sp_same N) := fn_sound (B := same_B) (loops := []) (leaves := []) (fun p => same_S N p.1.1.1 p.1.1.2.1 p.1.1.2.2.1 p.1.1.2.2.2.1 p.1.1.2.2.2.2.1 p.1.2.1.1 p.1.2.1.2.1 p.1.2.1.2.2.1 p.1.2.1.2.2.2.1 p.1.2.1.2.2.2.2.1) (fun r => ((r, ()), ())) same_rt (fun _ _ _ => rfl) (fun r z h => by cases h; rfl) Try.func30 (by kernel_rfl) (by kernel_rfl) (by kernel_rfl) rfl rfl (by kernel_rfl) (fun args w => Sem.pv_run _ _ _ (by kernel_rfl) w) (same_all N) mixed trivial (fun z E Xc hE hX hret => trivial) (fun p => same_eq N p.1.1.1 p.1.1.2.1 p.1.1.2.2.1 p.1.1.2.2.2.1 p.1.1.2.2.2.2.1 p.1.2.1.1 p.1.2.1.2.1 p.1.2.1.2.2.1 p.1.2.1.2.2.2.1 p.1.2.1.2.2.2.2.1)

def great_l2 (N : Nat) : Nat → Int → Int → Ll → Int → Int → (List Ll) → Option ((Unit) ⊕ (Int × Int × List Ll))
  | 0, _, _, _, _, _, _ => none
  | n_ + 1, u, u2, u3, u4, u5, g =>
    br (decide (u5 < u4))
      (idx u3 u5 fun x_2 =>
      br (decide (12 < (x_2.length : Int)))
        (some (.inl ()))
        (chk (u5 + 1) <|
        great_l2 N n_ u u2 u3 u4 (u5 + 1) g))
      (some (.inr (u, u2, g)))
def great_l1 (N : Nat) : Nat → Int → Int → (List Ll) → Option ((Unit) ⊕ (Unit))
  | 0, _, _, _ => none
  | n_ + 1, u, u2, g =>
    br (decide (u2 < u))
      (rng u2 g.length <|
      get g u2.toNat fun x_1 =>
      (great_l2 N N u u2 x_1 (x_1.length : Int) 0 g).bind fun e => match e with
      | .inl _ =>
        some (.inl ())
      | .inr (u_3, u2_4, g_5) =>
        chk (u2_4 + 1) <|
        great_l1 N n_ u_3 (u2_4 + 1) g_5)
      (some (.inr ()))
def great_S (N : Nat) (d : Li) (d2 : Int) (d3 : Ll) (d4 : Ll) (d5 : Li) : Option Bool :=
  br (decide (10 < (d.length : Int)))
    (some true)
    (br (decide (10 < (d3.length : Int)))
      (some true)
      (br (decide (10 < (d4.length : Int)))
        (some true)
        (br (decide (12 < (d5.length : Int)))
          (some true)
          ((great_l1 N N ([d3, d4].length : Int) 0 [d3, d4]).bind fun e => match e with
          | .inl _ =>
            some true
          | .inr _ =>
            some false))))
noncomputable def great_sp (N : Nat) : List Spec := []
theorem great_all (N : Nat) : AllP (SpecOK Try.prog) (great_sp N) := trivial
noncomputable def great_c : Code := (Try.f25.body).getD .skip
noncomputable abbrev great_B : Body := { c := great_c, n := 50, res := [.tmp 2], outs := [⟨[.b], []⟩], m0 := 0 }
abbrev great_rt : altD great_B.outs → Option Bool := fun r => some r.1.1
abbrev great_l2_at : List PI := [.c [1, 1, 0, 1, 0, 0, 1, 1, 0, 0, 1, 1, 0, 0, 0], .c [1, 1, 0, 1, 0, 0, 1, 1, 0, 0, 1, 1, 0, 0, 1], .l [1, 1, 0, 1, 0, 0, 1, 1, 0, 0, 1, 1, 0, 0], .b 2, .b 1, .c [1, 1, 0, 1, 0, 0, 1, 1, 1], .l [1, 1, 0, 1, 0, 0], .b 0, .c [1, 1, 1]]
abbrev great_l2_st : Sta := ⟨[33, 34, 35, 39, 40, 41], ⟨[.ols 0, shI, shI, shQ, shI, shI], [.lst (.sl (.sl (.int .i64)))]⟩⟩
abbrev great_l2_h (rec : Int → Int → Ll → Int → Int → (List Ll) → Option ((Unit) ⊕ (Int × Int × List Ll))) : Leaf ((Unit) ⊕ (Int × Int × List Ll)) := ⟨great_l2_at, great_l2_st, fun p => rec p.1.2.1 p.1.2.2.1 p.1.2.2.2.1 p.1.2.2.2.2.1 p.1.2.2.2.2.2.1 p.2.1⟩
abbrev great_l2_e0 : Leaf ((Unit) ⊕ (Int × Int × List Ll)) := ⟨[.c [1, 1, 0, 1, 0, 0, 1, 1, 0, 0, 1, 1, 0, 0, 1, 1, 0, 0, 1, 1, 0, 0], .c [1, 1, 0, 1, 0, 0, 1, 1, 0, 0, 1, 1, 0, 0, 1, 1, 0, 0, 1, 1, 0, 1], .b 3, .c [1, 1, 0, 1, 0, 0, 1, 1, 0, 0, 1, 1, 0, 0, 1, 1, 1], .l [1, 1, 0, 1, 0, 0, 1, 1, 0, 0, 1, 1, 0, 0], .b 2, .b 1, .c [1, 1, 0, 1, 0, 0, 1, 1, 1], .l [1, 1, 0, 1, 0, 0], .b 0, .c [1, 1, 1]], ⟨[], ⟨[], []⟩⟩, fun p => some (.inl ())⟩
abbrev great_l2_e1 : Leaf ((Unit) ⊕ (Int × Int × List Ll)) := ⟨[.c [1, 1, 0, 1, 0, 0, 1, 1, 1], .l [1, 1, 0, 1, 0, 0], .b 0, .c [1, 1, 1]], ⟨[33, 34, 35], ⟨[.ols 0, shI, shI], [.lst (.sl (.sl (.int .i64)))]⟩⟩, fun p => some (.inr (p.1.2.1, p.1.2.2.1, p.2.1))⟩
noncomputable def great_l2_L (N : Nat) : LoopS := { at_ := great_l2_at, sta := great_l2_st, exits := [([.c [1, 1, 0, 1, 0, 0, 1, 1, 0, 0, 1, 1, 0, 0, 1, 1, 0, 0, 1, 1, 0, 0], .c [1, 1, 0, 1, 0, 0, 1, 1, 0, 0, 1, 1, 0, 0, 1, 1, 0, 0, 1, 1, 0, 1], .b 3, .c [1, 1, 0, 1, 0, 0, 1, 1, 0, 0, 1, 1, 0, 0, 1, 1, 1], .l [1, 1, 0, 1, 0, 0, 1, 1, 0, 0, 1, 1, 0, 0], .b 2, .b 1, .c [1, 1, 0, 1, 0, 0, 1, 1, 1], .l [1, 1, 0, 1, 0, 0], .b 0, .c [1, 1, 1]], ⟨[], ⟨[], []⟩⟩), ([.c [1, 1, 0, 1, 0, 0, 1, 1, 1], .l [1, 1, 0, 1, 0, 0], .b 0, .c [1, 1, 1]], ⟨[33, 34, 35], ⟨[.ols 0, shI, shI], [.lst (.sl (.sl (.int .i64)))]⟩⟩)], run := fun p k => (great_l2 N N p.1.2.1 p.1.2.2.1 p.1.2.2.2.1 p.1.2.2.2.2.1 p.1.2.2.2.2.2.1 p.2.1).bind fun e => match e with | .inl x => k (.inl ((), ())) | .inr x => k (.inr (.inl (((), x.1, x.2.1, ()), (x.2.2, ())))) }
theorem great_l2_eq (N n_ : Nat) (u : Int) (u2 : Int) (u3 : Ll) (u4 : Int) (u5 : Int) (g : List Ll) : ev (Z := (Unit) ⊕ (Int × Int × List Ll)) Try.prog (great_sp N) great_B [] [great_l2_h (great_l2 N n_), great_l2_e0, great_l2_e1] none 400 true great_l2_at (stL great_l2_st (((), u, u2, u3, u4, u5, ()), (g, ()))) (stH great_l2_st (((), u, u2, u3, u4, u5, ()), (g, ()))) = great_l2 N (n_ + 1) u u2 u3 u4 u5 g := by kernel_rfl
theorem great_l2_ok (N : Nat) {top : Bool} : LoopOK Try.prog great_B.c great_B.n great_B.m0 top (great_l2_L N) := loop_of_ev (Z := (Unit) ⊕ (Int × Int × List Ll)) (N := N) (fun m p => great_l2 N m p.1.2.1 p.1.2.2.1 p.1.2.2.2.1 p.1.2.2.2.2.1 p.1.2.2.2.2.2.1 p.2.1) (fun e => match e with | .inl x => .inl ((), ()) | .inr x => .inr (.inl (((), x.1, x.2.1, ()), (x.2.2, ())))) (fun _ p k => bind_congr_ (great_l2 N N p.1.2.1 p.1.2.2.1 p.1.2.2.2.1 p.1.2.2.2.2.1 p.1.2.2.2.2.2.1 p.2.1) _ _ (fun e => by rcases e with x | x <;> rfl)) (fun _ => rfl) (fun m z E Xc hE hX hrec hx => leaf_of_ev (B := great_B) (loops := []) (leaves := [great_l2_h (great_l2 N m), great_l2_e0, great_l2_e1]) (great_all N) mixed trivial hE hX ⟨hrec, (fun p hp => by obtain rfl := Option.some.inj hp; exact hx), (fun p hp => by obtain rfl := Option.some.inj hp; exact hx), trivial⟩ RetOK.no (fun p => great_l2_eq N m p.1.2.1 p.1.2.2.1 p.1.2.2.2.1 p.1.2.2.2.2.1 p.1.2.2.2.2.2.1 p.2.1))
abbrev great_l1_at : List PI := [.c [1, 1, 0, 1, 0, 0, 0], .c [1, 1, 0, 1, 0, 0, 1], .l [1, 1, 0, 1, 0, 0], .b 0, .c [1, 1, 1]]
abbrev great_l1_st : Sta := ⟨[33, 34, 35], ⟨[.ols 0, shI, shI], [.lst (.sl (.sl (.int .i64)))]⟩⟩
abbrev great_l1_h (rec : Int → Int → (List Ll) → Option ((Unit) ⊕ (Unit))) : Leaf ((Unit) ⊕ (Unit)) := ⟨great_l1_at, great_l1_st, fun p => rec p.1.2.1 p.1.2.2.1 p.2.1⟩
abbrev great_l1_e0 : Leaf ((Unit) ⊕ (Unit)) := ⟨[.c [1, 1, 0, 1, 0, 0, 1, 1, 0, 0, 1, 1, 0, 0, 1, 1, 0, 0, 1, 1, 0, 0], .c [1, 1, 0, 1, 0, 0, 1, 1, 0, 0, 1, 1, 0, 0, 1, 1, 0, 0, 1, 1, 0, 1], .b 3, .c [1, 1, 0, 1, 0, 0, 1, 1, 0, 0, 1, 1, 0, 0, 1, 1, 1], .l [1, 1, 0, 1, 0, 0, 1, 1, 0, 0, 1, 1, 0, 0], .b 2, .b 1, .c [1, 1, 0, 1, 0, 0, 1, 1, 1], .l [1, 1, 0, 1, 0, 0], .b 0, .c [1, 1, 1]], ⟨[], ⟨[], []⟩⟩, fun p => some (.inl ())⟩
abbrev great_l1_e1 : Leaf ((Unit) ⊕ (Unit)) := ⟨[.c [1, 1, 1, 0], .c [1, 1, 1, 1]], ⟨[], ⟨[], []⟩⟩, fun p => some (.inr ())⟩
noncomputable def great_l1_L (N : Nat) : LoopS := { at_ := great_l1_at, sta := great_l1_st, exits := [([.c [1, 1, 0, 1, 0, 0, 1, 1, 0, 0, 1, 1, 0, 0, 1, 1, 0, 0, 1, 1, 0, 0], .c [1, 1, 0, 1, 0, 0, 1, 1, 0, 0, 1, 1, 0, 0, 1, 1, 0, 0, 1, 1, 0, 1], .b 3, .c [1, 1, 0, 1, 0, 0, 1, 1, 0, 0, 1, 1, 0, 0, 1, 1, 1], .l [1, 1, 0, 1, 0, 0, 1, 1, 0, 0, 1, 1, 0, 0], .b 2, .b 1, .c [1, 1, 0, 1, 0, 0, 1, 1, 1], .l [1, 1, 0, 1, 0, 0], .b 0, .c [1, 1, 1]], ⟨[], ⟨[], []⟩⟩), ([.c [1, 1, 1, 0], .c [1, 1, 1, 1]], ⟨[], ⟨[], []⟩⟩)], run := fun p k => (great_l1 N N p.1.2.1 p.1.2.2.1 p.2.1).bind fun e => match e with | .inl x => k (.inl ((), ())) | .inr x => k (.inr (.inl ((), ()))) }
theorem great_l1_eq (N n_ : Nat) (u : Int) (u2 : Int) (g : List Ll) : ev (Z := (Unit) ⊕ (Unit)) Try.prog (great_sp N) great_B [great_l2_L N] [great_l1_h (great_l1 N n_), great_l1_e0, great_l1_e1] none 400 true great_l1_at (stL great_l1_st (((), u, u2, ()), (g, ()))) (stH great_l1_st (((), u, u2, ()), (g, ()))) = great_l1 N (n_ + 1) u u2 g := by kernel_rfl
theorem great_l1_ok (N : Nat) {top : Bool} : LoopOK Try.prog great_B.c great_B.n great_B.m0 top (great_l1_L N) := loop_of_ev (Z := (Unit) ⊕ (Unit)) (N := N) (fun m p => great_l1 N m p.1.2.1 p.1.2.2.1 p.2.1) (fun e => match e with | .inl x => .inl ((), ()) | .inr x => .inr (.inl ((), ()))) (fun _ p k => bind_congr_ (great_l1 N N p.1.2.1 p.1.2.2.1 p.2.1) _ _ (fun e => by rcases e with x | x <;> rfl)) (fun _ => rfl) (fun m z E Xc hE hX hrec hx => leaf_of_ev (B := great_B) (loops := [great_l2_L N]) (leaves := [great_l1_h (great_l1 N m), great_l1_e0, great_l1_e1]) (great_all N) mixed ⟨great_l2_ok N, trivial⟩ hE hX ⟨hrec, (fun p hp => by obtain rfl := Option.some.inj hp; exact hx), (fun p hp => by obtain rfl := Option.some.inj hp; exact hx), trivial⟩ RetOK.no (fun p => great_l1_eq N m p.1.2.1 p.1.2.2.1 p.2.1))
abbrev great_st : Sta := ⟨[0], ⟨[shG], []⟩⟩
theorem great_eq (N : Nat) (d : Li) (d2 : Int) (d3 : Ll) (d4 : Ll) (d5 : Li) : ev (Z := Bool) Try.prog (great_sp N) great_B [great_l2_L N, great_l1_L N] [] (some great_rt) 400 false [.c [0], .c [1]] (stL great_st (((d, d2, d3, d4, d5, ()), ()), ())) (stH great_st (((d, d2, d3, d4, d5, ()), ()), ())) = great_S N d d2 d3 d4 d5 := by kernel_rfl
noncomputable def sp_great (N : Nat) : Spec := { f := 25, ins := ⟨[shG], []⟩, outs := [⟨[.b], []⟩], run := fun p k => (great_S N p.1.1.1 p.1.1.2.1 p.1.1.2.2.1 p.1.1.2.2.2.1 p.1.1.2.2.2.2.1).bind fun r => k ((r, ()), ()) }
theorem sp_great_ok (N : Nat) : SpecOK Try.prog (sp_great N) := fn_sound (B := great_B) (loops := [great_l2_L N, great_l1_L N]) (leaves := []) (fun p => great_S N p.1.1.1 p.1.1.2.1 p.1.1.2.2.1 p.1.1.2.2.2.1 p.1.1.2.2.2.2.1) (fun r => ((r, ()), ())) great_rt (fun _ _ _ => rfl) (fun r z h => by cases h; rfl) Try.func25 (by kernel_rfl) (by kernel_rfl) (by kernel_rfl) rfl rfl (by kernel_rfl) (fun args w => Sem.pv_run _ _ _ (by kernel_rfl) w) (great_all N) mixed ⟨great_l2_ok N, great_l1_ok N, trivial⟩ (fun z E Xc hE hX hret => trivial) (fun p => great_eq N p.1.1.1 p.1.1.2.1 p.1.1.2.2.1 p.1.1.2.2.2.1 p.1.1.2.2.2.2.1)

def wide_S (N : Nat) (d : Li) (d2 : Int) (d3 : Ll) (d4 : Ll) (d5 : Li) (things : Int) : Option Bool :=
  br (decide (things < (d3.length : Int)))
    (br (decide ((d3.length : Int) ≤ 6))
      (some true)
      (br (decide (things < (d4.length : Int)))
        (some (decide ((d4.length : Int) ≤ 6)))
        (some false)))
    (br (decide (things < (d4.length : Int)))
      (some (decide ((d4.length : Int) ≤ 6)))
      (some false))
noncomputable def wide_sp (N : Nat) : List Spec := []
theorem wide_all (N : Nat) : AllP (SpecOK Try.prog) (wide_sp N) := trivial
noncomputable def wide_c : Code := (Try.f26.body).getD .skip
noncomputable abbrev wide_B : Body := { c := wide_c, n := 29, res := [.tmp 4], outs := [⟨[.b], []⟩], m0 := 0 }
abbrev wide_rt : altD wide_B.outs → Option Bool := fun r => some r.1.1
abbrev wide_st : Sta := ⟨[0, 1], ⟨[shG, shI], []⟩⟩
theorem wide_eq (N : Nat) (d : Li) (d2 : Int) (d3 : Ll) (d4 : Ll) (d5 : Li) (things : Int) : ev (Z := Bool) Try.prog (wide_sp N) wide_B [] [] (some wide_rt) 400 false [.c [0], .c [1]] (stL wide_st (((d, d2, d3, d4, d5, ()), things, ()), ())) (stH wide_st (((d, d2, d3, d4, d5, ()), things, ()), ())) = wide_S N d d2 d3 d4 d5 things := by kernel_rfl
noncomputable def sp_wide (N : Nat) : Spec := { f := 26, ins := ⟨[shG, shI], []⟩, outs := [⟨[.b], []⟩], run := fun p k => (wide_S N p.1.1.1 p.1.1.2.1 p.1.1.2.2.1 p.1.1.2.2.2.1 p.1.1.2.2.2.2.1 p.1.2.1).bind fun r => k ((r, ()), ()) }
theorem sp_wide_ok (N : Nat) : SpecOK Try.prog (sp_wide N) := fn_sound (B := wide_B) (loops := []) (leaves := []) (fun p => wide_S N p.1.1.1 p.1.1.2.1 p.1.1.2.2.1 p.1.1.2.2.2.1 p.1.1.2.2.2.2.1 p.1.2.1) (fun r => ((r, ()), ())) wide_rt (fun _ _ _ => rfl) (fun r z h => by cases h; rfl) Try.func26 (by kernel_rfl) (by kernel_rfl) (by kernel_rfl) rfl rfl (by kernel_rfl) (fun args w => Sem.pv_run _ _ _ (by kernel_rfl) w) (wide_all N) mixed trivial (fun z E Xc hE hX hret => trivial) (fun p => wide_eq N p.1.1.1 p.1.1.2.1 p.1.1.2.2.1 p.1.1.2.2.2.1 p.1.1.2.2.2.2.1 p.1.2.1)

def off_S (N : Nat) (n : Int) (lo : Int) (hi : Int) : Option Bool :=
  br (decide (n < lo))
    (some true)
    (some (decide (hi < n)))
noncomputable def off_sp (N : Nat) : List Spec := []
theorem off_all (N : Nat) : AllP (SpecOK Try.prog) (off_sp N) := trivial
noncomputable def off_c : Code := (Try.f85.body).getD .skip
noncomputable abbrev off_B : Body := { c := off_c, n := 15, res := [.tmp 6], outs := [⟨[.b], []⟩], m0 := 0 }
abbrev off_rt : altD off_B.outs → Option Bool := fun r => some r.1.1
abbrev off_st : Sta := ⟨[0, 1, 2], ⟨[shI, shI, shI], []⟩⟩
theorem off_eq (N : Nat) (n : Int) (lo : Int) (hi : Int) : ev (Z := Bool) Try.prog (off_sp N) off_B [] [] (some off_rt) 400 false [.c [0], .c [1]] (stL off_st ((n, lo, hi, ()), ())) (stH off_st ((n, lo, hi, ()), ())) = off_S N n lo hi := by kernel_rfl
noncomputable def sp_off (N : Nat) : Spec := { f := 85, ins := ⟨[shI, shI, shI], []⟩, outs := [⟨[.b], []⟩], run := fun p k => (off_S N p.1.1 p.1.2.1 p.1.2.2.1).bind fun r => k ((r, ()), ()) }
theorem sp_off_ok (N : Nat) : SpecOK Try.prog (sp_off N) := fn_sound (B := off_B) (loops := []) (leaves := []) (fun p => off_S N p.1.1 p.1.2.1 p.1.2.2.1) (fun r => ((r, ()), ())) off_rt (fun _ _ _ => rfl) (fun r z h => by cases h; rfl) Try.func85 (by kernel_rfl) (by kernel_rfl) (by kernel_rfl) rfl rfl (by kernel_rfl) (fun args w => Sem.pv_run _ _ _ (by kernel_rfl) w) (off_all N) mixed trivial (fun z E Xc hE hX hret => trivial) (fun p => off_eq N p.1.1 p.1.2.1 p.1.2.2.1)

def described_l1 (N : Nat) : Nat → Ll → Int → Li → Int → Ll → Ll → Li → Option ((Unit) ⊕ (Unit))
  | 0, _, _, _, _, _, _, _ => none
  | n_ + 1, l, i, d, d2, d3, d4, d5 =>
    br (decide (i < (l.length : Int)))
      (idx l i fun x_1 =>
      br (!decide ((x_1.length : Int) = (d.length : Int)))
        (some (.inl ()))
        (chk (i + 1) <|
        described_l1 N n_ l (i + 1) d d2 d3 d4 d5))
      (some (.inr ()))
def described_S (N : Nat) (d : Li) (d2 : Int) (d3 : Ll) (d4 : Ll) (d5 : Li) (l : Ll) : Option Bool :=
  (described_l1 N N l 0 d d2 d3 d4 d5).bind fun e => match e with
  | .inl _ =>
    some false
  | .inr _ =>
    some true
noncomputable def described_sp (N : Nat) : List Spec := []
theorem described_all (N : Nat) : AllP (SpecOK Try.prog) (described_sp N) := trivial
noncomputable def described_c : Code := (Try.f100.body).getD .skip
noncomputable abbrev described_B : Body := { c := described_c, n := 21, res := [.tmp 4], outs := [⟨[.b], []⟩], m0 := 0 }
abbrev described_rt : altD described_B.outs → Option Bool := fun r => some r.1.1
abbrev described_l1_at : List PI := [.c [1, 0, 1, 0, 0, 0, 0], .c [1, 0, 1, 0, 0, 0, 1], .c [1, 0, 1, 0, 0, 1], .l [1, 0, 1, 0, 0], .b 0, .c [1, 1]]
abbrev described_l1_st : Sta := ⟨[1, 2, 5], ⟨[shQ, .own 0 0, shI], [.segs [shL, shI, shQ, shQ, shL]]⟩⟩
abbrev described_l1_h (rec : Ll → Int → Li → Int → Ll → Ll → Li → Option ((Unit) ⊕ (Unit))) : Leaf ((Unit) ⊕ (Unit)) := ⟨described_l1_at, described_l1_st, fun p => rec p.1.1 p.1.2.2.1 p.2.1.1 p.2.1.2.1 p.2.1.2.2.1 p.2.1.2.2.2.1 p.2.1.2.2.2.2.1⟩
abbrev described_l1_e0 : Leaf ((Unit) ⊕ (Unit)) := ⟨[.c [1, 0, 1, 0, 0, 1, 0, 0, 1, 0, 0], .c [1, 0, 1, 0, 0, 1, 0, 0, 1, 0, 1], .b 1, .c [1, 0, 1, 0, 0, 1, 1], .l [1, 0, 1, 0, 0], .b 0, .c [1, 1]], ⟨[], ⟨[], []⟩⟩, fun p => some (.inl ())⟩
abbrev described_l1_e1 : Leaf ((Unit) ⊕ (Unit)) := ⟨[.c [1, 1, 0], .c [1, 1, 1]], ⟨[], ⟨[], []⟩⟩, fun p => some (.inr ())⟩
noncomputable def described_l1_L (N : Nat) : LoopS := { at_ := described_l1_at, sta := described_l1_st, exits := [([.c [1, 0, 1, 0, 0, 1, 0, 0, 1, 0, 0], .c [1, 0, 1, 0, 0, 1, 0, 0, 1, 0, 1], .b 1, .c [1, 0, 1, 0, 0, 1, 1], .l [1, 0, 1, 0, 0], .b 0, .c [1, 1]], ⟨[], ⟨[], []⟩⟩), ([.c [1, 1, 0], .c [1, 1, 1]], ⟨[], ⟨[], []⟩⟩)], run := fun p k => (described_l1 N N p.1.1 p.1.2.2.1 p.2.1.1 p.2.1.2.1 p.2.1.2.2.1 p.2.1.2.2.2.1 p.2.1.2.2.2.2.1).bind fun e => match e with | .inl x => k (.inl ((), ())) | .inr x => k (.inr (.inl ((), ()))) }
theorem described_l1_eq (N n_ : Nat) (l : Ll) (i : Int) (d : Li) (d2 : Int) (d3 : Ll) (d4 : Ll) (d5 : Li) : ev (Z := (Unit) ⊕ (Unit)) Try.prog (described_sp N) described_B [] [described_l1_h (described_l1 N n_), described_l1_e0, described_l1_e1] none 400 true described_l1_at (stL described_l1_st ((l, (), i, ()), ((d, d2, d3, d4, d5, ()), ()))) (stH described_l1_st ((l, (), i, ()), ((d, d2, d3, d4, d5, ()), ()))) = described_l1 N (n_ + 1) l i d d2 d3 d4 d5 := by kernel_rfl
theorem described_l1_ok (N : Nat) {top : Bool} : LoopOK Try.prog described_B.c described_B.n described_B.m0 top (described_l1_L N) := loop_of_ev (Z := (Unit) ⊕ (Unit)) (N := N) (fun m p => described_l1 N m p.1.1 p.1.2.2.1 p.2.1.1 p.2.1.2.1 p.2.1.2.2.1 p.2.1.2.2.2.1 p.2.1.2.2.2.2.1) (fun e => match e with | .inl x => .inl ((), ()) | .inr x => .inr (.inl ((), ()))) (fun _ p k => bind_congr_ (described_l1 N N p.1.1 p.1.2.2.1 p.2.1.1 p.2.1.2.1 p.2.1.2.2.1 p.2.1.2.2.2.1 p.2.1.2.2.2.2.1) _ _ (fun e => by rcases e with x | x <;> rfl)) (fun _ => rfl) (fun m z E Xc hE hX hrec hx => leaf_of_ev (B := described_B) (loops := []) (leaves := [described_l1_h (described_l1 N m), described_l1_e0, described_l1_e1]) (described_all N) mixed trivial hE hX ⟨hrec, (fun p hp => by obtain rfl := Option.some.inj hp; exact hx), (fun p hp => by obtain rfl := Option.some.inj hp; exact hx), trivial⟩ RetOK.no (fun p => described_l1_eq N m p.1.1 p.1.2.2.1 p.2.1.1 p.2.1.2.1 p.2.1.2.2.1 p.2.1.2.2.2.1 p.2.1.2.2.2.2.1))
abbrev described_st : Sta := ⟨[0, 1], ⟨[shG, shQ], []⟩⟩
theorem described_eq (N : Nat) (d : Li) (d2 : Int) (d3 : Ll) (d4 : Ll) (d5 : Li) (l : Ll) : ev (Z := Bool) Try.prog (described_sp N) described_B [described_l1_L N] [] (some described_rt) 400 false [.c [0], .c [1]] (stL described_st (((d, d2, d3, d4, d5, ()), l, ()), ())) (stH described_st (((d, d2, d3, d4, d5, ()), l, ()), ())) = described_S N d d2 d3 d4 d5 l := by kernel_rfl
noncomputable def sp_described (N : Nat) : Spec := { f := 100, ins := ⟨[shG, shQ], []⟩, outs := [⟨[.b], []⟩], run := fun p k => (described_S N p.1.1.1 p.1.1.2.1 p.1.1.2.2.1 p.1.1.2.2.2.1 p.1.1.2.2.2.2.1 p.1.2.1).bind fun r => k ((r, ()), ()) }
theorem sp_described_ok (N : Nat) : SpecOK Try.prog (sp_described N) := fn_sound (B := described_B) (loops := [described_l1_L N]) (leaves := []) (fun p => described_S N p.1.1.1 p.1.1.2.1 p.1.1.2.2.1 p.1.1.2.2.2.1 p.1.1.2.2.2.2.1 p.1.2.1) (fun r => ((r, ()), ())) described_rt (fun _ _ _ => rfl) (fun r z h => by cases h; rfl) Try.func100 (by kernel_rfl) (by kernel_rfl) (by kernel_rfl) rfl rfl (by kernel_rfl) (fun args w => Sem.pv_run _ _ _ (by kernel_rfl) w) (described_all N) mixed ⟨described_l1_ok N, trivial⟩ (fun z E Xc hE hX hret => trivial) (fun p => described_eq N p.1.1.1 p.1.1.2.1 p.1.1.2.2.1 p.1.1.2.2.2.1 p.1.1.2.2.2.2.1 p.1.2.1)

def valued_l2 (N : Nat) : Nat → Ll → Int → Int → Option ((Unit) ⊕ (Ll × Int))
  | 0, _, _, _ => none
  | n_ + 1, l, i, t =>
    idx l i fun x_1 =>
    br (decide (t < (x_1.length : Int)))
      (idx l i fun x_2 =>
      idx x_2 t fun x_3 =>
      (off_S N x_3 (-1) 5).bind fun x_4 =>
      br x_4
        (some (.inl ()))
        (chk (t + 1) <|
        valued_l2 N n_ l i (t + 1)))
      (some (.inr (l, i)))
def valued_l1 (N : Nat) : Nat → Ll → Int → Option ((Unit) ⊕ (Unit))
  | 0, _, _ => none
  | n_ + 1, l, i =>
    br (decide (i < (l.length : Int)))
      ((valued_l2 N N l i 0).bind fun e => match e with
      | .inl _ =>
        some (.inl ())
      | .inr (l_5, i_6) =>
        chk (i_6 + 1) <|
        valued_l1 N n_ l_5 (i_6 + 1))
      (some (.inr ()))
def valued_S (N : Nat) (l : Ll) : Option Bool :=
  (valued_l1 N N l 0).bind fun e => match e with
  | .inl _ =>
    some false
  | .inr _ =>
    some true
noncomputable def valued_sp (N : Nat) : List Spec := [sp_off N]
theorem valued_all (N : Nat) : AllP (SpecOK Try.prog) (valued_sp N) := ⟨sp_off_ok N, trivial⟩
noncomputable def valued_c : Code := (Try.f101.body).getD .skip
noncomputable abbrev valued_B : Body := { c := valued_c, n := 28, res := [.tmp 2], outs := [⟨[.b], []⟩], m0 := 0 }
abbrev valued_rt : altD valued_B.outs → Option Bool := fun r => some r.1.1
abbrev valued_l2_at : List PI := [.c [1, 0, 1, 0, 0, 1, 0, 0, 1, 0, 0, 0, 0], .c [1, 0, 1, 0, 0, 1, 0, 0, 1, 0, 0, 0, 1], .c [1, 0, 1, 0, 0, 1, 0, 0, 1, 0, 0, 1], .l [1, 0, 1, 0, 0, 1, 0, 0, 1, 0, 0], .b 2, .b 1, .c [1, 0, 1, 0, 0, 1, 1], .l [1, 0, 1, 0, 0], .b 0, .c [1, 1]]
abbrev valued_l2_st : Sta := ⟨[0, 3, 4], ⟨[shQ, shI, shI], []⟩⟩
abbrev valued_l2_h (rec : Ll → Int → Int → Option ((Unit) ⊕ (Ll × Int))) : Leaf ((Unit) ⊕ (Ll × Int)) := ⟨valued_l2_at, valued_l2_st, fun p => rec p.1.1 p.1.2.1 p.1.2.2.1⟩
abbrev valued_l2_e0 : Leaf ((Unit) ⊕ (Ll × Int)) := ⟨[.c [1, 0, 1, 0, 0, 1, 0, 0, 1, 0, 0, 1, 0, 0, 1, 0, 0], .c [1, 0, 1, 0, 0, 1, 0, 0, 1, 0, 0, 1, 0, 0, 1, 0, 1], .b 3, .c [1, 0, 1, 0, 0, 1, 0, 0, 1, 0, 0, 1, 1], .l [1, 0, 1, 0, 0, 1, 0, 0, 1, 0, 0], .b 2, .b 1, .c [1, 0, 1, 0, 0, 1, 1], .l [1, 0, 1, 0, 0], .b 0, .c [1, 1]], ⟨[], ⟨[], []⟩⟩, fun p => some (.inl ())⟩
abbrev valued_l2_e1 : Leaf ((Unit) ⊕ (Ll × Int)) := ⟨[.c [1, 0, 1, 0, 0, 1, 1], .l [1, 0, 1, 0, 0], .b 0, .c [1, 1]], ⟨[0, 3], ⟨[shQ, shI], []⟩⟩, fun p => some (.inr (p.1.1, p.1.2.1))⟩
noncomputable def valued_l2_L (N : Nat) : LoopS := { at_ := valued_l2_at, sta := valued_l2_st, exits := [([.c [1, 0, 1, 0, 0, 1, 0, 0, 1, 0, 0, 1, 0, 0, 1, 0, 0], .c [1, 0, 1, 0, 0, 1, 0, 0, 1, 0, 0, 1, 0, 0, 1, 0, 1], .b 3, .c [1, 0, 1, 0, 0, 1, 0, 0, 1, 0, 0, 1, 1], .l [1, 0, 1, 0, 0, 1, 0, 0, 1, 0, 0], .b 2, .b 1, .c [1, 0, 1, 0, 0, 1, 1], .l [1, 0, 1, 0, 0], .b 0, .c [1, 1]], ⟨[], ⟨[], []⟩⟩), ([.c [1, 0, 1, 0, 0, 1, 1], .l [1, 0, 1, 0, 0], .b 0, .c [1, 1]], ⟨[0, 3], ⟨[shQ, shI], []⟩⟩)], run := fun p k => (valued_l2 N N p.1.1 p.1.2.1 p.1.2.2.1).bind fun e => match e with | .inl x => k (.inl ((), ())) | .inr x => k (.inr (.inl ((x.1, x.2, ()), ()))) }
theorem valued_l2_eq (N n_ : Nat) (l : Ll) (i : Int) (t : Int) : ev (Z := (Unit) ⊕ (Ll × Int)) Try.prog (valued_sp N) valued_B [] [valued_l2_h (valued_l2 N n_), valued_l2_e0, valued_l2_e1] none 400 true valued_l2_at (stL valued_l2_st ((l, i, t, ()), ())) (stH valued_l2_st ((l, i, t, ()), ())) = valued_l2 N (n_ + 1) l i t := by kernel_rfl
theorem valued_l2_ok (N : Nat) {top : Bool} : LoopOK Try.prog valued_B.c valued_B.n valued_B.m0 top (valued_l2_L N) := loop_of_ev (Z := (Unit) ⊕ (Ll × Int)) (N := N) (fun m p => valued_l2 N m p.1.1 p.1.2.1 p.1.2.2.1) (fun e => match e with | .inl x => .inl ((), ()) | .inr x => .inr (.inl ((x.1, x.2, ()), ()))) (fun _ p k => bind_congr_ (valued_l2 N N p.1.1 p.1.2.1 p.1.2.2.1) _ _ (fun e => by rcases e with x | x <;> rfl)) (fun _ => rfl) (fun m z E Xc hE hX hrec hx => leaf_of_ev (B := valued_B) (loops := []) (leaves := [valued_l2_h (valued_l2 N m), valued_l2_e0, valued_l2_e1]) (valued_all N) mixed trivial hE hX ⟨hrec, (fun p hp => by obtain rfl := Option.some.inj hp; exact hx), (fun p hp => by obtain rfl := Option.some.inj hp; exact hx), trivial⟩ RetOK.no (fun p => valued_l2_eq N m p.1.1 p.1.2.1 p.1.2.2.1))
abbrev valued_l1_at : List PI := [.c [1, 0, 1, 0, 0, 0, 0], .c [1, 0, 1, 0, 0, 0, 1], .c [1, 0, 1, 0, 0, 1], .l [1, 0, 1, 0, 0], .b 0, .c [1, 1]]
abbrev valued_l1_st : Sta := ⟨[0, 3], ⟨[shQ, shI], []⟩⟩
abbrev valued_l1_h (rec : Ll → Int → Option ((Unit) ⊕ (Unit))) : Leaf ((Unit) ⊕ (Unit)) := ⟨valued_l1_at, valued_l1_st, fun p => rec p.1.1 p.1.2.1⟩
abbrev valued_l1_e0 : Leaf ((Unit) ⊕ (Unit)) := ⟨[.c [1, 0, 1, 0, 0, 1, 0, 0, 1, 0, 0, 1, 0, 0, 1, 0, 0], .c [1, 0, 1, 0, 0, 1, 0, 0, 1, 0, 0, 1, 0, 0, 1, 0, 1], .b 3, .c [1, 0, 1, 0, 0, 1, 0, 0, 1, 0, 0, 1, 1], .l [1, 0, 1, 0, 0, 1, 0, 0, 1, 0, 0], .b 2, .b 1, .c [1, 0, 1, 0, 0, 1, 1], .l [1, 0, 1, 0, 0], .b 0, .c [1, 1]], ⟨[], ⟨[], []⟩⟩, fun p => some (.inl ())⟩
abbrev valued_l1_e1 : Leaf ((Unit) ⊕ (Unit)) := ⟨[.c [1, 1, 0], .c [1, 1, 1]], ⟨[], ⟨[], []⟩⟩, fun p => some (.inr ())⟩
noncomputable def valued_l1_L (N : Nat) : LoopS := { at_ := valued_l1_at, sta := valued_l1_st, exits := [([.c [1, 0, 1, 0, 0, 1, 0, 0, 1, 0, 0, 1, 0, 0, 1, 0, 0], .c [1, 0, 1, 0, 0, 1, 0, 0, 1, 0, 0, 1, 0, 0, 1, 0, 1], .b 3, .c [1, 0, 1, 0, 0, 1, 0, 0, 1, 0, 0, 1, 1], .l [1, 0, 1, 0, 0, 1, 0, 0, 1, 0, 0], .b 2, .b 1, .c [1, 0, 1, 0, 0, 1, 1], .l [1, 0, 1, 0, 0], .b 0, .c [1, 1]], ⟨[], ⟨[], []⟩⟩), ([.c [1, 1, 0], .c [1, 1, 1]], ⟨[], ⟨[], []⟩⟩)], run := fun p k => (valued_l1 N N p.1.1 p.1.2.1).bind fun e => match e with | .inl x => k (.inl ((), ())) | .inr x => k (.inr (.inl ((), ()))) }
theorem valued_l1_eq (N n_ : Nat) (l : Ll) (i : Int) : ev (Z := (Unit) ⊕ (Unit)) Try.prog (valued_sp N) valued_B [valued_l2_L N] [valued_l1_h (valued_l1 N n_), valued_l1_e0, valued_l1_e1] none 400 true valued_l1_at (stL valued_l1_st ((l, i, ()), ())) (stH valued_l1_st ((l, i, ()), ())) = valued_l1 N (n_ + 1) l i := by kernel_rfl
theorem valued_l1_ok (N : Nat) {top : Bool} : LoopOK Try.prog valued_B.c valued_B.n valued_B.m0 top (valued_l1_L N) := loop_of_ev (Z := (Unit) ⊕ (Unit)) (N := N) (fun m p => valued_l1 N m p.1.1 p.1.2.1) (fun e => match e with | .inl x => .inl ((), ()) | .inr x => .inr (.inl ((), ()))) (fun _ p k => bind_congr_ (valued_l1 N N p.1.1 p.1.2.1) _ _ (fun e => by rcases e with x | x <;> rfl)) (fun _ => rfl) (fun m z E Xc hE hX hrec hx => leaf_of_ev (B := valued_B) (loops := [valued_l2_L N]) (leaves := [valued_l1_h (valued_l1 N m), valued_l1_e0, valued_l1_e1]) (valued_all N) mixed ⟨valued_l2_ok N, trivial⟩ hE hX ⟨hrec, (fun p hp => by obtain rfl := Option.some.inj hp; exact hx), (fun p hp => by obtain rfl := Option.some.inj hp; exact hx), trivial⟩ RetOK.no (fun p => valued_l1_eq N m p.1.1 p.1.2.1))
abbrev valued_st : Sta := ⟨[0], ⟨[shQ], []⟩⟩
theorem valued_eq (N : Nat) (l : Ll) : ev (Z := Bool) Try.prog (valued_sp N) valued_B [valued_l2_L N, valued_l1_L N] [] (some valued_rt) 400 false [.c [0], .c [1]] (stL valued_st ((l, ()), ())) (stH valued_st ((l, ()), ())) = valued_S N l := by kernel_rfl
noncomputable def sp_valued (N : Nat) : Spec := { f := 101, ins := ⟨[shQ], []⟩, outs := [⟨[.b], []⟩], run := fun p k => (valued_S N p.1.1).bind fun r => k ((r, ()), ()) }
theorem sp_valued_ok (N : Nat) : SpecOK Try.prog (sp_valued N) := fn_sound (B := valued_B) (loops := [valued_l2_L N, valued_l1_L N]) (leaves := []) (fun p => valued_S N p.1.1) (fun r => ((r, ()), ())) valued_rt (fun _ _ _ => rfl) (fun r z h => by cases h; rfl) Try.func101 (by kernel_rfl) (by kernel_rfl) (by kernel_rfl) rfl rfl (by kernel_rfl) (fun args w => Sem.pv_run _ _ _ (by kernel_rfl) w) (valued_all N) mixed ⟨valued_l2_ok N, valued_l1_ok N, trivial⟩ (fun z E Xc hE hX hret => trivial) (fun p => valued_eq N p.1.1)

def rcheck_l1 (N : Nat) : Nat → Int → Li → Int → Ll → Ll → Li → Option ((Unit) ⊕ (Li × Int × Ll × Ll × Li))
  | 0, _, _, _, _, _, _ => none
  | n_ + 1, t, d, d2, d3, d4, d5 =>
    br (decide (t < (d.length : Int)))
      (idx d t fun x_4 =>
      (off_S N x_4 1 9).bind fun x_5 =>
      br x_5
        (some (.inl ()))
        (chk (t + 1) <|
        rcheck_l1 N n_ (t + 1) d d2 d3 d4 d5))
      (some (.inr (d, d2, d3, d4, d5)))
def rcheck_l2 (N : Nat) : Nat → Int → Li → Int → Ll → Ll → Li → Option ((Unit) ⊕ (Li × Int × Ll × Ll × Li))
  | 0, _, _, _, _, _, _ => none
  | n_ + 1, i, d, d2, d3, d4, d5 =>
    br (decide (i < (d5.length : Int)))
      (idx d5 i fun x_11 =>
      (off_S N x_11 0 99).bind fun x_12 =>
      br x_12
        (some (.inl ()))
        (chk (i + 1) <|
        rcheck_l2 N n_ (i + 1) d d2 d3 d4 d5))
      (some (.inr (d, d2, d3, d4, d5)))
def rcheck_S (N : Nat) (d : Li) (d2 : Int) (d3 : Ll) (d4 : Ll) (d5 : Li) : Option Int :=
  (off_S N (d.length : Int) 1 5).bind fun x_1 =>
  br x_1
    (some 2)
    (br (decide (6 < (d3.length : Int)))
      (some 2)
      (br (decide (6 < (d4.length : Int)))
        (some 2)
        ((described_S N d d2 d3 d4 d5 d3).bind fun x_2 =>
        br (!x_2)
          (some 2)
          ((described_S N d d2 d3 d4 d5 d4).bind fun x_3 =>
          br (!x_3)
            (some 2)
            (br (!decide ((d5.length : Int) = (d3.length : Int)))
              (some 2)
              ((rcheck_l1 N N 0 d d2 d3 d4 d5).bind fun e => match e with
              | .inl _ =>
                some 3
              | .inr (d_6, d2_7, d3_8, d4_9, d5_10) =>
                (rcheck_l2 N N 0 d_6 d2_7 d3_8 d4_9 d5_10).bind fun e => match e with
                | .inl _ =>
                  some 3
                | .inr (d_13, d2_14, d3_15, d4_16, d5_17) =>
                  (off_S N d2_14 0 3).bind fun x_18 =>
                  br x_18
                    (some 3)
                    ((valued_S N d3_15).bind fun x_19 =>
                    br (!x_19)
                      (some 3)
                      ((valued_S N d4_16).bind fun x_20 =>
                      br (!x_20)
                        (some 3)
                        (some 0)))))))))
noncomputable def rcheck_sp (N : Nat) : List Spec := [sp_off N, sp_described N, sp_valued N]
theorem rcheck_all (N : Nat) : AllP (SpecOK Try.prog) (rcheck_sp N) := ⟨sp_off_ok N, sp_described_ok N, sp_valued_ok N, trivial⟩
noncomputable def rcheck_c : Code := (Try.f57.body).getD .skip
noncomputable abbrev rcheck_B : Body := { c := rcheck_c, n := 83, res := [.tmp 2], outs := [⟨[shI], []⟩], m0 := 0 }
abbrev rcheck_rt : altD rcheck_B.outs → Option Int := fun r => some r.1.1
abbrev rcheck_l1_at : List PI := [.c [1, 1, 1, 0, 1, 0, 0, 0, 0], .c [1, 1, 1, 0, 1, 0, 0, 0, 1], .c [1, 1, 1, 0, 1, 0, 0, 1], .l [1, 1, 1, 0, 1, 0, 0], .b 0, .c [1, 1, 1, 1]]
abbrev rcheck_l1_st : Sta := ⟨[1, 3], ⟨[.own 0 0, shI], [.segs [shL, shI, shQ, shQ, shL]]⟩⟩
abbrev rcheck_l1_h (rec : Int → Li → Int → Ll → Ll → Li → Option ((Unit) ⊕ (Li × Int × Ll × Ll × Li))) : Leaf ((Unit) ⊕ (Li × Int × Ll × Ll × Li)) := ⟨rcheck_l1_at, rcheck_l1_st, fun p => rec p.1.2.1 p.2.1.1 p.2.1.2.1 p.2.1.2.2.1 p.2.1.2.2.2.1 p.2.1.2.2.2.2.1⟩
abbrev rcheck_l1_e0 : Leaf ((Unit) ⊕ (Li × Int × Ll × Ll × Li)) := ⟨[.c [1, 1, 1, 0, 1, 0, 0, 1, 0, 0, 1, 0, 0], .c [1, 1, 1, 0, 1, 0, 0, 1, 0, 0, 1, 0, 1], .b 1, .c [1, 1, 1, 0, 1, 0, 0, 1, 1], .l [1, 1, 1, 0, 1, 0, 0], .b 0, .c [1, 1, 1, 1]], ⟨[], ⟨[], []⟩⟩, fun p => some (.inl ())⟩
abbrev rcheck_l1_e1 : Leaf ((Unit) ⊕ (Li × Int × Ll × Ll × Li)) := ⟨[.c [1, 1, 1, 1, 0, 0], .c [1, 1, 1, 1, 0, 1], .c [1, 1, 1, 1, 1]], ⟨[1], ⟨[.own 0 0], [.segs [shL, shI, shQ, shQ, shL]]⟩⟩, fun p => some (.inr (p.2.1.1, p.2.1.2.1, p.2.1.2.2.1, p.2.1.2.2.2.1, p.2.1.2.2.2.2.1))⟩
noncomputable def rcheck_l1_L (N : Nat) : LoopS := { at_ := rcheck_l1_at, sta := rcheck_l1_st, exits := [([.c [1, 1, 1, 0, 1, 0, 0, 1, 0, 0, 1, 0, 0], .c [1, 1, 1, 0, 1, 0, 0, 1, 0, 0, 1, 0, 1], .b 1, .c [1, 1, 1, 0, 1, 0, 0, 1, 1], .l [1, 1, 1, 0, 1, 0, 0], .b 0, .c [1, 1, 1, 1]], ⟨[], ⟨[], []⟩⟩), ([.c [1, 1, 1, 1, 0, 0], .c [1, 1, 1, 1, 0, 1], .c [1, 1, 1, 1, 1]], ⟨[1], ⟨[.own 0 0], [.segs [shL, shI, shQ, shQ, shL]]⟩⟩)], run := fun p k => (rcheck_l1 N N p.1.2.1 p.2.1.1 p.2.1.2.1 p.2.1.2.2.1 p.2.1.2.2.2.1 p.2.1.2.2.2.2.1).bind fun e => match e with | .inl x => k (.inl ((), ())) | .inr x => k (.inr (.inl (((), ()), ((x.1, x.2.1, x.2.2.1, x.2.2.2.1, x.2.2.2.2, ()), ())))) }
theorem rcheck_l1_eq (N n_ : Nat) (t : Int) (d : Li) (d2 : Int) (d3 : Ll) (d4 : Ll) (d5 : Li) : ev (Z := (Unit) ⊕ (Li × Int × Ll × Ll × Li)) Try.prog (rcheck_sp N) rcheck_B [] [rcheck_l1_h (rcheck_l1 N n_), rcheck_l1_e0, rcheck_l1_e1] none 400 true rcheck_l1_at (stL rcheck_l1_st (((), t, ()), ((d, d2, d3, d4, d5, ()), ()))) (stH rcheck_l1_st (((), t, ()), ((d, d2, d3, d4, d5, ()), ()))) = rcheck_l1 N (n_ + 1) t d d2 d3 d4 d5 := by kernel_rfl
theorem rcheck_l1_ok (N : Nat) {top : Bool} : LoopOK Try.prog rcheck_B.c rcheck_B.n rcheck_B.m0 top (rcheck_l1_L N) := loop_of_ev (Z := (Unit) ⊕ (Li × Int × Ll × Ll × Li)) (N := N) (fun m p => rcheck_l1 N m p.1.2.1 p.2.1.1 p.2.1.2.1 p.2.1.2.2.1 p.2.1.2.2.2.1 p.2.1.2.2.2.2.1) (fun e => match e with | .inl x => .inl ((), ()) | .inr x => .inr (.inl (((), ()), ((x.1, x.2.1, x.2.2.1, x.2.2.2.1, x.2.2.2.2, ()), ())))) (fun _ p k => bind_congr_ (rcheck_l1 N N p.1.2.1 p.2.1.1 p.2.1.2.1 p.2.1.2.2.1 p.2.1.2.2.2.1 p.2.1.2.2.2.2.1) _ _ (fun e => by rcases e with x | x <;> rfl)) (fun _ => rfl) (fun m z E Xc hE hX hrec hx => leaf_of_ev (B := rcheck_B) (loops := []) (leaves := [rcheck_l1_h (rcheck_l1 N m), rcheck_l1_e0, rcheck_l1_e1]) (rcheck_all N) mixed trivial hE hX ⟨hrec, (fun p hp => by obtain rfl := Option.some.inj hp; exact hx), (fun p hp => by obtain rfl := Option.some.inj hp; exact hx), trivial⟩ RetOK.no (fun p => rcheck_l1_eq N m p.1.2.1 p.2.1.1 p.2.1.2.1 p.2.1.2.2.1 p.2.1.2.2.2.1 p.2.1.2.2.2.2.1))
abbrev rcheck_l2_at : List PI := [.c [1, 1, 1, 1, 0, 1, 0, 0, 0, 0], .c [1, 1, 1, 1, 0, 1, 0, 0, 0, 1], .c [1, 1, 1, 1, 0, 1, 0, 0, 1], .l [1, 1, 1, 1, 0, 1, 0, 0], .b 2, .c [1, 1, 1, 1, 1]]
abbrev rcheck_l2_st : Sta := ⟨[1, 4], ⟨[.own 0 0, shI], [.segs [shL, shI, shQ, shQ, shL]]⟩⟩
abbrev rcheck_l2_h (rec : Int → Li → Int → Ll → Ll → Li → Option ((Unit) ⊕ (Li × Int × Ll × Ll × Li))) : Leaf ((Unit) ⊕ (Li × Int × Ll × Ll × Li)) := ⟨rcheck_l2_at, rcheck_l2_st, fun p => rec p.1.2.1 p.2.1.1 p.2.1.2.1 p.2.1.2.2.1 p.2.1.2.2.2.1 p.2.1.2.2.2.2.1⟩
abbrev rcheck_l2_e0 : Leaf ((Unit) ⊕ (Li × Int × Ll × Ll × Li)) := ⟨[.c [1, 1, 1, 1, 0, 1, 0, 0, 1, 0, 0, 1, 0, 0], .c [1, 1, 1, 1, 0, 1, 0, 0, 1, 0, 0, 1, 0, 1], .b 3, .c [1, 1, 1, 1, 0, 1, 0, 0, 1, 1], .l [1, 1, 1, 1, 0, 1, 0, 0], .b 2, .c [1, 1, 1, 1, 1]], ⟨[], ⟨[], []⟩⟩, fun p => some (.inl ())⟩
abbrev rcheck_l2_e1 : Leaf ((Unit) ⊕ (Li × Int × Ll × Ll × Li)) := ⟨[.c [1, 1, 1, 1, 1, 0, 0], .c [1, 1, 1, 1, 1, 0, 1], .c [1, 1, 1, 1, 1, 1]], ⟨[1], ⟨[.own 0 0], [.segs [shL, shI, shQ, shQ, shL]]⟩⟩, fun p => some (.inr (p.2.1.1, p.2.1.2.1, p.2.1.2.2.1, p.2.1.2.2.2.1, p.2.1.2.2.2.2.1))⟩
noncomputable def rcheck_l2_L (N : Nat) : LoopS := { at_ := rcheck_l2_at, sta := rcheck_l2_st, exits := [([.c [1, 1, 1, 1, 0, 1, 0, 0, 1, 0, 0, 1, 0, 0], .c [1, 1, 1, 1, 0, 1, 0, 0, 1, 0, 0, 1, 0, 1], .b 3, .c [1, 1, 1, 1, 0, 1, 0, 0, 1, 1], .l [1, 1, 1, 1, 0, 1, 0, 0], .b 2, .c [1, 1, 1, 1, 1]], ⟨[], ⟨[], []⟩⟩), ([.c [1, 1, 1, 1, 1, 0, 0], .c [1, 1, 1, 1, 1, 0, 1], .c [1, 1, 1, 1, 1, 1]], ⟨[1], ⟨[.own 0 0], [.segs [shL, shI, shQ, shQ, shL]]⟩⟩)], run := fun p k => (rcheck_l2 N N p.1.2.1 p.2.1.1 p.2.1.2.1 p.2.1.2.2.1 p.2.1.2.2.2.1 p.2.1.2.2.2.2.1).bind fun e => match e with | .inl x => k (.inl ((), ())) | .inr x => k (.inr (.inl (((), ()), ((x.1, x.2.1, x.2.2.1, x.2.2.2.1, x.2.2.2.2, ()), ())))) }
theorem rcheck_l2_eq (N n_ : Nat) (i : Int) (d : Li) (d2 : Int) (d3 : Ll) (d4 : Ll) (d5 : Li) : ev (Z := (Unit) ⊕ (Li × Int × Ll × Ll × Li)) Try.prog (rcheck_sp N) rcheck_B [rcheck_l1_L N] [rcheck_l2_h (rcheck_l2 N n_), rcheck_l2_e0, rcheck_l2_e1] none 400 true rcheck_l2_at (stL rcheck_l2_st (((), i, ()), ((d, d2, d3, d4, d5, ()), ()))) (stH rcheck_l2_st (((), i, ()), ((d, d2, d3, d4, d5, ()), ()))) = rcheck_l2 N (n_ + 1) i d d2 d3 d4 d5 := by kernel_rfl
theorem rcheck_l2_ok (N : Nat) {top : Bool} : LoopOK Try.prog rcheck_B.c rcheck_B.n rcheck_B.m0 top (rcheck_l2_L N) := loop_of_ev (Z := (Unit) ⊕ (Li × Int × Ll × Ll × Li)) (N := N) (fun m p => rcheck_l2 N m p.1.2.1 p.2.1.1 p.2.1.2.1 p.2.1.2.2.1 p.2.1.2.2.2.1 p.2.1.2.2.2.2.1) (fun e => match e with | .inl x => .inl ((), ()) | .inr x => .inr (.inl (((), ()), ((x.1, x.2.1, x.2.2.1, x.2.2.2.1, x.2.2.2.2, ()), ())))) (fun _ p k => bind_congr_ (rcheck_l2 N N p.1.2.1 p.2.1.1 p.2.1.2.1 p.2.1.2.2.1 p.2.1.2.2.2.1 p.2.1.2.2.2.2.1) _ _ (fun e => by rcases e with x | x <;> rfl)) (fun _ => rfl) (fun m z E Xc hE hX hrec hx => leaf_of_ev (B := rcheck_B) (loops := [rcheck_l1_L N]) (leaves := [rcheck_l2_h (rcheck_l2 N m), rcheck_l2_e0, rcheck_l2_e1]) (rcheck_all N) mixed ⟨rcheck_l1_ok N, trivial⟩ hE hX ⟨hrec, (fun p hp => by obtain rfl := Option.some.inj hp; exact hx), (fun p hp => by obtain rfl := Option.some.inj hp; exact hx), trivial⟩ RetOK.no (fun p => rcheck_l2_eq N m p.1.2.1 p.2.1.1 p.2.1.2.1 p.2.1.2.2.1 p.2.1.2.2.2.1 p.2.1.2.2.2.2.1))
abbrev rcheck_st : Sta := ⟨[0], ⟨[shG], []⟩⟩
theorem rcheck_eq (N : Nat) (d : Li) (d2 : Int) (d3 : Ll) (d4 : Ll) (d5 : Li) : ev (Z := Int) Try.prog (rcheck_sp N) rcheck_B [rcheck_l1_L N, rcheck_l2_L N] [] (some rcheck_rt) 400 false [.c [0], .c [1]] (stL rcheck_st (((d, d2, d3, d4, d5, ()), ()), ())) (stH rcheck_st (((d, d2, d3, d4, d5, ()), ()), ())) = rcheck_S N d d2 d3 d4 d5 := by kernel_rfl
noncomputable def sp_rcheck (N : Nat) : Spec := { f := 57, ins := ⟨[shG], []⟩, outs := [⟨[shI], []⟩], run := fun p k => (rcheck_S N p.1.1.1 p.1.1.2.1 p.1.1.2.2.1 p.1.1.2.2.2.1 p.1.1.2.2.2.2.1).bind fun r => k ((r, ()), ()) }
theorem sp_rcheck_ok (N : Nat) : SpecOK Try.prog (sp_rcheck N) := fn_sound (B := rcheck_B) (loops := [rcheck_l1_L N, rcheck_l2_L N]) (leaves := []) (fun p => rcheck_S N p.1.1.1 p.1.1.2.1 p.1.1.2.2.1 p.1.1.2.2.2.1 p.1.1.2.2.2.2.1) (fun r => ((r, ()), ())) rcheck_rt (fun _ _ _ => rfl) (fun r z h => by cases h; rfl) Try.func57 (by kernel_rfl) (by kernel_rfl) (by kernel_rfl) rfl rfl (by kernel_rfl) (fun args w => Sem.pv_run _ _ _ (by kernel_rfl) w) (rcheck_all N) mixed ⟨rcheck_l1_ok N, rcheck_l2_ok N, trivial⟩ (fun z E Xc hE hX hret => trivial) (fun p => rcheck_eq N p.1.1.1 p.1.1.2.1 p.1.1.2.2.1 p.1.1.2.2.2.1 p.1.1.2.2.2.2.1)

def rpair_j2 (N : Nat) (rec : Int → Int → Int → Int → Int → Li → Int → Ll → Ll → Li → Option (Int × Int × Li × Int × Ll × Ll × Li)) (lost : Int) (found : Int) (n : Int) (slips : Int) (t : Int) (d : Li) (d2 : Int) (d3 : Ll) (d4 : Ll) (d5 : Li) : Option (Int × Int × Li × Int × Ll × Ll × Li) :=
  chk (t + 1) <|
  rec lost found n slips (t + 1) d d2 d3 d4 d5
def rpair_j1 (N : Nat) (rec : Int → Int → Int → Int → Int → Li → Int → Ll → Ll → Li → Option (Int × Int × Li × Int × Ll × Ll × Li)) (lost : Int) (found : Int) (n : Int) (slips : Int) (t : Int) (a : Int) (b : Int) (d : Li) (d2 : Int) (d3 : Ll) (d4 : Ll) (d5 : Li) : Option (Int × Int × Li × Int × Ll × Ll × Li) :=
  br (decide (0 ≤ a))
    (br (decide (0 ≤ b))
      (br (!decide (a = b))
        (chk (slips + 1) <|
        rpair_j2 N (rec) lost found n (slips + 1) t d d2 d3 d4 d5)
        (rpair_j2 N (rec) lost found n slips t d d2 d3 d4 d5))
      (rpair_j2 N (rec) lost found n slips t d d2 d3 d4 d5))
    (rpair_j2 N (rec) lost found n slips t d d2 d3 d4 d5)
def rpair_l1 (N : Nat) : Nat → Int → Int → Int → Int → Int → Li → Int → Ll → Ll → Li → Option (Int × Int × Li × Int × Ll × Ll × Li)
  | 0, _, _, _, _, _, _, _, _, _, _ => none
  | n_ + 1, lost, found, n, slips, t, d, d2, d3, d4, d5 =>
    br (decide (t < (d.length : Int)))
      (idx d3 lost fun x_1 =>
      idx x_1 t fun x_2 =>
      idx d4 found fun x_3 =>
      idx x_3 t fun x_4 =>
      br (decide (0 ≤ x_2))
        (br (decide (0 ≤ x_4))
          (br (decide (x_2 = x_4))
            (idx d t fun x_5 =>
            chk (n + x_5) <|
            rpair_j1 N (rpair_l1 N n_) lost found (n + x_5) slips t x_2 x_4 d d2 d3 d4 d5)
            (rpair_j1 N (rpair_l1 N n_) lost found n slips t x_2 x_4 d d2 d3 d4 d5))
          (rpair_j1 N (rpair_l1 N n_) lost found n slips t x_2 x_4 d d2 d3 d4 d5))
        (rpair_j1 N (rpair_l1 N n_) lost found n slips t x_2 x_4 d d2 d3 d4 d5))
      (some ((n, slips, d, d2, d3, d4, d5)))
def rpair_S (N : Nat) (d : Li) (d2 : Int) (d3 : Ll) (d4 : Ll) (d5 : Li) (lost : Int) (found : Int) : Option (Int × Int × Bool) :=
  (rpair_l1 N N lost found 0 0 0 d d2 d3 d4 d5).bind fun (n_6, slips_7, d_8, d2_9, d3_10, d4_11, d5_12) =>
  br (decide (0 < n_6))
    (some (n_6, slips_7, (decide (slips_7 ≤ d2_9))))
    (some (n_6, slips_7, false))
noncomputable def rpair_sp (N : Nat) : List Spec := []
theorem rpair_all (N : Nat) : AllP (SpecOK Try.prog) (rpair_sp N) := trivial
noncomputable def rpair_c : Code := (Try.f92.body).getD .skip
noncomputable abbrev rpair_B : Body := { c := rpair_c, n := 78, res := [.tmp 6, .tmp 7, .tmp 8], outs := [⟨[shI, shI, .b], []⟩], m0 := 0 }
abbrev rpair_rt : altD rpair_B.outs → Option (Int × Int × Bool) := fun r => some (r.1.1, r.1.2.1, r.1.2.2.1)
abbrev rpair_l1_at : List PI := [.c [1, 1, 0, 1, 0, 0, 0, 0], .c [1, 1, 0, 1, 0, 0, 0, 1], .c [1, 1, 0, 1, 0, 0, 1], .l [1, 1, 0, 1, 0, 0], .b 0, .c [1, 1, 1]]
abbrev rpair_l1_st : Sta := ⟨[1, 2, 3, 9, 10, 11], ⟨[shI, shI, .own 0 0, shI, shI, shI], [.segs [shL, shI, shQ, shQ, shL]]⟩⟩
abbrev rpair_l1_h (rec : Int → Int → Int → Int → Int → Li → Int → Ll → Ll → Li → Option (Int × Int × Li × Int × Ll × Ll × Li)) : Leaf (Int × Int × Li × Int × Ll × Ll × Li) := ⟨rpair_l1_at, rpair_l1_st, fun p => rec p.1.1 p.1.2.1 p.1.2.2.2.1 p.1.2.2.2.2.1 p.1.2.2.2.2.2.1 p.2.1.1 p.2.1.2.1 p.2.1.2.2.1 p.2.1.2.2.2.1 p.2.1.2.2.2.2.1⟩
abbrev rpair_l1_e0 : Leaf (Int × Int × Li × Int × Ll × Ll × Li) := ⟨[.c [1, 1, 1, 0], .c [1, 1, 1, 1]], ⟨[3, 9, 10], ⟨[.own 0 0, shI, shI], [.segs [shL, shI, shQ, shQ, shL]]⟩⟩, fun p => some ((p.1.2.1, p.1.2.2.1, p.2.1.1, p.2.1.2.1, p.2.1.2.2.1, p.2.1.2.2.2.1, p.2.1.2.2.2.2.1))⟩
abbrev rpair_j2_at : List PI := [.c [1, 1, 0, 1, 0, 0, 1, 1], .l [1, 1, 0, 1, 0, 0], .b 0, .c [1, 1, 1]]
abbrev rpair_j2_st : Sta := ⟨[1, 2, 3, 9, 10, 11], ⟨[shI, shI, .own 0 0, shI, shI, shI], [.segs [shL, shI, shQ, shQ, shL]]⟩⟩
abbrev rpair_j2_k (N : Nat) (rec : Int → Int → Int → Int → Int → Li → Int → Ll → Ll → Li → Option (Int × Int × Li × Int × Ll × Ll × Li)) : Leaf (Int × Int × Li × Int × Ll × Ll × Li) := ⟨rpair_j2_at, rpair_j2_st, fun p => rpair_j2 N rec p.1.1 p.1.2.1 p.1.2.2.2.1 p.1.2.2.2.2.1 p.1.2.2.2.2.2.1 p.2.1.1 p.2.1.2.1 p.2.1.2.2.1 p.2.1.2.2.2.1 p.2.1.2.2.2.2.1⟩
theorem rpair_j2_eq (N : Nat) (rec : Int → Int → Int → Int → Int → Li → Int → Ll → Ll → Li → Option (Int × Int × Li × Int × Ll × Ll × Li)) (lost : Int) (found : Int) (n : Int) (slips : Int) (t : Int) (d : Li) (d2 : Int) (d3 : Ll) (d4 : Ll) (d5 : Li) : ev (Z := Int × Int × Li × Int × Ll × Ll × Li) Try.prog (rpair_sp N) rpair_B [] [rpair_l1_h rec, rpair_l1_e0] none 400 true rpair_j2_at (stL rpair_j2_st ((lost, found, (), n, slips, t, ()), ((d, d2, d3, d4, d5, ()), ()))) (stH rpair_j2_st ((lost, found, (), n, slips, t, ()), ((d, d2, d3, d4, d5, ()), ()))) = rpair_j2 N rec lost found n slips t d d2 d3 d4 d5 := by kernel_rfl
theorem rpair_j2_lf (N : Nat) (rec : Int → Int → Int → Int → Int → Li → Int → Ll → Ll → Li → Option (Int × Int × Li × Int × Ll × Ll × Li)) {z : Int × Int × Li × Int × Ll × Ll × Li} {top : Bool} {E : EE} {Xc : Ctx} (hE : EOK rpair_B.m0 E) (hX : CxOK top Xc) (hrec : LeafOK Try.prog rpair_B.c rpair_B.n rpair_B.m0 E Xc z (rpair_l1_h rec)) (h0 : LeafOK Try.prog rpair_B.c rpair_B.n rpair_B.m0 E Xc z rpair_l1_e0) : LeafOK Try.prog rpair_B.c rpair_B.n rpair_B.m0 E Xc z (rpair_j2_k N rec) := leaf_of_ev (B := rpair_B) (loops := []) (leaves := [rpair_l1_h rec, rpair_l1_e0]) (rpair_all N) mixed trivial hE hX ⟨hrec, h0, trivial⟩ RetOK.no (fun p => rpair_j2_eq N rec p.1.1 p.1.2.1 p.1.2.2.2.1 p.1.2.2.2.2.1 p.1.2.2.2.2.2.1 p.2.1.1 p.2.1.2.1 p.2.1.2.2.1 p.2.1.2.2.2.1 p.2.1.2.2.2.2.1)
abbrev rpair_j1_at : List PI := [.c [1, 1, 0, 1, 0, 0, 1, 0, 0, 1, 1, 0], .c [1, 1, 0, 1, 0, 0, 1, 0, 0, 1, 1, 1], .b 1, .c [1, 1, 0, 1, 0, 0, 1, 1], .l [1, 1, 0, 1, 0, 0], .b 0, .c [1, 1, 1]]
abbrev rpair_j1_st : Sta := ⟨[1, 2, 3, 9, 10, 11, 12, 13], ⟨[shI, shI, .own 0 0, shI, shI, shI, shI, shI], [.segs [shL, shI, shQ, shQ, shL]]⟩⟩
abbrev rpair_j1_k (N : Nat) (rec : Int → Int → Int → Int → Int → Li → Int → Ll → Ll → Li → Option (Int × Int × Li × Int × Ll × Ll × Li)) : Leaf (Int × Int × Li × Int × Ll × Ll × Li) := ⟨rpair_j1_at, rpair_j1_st, fun p => rpair_j1 N rec p.1.1 p.1.2.1 p.1.2.2.2.1 p.1.2.2.2.2.1 p.1.2.2.2.2.2.1 p.1.2.2.2.2.2.2.1 p.1.2.2.2.2.2.2.2.1 p.2.1.1 p.2.1.2.1 p.2.1.2.2.1 p.2.1.2.2.2.1 p.2.1.2.2.2.2.1⟩
theorem rpair_j1_eq (N : Nat) (rec : Int → Int → Int → Int → Int → Li → Int → Ll → Ll → Li → Option (Int × Int × Li × Int × Ll × Ll × Li)) (lost : Int) (found : Int) (n : Int) (slips : Int) (t : Int) (a : Int) (b : Int) (d : Li) (d2 : Int) (d3 : Ll) (d4 : Ll) (d5 : Li) : ev (Z := Int × Int × Li × Int × Ll × Ll × Li) Try.prog (rpair_sp N) rpair_B [] [rpair_l1_h rec, rpair_l1_e0, rpair_j2_k N rec] none 400 true rpair_j1_at (stL rpair_j1_st ((lost, found, (), n, slips, t, a, b, ()), ((d, d2, d3, d4, d5, ()), ()))) (stH rpair_j1_st ((lost, found, (), n, slips, t, a, b, ()), ((d, d2, d3, d4, d5, ()), ()))) = rpair_j1 N rec lost found n slips t a b d d2 d3 d4 d5 := by kernel_rfl
theorem rpair_j1_lf (N : Nat) (rec : Int → Int → Int → Int → Int → Li → Int → Ll → Ll → Li → Option (Int × Int × Li × Int × Ll × Ll × Li)) {z : Int × Int × Li × Int × Ll × Ll × Li} {top : Bool} {E : EE} {Xc : Ctx} (hE : EOK rpair_B.m0 E) (hX : CxOK top Xc) (hrec : LeafOK Try.prog rpair_B.c rpair_B.n rpair_B.m0 E Xc z (rpair_l1_h rec)) (h0 : LeafOK Try.prog rpair_B.c rpair_B.n rpair_B.m0 E Xc z rpair_l1_e0) : LeafOK Try.prog rpair_B.c rpair_B.n rpair_B.m0 E Xc z (rpair_j1_k N rec) := leaf_of_ev (B := rpair_B) (loops := []) (leaves := [rpair_l1_h rec, rpair_l1_e0, rpair_j2_k N rec]) (rpair_all N) mixed trivial hE hX ⟨hrec, h0, rpair_j2_lf N rec hE hX hrec h0, trivial⟩ RetOK.no (fun p => rpair_j1_eq N rec p.1.1 p.1.2.1 p.1.2.2.2.1 p.1.2.2.2.2.1 p.1.2.2.2.2.2.1 p.1.2.2.2.2.2.2.1 p.1.2.2.2.2.2.2.2.1 p.2.1.1 p.2.1.2.1 p.2.1.2.2.1 p.2.1.2.2.2.1 p.2.1.2.2.2.2.1)
noncomputable def rpair_l1_L (N : Nat) : LoopS := { at_ := rpair_l1_at, sta := rpair_l1_st, exits := [([.c [1, 1, 1, 0], .c [1, 1, 1, 1]], ⟨[3, 9, 10], ⟨[.own 0 0, shI, shI], [.segs [shL, shI, shQ, shQ, shL]]⟩⟩)], run := fun p k => (rpair_l1 N N p.1.1 p.1.2.1 p.1.2.2.2.1 p.1.2.2.2.2.1 p.1.2.2.2.2.2.1 p.2.1.1 p.2.1.2.1 p.2.1.2.2.1 p.2.1.2.2.2.1 p.2.1.2.2.2.2.1).bind fun e => k (.inl (((), e.1, e.2.1, ()), ((e.2.2.1, e.2.2.2.1, e.2.2.2.2.1, e.2.2.2.2.2.1, e.2.2.2.2.2.2, ()), ()))) }
theorem rpair_l1_eq (N n_ : Nat) (lost : Int) (found : Int) (n : Int) (slips : Int) (t : Int) (d : Li) (d2 : Int) (d3 : Ll) (d4 : Ll) (d5 : Li) : ev (Z := Int × Int × Li × Int × Ll × Ll × Li) Try.prog (rpair_sp N) rpair_B [] [rpair_l1_h (rpair_l1 N n_), rpair_l1_e0, rpair_j2_k N (rpair_l1 N n_), rpair_j1_k N (rpair_l1 N n_)] none 400 true rpair_l1_at (stL rpair_l1_st ((lost, found, (), n, slips, t, ()), ((d, d2, d3, d4, d5, ()), ()))) (stH rpair_l1_st ((lost, found, (), n, slips, t, ()), ((d, d2, d3, d4, d5, ()), ()))) = rpair_l1 N (n_ + 1) lost found n slips t d d2 d3 d4 d5 := by kernel_rfl
theorem rpair_l1_ok (N : Nat) {top : Bool} : LoopOK Try.prog rpair_B.c rpair_B.n rpair_B.m0 top (rpair_l1_L N) := loop_of_ev (Z := Int × Int × Li × Int × Ll × Ll × Li) (N := N) (fun m p => rpair_l1 N m p.1.1 p.1.2.1 p.1.2.2.2.1 p.1.2.2.2.2.1 p.1.2.2.2.2.2.1 p.2.1.1 p.2.1.2.1 p.2.1.2.2.1 p.2.1.2.2.2.1 p.2.1.2.2.2.2.1) (fun e => .inl (((), e.1, e.2.1, ()), ((e.2.2.1, e.2.2.2.1, e.2.2.2.2.1, e.2.2.2.2.2.1, e.2.2.2.2.2.2, ()), ()))) (fun _ _ _ => rfl) (fun _ => rfl) (fun m z E Xc hE hX hrec hx => leaf_of_ev (B := rpair_B) (loops := []) (leaves := [rpair_l1_h (rpair_l1 N m), rpair_l1_e0, rpair_j2_k N (rpair_l1 N m), rpair_j1_k N (rpair_l1 N m)]) (rpair_all N) mixed trivial hE hX ⟨hrec, (fun p hp => by obtain rfl := Option.some.inj hp; exact hx), rpair_j2_lf N _ hE hX hrec (fun p hp => by obtain rfl := Option.some.inj hp; exact hx), rpair_j1_lf N _ hE hX hrec (fun p hp => by obtain rfl := Option.some.inj hp; exact hx), trivial⟩ RetOK.no (fun p => rpair_l1_eq N m p.1.1 p.1.2.1 p.1.2.2.2.1 p.1.2.2.2.2.1 p.1.2.2.2.2.2.1 p.2.1.1 p.2.1.2.1 p.2.1.2.2.1 p.2.1.2.2.2.1 p.2.1.2.2.2.2.1))
abbrev rpair_st : Sta := ⟨[0, 1, 2], ⟨[shG, shI, shI], []⟩⟩
theorem rpair_eq (N : Nat) (d : Li) (d2 : Int) (d3 : Ll) (d4 : Ll) (d5 : Li) (lost : Int) (found : Int) : ev (Z := Int × Int × Bool) Try.prog (rpair_sp N) rpair_B [rpair_l1_L N] [] (some rpair_rt) 400 false [.c [0], .c [1]] (stL rpair_st (((d, d2, d3, d4, d5, ()), lost, found, ()), ())) (stH rpair_st (((d, d2, d3, d4, d5, ()), lost, found, ()), ())) = rpair_S N d d2 d3 d4 d5 lost found := by kernel_rfl
noncomputable def sp_rpair (N : Nat) : Spec := { f := 92, ins := ⟨[shG, shI, shI], []⟩, outs := [⟨[shI, shI, .b], []⟩], run := fun p k => (rpair_S N p.1.1.1 p.1.1.2.1 p.1.1.2.2.1 p.1.1.2.2.2.1 p.1.1.2.2.2.2.1 p.1.2.1 p.1.2.2.1).bind fun r => k ((r.1, r.2.1, r.2.2, ()), ()) }
theorem sp_rpair_ok (N : Nat) : SpecOK Try.prog (sp_rpair N) := fn_sound (B := rpair_B) (loops := [rpair_l1_L N]) (leaves := []) (fun p => rpair_S N p.1.1.1 p.1.1.2.1 p.1.1.2.2.1 p.1.1.2.2.2.1 p.1.1.2.2.2.2.1 p.1.2.1 p.1.2.2.1) (fun r => ((r.1, r.2.1, r.2.2, ()), ())) rpair_rt (fun _ _ _ => rfl) (fun r z h => by cases h; rfl) Try.func92 (by kernel_rfl) (by kernel_rfl) (by kernel_rfl) rfl rfl (by kernel_rfl) (fun args w => Sem.pv_run _ _ _ (by kernel_rfl) w) (rpair_all N) mixed ⟨rpair_l1_ok N, trivial⟩ (fun z E Xc hE hX hret => trivial) (fun p => rpair_eq N p.1.1.1 p.1.1.2.1 p.1.1.2.2.1 p.1.1.2.2.2.1 p.1.1.2.2.2.2.1 p.1.2.1 p.1.2.2.1)

def rjoins_l1 (N : Nat) : Nat → Li → Int → Li → Int → Ll → Ll → Li → Option ((Unit) ⊕ (Li × Li × Int × Ll × Ll × Li))
  | 0, _, _, _, _, _, _, _ => none
  | n_ + 1, l, i, d, d2, d3, d4, d5 =>
    br (decide (i < (l.length : Int)))
      (idx l i fun x_2 =>
      chk ((d4.length : Int) - 1) <|
      (off_S N x_2 (-1) ((d4.length : Int) - 1)).bind fun x_3 =>
      br x_3
        (some (.inl ()))
        (chk (i + 1) <|
        rjoins_l1 N n_ l (i + 1) d d2 d3 d4 d5))
      (some (.inr (l, d, d2, d3, d4, d5)))
def rjoins_l3 (N : Nat) : Nat → Li → Int → Int → Li → Int → Ll → Ll → Li → Option ((Unit) ⊕ (Li × Int × Li × Int × Ll × Ll × Li))
  | 0, _, _, _, _, _, _, _, _ => none
  | n_ + 1, l, i, k, d, d2, d3, d4, d5 =>
    br (decide (k < i))
      (idx l i fun x_10 =>
      br (decide (0 ≤ x_10))
        (idx l i fun x_11 =>
        idx l k fun x_12 =>
        br (decide (x_11 = x_12))
          (some (.inl ()))
          (chk (k + 1) <|
          rjoins_l3 N n_ l i (k + 1) d d2 d3 d4 d5))
        (chk (k + 1) <|
        rjoins_l3 N n_ l i (k + 1) d d2 d3 d4 d5))
      (some (.inr (l, i, d, d2, d3, d4, d5)))
def rjoins_l2 (N : Nat) : Nat → Li → Int → Li → Int → Ll → Ll → Li → Option ((Unit) ⊕ (Li × Li × Int × Ll × Ll × Li))
  | 0, _, _, _, _, _, _, _ => none
  | n_ + 1, l, i, d, d2, d3, d4, d5 =>
    br (decide (i < (l.length : Int)))
      ((rjoins_l3 N N l i 0 d d2 d3 d4 d5).bind fun e => match e with
      | .inl _ =>
        some (.inl ())
      | .inr (l_13, i_14, d_15, d2_16, d3_17, d4_18, d5_19) =>
        chk (i_14 + 1) <|
        rjoins_l2 N n_ l_13 (i_14 + 1) d_15 d2_16 d3_17 d4_18 d5_19)
      (some (.inr (l, d, d2, d3, d4, d5)))
def rjoins_j1 (N : Nat) (rec : Li → Int → Li → Int → Ll → Ll → Li → Option ((Unit) ⊕ (Unit))) (l : Li) (i : Int) (d : Li) (d2 : Int) (d3 : Ll) (d4 : Ll) (d5 : Li) : Option ((Unit) ⊕ (Unit)) :=
  chk (i + 1) <|
  rec l (i + 1) d d2 d3 d4 d5
def rjoins_l4 (N : Nat) : Nat → Li → Int → Li → Int → Ll → Ll → Li → Option ((Unit) ⊕ (Unit))
  | 0, _, _, _, _, _, _, _ => none
  | n_ + 1, l, i, d, d2, d3, d4, d5 =>
    br (decide (i < (l.length : Int)))
      (idx l i fun x_26 =>
      br (decide (x_26 < 0))
        (rjoins_j1 N (rjoins_l4 N n_) l i d d2 d3 d4 d5)
        (idx l i fun x_27 =>
        (rpair_S N d d2 d3 d4 d5 i x_27).bind fun (x_28, y_29, y_30) =>
        br (!y_30)
          (some (.inl ()))
          (rjoins_j1 N (rjoins_l4 N n_) l i d d2 d3 d4 d5)))
      (some (.inr ()))
def rjoins_S (N : Nat) (d : Li) (d2 : Int) (d3 : Ll) (d4 : Ll) (d5 : Li) (l : Li) : Option Int :=
  (rcheck_S N d d2 d3 d4 d5).bind fun x_1 =>
  br (!decide (x_1 = 0))
    (some x_1)
    (br (!decide ((l.length : Int) = (d3.length : Int)))
      (some 2)
      ((rjoins_l1 N N l 0 d d2 d3 d4 d5).bind fun e => match e with
      | .inl _ =>
        some 1
      | .inr (l_4, d_5, d2_6, d3_7, d4_8, d5_9) =>
        (rjoins_l2 N N l_4 0 d_5 d2_6 d3_7 d4_8 d5_9).bind fun e => match e with
        | .inl _ =>
          some 5
        | .inr (l_20, d_21, d2_22, d3_23, d4_24, d5_25) =>
          (rjoins_l4 N N l_20 0 d_21 d2_22 d3_23 d4_24 d5_25).bind fun e => match e with
          | .inl _ =>
            some 8
          | .inr _ =>
            some 0))
noncomputable def rjoins_sp (N : Nat) : List Spec := [sp_off N, sp_rcheck N, sp_rpair N]
theorem rjoins_all (N : Nat) : AllP (SpecOK Try.prog) (rjoins_sp N) := ⟨sp_off_ok N, sp_rcheck_ok N, sp_rpair_ok N, trivial⟩
noncomputable def rjoins_c : Code := (Try.f42.body).getD .skip
noncomputable abbrev rjoins_B : Body := { c := rjoins_c, n := 90, res := [.tmp 4], outs := [⟨[shI], []⟩], m0 := 0 }
abbrev rjoins_rt : altD rjoins_B.outs → Option Int := fun r => some r.1.1
abbrev rjoins_l1_at : List PI := [.c [1, 1, 1, 0, 1, 0, 0, 0, 0], .c [1, 1, 1, 0, 1, 0, 0, 0, 1], .c [1, 1, 1, 0, 1, 0, 0, 1], .l [1, 1, 1, 0, 1, 0, 0], .b 0, .c [1, 1, 1, 1]]
abbrev rjoins_l1_st : Sta := ⟨[1, 2, 6], ⟨[shL, .own 0 0, shI], [.segs [shL, shI, shQ, shQ, shL]]⟩⟩
abbrev rjoins_l1_h (rec : Li → Int → Li → Int → Ll → Ll → Li → Option ((Unit) ⊕ (Li × Li × Int × Ll × Ll × Li))) : Leaf ((Unit) ⊕ (Li × Li × Int × Ll × Ll × Li)) := ⟨rjoins_l1_at, rjoins_l1_st, fun p => rec p.1.1 p.1.2.2.1 p.2.1.1 p.2.1.2.1 p.2.1.2.2.1 p.2.1.2.2.2.1 p.2.1.2.2.2.2.1⟩
abbrev rjoins_l1_e0 : Leaf ((Unit) ⊕ (Li × Li × Int × Ll × Ll × Li)) := ⟨[.c [1, 1, 1, 0, 1, 0, 0, 1, 0, 0, 1, 0, 0], .c [1, 1, 1, 0, 1, 0, 0, 1, 0, 0, 1, 0, 1], .b 1, .c [1, 1, 1, 0, 1, 0, 0, 1, 1], .l [1, 1, 1, 0, 1, 0, 0], .b 0, .c [1, 1, 1, 1]], ⟨[], ⟨[], []⟩⟩, fun p => some (.inl ())⟩
abbrev rjoins_l1_e1 : Leaf ((Unit) ⊕ (Li × Li × Int × Ll × Ll × Li)) := ⟨[.c [1, 1, 1, 1, 0, 0], .c [1, 1, 1, 1, 0, 1], .c [1, 1, 1, 1, 1]], ⟨[1, 2], ⟨[shL, .own 0 0], [.segs [shL, shI, shQ, shQ, shL]]⟩⟩, fun p => some (.inr (p.1.1, p.2.1.1, p.2.1.2.1, p.2.1.2.2.1, p.2.1.2.2.2.1, p.2.1.2.2.2.2.1))⟩
noncomputable def rjoins_l1_L (N : Nat) : LoopS := { at_ := rjoins_l1_at, sta := rjoins_l1_st, exits := [([.c [1, 1, 1, 0, 1, 0, 0, 1, 0, 0, 1, 0, 0], .c [1, 1, 1, 0, 1, 0, 0, 1, 0, 0, 1, 0, 1], .b 1, .c [1, 1, 1, 0, 1, 0, 0, 1, 1], .l [1, 1, 1, 0, 1, 0, 0], .b 0, .c [1, 1, 1, 1]], ⟨[], ⟨[], []⟩⟩), ([.c [1, 1, 1, 1, 0, 0], .c [1, 1, 1, 1, 0, 1], .c [1, 1, 1, 1, 1]], ⟨[1, 2], ⟨[shL, .own 0 0], [.segs [shL, shI, shQ, shQ, shL]]⟩⟩)], run := fun p k => (rjoins_l1 N N p.1.1 p.1.2.2.1 p.2.1.1 p.2.1.2.1 p.2.1.2.2.1 p.2.1.2.2.2.1 p.2.1.2.2.2.2.1).bind fun e => match e with | .inl x => k (.inl ((), ())) | .inr x => k (.inr (.inl ((x.1, (), ()), ((x.2.1, x.2.2.1, x.2.2.2.1, x.2.2.2.2.1, x.2.2.2.2.2, ()), ())))) }
theorem rjoins_l1_eq (N n_ : Nat) (l : Li) (i : Int) (d : Li) (d2 : Int) (d3 : Ll) (d4 : Ll) (d5 : Li) : ev (Z := (Unit) ⊕ (Li × Li × Int × Ll × Ll × Li)) Try.prog (rjoins_sp N) rjoins_B [] [rjoins_l1_h (rjoins_l1 N n_), rjoins_l1_e0, rjoins_l1_e1] none 400 true rjoins_l1_at (stL rjoins_l1_st ((l, (), i, ()), ((d, d2, d3, d4, d5, ()), ()))) (stH rjoins_l1_st ((l, (), i, ()), ((d, d2, d3, d4, d5, ()), ()))) = rjoins_l1 N (n_ + 1) l i d d2 d3 d4 d5 := by kernel_rfl
theorem rjoins_l1_ok (N : Nat) {top : Bool} : LoopOK Try.prog rjoins_B.c rjoins_B.n rjoins_B.m0 top (rjoins_l1_L N) := loop_of_ev (Z := (Unit) ⊕ (Li × Li × Int × Ll × Ll × Li)) (N := N) (fun m p => rjoins_l1 N m p.1.1 p.1.2.2.1 p.2.1.1 p.2.1.2.1 p.2.1.2.2.1 p.2.1.2.2.2.1 p.2.1.2.2.2.2.1) (fun e => match e with | .inl x => .inl ((), ()) | .inr x => .inr (.inl ((x.1, (), ()), ((x.2.1, x.2.2.1, x.2.2.2.1, x.2.2.2.2.1, x.2.2.2.2.2, ()), ())))) (fun _ p k => bind_congr_ (rjoins_l1 N N p.1.1 p.1.2.2.1 p.2.1.1 p.2.1.2.1 p.2.1.2.2.1 p.2.1.2.2.2.1 p.2.1.2.2.2.2.1) _ _ (fun e => by rcases e with x | x <;> rfl)) (fun _ => rfl) (fun m z E Xc hE hX hrec hx => leaf_of_ev (B := rjoins_B) (loops := []) (leaves := [rjoins_l1_h (rjoins_l1 N m), rjoins_l1_e0, rjoins_l1_e1]) (rjoins_all N) mixed trivial hE hX ⟨hrec, (fun p hp => by obtain rfl := Option.some.inj hp; exact hx), (fun p hp => by obtain rfl := Option.some.inj hp; exact hx), trivial⟩ RetOK.no (fun p => rjoins_l1_eq N m p.1.1 p.1.2.2.1 p.2.1.1 p.2.1.2.1 p.2.1.2.2.1 p.2.1.2.2.2.1 p.2.1.2.2.2.2.1))
abbrev rjoins_l3_at : List PI := [.c [1, 1, 1, 1, 0, 1, 0, 0, 1, 0, 0, 1, 0, 0, 0, 0], .c [1, 1, 1, 1, 0, 1, 0, 0, 1, 0, 0, 1, 0, 0, 0, 1], .c [1, 1, 1, 1, 0, 1, 0, 0, 1, 0, 0, 1, 0, 0, 1], .l [1, 1, 1, 1, 0, 1, 0, 0, 1, 0, 0, 1, 0, 0], .b 4, .b 3, .c [1, 1, 1, 1, 0, 1, 0, 0, 1, 1], .l [1, 1, 1, 1, 0, 1, 0, 0], .b 2, .c [1, 1, 1, 1, 1]]
abbrev rjoins_l3_st : Sta := ⟨[1, 2, 7, 8], ⟨[shL, .own 0 0, shI, shI], [.segs [shL, shI, shQ, shQ, shL]]⟩⟩
abbrev rjoins_l3_h (rec : Li → Int → Int → Li → Int → Ll → Ll → Li → Option ((Unit) ⊕ (Li × Int × Li × Int × Ll × Ll × Li))) : Leaf ((Unit) ⊕ (Li × Int × Li × Int × Ll × Ll × Li)) := ⟨rjoins_l3_at, rjoins_l3_st, fun p => rec p.1.1 p.1.2.2.1 p.1.2.2.2.1 p.2.1.1 p.2.1.2.1 p.2.1.2.2.1 p.2.1.2.2.2.1 p.2.1.2.2.2.2.1⟩
abbrev rjoins_l3_e0 : Leaf ((Unit) ⊕ (Li × Int × Li × Int × Ll × Ll × Li)) := ⟨[.c [1, 1, 1, 1, 0, 1, 0, 0, 1, 0, 0, 1, 0, 0, 1, 0, 0, 1, 0, 0], .c [1, 1, 1, 1, 0, 1, 0, 0, 1, 0, 0, 1, 0, 0, 1, 0, 0, 1, 0, 1], .b 5, .c [1, 1, 1, 1, 0, 1, 0, 0, 1, 0, 0, 1, 0, 0, 1, 1], .l [1, 1, 1, 1, 0, 1, 0, 0, 1, 0, 0, 1, 0, 0], .b 4, .b 3, .c [1, 1, 1, 1, 0, 1, 0, 0, 1, 1], .l [1, 1, 1, 1, 0, 1, 0, 0], .b 2, .c [1, 1, 1, 1, 1]], ⟨[], ⟨[], []⟩⟩, fun p => some (.inl ())⟩
abbrev rjoins_l3_e1 : Leaf ((Unit) ⊕ (Li × Int × Li × Int × Ll × Ll × Li)) := ⟨[.c [1, 1, 1, 1, 0, 1, 0, 0, 1, 1], .l [1, 1, 1, 1, 0, 1, 0, 0], .b 2, .c [1, 1, 1, 1, 1]], ⟨[1, 2, 7], ⟨[shL, .own 0 0, shI], [.segs [shL, shI, shQ, shQ, shL]]⟩⟩, fun p => some (.inr (p.1.1, p.1.2.2.1, p.2.1.1, p.2.1.2.1, p.2.1.2.2.1, p.2.1.2.2.2.1, p.2.1.2.2.2.2.1))⟩
noncomputable def rjoins_l3_L (N : Nat) : LoopS := { at_ := rjoins_l3_at, sta := rjoins_l3_st, exits := [([.c [1, 1, 1, 1, 0, 1, 0, 0, 1, 0, 0, 1, 0, 0, 1, 0, 0, 1, 0, 0], .c [1, 1, 1, 1, 0, 1, 0, 0, 1, 0, 0, 1, 0, 0, 1, 0, 0, 1, 0, 1], .b 5, .c [1, 1, 1, 1, 0, 1, 0, 0, 1, 0, 0, 1, 0, 0, 1, 1], .l [1, 1, 1, 1, 0, 1, 0, 0, 1, 0, 0, 1, 0, 0], .b 4, .b 3, .c [1, 1, 1, 1, 0, 1, 0, 0, 1, 1], .l [1, 1, 1, 1, 0, 1, 0, 0], .b 2, .c [1, 1, 1, 1, 1]], ⟨[], ⟨[], []⟩⟩), ([.c [1, 1, 1, 1, 0, 1, 0, 0, 1, 1], .l [1, 1, 1, 1, 0, 1, 0, 0], .b 2, .c [1, 1, 1, 1, 1]], ⟨[1, 2, 7], ⟨[shL, .own 0 0, shI], [.segs [shL, shI, shQ, shQ, shL]]⟩⟩)], run := fun p k => (rjoins_l3 N N p.1.1 p.1.2.2.1 p.1.2.2.2.1 p.2.1.1 p.2.1.2.1 p.2.1.2.2.1 p.2.1.2.2.2.1 p.2.1.2.2.2.2.1).bind fun e => match e with | .inl x => k (.inl ((), ())) | .inr x => k (.inr (.inl ((x.1, (), x.2.1, ()), ((x.2.2.1, x.2.2.2.1, x.2.2.2.2.1, x.2.2.2.2.2.1, x.2.2.2.2.2.2, ()), ())))) }
theorem rjoins_l3_eq (N n_ : Nat) (l : Li) (i : Int) (k : Int) (d : Li) (d2 : Int) (d3 : Ll) (d4 : Ll) (d5 : Li) : ev (Z := (Unit) ⊕ (Li × Int × Li × Int × Ll × Ll × Li)) Try.prog (rjoins_sp N) rjoins_B [rjoins_l1_L N] [rjoins_l3_h (rjoins_l3 N n_), rjoins_l3_e0, rjoins_l3_e1] none 400 true rjoins_l3_at (stL rjoins_l3_st ((l, (), i, k, ()), ((d, d2, d3, d4, d5, ()), ()))) (stH rjoins_l3_st ((l, (), i, k, ()), ((d, d2, d3, d4, d5, ()), ()))) = rjoins_l3 N (n_ + 1) l i k d d2 d3 d4 d5 := by kernel_rfl
theorem rjoins_l3_ok (N : Nat) {top : Bool} : LoopOK Try.prog rjoins_B.c rjoins_B.n rjoins_B.m0 top (rjoins_l3_L N) := loop_of_ev (Z := (Unit) ⊕ (Li × Int × Li × Int × Ll × Ll × Li)) (N := N) (fun m p => rjoins_l3 N m p.1.1 p.1.2.2.1 p.1.2.2.2.1 p.2.1.1 p.2.1.2.1 p.2.1.2.2.1 p.2.1.2.2.2.1 p.2.1.2.2.2.2.1) (fun e => match e with | .inl x => .inl ((), ()) | .inr x => .inr (.inl ((x.1, (), x.2.1, ()), ((x.2.2.1, x.2.2.2.1, x.2.2.2.2.1, x.2.2.2.2.2.1, x.2.2.2.2.2.2, ()), ())))) (fun _ p k => bind_congr_ (rjoins_l3 N N p.1.1 p.1.2.2.1 p.1.2.2.2.1 p.2.1.1 p.2.1.2.1 p.2.1.2.2.1 p.2.1.2.2.2.1 p.2.1.2.2.2.2.1) _ _ (fun e => by rcases e with x | x <;> rfl)) (fun _ => rfl) (fun m z E Xc hE hX hrec hx => leaf_of_ev (B := rjoins_B) (loops := [rjoins_l1_L N]) (leaves := [rjoins_l3_h (rjoins_l3 N m), rjoins_l3_e0, rjoins_l3_e1]) (rjoins_all N) mixed ⟨rjoins_l1_ok N, trivial⟩ hE hX ⟨hrec, (fun p hp => by obtain rfl := Option.some.inj hp; exact hx), (fun p hp => by obtain rfl := Option.some.inj hp; exact hx), trivial⟩ RetOK.no (fun p => rjoins_l3_eq N m p.1.1 p.1.2.2.1 p.1.2.2.2.1 p.2.1.1 p.2.1.2.1 p.2.1.2.2.1 p.2.1.2.2.2.1 p.2.1.2.2.2.2.1))
abbrev rjoins_l2_at : List PI := [.c [1, 1, 1, 1, 0, 1, 0, 0, 0, 0], .c [1, 1, 1, 1, 0, 1, 0, 0, 0, 1], .c [1, 1, 1, 1, 0, 1, 0, 0, 1], .l [1, 1, 1, 1, 0, 1, 0, 0], .b 2, .c [1, 1, 1, 1, 1]]
abbrev rjoins_l2_st : Sta := ⟨[1, 2, 7], ⟨[shL, .own 0 0, shI], [.segs [shL, shI, shQ, shQ, shL]]⟩⟩
abbrev rjoins_l2_h (rec : Li → Int → Li → Int → Ll → Ll → Li → Option ((Unit) ⊕ (Li × Li × Int × Ll × Ll × Li))) : Leaf ((Unit) ⊕ (Li × Li × Int × Ll × Ll × Li)) := ⟨rjoins_l2_at, rjoins_l2_st, fun p => rec p.1.1 p.1.2.2.1 p.2.1.1 p.2.1.2.1 p.2.1.2.2.1 p.2.1.2.2.2.1 p.2.1.2.2.2.2.1⟩
abbrev rjoins_l2_e0 : Leaf ((Unit) ⊕ (Li × Li × Int × Ll × Ll × Li)) := ⟨[.c [1, 1, 1, 1, 0, 1, 0, 0, 1, 0, 0, 1, 0, 0, 1, 0, 0, 1, 0, 0], .c [1, 1, 1, 1, 0, 1, 0, 0, 1, 0, 0, 1, 0, 0, 1, 0, 0, 1, 0, 1], .b 5, .c [1, 1, 1, 1, 0, 1, 0, 0, 1, 0, 0, 1, 0, 0, 1, 1], .l [1, 1, 1, 1, 0, 1, 0, 0, 1, 0, 0, 1, 0, 0], .b 4, .b 3, .c [1, 1, 1, 1, 0, 1, 0, 0, 1, 1], .l [1, 1, 1, 1, 0, 1, 0, 0], .b 2, .c [1, 1, 1, 1, 1]], ⟨[], ⟨[], []⟩⟩, fun p => some (.inl ())⟩
abbrev rjoins_l2_e1 : Leaf ((Unit) ⊕ (Li × Li × Int × Ll × Ll × Li)) := ⟨[.c [1, 1, 1, 1, 1, 0, 0], .c [1, 1, 1, 1, 1, 0, 1], .c [1, 1, 1, 1, 1, 1]], ⟨[1, 2], ⟨[shL, .own 0 0], [.segs [shL, shI, shQ, shQ, shL]]⟩⟩, fun p => some (.inr (p.1.1, p.2.1.1, p.2.1.2.1, p.2.1.2.2.1, p.2.1.2.2.2.1, p.2.1.2.2.2.2.1))⟩
noncomputable def rjoins_l2_L (N : Nat) : LoopS := { at_ := rjoins_l2_at, sta := rjoins_l2_st, exits := [([.c [1, 1, 1, 1, 0, 1, 0, 0, 1, 0, 0, 1, 0, 0, 1, 0, 0, 1, 0, 0], .c [1, 1, 1, 1, 0, 1, 0, 0, 1, 0, 0, 1, 0, 0, 1, 0, 0, 1, 0, 1], .b 5, .c [1, 1, 1, 1, 0, 1, 0, 0, 1, 0, 0, 1, 0, 0, 1, 1], .l [1, 1, 1, 1, 0, 1, 0, 0, 1, 0, 0, 1, 0, 0], .b 4, .b 3, .c [1, 1, 1, 1, 0, 1, 0, 0, 1, 1], .l [1, 1, 1, 1, 0, 1, 0, 0], .b 2, .c [1, 1, 1, 1, 1]], ⟨[], ⟨[], []⟩⟩), ([.c [1, 1, 1, 1, 1, 0, 0], .c [1, 1, 1, 1, 1, 0, 1], .c [1, 1, 1, 1, 1, 1]], ⟨[1, 2], ⟨[shL, .own 0 0], [.segs [shL, shI, shQ, shQ, shL]]⟩⟩)], run := fun p k => (rjoins_l2 N N p.1.1 p.1.2.2.1 p.2.1.1 p.2.1.2.1 p.2.1.2.2.1 p.2.1.2.2.2.1 p.2.1.2.2.2.2.1).bind fun e => match e with | .inl x => k (.inl ((), ())) | .inr x => k (.inr (.inl ((x.1, (), ()), ((x.2.1, x.2.2.1, x.2.2.2.1, x.2.2.2.2.1, x.2.2.2.2.2, ()), ())))) }
theorem rjoins_l2_eq (N n_ : Nat) (l : Li) (i : Int) (d : Li) (d2 : Int) (d3 : Ll) (d4 : Ll) (d5 : Li) : ev (Z := (Unit) ⊕ (Li × Li × Int × Ll × Ll × Li)) Try.prog (rjoins_sp N) rjoins_B [rjoins_l1_L N, rjoins_l3_L N] [rjoins_l2_h (rjoins_l2 N n_), rjoins_l2_e0, rjoins_l2_e1] none 400 true rjoins_l2_at (stL rjoins_l2_st ((l, (), i, ()), ((d, d2, d3, d4, d5, ()), ()))) (stH rjoins_l2_st ((l, (), i, ()), ((d, d2, d3, d4, d5, ()), ()))) = rjoins_l2 N (n_ + 1) l i d d2 d3 d4 d5 := by kernel_rfl
theorem rjoins_l2_ok (N : Nat) {top : Bool} : LoopOK Try.prog rjoins_B.c rjoins_B.n rjoins_B.m0 top (rjoins_l2_L N) := loop_of_ev (Z := (Unit) ⊕ (Li × Li × Int × Ll × Ll × Li)) (N := N) (fun m p => rjoins_l2 N m p.1.1 p.1.2.2.1 p.2.1.1 p.2.1.2.1 p.2.1.2.2.1 p.2.1.2.2.2.1 p.2.1.2.2.2.2.1) (fun e => match e with | .inl x => .inl ((), ()) | .inr x => .inr (.inl ((x.1, (), ()), ((x.2.1, x.2.2.1, x.2.2.2.1, x.2.2.2.2.1, x.2.2.2.2.2, ()), ())))) (fun _ p k => bind_congr_ (rjoins_l2 N N p.1.1 p.1.2.2.1 p.2.1.1 p.2.1.2.1 p.2.1.2.2.1 p.2.1.2.2.2.1 p.2.1.2.2.2.2.1) _ _ (fun e => by rcases e with x | x <;> rfl)) (fun _ => rfl) (fun m z E Xc hE hX hrec hx => leaf_of_ev (B := rjoins_B) (loops := [rjoins_l1_L N, rjoins_l3_L N]) (leaves := [rjoins_l2_h (rjoins_l2 N m), rjoins_l2_e0, rjoins_l2_e1]) (rjoins_all N) mixed ⟨rjoins_l1_ok N, rjoins_l3_ok N, trivial⟩ hE hX ⟨hrec, (fun p hp => by obtain rfl := Option.some.inj hp; exact hx), (fun p hp => by obtain rfl := Option.some.inj hp; exact hx), trivial⟩ RetOK.no (fun p => rjoins_l2_eq N m p.1.1 p.1.2.2.1 p.2.1.1 p.2.1.2.1 p.2.1.2.2.1 p.2.1.2.2.2.1 p.2.1.2.2.2.2.1))
abbrev rjoins_l4_at : List PI := [.c [1, 1, 1, 1, 1, 0, 1, 0, 0, 0, 0], .c [1, 1, 1, 1, 1, 0, 1, 0, 0, 0, 1], .c [1, 1, 1, 1, 1, 0, 1, 0, 0, 1], .l [1, 1, 1, 1, 1, 0, 1, 0, 0], .b 6, .c [1, 1, 1, 1, 1, 1]]
abbrev rjoins_l4_st : Sta := ⟨[1, 2, 9], ⟨[shL, .own 0 0, shI], [.segs [shL, shI, shQ, shQ, shL]]⟩⟩
abbrev rjoins_l4_h (rec : Li → Int → Li → Int → Ll → Ll → Li → Option ((Unit) ⊕ (Unit))) : Leaf ((Unit) ⊕ (Unit)) := ⟨rjoins_l4_at, rjoins_l4_st, fun p => rec p.1.1 p.1.2.2.1 p.2.1.1 p.2.1.2.1 p.2.1.2.2.1 p.2.1.2.2.2.1 p.2.1.2.2.2.2.1⟩
abbrev rjoins_l4_e0 : Leaf ((Unit) ⊕ (Unit)) := ⟨[.c [1, 1, 1, 1, 1, 0, 1, 0, 0, 1, 0, 0, 1, 1, 1, 0, 0], .c [1, 1, 1, 1, 1, 0, 1, 0, 0, 1, 0, 0, 1, 1, 1, 0, 1], .b 7, .c [1, 1, 1, 1, 1, 0, 1, 0, 0, 1, 1], .l [1, 1, 1, 1, 1, 0, 1, 0, 0], .b 6, .c [1, 1, 1, 1, 1, 1]], ⟨[], ⟨[], []⟩⟩, fun p => some (.inl ())⟩
abbrev rjoins_l4_e1 : Leaf ((Unit) ⊕ (Unit)) := ⟨[.c [1, 1, 1, 1, 1, 1, 0], .c [1, 1, 1, 1, 1, 1, 1]], ⟨[], ⟨[], []⟩⟩, fun p => some (.inr ())⟩
abbrev rjoins_j1_at : List PI := [.c [1, 1, 1, 1, 1, 0, 1, 0, 0, 1, 1], .l [1, 1, 1, 1, 1, 0, 1, 0, 0], .b 6, .c [1, 1, 1, 1, 1, 1]]
abbrev rjoins_j1_st : Sta := ⟨[1, 2, 9], ⟨[shL, .own 0 0, shI], [.segs [shL, shI, shQ, shQ, shL]]⟩⟩
abbrev rjoins_j1_k (N : Nat) (rec : Li → Int → Li → Int → Ll → Ll → Li → Option ((Unit) ⊕ (Unit))) : Leaf ((Unit) ⊕ (Unit)) := ⟨rjoins_j1_at, rjoins_j1_st, fun p => rjoins_j1 N rec p.1.1 p.1.2.2.1 p.2.1.1 p.2.1.2.1 p.2.1.2.2.1 p.2.1.2.2.2.1 p.2.1.2.2.2.2.1⟩
theorem rjoins_j1_eq (N : Nat) (rec : Li → Int → Li → Int → Ll → Ll → Li → Option ((Unit) ⊕ (Unit))) (l : Li) (i : Int) (d : Li) (d2 : Int) (d3 : Ll) (d4 : Ll) (d5 : Li) : ev (Z := (Unit) ⊕ (Unit)) Try.prog (rjoins_sp N) rjoins_B [rjoins_l1_L N, rjoins_l3_L N, rjoins_l2_L N] [rjoins_l4_h rec, rjoins_l4_e0, rjoins_l4_e1] none 400 true rjoins_j1_at (stL rjoins_j1_st ((l, (), i, ()), ((d, d2, d3, d4, d5, ()), ()))) (stH rjoins_j1_st ((l, (), i, ()), ((d, d2, d3, d4, d5, ()), ()))) = rjoins_j1 N rec l i d d2 d3 d4 d5 := by kernel_rfl
theorem rjoins_j1_lf (N : Nat) (rec : Li → Int → Li → Int → Ll → Ll → Li → Option ((Unit) ⊕ (Unit))) {z : (Unit) ⊕ (Unit)} {top : Bool} {E : EE} {Xc : Ctx} (hE : EOK rjoins_B.m0 E) (hX : CxOK top Xc) (hrec : LeafOK Try.prog rjoins_B.c rjoins_B.n rjoins_B.m0 E Xc z (rjoins_l4_h rec)) (h0 : LeafOK Try.prog rjoins_B.c rjoins_B.n rjoins_B.m0 E Xc z rjoins_l4_e0) (h1 : LeafOK Try.prog rjoins_B.c rjoins_B.n rjoins_B.m0 E Xc z rjoins_l4_e1) : LeafOK Try.prog rjoins_B.c rjoins_B.n rjoins_B.m0 E Xc z (rjoins_j1_k N rec) := leaf_of_ev (B := rjoins_B) (loops := [rjoins_l1_L N, rjoins_l3_L N, rjoins_l2_L N]) (leaves := [rjoins_l4_h rec, rjoins_l4_e0, rjoins_l4_e1]) (rjoins_all N) mixed ⟨rjoins_l1_ok N, rjoins_l3_ok N, rjoins_l2_ok N, trivial⟩ hE hX ⟨hrec, h0, h1, trivial⟩ RetOK.no (fun p => rjoins_j1_eq N rec p.1.1 p.1.2.2.1 p.2.1.1 p.2.1.2.1 p.2.1.2.2.1 p.2.1.2.2.2.1 p.2.1.2.2.2.2.1)
noncomputable def rjoins_l4_L (N : Nat) : LoopS := { at_ := rjoins_l4_at, sta := rjoins_l4_st, exits := [([.c [1, 1, 1, 1, 1, 0, 1, 0, 0, 1, 0, 0, 1, 1, 1, 0, 0], .c [1, 1, 1, 1, 1, 0, 1, 0, 0, 1, 0, 0, 1, 1, 1, 0, 1], .b 7, .c [1, 1, 1, 1, 1, 0, 1, 0, 0, 1, 1], .l [1, 1, 1, 1, 1, 0, 1, 0, 0], .b 6, .c [1, 1, 1, 1, 1, 1]], ⟨[], ⟨[], []⟩⟩), ([.c [1, 1, 1, 1, 1, 1, 0], .c [1, 1, 1, 1, 1, 1, 1]], ⟨[], ⟨[], []⟩⟩)], run := fun p k => (rjoins_l4 N N p.1.1 p.1.2.2.1 p.2.1.1 p.2.1.2.1 p.2.1.2.2.1 p.2.1.2.2.2.1 p.2.1.2.2.2.2.1).bind fun e => match e with | .inl x => k (.inl ((), ())) | .inr x => k (.inr (.inl ((), ()))) }
theorem rjoins_l4_eq (N n_ : Nat) (l : Li) (i : Int) (d : Li) (d2 : Int) (d3 : Ll) (d4 : Ll) (d5 : Li) : ev (Z := (Unit) ⊕ (Unit)) Try.prog (rjoins_sp N) rjoins_B [rjoins_l1_L N, rjoins_l3_L N, rjoins_l2_L N] [rjoins_l4_h (rjoins_l4 N n_), rjoins_l4_e0, rjoins_l4_e1, rjoins_j1_k N (rjoins_l4 N n_)] none 400 true rjoins_l4_at (stL rjoins_l4_st ((l, (), i, ()), ((d, d2, d3, d4, d5, ()), ()))) (stH rjoins_l4_st ((l, (), i, ()), ((d, d2, d3, d4, d5, ()), ()))) = rjoins_l4 N (n_ + 1) l i d d2 d3 d4 d5 := by kernel_rfl
theorem rjoins_l4_ok (N : Nat) {top : Bool} : LoopOK Try.prog rjoins_B.c rjoins_B.n rjoins_B.m0 top (rjoins_l4_L N) := loop_of_ev (Z := (Unit) ⊕ (Unit)) (N := N) (fun m p => rjoins_l4 N m p.1.1 p.1.2.2.1 p.2.1.1 p.2.1.2.1 p.2.1.2.2.1 p.2.1.2.2.2.1 p.2.1.2.2.2.2.1) (fun e => match e with | .inl x => .inl ((), ()) | .inr x => .inr (.inl ((), ()))) (fun _ p k => bind_congr_ (rjoins_l4 N N p.1.1 p.1.2.2.1 p.2.1.1 p.2.1.2.1 p.2.1.2.2.1 p.2.1.2.2.2.1 p.2.1.2.2.2.2.1) _ _ (fun e => by rcases e with x | x <;> rfl)) (fun _ => rfl) (fun m z E Xc hE hX hrec hx => leaf_of_ev (B := rjoins_B) (loops := [rjoins_l1_L N, rjoins_l3_L N, rjoins_l2_L N]) (leaves := [rjoins_l4_h (rjoins_l4 N m), rjoins_l4_e0, rjoins_l4_e1, rjoins_j1_k N (rjoins_l4 N m)]) (rjoins_all N) mixed ⟨rjoins_l1_ok N, rjoins_l3_ok N, rjoins_l2_ok N, trivial⟩ hE hX ⟨hrec, (fun p hp => by obtain rfl := Option.some.inj hp; exact hx), (fun p hp => by obtain rfl := Option.some.inj hp; exact hx), rjoins_j1_lf N _ hE hX hrec (fun p hp => by obtain rfl := Option.some.inj hp; exact hx) (fun p hp => by obtain rfl := Option.some.inj hp; exact hx), trivial⟩ RetOK.no (fun p => rjoins_l4_eq N m p.1.1 p.1.2.2.1 p.2.1.1 p.2.1.2.1 p.2.1.2.2.1 p.2.1.2.2.2.1 p.2.1.2.2.2.2.1))
abbrev rjoins_st : Sta := ⟨[0, 1], ⟨[shG, shL], []⟩⟩
theorem rjoins_eq (N : Nat) (d : Li) (d2 : Int) (d3 : Ll) (d4 : Ll) (d5 : Li) (l : Li) : ev (Z := Int) Try.prog (rjoins_sp N) rjoins_B [rjoins_l1_L N, rjoins_l3_L N, rjoins_l2_L N, rjoins_l4_L N] [] (some rjoins_rt) 400 false [.c [0], .c [1]] (stL rjoins_st (((d, d2, d3, d4, d5, ()), l, ()), ())) (stH rjoins_st (((d, d2, d3, d4, d5, ()), l, ()), ())) = rjoins_S N d d2 d3 d4 d5 l := by kernel_rfl
noncomputable def sp_rjoins (N : Nat) : Spec := { f := 42, ins := ⟨[shG, shL], []⟩, outs := [⟨[shI], []⟩], run := fun p k => (rjoins_S N p.1.1.1 p.1.1.2.1 p.1.1.2.2.1 p.1.1.2.2.2.1 p.1.1.2.2.2.2.1 p.1.2.1).bind fun r => k ((r, ()), ()) }
theorem sp_rjoins_ok (N : Nat) : SpecOK Try.prog (sp_rjoins N) := fn_sound (B := rjoins_B) (loops := [rjoins_l1_L N, rjoins_l3_L N, rjoins_l2_L N, rjoins_l4_L N]) (leaves := []) (fun p => rjoins_S N p.1.1.1 p.1.1.2.1 p.1.1.2.2.1 p.1.1.2.2.2.1 p.1.1.2.2.2.2.1 p.1.2.1) (fun r => ((r, ()), ())) rjoins_rt (fun _ _ _ => rfl) (fun r z h => by cases h; rfl) Try.func42 (by kernel_rfl) (by kernel_rfl) (by kernel_rfl) rfl rfl (by kernel_rfl) (fun args w => Sem.pv_run _ _ _ (by kernel_rfl) w) (rjoins_all N) mixed ⟨rjoins_l1_ok N, rjoins_l3_ok N, rjoins_l2_ok N, rjoins_l4_ok N, trivial⟩ (fun z E Xc hE hX hret => trivial) (fun p => rjoins_eq N p.1.1.1 p.1.1.2.1 p.1.1.2.2.1 p.1.1.2.2.2.1 p.1.1.2.2.2.2.1 p.1.2.1)

def rworth_j1 (N : Nat) (rec : Li → Int → Int → Li → Int → Ll → Ll → Li → Option Int) (l : Li) (sum : Int) (i : Int) (d : Li) (d2 : Int) (d3 : Ll) (d4 : Ll) (d5 : Li) : Option Int :=
  chk (i + 1) <|
  rec l sum (i + 1) d d2 d3 d4 d5
def rworth_l1 (N : Nat) : Nat → Li → Int → Int → Li → Int → Ll → Ll → Li → Option Int
  | 0, _, _, _, _, _, _, _, _ => none
  | n_ + 1, l, sum, i, d, d2, d3, d4, d5 =>
    br (decide (i < (l.length : Int)))
      (idx l i fun x_1 =>
      br (decide (0 ≤ x_1))
        (idx l i fun x_2 =>
        (rpair_S N d d2 d3 d4 d5 i x_2).bind fun (x_3, y_4, y_5) =>
        chk (sum + x_3) <|
        rworth_j1 N (rworth_l1 N n_) l (sum + x_3) i d d2 d3 d4 d5)
        (rworth_j1 N (rworth_l1 N n_) l sum i d d2 d3 d4 d5))
      (some (sum))
def rworth_S (N : Nat) (d : Li) (d2 : Int) (d3 : Ll) (d4 : Ll) (d5 : Li) (l : Li) : Option Int :=
  (rworth_l1 N N l 0 0 d d2 d3 d4 d5).bind fun sum_6 =>
  some sum_6
noncomputable def rworth_sp (N : Nat) : List Spec := [sp_rpair N]
theorem rworth_all (N : Nat) : AllP (SpecOK Try.prog) (rworth_sp N) := ⟨sp_rpair_ok N, trivial⟩
noncomputable def rworth_c : Code := (Try.f43.body).getD .skip
noncomputable abbrev rworth_B : Body := { c := rworth_c, n := 36, res := [.tmp 4], outs := [⟨[shI], []⟩], m0 := 0 }
abbrev rworth_rt : altD rworth_B.outs → Option Int := fun r => some r.1.1
abbrev rworth_l1_at : List PI := [.c [1, 1, 0, 1, 0, 0, 0, 0], .c [1, 1, 0, 1, 0, 0, 0, 1], .c [1, 1, 0, 1, 0, 0, 1], .l [1, 1, 0, 1, 0, 0], .b 0, .c [1, 1, 1]]
abbrev rworth_l1_st : Sta := ⟨[1, 2, 5, 6], ⟨[shL, .own 0 0, shI, shI], [.segs [shL, shI, shQ, shQ, shL]]⟩⟩
abbrev rworth_l1_h (rec : Li → Int → Int → Li → Int → Ll → Ll → Li → Option Int) : Leaf Int := ⟨rworth_l1_at, rworth_l1_st, fun p => rec p.1.1 p.1.2.2.1 p.1.2.2.2.1 p.2.1.1 p.2.1.2.1 p.2.1.2.2.1 p.2.1.2.2.2.1 p.2.1.2.2.2.2.1⟩
abbrev rworth_l1_e0 : Leaf Int := ⟨[.c [1, 1, 1, 0], .c [1, 1, 1, 1]], ⟨[5], ⟨[shI], []⟩⟩, fun p => some (p.1.1)⟩
abbrev rworth_j1_at : List PI := [.c [1, 1, 0, 1, 0, 0, 1, 1], .l [1, 1, 0, 1, 0, 0], .b 0, .c [1, 1, 1]]
abbrev rworth_j1_st : Sta := ⟨[1, 2, 5, 6], ⟨[shL, .own 0 0, shI, shI], [.segs [shL, shI, shQ, shQ, shL]]⟩⟩
abbrev rworth_j1_k (N : Nat) (rec : Li → Int → Int → Li → Int → Ll → Ll → Li → Option Int) : Leaf Int := ⟨rworth_j1_at, rworth_j1_st, fun p => rworth_j1 N rec p.1.1 p.1.2.2.1 p.1.2.2.2.1 p.2.1.1 p.2.1.2.1 p.2.1.2.2.1 p.2.1.2.2.2.1 p.2.1.2.2.2.2.1⟩
theorem rworth_j1_eq (N : Nat) (rec : Li → Int → Int → Li → Int → Ll → Ll → Li → Option Int) (l : Li) (sum : Int) (i : Int) (d : Li) (d2 : Int) (d3 : Ll) (d4 : Ll) (d5 : Li) : ev (Z := Int) Try.prog (rworth_sp N) rworth_B [] [rworth_l1_h rec, rworth_l1_e0] none 400 true rworth_j1_at (stL rworth_j1_st ((l, (), sum, i, ()), ((d, d2, d3, d4, d5, ()), ()))) (stH rworth_j1_st ((l, (), sum, i, ()), ((d, d2, d3, d4, d5, ()), ()))) = rworth_j1 N rec l sum i d d2 d3 d4 d5 := by kernel_rfl
theorem rworth_j1_lf (N : Nat) (rec : Li → Int → Int → Li → Int → Ll → Ll → Li → Option Int) {z : Int} {top : Bool} {E : EE} {Xc : Ctx} (hE : EOK rworth_B.m0 E) (hX : CxOK top Xc) (hrec : LeafOK Try.prog rworth_B.c rworth_B.n rworth_B.m0 E Xc z (rworth_l1_h rec)) (h0 : LeafOK Try.prog rworth_B.c rworth_B.n rworth_B.m0 E Xc z rworth_l1_e0) : LeafOK Try.prog rworth_B.c rworth_B.n rworth_B.m0 E Xc z (rworth_j1_k N rec) := leaf_of_ev (B := rworth_B) (loops := []) (leaves := [rworth_l1_h rec, rworth_l1_e0]) (rworth_all N) mixed trivial hE hX ⟨hrec, h0, trivial⟩ RetOK.no (fun p => rworth_j1_eq N rec p.1.1 p.1.2.2.1 p.1.2.2.2.1 p.2.1.1 p.2.1.2.1 p.2.1.2.2.1 p.2.1.2.2.2.1 p.2.1.2.2.2.2.1)
noncomputable def rworth_l1_L (N : Nat) : LoopS := { at_ := rworth_l1_at, sta := rworth_l1_st, exits := [([.c [1, 1, 1, 0], .c [1, 1, 1, 1]], ⟨[5], ⟨[shI], []⟩⟩)], run := fun p k => (rworth_l1 N N p.1.1 p.1.2.2.1 p.1.2.2.2.1 p.2.1.1 p.2.1.2.1 p.2.1.2.2.1 p.2.1.2.2.2.1 p.2.1.2.2.2.2.1).bind fun e => k (.inl ((e, ()), ())) }
theorem rworth_l1_eq (N n_ : Nat) (l : Li) (sum : Int) (i : Int) (d : Li) (d2 : Int) (d3 : Ll) (d4 : Ll) (d5 : Li) : ev (Z := Int) Try.prog (rworth_sp N) rworth_B [] [rworth_l1_h (rworth_l1 N n_), rworth_l1_e0, rworth_j1_k N (rworth_l1 N n_)] none 400 true rworth_l1_at (stL rworth_l1_st ((l, (), sum, i, ()), ((d, d2, d3, d4, d5, ()), ()))) (stH rworth_l1_st ((l, (), sum, i, ()), ((d, d2, d3, d4, d5, ()), ()))) = rworth_l1 N (n_ + 1) l sum i d d2 d3 d4 d5 := by kernel_rfl
theorem rworth_l1_ok (N : Nat) {top : Bool} : LoopOK Try.prog rworth_B.c rworth_B.n rworth_B.m0 top (rworth_l1_L N) := loop_of_ev (Z := Int) (N := N) (fun m p => rworth_l1 N m p.1.1 p.1.2.2.1 p.1.2.2.2.1 p.2.1.1 p.2.1.2.1 p.2.1.2.2.1 p.2.1.2.2.2.1 p.2.1.2.2.2.2.1) (fun e => .inl ((e, ()), ())) (fun _ _ _ => rfl) (fun _ => rfl) (fun m z E Xc hE hX hrec hx => leaf_of_ev (B := rworth_B) (loops := []) (leaves := [rworth_l1_h (rworth_l1 N m), rworth_l1_e0, rworth_j1_k N (rworth_l1 N m)]) (rworth_all N) mixed trivial hE hX ⟨hrec, (fun p hp => by obtain rfl := Option.some.inj hp; exact hx), rworth_j1_lf N _ hE hX hrec (fun p hp => by obtain rfl := Option.some.inj hp; exact hx), trivial⟩ RetOK.no (fun p => rworth_l1_eq N m p.1.1 p.1.2.2.1 p.1.2.2.2.1 p.2.1.1 p.2.1.2.1 p.2.1.2.2.1 p.2.1.2.2.2.1 p.2.1.2.2.2.2.1))
abbrev rworth_st : Sta := ⟨[0, 1], ⟨[shG, shL], []⟩⟩
theorem rworth_eq (N : Nat) (d : Li) (d2 : Int) (d3 : Ll) (d4 : Ll) (d5 : Li) (l : Li) : ev (Z := Int) Try.prog (rworth_sp N) rworth_B [rworth_l1_L N] [] (some rworth_rt) 400 false [.c [0], .c [1]] (stL rworth_st (((d, d2, d3, d4, d5, ()), l, ()), ())) (stH rworth_st (((d, d2, d3, d4, d5, ()), l, ()), ())) = rworth_S N d d2 d3 d4 d5 l := by kernel_rfl
noncomputable def sp_rworth (N : Nat) : Spec := { f := 43, ins := ⟨[shG, shL], []⟩, outs := [⟨[shI], []⟩], run := fun p k => (rworth_S N p.1.1.1 p.1.1.2.1 p.1.1.2.2.1 p.1.1.2.2.2.1 p.1.1.2.2.2.2.1 p.1.2.1).bind fun r => k ((r, ()), ()) }
theorem sp_rworth_ok (N : Nat) : SpecOK Try.prog (sp_rworth N) := fn_sound (B := rworth_B) (loops := [rworth_l1_L N]) (leaves := []) (fun p => rworth_S N p.1.1.1 p.1.1.2.1 p.1.1.2.2.1 p.1.1.2.2.2.1 p.1.1.2.2.2.2.1 p.1.2.1) (fun r => ((r, ()), ())) rworth_rt (fun _ _ _ => rfl) (fun r z h => by cases h; rfl) Try.func43 (by kernel_rfl) (by kernel_rfl) (by kernel_rfl) rfl rfl (by kernel_rfl) (fun args w => Sem.pv_run _ _ _ (by kernel_rfl) w) (rworth_all N) mixed ⟨rworth_l1_ok N, trivial⟩ (fun z E Xc hE hX hret => trivial) (fun p => rworth_eq N p.1.1.1 p.1.1.2.1 p.1.1.2.2.1 p.1.1.2.2.2.1 p.1.1.2.2.2.2.1 p.1.2.1)

noncomputable abbrev lists_self (self : Int → Int → Option Ll) : Spec := { f := 125, ins := ⟨[shI, shI], []⟩, outs := [⟨[.ols 0], [.lst (.sl (.int .i64))]⟩], run := fun p k => (self p.1.1 p.1.2.1).bind fun r => k (((), ()), (r, ())) }
def lists_l2 (N : Nat) (self : Int → Int → Option Ll) : Nat → Int → Int → Int → Ll → Ll → Option (Int × Int × Ll × Ll)
  | 0, _, _, _, _, _ => none
  | n_ + 1, many, i, k, out, rest =>
    br (decide (k < many))
      (rng i rest.length <|
      get rest i.toNat fun x_2 =>
      lim (([] : Li).length + x_2.length) <|
      lim ((([] : Li) ++ x_2).length + [k].length) <|
      lim (out.length + ([((([] : Li) ++ x_2) ++ [k])]).length) <|
      chk (k + 1) <|
      lists_l2 N self n_ many i (k + 1) (out ++ [((([] : Li) ++ x_2) ++ [k])]) rest)
      (some ((many, i, out, rest)))
def lists_l1 (N : Nat) (self : Int → Int → Option Ll) : Nat → Int → Int → Ll → Ll → Option Ll
  | 0, _, _, _, _ => none
  | n_ + 1, many, i, out, rest =>
    br (decide (i < (rest.length : Int)))
      ((lists_l2 N self N many i (-1) out rest).bind fun (many_3, i_4, out_5, rest_6) =>
      chk (i_4 + 1) <|
      lists_l1 N self n_ many_3 (i_4 + 1) out_5 rest_6)
      (some (out))
def lists_S (N : Nat) (self : Int → Int → Option Ll) (long : Int) (many : Int) : Option Ll :=
  br (decide (long = 0))
    (some ([[]]))
    (chk (long - 1) <|
    (self (long - 1) many).bind fun x_1 =>
    (lists_l1 N self N many 0 [] x_1).bind fun out_7 =>
    some out_7)
noncomputable def lists_sp (N : Nat) (self : Int → Int → Option Ll) : List Spec := [lists_self self]
theorem lists_all (N : Nat) (self : Int → Int → Option Ll) (hself : SpecOK Try.prog (lists_self self)) : AllP (SpecOK Try.prog) (lists_sp N self) := ⟨hself, trivial⟩
noncomputable def lists_c : Code := (Try.f125.body).getD .skip
noncomputable abbrev lists_B : Body := { c := lists_c, n := 40, res := [.tmp 4], outs := [⟨[.ols 0], [.lst (.sl (.int .i64))]⟩], m0 := 0 }
abbrev lists_rt : altD lists_B.outs → Option Ll := fun r => some r.2.1
abbrev lists_l2_at : List PI := [.c [1, 1, 1, 1, 0, 1, 0, 0, 1, 0, 0, 1, 0, 0, 0, 0], .c [1, 1, 1, 1, 0, 1, 0, 0, 1, 0, 0, 1, 0, 0, 0, 1], .c [1, 1, 1, 1, 0, 1, 0, 0, 1, 0, 0, 1, 0, 0, 1], .l [1, 1, 1, 1, 0, 1, 0, 0, 1, 0, 0, 1, 0, 0], .b 2, .b 1, .c [1, 1, 1, 1, 0, 1, 0, 0, 1, 1], .l [1, 1, 1, 1, 0, 1, 0, 0], .b 0, .c [1, 1, 1, 1, 1]]
abbrev lists_l2_st : Sta := ⟨[1, 5, 6, 7, 8], ⟨[shI, .ols 0, .ols 1, shI, shI], [.lst (.sl (.int .i64)), .lst (.sl (.int .i64))]⟩⟩
abbrev lists_l2_h (rec : Int → Int → Int → Ll → Ll → Option (Int × Int × Ll × Ll)) : Leaf (Int × Int × Ll × Ll) := ⟨lists_l2_at, lists_l2_st, fun p => rec p.1.1 p.1.2.2.2.1 p.1.2.2.2.2.1 p.2.1 p.2.2.1⟩
abbrev lists_l2_e0 : Leaf (Int × Int × Ll × Ll) := ⟨[.c [1, 1, 1, 1, 0, 1, 0, 0, 1, 1], .l [1, 1, 1, 1, 0, 1, 0, 0], .b 0, .c [1, 1, 1, 1, 1]], ⟨[1, 5, 6, 7], ⟨[shI, .ols 0, .ols 1, shI], [.lst (.sl (.int .i64)), .lst (.sl (.int .i64))]⟩⟩, fun p => some ((p.1.1, p.1.2.2.2.1, p.2.1, p.2.2.1))⟩
noncomputable def lists_l2_L (N : Nat) (self : Int → Int → Option Ll) : LoopS := { at_ := lists_l2_at, sta := lists_l2_st, exits := [([.c [1, 1, 1, 1, 0, 1, 0, 0, 1, 1], .l [1, 1, 1, 1, 0, 1, 0, 0], .b 0, .c [1, 1, 1, 1, 1]], ⟨[1, 5, 6, 7], ⟨[shI, .ols 0, .ols 1, shI], [.lst (.sl (.int .i64)), .lst (.sl (.int .i64))]⟩⟩)], run := fun p k => (lists_l2 N self N p.1.1 p.1.2.2.2.1 p.1.2.2.2.2.1 p.2.1 p.2.2.1).bind fun e => k (.inl ((e.1, (), (), e.2.1, ()), (e.2.2.1, e.2.2.2, ()))) }
theorem lists_l2_eq (N : Nat) (self : Int → Int → Option Ll) (n_ : Nat) (many : Int) (i : Int) (k : Int) (out : Ll) (rest : Ll) : ev (Z := Int × Int × Ll × Ll) Try.prog (lists_sp N self) lists_B [] [lists_l2_h (lists_l2 N self n_), lists_l2_e0] none 400 true lists_l2_at (stL lists_l2_st ((many, (), (), i, k, ()), (out, rest, ()))) (stH lists_l2_st ((many, (), (), i, k, ()), (out, rest, ()))) = lists_l2 N self (n_ + 1) many i k out rest := by kernel_rfl
theorem lists_l2_ok (N : Nat) (self : Int → Int → Option Ll) (hself : SpecOK Try.prog (lists_self self)) {top : Bool} : LoopOK Try.prog lists_B.c lists_B.n lists_B.m0 top (lists_l2_L N self) := loop_of_ev (Z := Int × Int × Ll × Ll) (N := N) (fun m p => lists_l2 N self m p.1.1 p.1.2.2.2.1 p.1.2.2.2.2.1 p.2.1 p.2.2.1) (fun e => .inl ((e.1, (), (), e.2.1, ()), (e.2.2.1, e.2.2.2, ()))) (fun _ _ _ => rfl) (fun _ => rfl) (fun m z E Xc hE hX hrec hx => leaf_of_ev (B := lists_B) (loops := []) (leaves := [lists_l2_h (lists_l2 N self m), lists_l2_e0]) (lists_all N self hself) mixed trivial hE hX ⟨hrec, (fun p hp => by obtain rfl := Option.some.inj hp; exact hx), trivial⟩ RetOK.no (fun p => lists_l2_eq N self m p.1.1 p.1.2.2.2.1 p.1.2.2.2.2.1 p.2.1 p.2.2.1))
abbrev lists_l1_at : List PI := [.c [1, 1, 1, 1, 0, 1, 0, 0, 0, 0], .c [1, 1, 1, 1, 0, 1, 0, 0, 0, 1], .c [1, 1, 1, 1, 0, 1, 0, 0, 1], .l [1, 1, 1, 1, 0, 1, 0, 0], .b 0, .c [1, 1, 1, 1, 1]]
abbrev lists_l1_st : Sta := ⟨[1, 5, 6, 7], ⟨[shI, .ols 0, .ols 1, shI], [.lst (.sl (.int .i64)), .lst (.sl (.int .i64))]⟩⟩
abbrev lists_l1_h (rec : Int → Int → Ll → Ll → Option Ll) : Leaf Ll := ⟨lists_l1_at, lists_l1_st, fun p => rec p.1.1 p.1.2.2.2.1 p.2.1 p.2.2.1⟩
abbrev lists_l1_e0 : Leaf Ll := ⟨[.c [1, 1, 1, 1, 1, 0], .c [1, 1, 1, 1, 1, 1]], ⟨[5], ⟨[.ols 0], [.lst (.sl (.int .i64))]⟩⟩, fun p => some (p.2.1)⟩
noncomputable def lists_l1_L (N : Nat) (self : Int → Int → Option Ll) : LoopS := { at_ := lists_l1_at, sta := lists_l1_st, exits := [([.c [1, 1, 1, 1, 1, 0], .c [1, 1, 1, 1, 1, 1]], ⟨[5], ⟨[.ols 0], [.lst (.sl (.int .i64))]⟩⟩)], run := fun p k => (lists_l1 N self N p.1.1 p.1.2.2.2.1 p.2.1 p.2.2.1).bind fun e => k (.inl (((), ()), (e, ()))) }
theorem lists_l1_eq (N : Nat) (self : Int → Int → Option Ll) (n_ : Nat) (many : Int) (i : Int) (out : Ll) (rest : Ll) : ev (Z := Ll) Try.prog (lists_sp N self) lists_B [lists_l2_L N self] [lists_l1_h (lists_l1 N self n_), lists_l1_e0] none 400 true lists_l1_at (stL lists_l1_st ((many, (), (), i, ()), (out, rest, ()))) (stH lists_l1_st ((many, (), (), i, ()), (out, rest, ()))) = lists_l1 N self (n_ + 1) many i out rest := by kernel_rfl
theorem lists_l1_ok (N : Nat) (self : Int → Int → Option Ll) (hself : SpecOK Try.prog (lists_self self)) {top : Bool} : LoopOK Try.prog lists_B.c lists_B.n lists_B.m0 top (lists_l1_L N self) := loop_of_ev (Z := Ll) (N := N) (fun m p => lists_l1 N self m p.1.1 p.1.2.2.2.1 p.2.1 p.2.2.1) (fun e => .inl (((), ()), (e, ()))) (fun _ _ _ => rfl) (fun _ => rfl) (fun m z E Xc hE hX hrec hx => leaf_of_ev (B := lists_B) (loops := [lists_l2_L N self]) (leaves := [lists_l1_h (lists_l1 N self m), lists_l1_e0]) (lists_all N self hself) mixed ⟨lists_l2_ok N self hself, trivial⟩ hE hX ⟨hrec, (fun p hp => by obtain rfl := Option.some.inj hp; exact hx), trivial⟩ RetOK.no (fun p => lists_l1_eq N self m p.1.1 p.1.2.2.2.1 p.2.1 p.2.2.1))
abbrev lists_st : Sta := ⟨[0, 1], ⟨[shI, shI], []⟩⟩
theorem lists_eq (N : Nat) (self : Int → Int → Option Ll) (long : Int) (many : Int) : ev (Z := Ll) Try.prog (lists_sp N self) lists_B [lists_l2_L N self, lists_l1_L N self] [] (some lists_rt) 400 false [.c [0], .c [1]] (stL lists_st ((long, many, ()), ())) (stH lists_st ((long, many, ()), ())) = lists_S N self long many := by kernel_rfl
theorem lists_self_ok (N : Nat) (self : Int → Int → Option Ll) (hself : SpecOK Try.prog (lists_self self)) : SpecOK Try.prog (lists_self (lists_S N self)) := fn_sound (B := lists_B) (loops := [lists_l2_L N self, lists_l1_L N self]) (leaves := []) (fun p => lists_S N self p.1.1 p.1.2.1) (fun r => (((), ()), (r, ()))) lists_rt (fun _ _ _ => rfl) (fun r z h => by cases h; rfl) Try.func125 (by kernel_rfl) (by kernel_rfl) (by kernel_rfl) rfl rfl (by kernel_rfl) (fun args w => Sem.pv_run _ _ _ (by kernel_rfl) w) (lists_all N self hself) mixed ⟨lists_l2_ok N self hself, lists_l1_ok N self hself, trivial⟩ (fun z E Xc hE hX hret => trivial) (fun p => lists_eq N self p.1.1 p.1.2.1)
def lists_R (N : Nat) : Nat → Int → Int → Option Ll
  | 0 => fun _ _ => none
  | n + 1 => lists_S N (lists_R N n)
theorem lists_R_ok (N : Nat) : ∀ n, SpecOK Try.prog (lists_self (lists_R N n))
  | 0 => SpecOK.none (fun _ _ _ => rfl) (fun args w => Sem.pv_run _ _ _ (by kernel_rfl) w)
  | n + 1 => lists_self_ok N (lists_R N n) (lists_R_ok N n)
noncomputable abbrev sp_lists (N : Nat) : Spec := lists_self (lists_R N N)
theorem sp_lists_ok (N : Nat) : SpecOK Try.prog (sp_lists N) := lists_R_ok N N

def all_j1 (N : Nat) (rec : Int → Li → Int → Ll → Ll → Li → Ll → Ll → Option Ll) (i : Int) (d : Li) (d2 : Int) (d3 : Ll) (d4 : Ll) (d5 : Li) (out : Ll) (l : Ll) : Option Ll :=
  chk (i + 1) <|
  rec (i + 1) d d2 d3 d4 d5 out l
def all_l1 (N : Nat) : Nat → Int → Li → Int → Ll → Ll → Li → Ll → Ll → Option Ll
  | 0, _, _, _, _, _, _, _, _ => none
  | n_ + 1, i, d, d2, d3, d4, d5, out, l =>
    br (decide (i < (l.length : Int)))
      (rng i l.length <|
      get l i.toNat fun x_2 =>
      (rjoins_S N d d2 d3 d4 d5 x_2).bind fun x_3 =>
      br (decide (x_3 = 0))
        (rng i l.length <|
        get l i.toNat fun x_4 =>
        lim (out.length + [x_4].length) <|
        all_j1 N (all_l1 N n_) i d d2 d3 d4 d5 (out ++ [x_4]) l)
        (all_j1 N (all_l1 N n_) i d d2 d3 d4 d5 out l))
      (some (out))
def all_S (N : Nat) (d : Li) (d2 : Int) (d3 : Ll) (d4 : Ll) (d5 : Li) : Option Ll :=
  (lists_R N N (d3.length : Int) (d4.length : Int)).bind fun x_1 =>
  (all_l1 N N 0 d d2 d3 d4 d5 [] x_1).bind fun out_5 =>
  some out_5
noncomputable def all_sp (N : Nat) : List Spec := [sp_rjoins N, sp_lists N]
theorem all_all (N : Nat) : AllP (SpecOK Try.prog) (all_sp N) := ⟨sp_rjoins_ok N, sp_lists_ok N, trivial⟩
noncomputable def all_c : Code := (Try.f99.body).getD .skip
noncomputable abbrev all_B : Body := { c := all_c, n := 34, res := [.tmp 2], outs := [⟨[shQ], []⟩], m0 := 0 }
abbrev all_rt : altD all_B.outs → Option Ll := fun r => some r.1.1
abbrev all_l1_at : List PI := [.c [1, 1, 1, 0, 1, 0, 0, 0, 0], .c [1, 1, 1, 0, 1, 0, 0, 0, 1], .c [1, 1, 1, 0, 1, 0, 0, 1], .l [1, 1, 1, 0, 1, 0, 0], .b 0, .c [1, 1, 1, 1]]
abbrev all_l1_st : Sta := ⟨[1, 3, 4, 5], ⟨[.own 0 0, .ols 1, .ols 2, shI], [.segs [shL, shI, shQ, shQ, shL], .lst (.sl (.int .i64)), .lst (.sl (.int .i64))]⟩⟩
abbrev all_l1_h (rec : Int → Li → Int → Ll → Ll → Li → Ll → Ll → Option Ll) : Leaf Ll := ⟨all_l1_at, all_l1_st, fun p => rec p.1.2.2.2.1 p.2.1.1 p.2.1.2.1 p.2.1.2.2.1 p.2.1.2.2.2.1 p.2.1.2.2.2.2.1 p.2.2.1 p.2.2.2.1⟩
abbrev all_l1_e0 : Leaf Ll := ⟨[.c [1, 1, 1, 1, 0], .c [1, 1, 1, 1, 1]], ⟨[3], ⟨[.ols 0], [.lst (.sl (.int .i64))]⟩⟩, fun p => some (p.2.1)⟩
abbrev all_j1_at : List PI := [.c [1, 1, 1, 0, 1, 0, 0, 1, 1], .l [1, 1, 1, 0, 1, 0, 0], .b 0, .c [1, 1, 1, 1]]
abbrev all_j1_st : Sta := ⟨[1, 3, 4, 5], ⟨[.own 0 0, .ols 1, .ols 2, shI], [.segs [shL, shI, shQ, shQ, shL], .lst (.sl (.int .i64)), .lst (.sl (.int .i64))]⟩⟩
abbrev all_j1_k (N : Nat) (rec : Int → Li → Int → Ll → Ll → Li → Ll → Ll → Option Ll) : Leaf Ll := ⟨all_j1_at, all_j1_st, fun p => all_j1 N rec p.1.2.2.2.1 p.2.1.1 p.2.1.2.1 p.2.1.2.2.1 p.2.1.2.2.2.1 p.2.1.2.2.2.2.1 p.2.2.1 p.2.2.2.1⟩
theorem all_j1_eq (N : Nat) (rec : Int → Li → Int → Ll → Ll → Li → Ll → Ll → Option Ll) (i : Int) (d : Li) (d2 : Int) (d3 : Ll) (d4 : Ll) (d5 : Li) (out : Ll) (l : Ll) : ev (Z := Ll) Try.prog (all_sp N) all_B [] [all_l1_h rec, all_l1_e0] none 400 true all_j1_at (stL all_j1_st (((), (), (), i, ()), ((d, d2, d3, d4, d5, ()), out, l, ()))) (stH all_j1_st (((), (), (), i, ()), ((d, d2, d3, d4, d5, ()), out, l, ()))) = all_j1 N rec i d d2 d3 d4 d5 out l := by kernel_rfl
theorem all_j1_lf (N : Nat) (rec : Int → Li → Int → Ll → Ll → Li → Ll → Ll → Option Ll) {z : Ll} {top : Bool} {E : EE} {Xc : Ctx} (hE : EOK all_B.m0 E) (hX : CxOK top Xc) (hrec : LeafOK Try.prog all_B.c all_B.n all_B.m0 E Xc z (all_l1_h rec)) (h0 : LeafOK Try.prog all_B.c all_B.n all_B.m0 E Xc z all_l1_e0) : LeafOK Try.prog all_B.c all_B.n all_B.m0 E Xc z (all_j1_k N rec) := leaf_of_ev (B := all_B) (loops := []) (leaves := [all_l1_h rec, all_l1_e0]) (all_all N) mixed trivial hE hX ⟨hrec, h0, trivial⟩ RetOK.no (fun p => all_j1_eq N rec p.1.2.2.2.1 p.2.1.1 p.2.1.2.1 p.2.1.2.2.1 p.2.1.2.2.2.1 p.2.1.2.2.2.2.1 p.2.2.1 p.2.2.2.1)
noncomputable def all_l1_L (N : Nat) : LoopS := { at_ := all_l1_at, sta := all_l1_st, exits := [([.c [1, 1, 1, 1, 0], .c [1, 1, 1, 1, 1]], ⟨[3], ⟨[.ols 0], [.lst (.sl (.int .i64))]⟩⟩)], run := fun p k => (all_l1 N N p.1.2.2.2.1 p.2.1.1 p.2.1.2.1 p.2.1.2.2.1 p.2.1.2.2.2.1 p.2.1.2.2.2.2.1 p.2.2.1 p.2.2.2.1).bind fun e => k (.inl (((), ()), (e, ()))) }
theorem all_l1_eq (N n_ : Nat) (i : Int) (d : Li) (d2 : Int) (d3 : Ll) (d4 : Ll) (d5 : Li) (out : Ll) (l : Ll) : ev (Z := Ll) Try.prog (all_sp N) all_B [] [all_l1_h (all_l1 N n_), all_l1_e0, all_j1_k N (all_l1 N n_)] none 400 true all_l1_at (stL all_l1_st (((), (), (), i, ()), ((d, d2, d3, d4, d5, ()), out, l, ()))) (stH all_l1_st (((), (), (), i, ()), ((d, d2, d3, d4, d5, ()), out, l, ()))) = all_l1 N (n_ + 1) i d d2 d3 d4 d5 out l := by kernel_rfl
theorem all_l1_ok (N : Nat) {top : Bool} : LoopOK Try.prog all_B.c all_B.n all_B.m0 top (all_l1_L N) := loop_of_ev (Z := Ll) (N := N) (fun m p => all_l1 N m p.1.2.2.2.1 p.2.1.1 p.2.1.2.1 p.2.1.2.2.1 p.2.1.2.2.2.1 p.2.1.2.2.2.2.1 p.2.2.1 p.2.2.2.1) (fun e => .inl (((), ()), (e, ()))) (fun _ _ _ => rfl) (fun _ => rfl) (fun m z E Xc hE hX hrec hx => leaf_of_ev (B := all_B) (loops := []) (leaves := [all_l1_h (all_l1 N m), all_l1_e0, all_j1_k N (all_l1 N m)]) (all_all N) mixed trivial hE hX ⟨hrec, (fun p hp => by obtain rfl := Option.some.inj hp; exact hx), all_j1_lf N _ hE hX hrec (fun p hp => by obtain rfl := Option.some.inj hp; exact hx), trivial⟩ RetOK.no (fun p => all_l1_eq N m p.1.2.2.2.1 p.2.1.1 p.2.1.2.1 p.2.1.2.2.1 p.2.1.2.2.2.1 p.2.1.2.2.2.2.1 p.2.2.1 p.2.2.2.1))
abbrev all_st : Sta := ⟨[0], ⟨[shG], []⟩⟩
theorem all_eq (N : Nat) (d : Li) (d2 : Int) (d3 : Ll) (d4 : Ll) (d5 : Li) : ev (Z := Ll) Try.prog (all_sp N) all_B [all_l1_L N] [] (some all_rt) 400 false [.c [0], .c [1]] (stL all_st (((d, d2, d3, d4, d5, ()), ()), ())) (stH all_st (((d, d2, d3, d4, d5, ()), ()), ())) = all_S N d d2 d3 d4 d5 := by kernel_rfl
noncomputable def sp_all (N : Nat) : Spec := { f := 99, ins := ⟨[shG], []⟩, outs := [⟨[shQ], []⟩], run := fun p k => (all_S N p.1.1.1 p.1.1.2.1 p.1.1.2.2.1 p.1.1.2.2.2.1 p.1.1.2.2.2.2.1).bind fun r => k ((r, ()), ()) }
theorem sp_all_ok (N : Nat) : SpecOK Try.prog (sp_all N) := fn_sound (B := all_B) (loops := [all_l1_L N]) (leaves := []) (fun p => all_S N p.1.1.1 p.1.1.2.1 p.1.1.2.2.1 p.1.1.2.2.2.1 p.1.1.2.2.2.2.1) (fun r => ((r, ()), ())) all_rt (fun _ _ _ => rfl) (fun r z h => by cases h; rfl) Try.func99 (by kernel_rfl) (by kernel_rfl) (by kernel_rfl) rfl rfl (by kernel_rfl) (fun args w => Sem.pv_run _ _ _ (by kernel_rfl) w) (all_all N) mixed ⟨all_l1_ok N, trivial⟩ (fun z E Xc hE hX hret => trivial) (fun p => all_eq N p.1.1.1 p.1.1.2.1 p.1.1.2.2.1 p.1.1.2.2.2.1 p.1.1.2.2.2.2.1)

def rbest_l1 (N : Nat) : Nat → Ll → Int → Int → Li → Int → Ll → Ll → Li → Option (Ll × Int × Li × Int × Ll × Ll × Li)
  | 0, _, _, _, _, _, _, _, _ => none
  | n_ + 1, all, most, i, d, d2, d3, d4, d5 =>
    br (decide (i < (all.length : Int)))
      (idx all i fun x_2 =>
      (rworth_S N d d2 d3 d4 d5 x_2).bind fun x_3 =>
      chk (i + 1) <|
      rbest_l1 N n_ all (max most x_3) (i + 1) d d2 d3 d4 d5)
      (some ((all, most, d, d2, d3, d4, d5)))
def rbest_j1 (N : Nat) (rec : Ll → Int → Int → Li → Int → Ll → Ll → Li → Ll → Option (Int × Ll)) (all : Ll) (most : Int) (i : Int) (d : Li) (d2 : Int) (d3 : Ll) (d4 : Ll) (d5 : Li) (out : Ll) : Option (Int × Ll) :=
  chk (i + 1) <|
  rec all most (i + 1) d d2 d3 d4 d5 out
def rbest_l2 (N : Nat) : Nat → Ll → Int → Int → Li → Int → Ll → Ll → Li → Ll → Option (Int × Ll)
  | 0, _, _, _, _, _, _, _, _, _ => none
  | n_ + 1, all, most, i, d, d2, d3, d4, d5, out =>
    br (decide (i < (all.length : Int)))
      (idx all i fun x_11 =>
      (rworth_S N d d2 d3 d4 d5 x_11).bind fun x_12 =>
      br (decide (x_12 = most))
        (idx all i fun x_13 =>
        lim (out.length + [x_13].length) <|
        rbest_j1 N (rbest_l2 N n_) all most i d d2 d3 d4 d5 (out ++ [x_13]))
        (rbest_j1 N (rbest_l2 N n_) all most i d d2 d3 d4 d5 out))
      (some ((most, out)))
def rbest_S (N : Nat) (d : Li) (d2 : Int) (d3 : Ll) (d4 : Ll) (d5 : Li) : Option (Ll × Int) :=
  (all_S N d d2 d3 d4 d5).bind fun x_1 =>
  (rbest_l1 N N x_1 0 0 d d2 d3 d4 d5).bind fun (all_4, most_5, d_6, d2_7, d3_8, d4_9, d5_10) =>
  (rbest_l2 N N all_4 most_5 0 d_6 d2_7 d3_8 d4_9 d5_10 []).bind fun (most_14, out_15) =>
  some (out_15, most_14)
noncomputable def rbest_sp (N : Nat) : List Spec := [sp_rworth N, sp_all N]
theorem rbest_all (N : Nat) : AllP (SpecOK Try.prog) (rbest_sp N) := ⟨sp_rworth_ok N, sp_all_ok N, trivial⟩
noncomputable def rbest_c : Code := (Try.f53.body).getD .skip
noncomputable abbrev rbest_B : Body := { c := rbest_c, n := 48, res := [.tmp 2, .tmp 3], outs := [⟨[shQ, shI], []⟩], m0 := 0 }
abbrev rbest_rt : altD rbest_B.outs → Option (Ll × Int) := fun r => some (r.1.1, r.1.2.1)
abbrev rbest_l1_at : List PI := [.c [1, 1, 1, 0, 1, 0, 0, 0, 0], .c [1, 1, 1, 0, 1, 0, 0, 0, 1], .c [1, 1, 1, 0, 1, 0, 0, 1], .l [1, 1, 1, 0, 1, 0, 0], .b 0, .c [1, 1, 1, 1]]
abbrev rbest_l1_st : Sta := ⟨[1, 4, 5, 6], ⟨[.own 0 0, shQ, shI, shI], [.segs [shL, shI, shQ, shQ, shL]]⟩⟩
abbrev rbest_l1_h (rec : Ll → Int → Int → Li → Int → Ll → Ll → Li → Option (Ll × Int × Li × Int × Ll × Ll × Li)) : Leaf (Ll × Int × Li × Int × Ll × Ll × Li) := ⟨rbest_l1_at, rbest_l1_st, fun p => rec p.1.2.1 p.1.2.2.1 p.1.2.2.2.1 p.2.1.1 p.2.1.2.1 p.2.1.2.2.1 p.2.1.2.2.2.1 p.2.1.2.2.2.2.1⟩
abbrev rbest_l1_e0 : Leaf (Ll × Int × Li × Int × Ll × Ll × Li) := ⟨[.c [1, 1, 1, 1, 0], .c [1, 1, 1, 1, 1]], ⟨[1, 4, 5], ⟨[.own 0 0, shQ, shI], [.segs [shL, shI, shQ, shQ, shL]]⟩⟩, fun p => some ((p.1.2.1, p.1.2.2.1, p.2.1.1, p.2.1.2.1, p.2.1.2.2.1, p.2.1.2.2.2.1, p.2.1.2.2.2.2.1))⟩
noncomputable def rbest_l1_L (N : Nat) : LoopS := { at_ := rbest_l1_at, sta := rbest_l1_st, exits := [([.c [1, 1, 1, 1, 0], .c [1, 1, 1, 1, 1]], ⟨[1, 4, 5], ⟨[.own 0 0, shQ, shI], [.segs [shL, shI, shQ, shQ, shL]]⟩⟩)], run := fun p k => (rbest_l1 N N p.1.2.1 p.1.2.2.1 p.1.2.2.2.1 p.2.1.1 p.2.1.2.1 p.2.1.2.2.1 p.2.1.2.2.2.1 p.2.1.2.2.2.2.1).bind fun e => k (.inl (((), e.1, e.2.1, ()), ((e.2.2.1, e.2.2.2.1, e.2.2.2.2.1, e.2.2.2.2.2.1, e.2.2.2.2.2.2, ()), ()))) }
theorem rbest_l1_eq (N n_ : Nat) (all : Ll) (most : Int) (i : Int) (d : Li) (d2 : Int) (d3 : Ll) (d4 : Ll) (d5 : Li) : ev (Z := Ll × Int × Li × Int × Ll × Ll × Li) Try.prog (rbest_sp N) rbest_B [] [rbest_l1_h (rbest_l1 N n_), rbest_l1_e0] none 400 true rbest_l1_at (stL rbest_l1_st (((), all, most, i, ()), ((d, d2, d3, d4, d5, ()), ()))) (stH rbest_l1_st (((), all, most, i, ()), ((d, d2, d3, d4, d5, ()), ()))) = rbest_l1 N (n_ + 1) all most i d d2 d3 d4 d5 := by kernel_rfl
theorem rbest_l1_ok (N : Nat) {top : Bool} : LoopOK Try.prog rbest_B.c rbest_B.n rbest_B.m0 top (rbest_l1_L N) := loop_of_ev (Z := Ll × Int × Li × Int × Ll × Ll × Li) (N := N) (fun m p => rbest_l1 N m p.1.2.1 p.1.2.2.1 p.1.2.2.2.1 p.2.1.1 p.2.1.2.1 p.2.1.2.2.1 p.2.1.2.2.2.1 p.2.1.2.2.2.2.1) (fun e => .inl (((), e.1, e.2.1, ()), ((e.2.2.1, e.2.2.2.1, e.2.2.2.2.1, e.2.2.2.2.2.1, e.2.2.2.2.2.2, ()), ()))) (fun _ _ _ => rfl) (fun _ => rfl) (fun m z E Xc hE hX hrec hx => leaf_of_ev (B := rbest_B) (loops := []) (leaves := [rbest_l1_h (rbest_l1 N m), rbest_l1_e0]) (rbest_all N) mixed trivial hE hX ⟨hrec, (fun p hp => by obtain rfl := Option.some.inj hp; exact hx), trivial⟩ RetOK.no (fun p => rbest_l1_eq N m p.1.2.1 p.1.2.2.1 p.1.2.2.2.1 p.2.1.1 p.2.1.2.1 p.2.1.2.2.1 p.2.1.2.2.2.1 p.2.1.2.2.2.2.1))
abbrev rbest_l2_at : List PI := [.c [1, 1, 1, 1, 1, 0, 1, 0, 0, 0, 0], .c [1, 1, 1, 1, 1, 0, 1, 0, 0, 0, 1], .c [1, 1, 1, 1, 1, 0, 1, 0, 0, 1], .l [1, 1, 1, 1, 1, 0, 1, 0, 0], .b 2, .c [1, 1, 1, 1, 1, 1]]
abbrev rbest_l2_st : Sta := ⟨[1, 4, 5, 7, 8], ⟨[.own 0 0, shQ, shI, .ols 1, shI], [.segs [shL, shI, shQ, shQ, shL], .lst (.sl (.int .i64))]⟩⟩
abbrev rbest_l2_h (rec : Ll → Int → Int → Li → Int → Ll → Ll → Li → Ll → Option (Int × Ll)) : Leaf (Int × Ll) := ⟨rbest_l2_at, rbest_l2_st, fun p => rec p.1.2.1 p.1.2.2.1 p.1.2.2.2.2.1 p.2.1.1 p.2.1.2.1 p.2.1.2.2.1 p.2.1.2.2.2.1 p.2.1.2.2.2.2.1 p.2.2.1⟩
abbrev rbest_l2_e0 : Leaf (Int × Ll) := ⟨[.c [1, 1, 1, 1, 1, 1, 0], .c [1, 1, 1, 1, 1, 1, 1]], ⟨[5, 7], ⟨[shI, .ols 0], [.lst (.sl (.int .i64))]⟩⟩, fun p => some ((p.1.1, p.2.1))⟩
abbrev rbest_j1_at : List PI := [.c [1, 1, 1, 1, 1, 0, 1, 0, 0, 1, 1], .l [1, 1, 1, 1, 1, 0, 1, 0, 0], .b 2, .c [1, 1, 1, 1, 1, 1]]
abbrev rbest_j1_st : Sta := ⟨[1, 4, 5, 7, 8], ⟨[.own 0 0, shQ, shI, .ols 1, shI], [.segs [shL, shI, shQ, shQ, shL], .lst (.sl (.int .i64))]⟩⟩
abbrev rbest_j1_k (N : Nat) (rec : Ll → Int → Int → Li → Int → Ll → Ll → Li → Ll → Option (Int × Ll)) : Leaf (Int × Ll) := ⟨rbest_j1_at, rbest_j1_st, fun p => rbest_j1 N rec p.1.2.1 p.1.2.2.1 p.1.2.2.2.2.1 p.2.1.1 p.2.1.2.1 p.2.1.2.2.1 p.2.1.2.2.2.1 p.2.1.2.2.2.2.1 p.2.2.1⟩
theorem rbest_j1_eq (N : Nat) (rec : Ll → Int → Int → Li → Int → Ll → Ll → Li → Ll → Option (Int × Ll)) (all : Ll) (most : Int) (i : Int) (d : Li) (d2 : Int) (d3 : Ll) (d4 : Ll) (d5 : Li) (out : Ll) : ev (Z := Int × Ll) Try.prog (rbest_sp N) rbest_B [rbest_l1_L N] [rbest_l2_h rec, rbest_l2_e0] none 400 true rbest_j1_at (stL rbest_j1_st (((), all, most, (), i, ()), ((d, d2, d3, d4, d5, ()), out, ()))) (stH rbest_j1_st (((), all, most, (), i, ()), ((d, d2, d3, d4, d5, ()), out, ()))) = rbest_j1 N rec all most i d d2 d3 d4 d5 out := by kernel_rfl
theorem rbest_j1_lf (N : Nat) (rec : Ll → Int → Int → Li → Int → Ll → Ll → Li → Ll → Option (Int × Ll)) {z : Int × Ll} {top : Bool} {E : EE} {Xc : Ctx} (hE : EOK rbest_B.m0 E) (hX : CxOK top Xc) (hrec : LeafOK Try.prog rbest_B.c rbest_B.n rbest_B.m0 E Xc z (rbest_l2_h rec)) (h0 : LeafOK Try.prog rbest_B.c rbest_B.n rbest_B.m0 E Xc z rbest_l2_e0) : LeafOK Try.prog rbest_B.c rbest_B.n rbest_B.m0 E Xc z (rbest_j1_k N rec) := leaf_of_ev (B := rbest_B) (loops := [rbest_l1_L N]) (leaves := [rbest_l2_h rec, rbest_l2_e0]) (rbest_all N) mixed ⟨rbest_l1_ok N, trivial⟩ hE hX ⟨hrec, h0, trivial⟩ RetOK.no (fun p => rbest_j1_eq N rec p.1.2.1 p.1.2.2.1 p.1.2.2.2.2.1 p.2.1.1 p.2.1.2.1 p.2.1.2.2.1 p.2.1.2.2.2.1 p.2.1.2.2.2.2.1 p.2.2.1)
noncomputable def rbest_l2_L (N : Nat) : LoopS := { at_ := rbest_l2_at, sta := rbest_l2_st, exits := [([.c [1, 1, 1, 1, 1, 1, 0], .c [1, 1, 1, 1, 1, 1, 1]], ⟨[5, 7], ⟨[shI, .ols 0], [.lst (.sl (.int .i64))]⟩⟩)], run := fun p k => (rbest_l2 N N p.1.2.1 p.1.2.2.1 p.1.2.2.2.2.1 p.2.1.1 p.2.1.2.1 p.2.1.2.2.1 p.2.1.2.2.2.1 p.2.1.2.2.2.2.1 p.2.2.1).bind fun e => k (.inl ((e.1, (), ()), (e.2, ()))) }
theorem rbest_l2_eq (N n_ : Nat) (all : Ll) (most : Int) (i : Int) (d : Li) (d2 : Int) (d3 : Ll) (d4 : Ll) (d5 : Li) (out : Ll) : ev (Z := Int × Ll) Try.prog (rbest_sp N) rbest_B [rbest_l1_L N] [rbest_l2_h (rbest_l2 N n_), rbest_l2_e0, rbest_j1_k N (rbest_l2 N n_)] none 400 true rbest_l2_at (stL rbest_l2_st (((), all, most, (), i, ()), ((d, d2, d3, d4, d5, ()), out, ()))) (stH rbest_l2_st (((), all, most, (), i, ()), ((d, d2, d3, d4, d5, ()), out, ()))) = rbest_l2 N (n_ + 1) all most i d d2 d3 d4 d5 out := by kernel_rfl
theorem rbest_l2_ok (N : Nat) {top : Bool} : LoopOK Try.prog rbest_B.c rbest_B.n rbest_B.m0 top (rbest_l2_L N) := loop_of_ev (Z := Int × Ll) (N := N) (fun m p => rbest_l2 N m p.1.2.1 p.1.2.2.1 p.1.2.2.2.2.1 p.2.1.1 p.2.1.2.1 p.2.1.2.2.1 p.2.1.2.2.2.1 p.2.1.2.2.2.2.1 p.2.2.1) (fun e => .inl ((e.1, (), ()), (e.2, ()))) (fun _ _ _ => rfl) (fun _ => rfl) (fun m z E Xc hE hX hrec hx => leaf_of_ev (B := rbest_B) (loops := [rbest_l1_L N]) (leaves := [rbest_l2_h (rbest_l2 N m), rbest_l2_e0, rbest_j1_k N (rbest_l2 N m)]) (rbest_all N) mixed ⟨rbest_l1_ok N, trivial⟩ hE hX ⟨hrec, (fun p hp => by obtain rfl := Option.some.inj hp; exact hx), rbest_j1_lf N _ hE hX hrec (fun p hp => by obtain rfl := Option.some.inj hp; exact hx), trivial⟩ RetOK.no (fun p => rbest_l2_eq N m p.1.2.1 p.1.2.2.1 p.1.2.2.2.2.1 p.2.1.1 p.2.1.2.1 p.2.1.2.2.1 p.2.1.2.2.2.1 p.2.1.2.2.2.2.1 p.2.2.1))
abbrev rbest_st : Sta := ⟨[0], ⟨[shG], []⟩⟩
theorem rbest_eq (N : Nat) (d : Li) (d2 : Int) (d3 : Ll) (d4 : Ll) (d5 : Li) : ev (Z := Ll × Int) Try.prog (rbest_sp N) rbest_B [rbest_l1_L N, rbest_l2_L N] [] (some rbest_rt) 400 false [.c [0], .c [1]] (stL rbest_st (((d, d2, d3, d4, d5, ()), ()), ())) (stH rbest_st (((d, d2, d3, d4, d5, ()), ()), ())) = rbest_S N d d2 d3 d4 d5 := by kernel_rfl
noncomputable def sp_rbest (N : Nat) : Spec := { f := 53, ins := ⟨[shG], []⟩, outs := [⟨[shQ, shI], []⟩], run := fun p k => (rbest_S N p.1.1.1 p.1.1.2.1 p.1.1.2.2.1 p.1.1.2.2.2.1 p.1.1.2.2.2.2.1).bind fun r => k ((r.1, r.2, ()), ()) }
theorem sp_rbest_ok (N : Nat) : SpecOK Try.prog (sp_rbest N) := fn_sound (B := rbest_B) (loops := [rbest_l1_L N, rbest_l2_L N]) (leaves := []) (fun p => rbest_S N p.1.1.1 p.1.1.2.1 p.1.1.2.2.1 p.1.1.2.2.2.1 p.1.1.2.2.2.2.1) (fun r => ((r.1, r.2, ()), ())) rbest_rt (fun _ _ _ => rfl) (fun r z h => by cases h; rfl) Try.func53 (by kernel_rfl) (by kernel_rfl) (by kernel_rfl) rfl rfl (by kernel_rfl) (fun args w => Sem.pv_run _ _ _ (by kernel_rfl) w) (rbest_all N) mixed ⟨rbest_l1_ok N, rbest_l2_ok N, trivial⟩ (fun z E Xc hE hX hret => trivial) (fun p => rbest_eq N p.1.1.1 p.1.1.2.1 p.1.1.2.2.1 p.1.1.2.2.2.1 p.1.1.2.2.2.2.1)

end Go.Proofs.Ythncjilcflilcaa

namespace Go.Proofs.Ythncjilcflilcaa
set_option linter.all false
open Go

end Go.Proofs.Ythncjilcflilcaa

namespace Go.Proofs.Ythncjilcflilcaa
set_option linter.all false
open Go

set_option maxHeartbeats 400000 in
theorem may1_up (l bd od bc oc bl ol : Nat) (vd vd2 : Addr) (lost : Int) (m : Nat) (fs : Option Addr) (fc : Nat) (R : Nat → Bool) (S : List Nat) (J : List Nat → World → Prop) (Q : World → Prop) (w : World)
    (hbd : ∀ w', Upd (l :: S) w w' → Cl w' bd od [.pointer (some vd)]) (hbc : ∀ w', Upd (l :: S) w w' → Cl w' bc oc [(.func (.func 111) #[.pointer (some vd2)] #[])]) (hbl : ∀ w', Upd (l :: S) w w' → Cl w' bl ol [.int .i64 lost])
    (hfo : ∀ w', Upd (l :: S) w w' → w'.cell? (vd.add 3) = some (.slice fs m fc))
    (hcan : ∀ (k : Nat) w', k < m → Upd (l :: S) w w' → Fn Try.prog 111 #[.pointer (some vd2), .int .i64 lost, .int .i64 (↑k : Int)] w' (fun v w2 => Ext w' w2 ∧ v = .bool (R k)))
    (hm : m ≤ 1000000) (hJ : J (mayF R m 0) w) (hxJ : ∀ r, Stays w.heap.size (J r))
    (hy : ∀ k r w1, k ∈ mayF R m 0 → J (k :: r) w1 → Upd (l :: S) w w1 → Yield Try.prog l #[.int .i64 ↑k] w1 (fun v w2 => Upd (l :: S) w w2 ∧ ((v = .bool true ∧ J r w2) ∨ (v = .bool false ∧ Q w2)))) :
    Fn Try.prog 123 #[(.func (.yield l) #[] #[]), (.pointer (some ⟨bd, od, none⟩)), (.pointer (some ⟨bc, oc, none⟩)), (.pointer (some ⟨bl, ol, none⟩))] w (fun _ w' => Upd (l :: S) w w' ∧ (J [] w' ∨ Q w')) := by
  refine Fn.ofSt (c := c123) 26 K123_0 [(0, (.func (.yield l) #[] #[])), (1, (.pointer (some ⟨bd, od, none⟩))), (2, (.pointer (some ⟨bc, oc, none⟩))), (3, (.pointer (some ⟨bl, ol, none⟩)))] Try.func123 (by kernel_rfl) ⟨⟨rfl, by kernel_rfl⟩, by kernel_rfl⟩ (by kernel_rfl) ?_
  intro cs
  refine St.reg K123_1 [(0, true), (1, true), (2, true), (3, true), (4, true), (5, true), (6, true)] (by kernel_rfl) (by kernel_rfl) ?_
  refine RX.q 7 [(0, true, (.pointer (some vd))), (4, true, (.slice fs m fc))] [(0, (.func (.yield l) #[] #[])), (1, (.pointer (some ⟨bd, od, none⟩))), (2, (.pointer (some ⟨bc, oc, none⟩))), (3, (.pointer (some ⟨bl, ol, none⟩))), (11, (.int .i64 (↑m : Int))), (12, (.int .i64 0))] [.cell ⟨bd, od + 0, none⟩ (.pointer (some vd)), .cell (vd.add 3) (.slice fs m fc)] (by kernel_rfl) ⟨Cl.cell (hbd w (Upd.refl _ w)) rfl, hfo w (Upd.refl _ w)⟩ ?_
  refine RX.done [(0, (.func (.yield l) #[] #[])), (1, (.pointer (some ⟨bd, od, none⟩))), (2, (.pointer (some ⟨bc, oc, none⟩))), (3, (.pointer (some ⟨bl, ol, none⟩))), (11, (.int .i64 (↑m : Int))), (12, (.int .i64 0))] (by kernel_rfl) (by kernel_rfl) ?_
  have loop1 : ∀ (N : Nat) (k : Nat) (w2 : World), k ≤ m → (J (mayF R m k) w2) → (Upd (l :: S) w w2) → N = m - k → St Try.prog (fctx Try.prog 123 (fun _ w' => Upd (l :: S) w w' ∧ (J [] w' ∨ Q w')) cs) 26 K123_1 [(12, (.int .i64 (↑k : Int))), (11, (.int .i64 (↑m : Int))), (0, (.func (.yield l) #[] #[])), (1, (.pointer (some ⟨bd, od, none⟩))), (2, (.pointer (some ⟨bc, oc, none⟩))), (3, (.pointer (some ⟨bl, ol, none⟩)))] [] w2 := by
    intro N3
    induction N3 using Nat.strongRecOn with
    | ind N3 ih4 => ?_
    intro k w2 hk hJk hE hN5
    refine St.reg K123_2 [(0, true)] (by kernel_rfl) (by kernel_rfl) ?_
    refine RX.q 1 [] [(0, (.func (.yield l) #[] #[])), (1, (.pointer (some ⟨bd, od, none⟩))), (2, (.pointer (some ⟨bc, oc, none⟩))), (3, (.pointer (some ⟨bl, ol, none⟩))), (11, (.int .i64 (↑m : Int))), (12, (.int .i64 (↑k : Int))), (13, (.bool (decide ((↑k : Int) < (↑m : Int)))))] [] (by kernel_rfl) trivial ?_
    refine RX.done [(0, (.func (.yield l) #[] #[])), (1, (.pointer (some ⟨bd, od, none⟩))), (2, (.pointer (some ⟨bc, oc, none⟩))), (3, (.pointer (some ⟨bl, ol, none⟩))), (11, (.int .i64 (↑m : Int))), (12, (.int .i64 (↑k : Int))), (13, (.bool (decide ((↑k : Int) < (↑m : Int)))))] (by kernel_rfl) (by kernel_rfl) ?_
    refine St.cond (k1 := K123_3) (k2 := K123_4) (decide ((↑k : Int) < (↑m : Int))) (by kernel_rfl) (fun hc7 => ?_) (fun hc7 => ?_)
    · have hh8 : (↑k : Int) < (↑m : Int) := by simpa using hc7
      clear hc7
      refine St.weak (L' := [(12, (.int .i64 (↑k : Int))), (11, (.int .i64 (↑m : Int))), (0, (.func (.yield l) #[] #[])), (1, (.pointer (some ⟨bd, od, none⟩))), (2, (.pointer (some ⟨bc, oc, none⟩))), (3, (.pointer (some ⟨bl, ol, none⟩)))]) (by kernel_rfl) ?_
      refine St.reg K123_5 [(0, true), (1, true)] (by kernel_rfl) (by kernel_rfl) ?_
      refine RX.q 2 [] [(0, (.func (.yield l) #[] #[])), (1, (.pointer (some ⟨bd, od, none⟩))), (2, (.pointer (some ⟨bc, oc, none⟩))), (3, (.pointer (some ⟨bl, ol, none⟩))), (11, (.int .i64 (↑m : Int))), (12, (.int .i64 (↑k : Int))), (5, (.int .i64 (↑k : Int)))] [] (by kernel_rfl) trivial ?_
      refine RX.done [(0, (.func (.yield l) #[] #[])), (1, (.pointer (some ⟨bd, od, none⟩))), (2, (.pointer (some ⟨bc, oc, none⟩))), (3, (.pointer (some ⟨bl, ol, none⟩))), (11, (.int .i64 (↑m : Int))), (12, (.int .i64 (↑k : Int))), (5, (.int .i64 (↑k : Int)))] (by kernel_rfl) (by kernel_rfl) ?_
      refine St.reg K123_6 [(0, true), (1, true), (2, true), (3, false), (4, true), (5, true), (6, true), (7, false), (8, true), (9, true)] (by kernel_rfl) (by kernel_rfl) ?_
      refine RX.q 3 [(0, true, (.func (.func 111) #[.pointer (some vd2)] #[])), (1, true, (.int .i64 lost))] [(0, (.func (.yield l) #[] #[])), (1, (.pointer (some ⟨bd, od, none⟩))), (2, (.pointer (some ⟨bc, oc, none⟩))), (3, (.pointer (some ⟨bl, ol, none⟩))), (11, (.int .i64 (↑m : Int))), (12, (.int .i64 (↑k : Int))), (5, (.int .i64 (↑k : Int))), (15, (.func (.func 111) #[.pointer (some vd2)] #[])), (16, (.int .i64 lost)), (17, (.int .i64 (↑k : Int)))] [.cell ⟨bc, oc + 0, none⟩ (.func (.func 111) #[.pointer (some vd2)] #[]), .cell ⟨bl, ol + 0, none⟩ (.int .i64 lost)] (by kernel_rfl) ⟨Cl.cell (hbc w2 hE) rfl, Cl.cell (hbl w2 hE) rfl⟩ ?_
      refine RX.call 18 111 #[.pointer (some vd2), (.int .i64 lost), (.int .i64 (↑k : Int))] [(0, (.func (.yield l) #[] #[])), (1, (.pointer (some ⟨bd, od, none⟩))), (2, (.pointer (some ⟨bc, oc, none⟩))), (3, (.pointer (some ⟨bl, ol, none⟩))), (11, (.int .i64 (↑m : Int))), (12, (.int .i64 (↑k : Int))), (5, (.int .i64 (↑k : Int))), (15, (.func (.func 111) #[.pointer (some vd2)] #[])), (16, (.int .i64 lost)), (17, (.int .i64 (↑k : Int)))] (fun _ => by kernel_rfl) (by kernel_rfl) ?_
      refine Fn.mono (hcan k w2 (by omega) hE) ?_
      rintro _ w4 ⟨hx4, rfl⟩
      have hE4 : Upd (l :: S) w w4 := Upd.ext hE hx4
      have hJ4 : J (mayF R m k) w4 := Stays.ext (hxJ _) hJk hx4
      cases hR : R k with
      | true =>
        refine RX.q 3 [] [(0, (.func (.yield l) #[] #[])), (1, (.pointer (some ⟨bd, od, none⟩))), (2, (.pointer (some ⟨bc, oc, none⟩))), (3, (.pointer (some ⟨bl, ol, none⟩))), (11, (.int .i64 (↑m : Int))), (12, (.int .i64 (↑k : Int))), (19, (.bool true)), (20, (.func (.yield l) #[] #[])), (21, (.int .i64 (↑k : Int)))] [] (by kernel_rfl) trivial ?_
        rw [mayF_yes (by omega) hR] at hJ4
        refine RX.yield 22 l #[(.int .i64 (↑k : Int))] [(0, (.func (.yield l) #[] #[])), (1, (.pointer (some ⟨bd, od, none⟩))), (2, (.pointer (some ⟨bc, oc, none⟩))), (3, (.pointer (some ⟨bl, ol, none⟩))), (11, (.int .i64 (↑m : Int))), (12, (.int .i64 (↑k : Int))), (19, (.bool true)), (20, (.func (.yield l) #[] #[])), (21, (.int .i64 (↑k : Int)))] (by kernel_rfl) ?_
        refine Yield.mono (hy k _ w4 (mem_mayF.2 ⟨by omega, by omega, hR⟩) hJ4 hE4) ?_
        rintro _ w5 ⟨hu5, ⟨rfl, hv⟩ | ⟨rfl, hv⟩⟩
        · refine RX.q 2 [] [(0, (.func (.yield l) #[] #[])), (1, (.pointer (some ⟨bd, od, none⟩))), (2, (.pointer (some ⟨bc, oc, none⟩))), (3, (.pointer (some ⟨bl, ol, none⟩))), (11, (.int .i64 (↑m : Int))), (12, (.int .i64 (↑k : Int))), (24, (.bool false))] [] (by kernel_rfl) trivial ?_
          refine RX.done [(0, (.func (.yield l) #[] #[])), (1, (.pointer (some ⟨bd, od, none⟩))), (2, (.pointer (some ⟨bc, oc, none⟩))), (3, (.pointer (some ⟨bl, ol, none⟩))), (11, (.int .i64 (↑m : Int))), (12, (.int .i64 (↑k : Int))), (24, (.bool false))] (by kernel_rfl) (by kernel_rfl) ?_
          refine St.cond (k1 := K123_7) (k2 := K123_8) false (by kernel_rfl) (fun hc => ?_) (fun hc => ?_)
          · cases hc
          · clear hc
            refine St.weak (L' := [(12, (.int .i64 (↑k : Int))), (11, (.int .i64 (↑m : Int))), (0, (.func (.yield l) #[] #[])), (1, (.pointer (some ⟨bd, od, none⟩))), (2, (.pointer (some ⟨bc, oc, none⟩))), (3, (.pointer (some ⟨bl, ol, none⟩)))]) (by kernel_rfl) ?_
            refine St.reg K123_1 [(0, true), (1, true)] (by kernel_rfl) (by kernel_rfl) ?_
            refine RX.q 2 [(0, false, (.int .i64 ((↑k : Int) + 1)))] [(0, (.func (.yield l) #[] #[])), (1, (.pointer (some ⟨bd, od, none⟩))), (2, (.pointer (some ⟨bc, oc, none⟩))), (3, (.pointer (some ⟨bl, ol, none⟩))), (11, (.int .i64 (↑m : Int))), (12, (.int .i64 ((↑k : Int) + 1)))] [.eq (.int .i64 (IntKind.i64.wrap ((↑k : Int) + 1))) (.int .i64 ((↑k : Int) + 1))] (by kernel_rfl) (int64 (by omega)) ?_
            refine RX.done [(0, (.func (.yield l) #[] #[])), (1, (.pointer (some ⟨bd, od, none⟩))), (2, (.pointer (some ⟨bc, oc, none⟩))), (3, (.pointer (some ⟨bl, ol, none⟩))), (11, (.int .i64 (↑m : Int))), (12, (.int .i64 ((↑k : Int) + 1)))] (by kernel_rfl) (by kernel_rfl) ?_
            refine St.weak (by kernel_rfl) (ih4 _ ?_ (k + 1) w5 (by omega) hv hu5 rfl)
            omega
        · refine RX.q 2 [] [(0, (.func (.yield l) #[] #[])), (1, (.pointer (some ⟨bd, od, none⟩))), (2, (.pointer (some ⟨bc, oc, none⟩))), (3, (.pointer (some ⟨bl, ol, none⟩))), (11, (.int .i64 (↑m : Int))), (12, (.int .i64 (↑k : Int))), (24, (.bool true))] [] (by kernel_rfl) trivial ?_
          refine RX.done [(0, (.func (.yield l) #[] #[])), (1, (.pointer (some ⟨bd, od, none⟩))), (2, (.pointer (some ⟨bc, oc, none⟩))), (3, (.pointer (some ⟨bl, ol, none⟩))), (11, (.int .i64 (↑m : Int))), (12, (.int .i64 (↑k : Int))), (24, (.bool true))] (by kernel_rfl) (by kernel_rfl) ?_
          refine St.cond (k1 := K123_7) (k2 := K123_8) true (by kernel_rfl) (fun hc => ?_) (fun hc => ?_)
          · clear hc
            refine St.weak (L' := []) (by kernel_rfl) ?_
            refine St.ret [] [] (by kernel_rfl) Try.func123 (by kernel_rfl) .nil ?_
            exact ⟨hu5, .inr hv⟩
          · cases hc
      | false =>
        refine RX.q 3 [] [(0, (.func (.yield l) #[] #[])), (1, (.pointer (some ⟨bd, od, none⟩))), (2, (.pointer (some ⟨bc, oc, none⟩))), (3, (.pointer (some ⟨bl, ol, none⟩))), (11, (.int .i64 (↑m : Int))), (12, (.int .i64 (↑k : Int))), (19, (.bool false)), (20, undef), (21, undef)] [] (by kernel_rfl) trivial ?_
        refine RX.skip [(0, (.func (.yield l) #[] #[])), (1, (.pointer (some ⟨bd, od, none⟩))), (2, (.pointer (some ⟨bc, oc, none⟩))), (3, (.pointer (some ⟨bl, ol, none⟩))), (11, (.int .i64 (↑m : Int))), (12, (.int .i64 (↑k : Int))), (19, (.bool false)), (20, undef), (21, undef), (22, undef)] (by kernel_rfl) ?_
        refine RX.q 2 [] [(0, (.func (.yield l) #[] #[])), (1, (.pointer (some ⟨bd, od, none⟩))), (2, (.pointer (some ⟨bc, oc, none⟩))), (3, (.pointer (some ⟨bl, ol, none⟩))), (11, (.int .i64 (↑m : Int))), (12, (.int .i64 (↑k : Int))), (24, (.bool false))] [] (by kernel_rfl) trivial ?_
        refine RX.done [(0, (.func (.yield l) #[] #[])), (1, (.pointer (some ⟨bd, od, none⟩))), (2, (.pointer (some ⟨bc, oc, none⟩))), (3, (.pointer (some ⟨bl, ol, none⟩))), (11, (.int .i64 (↑m : Int))), (12, (.int .i64 (↑k : Int))), (24, (.bool false))] (by kernel_rfl) (by kernel_rfl) ?_
        refine St.cond (k1 := K123_7) (k2 := K123_8) false (by kernel_rfl) (fun hc => ?_) (fun hc => ?_)
        · cases hc
        · clear hc
          refine St.weak (L' := [(12, (.int .i64 (↑k : Int))), (11, (.int .i64 (↑m : Int))), (0, (.func (.yield l) #[] #[])), (1, (.pointer (some ⟨bd, od, none⟩))), (2, (.pointer (some ⟨bc, oc, none⟩))), (3, (.pointer (some ⟨bl, ol, none⟩)))]) (by kernel_rfl) ?_
          refine St.reg K123_1 [(0, true), (1, true)] (by kernel_rfl) (by kernel_rfl) ?_
          refine RX.q 2 [(0, false, (.int .i64 ((↑k : Int) + 1)))] [(0, (.func (.yield l) #[] #[])), (1, (.pointer (some ⟨bd, od, none⟩))), (2, (.pointer (some ⟨bc, oc, none⟩))), (3, (.pointer (some ⟨bl, ol, none⟩))), (11, (.int .i64 (↑m : Int))), (12, (.int .i64 ((↑k : Int) + 1)))] [.eq (.int .i64 (IntKind.i64.wrap ((↑k : Int) + 1))) (.int .i64 ((↑k : Int) + 1))] (by kernel_rfl) (int64 (by omega)) ?_
          refine RX.done [(0, (.func (.yield l) #[] #[])), (1, (.pointer (some ⟨bd, od, none⟩))), (2, (.pointer (some ⟨bc, oc, none⟩))), (3, (.pointer (some ⟨bl, ol, none⟩))), (11, (.int .i64 (↑m : Int))), (12, (.int .i64 ((↑k : Int) + 1)))] (by kernel_rfl) (by kernel_rfl) ?_
          refine St.weak (by kernel_rfl) (ih4 _ ?_ (k + 1) w4 (by omega) (by rw [← mayF_no (by omega) hR]; exact hJ4) hE4 rfl)
          omega
    · have hh52 : (↑m : Int) ≤ (↑k : Int) := by simpa using hc7
      clear hc7
      refine St.weak (L' := []) (by kernel_rfl) ?_
      refine St.ret [] [] (by kernel_rfl) Try.func123 (by kernel_rfl) .nil ?_
      refine ⟨hE, .inl ?_⟩
      rw [← mayF_end (R := R) (m := m) (k := k) (by omega)]; exact hJk
  exact St.weak (by kernel_rfl) (loop1 _ 0 w (by omega) hJ (Upd.refl (l :: S) w) rfl)
/-- As the contract of may, but rounds may write what was new when the range began. -/
theorem is_may_up : ∀ (p : Shs.den is_may.cap) (es : List (Shs.den is_may.elem)), is_may.run p = some es → ∀ (g : Gh) (vs : List Value), RepVs g (encs id is_may.cap p) vs →
    ∀ (l : Nat) (S : List Nat) (J : List (Shs.den is_may.elem) → World → Prop) (Q : World → Prop) (w : World), (∀ b o, g.M b = some o → b ∉ l :: S ∧ w.heap[b]? = some o) → (∀ k ∈ l :: S, k < w.heap.size) → J es w → (∀ r, Stays w.heap.size (J r)) → Stays w.heap.size Q →
      (∀ m r w1 us, J (m :: r) w1 → Upd (l :: S) w w1 → RepVs g00 (encs id is_may.elem m) us → Yield Try.prog l us.toArray w1 (fun v w2 => Upd (l :: S) w w2 ∧ ((v = .bool true ∧ J r w2) ∨ (v = .bool false ∧ Q w2)))) →
      Fn Try.prog 123 (#[.func (.yield l) #[] #[]] ++ vs.toArray) w (fun _ w' => Upd (l :: S) w w' ∧ (J [] w' ∨ Q w')) := by
  intro p es hes g vs hvs l S J Q w hM hS hJ hxJ hxQ hy
  obtain ⟨⟨d, ⟨⟩⟩, ⟨⟨⟨d', ⟨⟩⟩, ⟨⟩⟩, ⟨⟩⟩, lost, ⟨⟩⟩ := p
  simp only [mayR] at hes
  split at hes
  rotate_left
  · cases hes
  rename_i hc
  simp only [Option.some.injEq] at hes
  subst hes
  obtain ⟨⟨ha0, ha1⟩, hf, hA, hS'⟩ := hc
  obtain ⟨i, rfl⟩ : ∃ n : Nat, lost = n := ⟨lost.toNat, (Int.toNat_of_nonneg ha0).symm⟩
  simp only [Int.toNat_natCast] at hJ ⊢
  simp only [encs, enc, RepVs, RepV] at hvs
  obtain ⟨v1, r1, rfl, ⟨bd, od, wd, td, ud, rfl, hbd, hsd, hcd⟩, v2, r2, rfl, ⟨bc, oc, wc, tc, uc, rfl, hbc, hsc, hcc⟩, v3, r3, rfl, ⟨bl, ol, wl, tl, ul, rfl, hbl, hsl, hcl⟩, rfl⟩ := hvs
  obtain ⟨rfl, hin⟩ := hcl
  obtain ⟨x1, x2, rfl, ⟨x3, rfl, hx⟩, rfl⟩ := hcd
  simp only [RepV] at hx
  obtain ⟨bo, oo, wo, to, uo, rfl, hbo, hso, hco⟩ := hx
  obtain ⟨y1, y2, rfl, ⟨y3, rfl, hy'⟩, rfl⟩ := hcc
  simp only [RepV, RepVs] at hy'
  obtain ⟨va, vc, rfl, ⟨z1, z2, rfl, ⟨be, oe, we, te, ue, rfl, hbe, hse, hce⟩, rfl⟩, rfl⟩ := hy'
  simp only [RepPs, PartOf, RepV] at hco
  obtain ⟨p1, q1, rfl, ⟨e1, rfl, h1⟩, p2, q2, rfl, ⟨e2, rfl, h2⟩, p3, q3, rfl, ⟨e3, rfl, h3⟩, p4, q4, rfl, ⟨e4, rfl, h4⟩, hrest⟩ := hco
  obtain ⟨hl4, fa, fc, rfl, hfc, hf4⟩ := h4
  have hmem : ∀ w', Upd (l :: S) w w' → ∀ b o, g.M b = some o → w'.heap[b]? = some o := fun w' hu b o hb => hu.blk (hM b o hb).2 (hM b o hb).1
  have hrd : RepV ⟨fun _ => none, g.M⟩ (enc id shD d') (.pointer (some ⟨be, oe, none⟩)) := ⟨be, oe, we, te, ue, rfl, hbe, hse, hce⟩
  have hfn := may1_up l bd od bc oc bl ol ⟨bo, oo, none⟩ ⟨be, oe, none⟩ (i : Int) d.2.2.2.1.length fa fc (canD d' i) S (fun r => J (r.map fun (j : Nat) => ((j : Int), ()))) Q w
    (fun w' hu => Cl.of_seg (hmem w' hu _ _ hbd) hsd) (fun w' hu => Cl.of_seg (hmem w' hu _ _ hbc) hsc) (fun w' hu => Cl.of_seg (hmem w' hu _ _ hbl) hsl)
    (fun w' hu => Cl.cell (Cl.of_seg (hmem w' hu _ _ hbo) hso) (i := 3) rfl)
    (fun k w' h1 hu => Fn.mono (call_pure (sp_can_ok 200) rfl (p := ((d', ((i : Int), ((k : Int), ()))), ())) (r := ((canD d' i k, ()), ())) (by
        show ((can_S 200 d' i k).bind fun r => some ((r, ()), ())) = _
        rw [can_v hA hS' (by omega) (by omega)]; rfl) (hmem w' hu) ⟨_, _, rfl, hrd, _, _, rfl, ⟨rfl, (show inR .i64 (i : Int) from inR_small (by omega))⟩, _, _, rfl, ⟨rfl, (show inR .i64 (k : Int) from inR_small (by omega))⟩, rfl⟩) (fun v w2 ⟨h1, g', h2⟩ => ⟨h1, by
      simp only [altOf, encs, enc, resVal, RepV] at h2
      exact h2⟩))
    (by omega) hJ (fun r => hxJ _) (fun m r w1 hm hj hu => hy ((m : Int), ()) (r.map fun (j : Nat) => ((j : Int), ())) w1 [.int .i64 (m : Int)] hj hu ⟨_, _, rfl, ⟨rfl, inR_small (by have := (mem_mayF.1 hm).2.1; omega)⟩, rfl⟩)
  exact hfn
noncomputable def c128 : Code := (Try.f128.body).getD .skip
noncomputable def K128_0 : List Item := [.code (sub c128 [0]), .code (sub c128 [1])]
noncomputable def K128_1 : List Item := [.code (sub c128 [1, 0, 0]), .code (sub c128 [1, 0, 1]), .code (sub c128 [1, 1])]
noncomputable def K128_2 : List Item := [.code (sub c128 [1, 0, 1, 0]), .inBlock 0, .code (sub c128 [1, 1])]
noncomputable def K128_3 : List Item := [.code (sub c128 [1, 1, 0]), .code (sub c128 [1, 1, 1])]
noncomputable def K128_4 : List Item := [.code (sub c128 [1, 1, 1])]
noncomputable def K128_a : List Item := [.code (sub c128 [1, 0, 1, 0, 0]), .beginRound, .code (sub c128 [1, 0, 1, 0, 1])]
noncomputable def K128_b : List Item := [.beginRound, .code (sub c128 [1, 0, 1, 0, 1])]
noncomputable def K128_c : List Item := [.code (sub c128 [1, 0, 1, 0, 1, 0]), .inBlock 1]
/-- What has been appended, and what is still to come. -/
def AppJ (all : List Int) (bc D lo : Nat) (tm : Array Value) (w0 : World) (es : List Int) (w : World) : Prop :=
  ∃ (l : List Int) (v : Value) (ab : List Nat), all = l ++ es ∧ Blk w bc [v] 23 ∧ Acc 3 1 lo w v l.length (l.map (.int .i64)) ab ∧
    w.heap[D + 1]? = some (.loop (lrec 128 tm #[7] (sub c128 [1, 0, 1, 0, 0]) (sub c128 [1, 0, 1, 0, 1]) D .ready none))
set_option maxHeartbeats 1000000 in
theorem appseq_fn {p : Shs.den is_may.cap} {es : List (Int × Unit)} (hes : is_may.run p = some es) (hlen : es.length ≤ 1000000) (g : Gh) (vc : List Value) (hvc : RepVs g (encs id is_may.cap p) vc) (w : World) (hM : ∀ b o, g.M b = some o → w.heap[b]? = some o) :
    Fn Try.prog 128 #[.slice none 0 0, .func (.func 123) #[] vc.toArray] w (fun v w' => Ext w w' ∧ ∃ ab, Acc 3 1 w.heap.size w' v es.length ((es.map (·.1)).map (.int .i64)) ab) := by
  have hMb : ∀ b o, g.M b = some o → b < w.heap.size := fun b o h => lt_of_blk (hM b o h)
  obtain ⟨hue, hel, by_, zv, hT, hZ⟩ := elemT_of (P := Try.prog) (t := 23) (e := 3) (y := .int .i64) (by kernel_rfl)
  have hT : ElemT Try.prog 23 3 1 by_ zv := hT
  refine Fn.ofSt (c := c128) 13 K128_0 [(0, .slice none 0 0), (1, .func (.func 123) #[] vc.toArray)] Try.func128 (by kernel_rfl) ⟨⟨rfl, by kernel_rfl⟩, by kernel_rfl⟩ (by kernel_rfl) ?_
  intro cs
  refine St.reg K128_1 [(0, false), (1, true)] (by kernel_rfl) (by kernel_rfl) ?_
  refine RX.new 2 (.cells #[.slice none 0 0] 23) .ptr [(0, .slice none 0 0), (1, .func (.func 123) #[] vc.toArray)] (by kernel_rfl) ?_
  intro bc w1 hn1
  have hsz1 := hn1.size; have hat1 := hn1.at_
  have hb1 : Blk w1 bc [.slice none 0 0] 23 := hn1.blk
  refine RX.q 1 [] [(1, .func (.func 123) #[] vc.toArray), (2, .pointer (some ⟨bc, 0, none⟩))] [] (by kernel_rfl) trivial ?_
  refine RX.done [(1, .func (.func 123) #[] vc.toArray), (2, .pointer (some ⟨bc, 0, none⟩))] (by kernel_rfl) (by kernel_rfl) ?_
  refine St.reg K128_2 [(0, true)] (by kernel_rfl) (by kernel_rfl) ?_
  refine RX.q 1 [] [(6, .func (.func 123) #[] vc.toArray), (2, .pointer (some ⟨bc, 0, none⟩))] [] (by kernel_rfl) trivial ?_
  refine RX.done [(6, .func (.func 123) #[] vc.toArray), (2, .pointer (some ⟨bc, 0, none⟩))] (by kernel_rfl) (by kernel_rfl) ?_
  refine St.rangeFunc (g := .tmp 6) (ps := #[7]) (assign := (sub c128 [1, 0, 1, 0, 0])) (body := (sub c128 [1, 0, 1, 0, 1])) (k := K128_2.tail) 123 #[] vc.toArray rfl (by kernel_rfl) (by kernel_rfl) (fun _ => by kernel_rfl) ?_
  intro tm w2 htm hx2 hsz2 hD hL
  obtain ⟨D, hDe⟩ : ∃ D, D = w1.heap.size := ⟨_, rfl⟩
  rw [← hDe] at hsz2 hD hL ⊢
  have hl : w2.heap[D + 1]? = some (.loop (lrec 128 tm #[7] (sub c128 [1, 0, 1, 0, 0]) (sub c128 [1, 0, 1, 0, 1]) D .ready none)) := hL
  have hb2 : Blk w2 bc [.slice none 0 0] 23 := Ext.blk hx2 hb1
  have hE2 : Ext w w2 := hn1.ext.trans hx2
  have hsz := hE2.size
  have hfn := is_may_up p es hes g vc hvc (D + 1) [bc] (fun r wv => AppJ (es.map (·.1)) bc D w2.heap.size tm w2 (r.map (·.1)) wv) (fun _ => False) w2
    (fun b o h => ⟨fun hm => by have := hMb b o h; simp at hm; omega, Ext.blk hE2 (hM b o h)⟩) (fun k hk => by simp at hk; omega)
    ⟨[], .slice none 0 0, [], rfl, hb2, Acc.nil 3 1 _ _, hl⟩ ?_ (fun _ _ _ h _ _ => h) ?_
  rotate_left
  · -- blocks that the function that is ranged over may change
    rintro r wa wb T ⟨l, v, ab, e1, h1, h2, h3⟩ hu hT
    refine ⟨l, v, ab, e1, hu.blk h1 (fun hk => by have := (hT _ hk).1; omega), h2.upd hu (fun k hk hkT => ?_), hu.blk h3 (fun hk => by have := (hT _ hk).1; omega)⟩
    obtain ⟨h4, h5⟩ := h2
    rcases h5 with ⟨_, _, rfl⟩ | ⟨b, cap, rest, _, rfl, _, _, _, ty, hB⟩
    · cases hk
    · simp at hk
      subst hk
      exact (hT _ hkT).2 _ _ _ hB
  · -- a round
    rintro ⟨x, ⟨⟩⟩ r wa us ⟨l, v, ab, e1, h1, h2, h3⟩ hU hus
    simp only [encs, enc, RepVs, RepV] at hus
    obtain ⟨v1, us', rfl, ⟨rfl, hx⟩, rfl⟩ := hus
    have hszU := hU.size
    have habl := h2.lt
    refine Yield.one K128_a [(7, .int .i64 x), (6, .func (.func 123) #[] vc.toArray), (2, .pointer (some ⟨bc, 0, none⟩))] h3 htm (by kernel_rfl) (by kernel_rfl) (fun c cs => ?_)
    refine St.reg K128_b [(0, true)] (by kernel_rfl) (by kernel_rfl) ?_
    refine RX.q 1 [] [(5, .int .i64 x), (2, .pointer (some ⟨bc, 0, none⟩))] [] (by kernel_rfl) trivial ?_
    refine RX.done [(5, .int .i64 x), (2, .pointer (some ⟨bc, 0, none⟩))] (by kernel_rfl) (by kernel_rfl) ?_
    refine St.beginRound (k' := K128_c) h3 rfl (by kernel_rfl) ?_
    intro wb hp
    have hlb : wb.heap[D + 1]? = some (.loop (lrec 128 tm #[7] (sub c128 [1, 0, 1, 0, 0]) (sub c128 [1, 0, 1, 0, 1]) D .busy none)) := hp.blk
    have hszb := hp.size
    have hab : ∀ k ∈ ab, k ∉ [D + 1] := fun k hk hk2 => by
      have h4 := (habl k hk).1
      simp at hk2; omega
    have hB1 : Blk wb bc [v] 23 := hp.upd.blk h1 (by simp; omega)
    have hA1 := h2.upd hp.upd hab
    refine St.reg [] [(0, true), (1, true), (2, false), (3, false), (4, false)] (by kernel_rfl) (by kernel_rfl) ?_
    refine RX.q 2 [(0, true, v)] [(8, v), (9, .int .i64 x), (2, .pointer (some ⟨bc, 0, none⟩))] [.cell ⟨bc, 0, none⟩ v] (by kernel_rfl) (Blk.cell hB1 rfl) ?_
    refine RX.new 10 (.cells #[.int .i64 x] 3) (.sl 1) [(8, v), (9, .int .i64 x), (2, .pointer (some ⟨bc, 0, none⟩))] (by kernel_rfl) ?_
    intro bx wc hnc
    have hszc := hnc.size; have hatc := hnc.at_
    have hBx : Blk wc bx [.int .i64 x] 3 := hnc.blk
    have hA2 := hA1.ext hnc.ext
    have hall : l.length + 1 ≤ 1000000 := by
      have : (es.map (·.1)).length = l.length + (x :: r.map (·.1)).length := by rw [e1]; simp
      simp at this; omega
    obtain ⟨v', wd, ab', hr, hA3, hU3, hab', -⟩ := append_run (P := Try.prog) (u := 23) (ty := 23) (lo2 := 0) (x := .slice (some ⟨bx, 0, none⟩) 1 1) (m := 1) (xs := [.int .i64 x]) hT (by kernel_rfl) hA2
      ⟨_, 1, rfl, Nat.le_refl _, rfl, .inr ⟨bx, 0, rfl, Nat.zero_le _, lt_of_blk hBx, fun i u hi => by rw [addr_add, Nat.zero_add]; exact Blk.cell hBx hi⟩⟩ (fun c hc => by simp at hc; subst hc; rfl) (by omega) (by omega)
    obtain ⟨av, cv, rfl⟩ := hA3.shape
    refine RX.run 11 (Builtin.append_ #[23, 23] 23 #[v, .slice (some ⟨bx, 0, none⟩) 1 1]) [(10, .slice (some ⟨bx, 0, none⟩) 1 1), (8, v), (9, .int .i64 x), (2, .pointer (some ⟨bc, 0, none⟩))] (by kernel_rfl) hr ?_
    have habc : ∀ k ∈ ab, k ∉ [bc] := fun k hk hk2 => by
      have h4 := (habl k hk).1
      simp at hk2; omega
    have hB3 : Blk wd bc [v] 23 := hU3.blk (Ext.blk hnc.ext hB1) (fun hk => habc _ hk (by simp))
    have hlc : wd.heap[D + 1]? = some (.loop (lrec 128 tm #[7] (sub c128 [1, 0, 1, 0, 0]) (sub c128 [1, 0, 1, 0, 1]) D .busy none)) := hU3.blk (Ext.blk hnc.ext hlb) (fun hk => hab _ hk (by simp))
    have hszd := hU3.size
    refine RX.store1 bc 0 (.slice av (l.length + 1) cv) [v] 23 (by kernel_rfl) rfl hB3 (by simp) ?_
    intro we hpe
    have hsze := hpe.size
    refine RX.done [] (by kernel_rfl) (by kernel_rfl) ?_
    have hab3 : ∀ k ∈ ab', w2.heap.size ≤ k := fun k hk => hA3.lt k hk |>.1
    have hBe : Blk we bc [.slice av (l.length + 1) cv] 23 := hpe.blk
    have hAe := hA3.upd hpe.upd (fun k hk hk2 => by have := hab3 k hk; simp at hk2; omega)
    have hle : we.heap[D + 1]? = some (.loop (lrec 128 tm #[7] (sub c128 [1, 0, 1, 0, 0]) (sub c128 [1, 0, 1, 0, 1]) D .busy none)) := hpe.upd.blk hlc (by simp; omega)
    refine St.roundEnd hle ?_
    intro wf hpf
    have hUf : Upd [D + 1, bc] w2 wf := by
      have u1 : Upd [D + 1, bc] w2 wd := ((hU.trans (hp.upd.mono (fun k hk => by simp at hk; simp [hk]))).trans hnc.ext.up).trans_old hU3 (fun k hk => (habl k hk).1)
      exact (u1.trans (hpe.upd.mono (fun k hk => by simp at hk; simp [hk]))).trans (hpf.upd.mono (fun k hk => by simp at hk; simp [hk]))
    refine ⟨hUf, .inl ⟨rfl, l ++ [x], .slice av (l.length + 1) cv, ab', by rw [e1]; simp, hpf.upd.blk hBe (by simp; omega), ?_, hpf.blk⟩⟩
    have := hAe.upd hpf.upd (fun k hk hk2 => by have := hab3 k hk; simp at hk2; omega)
    simpa using this
  refine Fn.mono hfn ?_
  rintro _ w3 ⟨hU3, ⟨l, v, ab, e1, h1, h2, h3⟩ | h⟩
  rotate_left
  · exact h.elim
  simp only [List.map_nil, List.append_nil] at e1
  subst e1
  refine ⟨_, h3, by simp [lrec], fun w4 hp4 => ?_⟩
  have hsz3 := hU3.size; have hsz4 := hp4.size
  have habl := h2.lt
  have hD4 : w4.heap[D]? = some (.deferred (some [])) := hp4.upd.blk (hU3.blk hD (by simp; omega)) (by simp)
  have hb4 : Blk w4 bc [v] 23 := hp4.upd.blk h1 (by simp; omega)
  have hA4 := h2.upd hp4.upd (fun k hk hk2 => by have := (habl k hk).1; simp at hk2; omega)
  refine At.norm 99 (k' := K128_3) (by kernel_rfl) ?_
  refine St.toAt (n := 13) (L := [(6, .func (.func 123) #[] vc.toArray), (2, .pointer (some ⟨bc, 0, none⟩))]) ?_ htm
  refine St.reg K128_4 [(0, true), (1, true)] (by kernel_rfl) (by kernel_rfl) ?_
  refine RX.q 2 [(0, true, v)] [(4, v)] [.cell ⟨bc, 0, none⟩ v] (by kernel_rfl) (Blk.cell hb4 rfl) ?_
  refine RX.done [(4, v)] (by kernel_rfl) (by kernel_rfl) ?_
  refine St.retMarks [D] [.tmp 4] [v] (by kernel_rfl) Try.func128 (by kernel_rfl) (by simp) (by simpa using hD4) (fun w5 hu5 hsz5 => ⟨.cons (.tmp (by kernel_rfl)) .nil, ?_, ab, ?_⟩)
  · exact (((hE2.trans_old hU3 (fun k hk => by simp at hk; omega)).trans_old hp4.upd (fun k hk => by simp at hk; omega))).trans_old hu5 (fun k hk => by simp at hk; omega)
  · have := hA4.upd hu5 (fun k hk hk2 => by have := (habl k hk).1; simp at hk2; omega)
    obtain ⟨q1, q2⟩ := this
    refine ⟨by simpa using q1, ?_⟩
    rcases q2 with ⟨q2, q3, q4⟩ | ⟨b, cap, rest, q2, q3, q4, q5⟩
    · exact .inl ⟨q2, by simpa using q3, q4⟩
    · exact .inr ⟨b, cap, rest, by rw [List.length_map] at q2; exact q2, q3, by omega, by simpa using q5⟩
def appseq_S (_N : Nat) (d d' : Dk) (i : Int) : Option Li := (mayR d d' i).map fun es => es.map (·.1)
noncomputable def sp_appseq (N : Nat) : Spec := { f := 128, ins := ⟨[.nils, .fn 123 [] is_may.cap], []⟩, outs := [⟨[.ols 0], [.lst (.int .i64)]⟩], run := fun p k => (appseq_S N p.1.2.1.2.1.1 p.1.2.1.2.2.1.1.1.1 p.1.2.1.2.2.2.1).bind fun r => k (((), ()), (r, ())) }
theorem mayR_small {d d' : Dk} {i : Int} {es : List (Int × Unit)} (h : mayR d d' i = some es) : es.length ≤ 6 ∧ ∀ x ∈ es.map (·.1), inR .i64 x := by
  unfold mayR at h
  split at h
  rotate_left
  · cases h
  rename_i hc
  simp only [Option.some.injEq] at h
  subst h
  refine ⟨?_, fun x hx => ?_⟩
  · have h1 := List.length_filter_le (canD d' i.toNat) (List.range' 0 (d.2.2.2.1.length - 0))
    rw [List.length_map]
    unfold mayF
    rw [List.length_range'] at h1
    omega
  · rw [List.map_map, List.mem_map] at hx
    obtain ⟨k, hk, rfl⟩ := hx
    have := (mem_mayF.1 hk).2.1
    exact inR_small (by show -1000000 ≤ (k : Int) ∧ (k : Int) ≤ 1000000; omega)
theorem sp_appseq_ok (N : Nat) : SpecOK Try.prog (sp_appseq N) := by
  refine ⟨fun Z p κ => ?_, fun args w => Sem.pv_run _ _ _ (by kernel_rfl) w, fun p r hpr g w vs hv hs hρ => ?_⟩
  · show ((appseq_S N _ _ _).bind _) = ((appseq_S N _ _ _).bind _).bind κ
    cases appseq_S N p.1.2.1.2.1.1 p.1.2.1.2.2.1.1.1.1 p.1.2.1.2.2.2.1 <;> rfl
  · obtain ⟨⟨⟨⟩, ⟨⟨⟩, q⟩, ⟨⟩⟩, ⟨⟩⟩ := p
    have hpr' : ((mayR q.1.1 q.2.1.1.1.1 q.2.2.1).map fun es => es.map (·.1)).bind (fun r : Li => some ((((), ()), (r, ())) : (Unit × Unit) × (Li × Unit))) = some r := hpr
    cases hes : mayR q.1.1 q.2.1.1.1.1 q.2.2.1 with
    | none => rw [hes] at hpr'; cases hpr'
    | some es =>
      rw [hes] at hpr'
      have e : ((((), ()), (es.map (·.1), ())) : (Unit × Unit) × (Li × Unit)) = r := Option.some.inj hpr'
      subst e
      have hv : RepVs g [.nils, .fn 123 [] (encs id is_may.cap q)] vs := hv
      simp only [RepVs] at hv
      obtain ⟨v, us, rfl, hv0, v2, us2, rfl, hv2, rfl⟩ := hv
      simp only [RepV, RepVs] at hv0 hv2
      obtain ⟨va, vc, rfl, rfl, hvc⟩ := hv2
      subst hv0
      obtain ⟨hl, hin⟩ := mayR_small hes
      refine Fn.mono (appseq_fn (p := q) hes (by omega) g vc hvc w hs.mem) ?_
      rintro v w' ⟨hE, ab, h1, h2⟩
      refine own_new (y := .int .i64) (l := es.map (·.1)) hs (fun i => hρ i (Nat.zero_le _)) hE (by show (es.map (·.1)).length ≤ 1000000; rw [List.length_map]; omega) ?_
      rcases h2 with ⟨rfl, h3, _⟩ | ⟨b, cap, rest, rfl, _, h3, h4, h5, ty, h6⟩
      · refine .inl ⟨rfl, ?_⟩
        have : es = [] := List.eq_nil_of_length_eq_zero h3
        rw [this]; rfl
      · refine .inr ⟨b, cap, (es.map (·.1)).map (.int .i64), rest, ty, ?_, h3, h6, (repL_i2 _ _).2 ⟨rfl, hin⟩, ?_, ?_⟩
        · show _ = Value.slice (some ⟨b, 0, none⟩) (es.map (·.1)).length cap
          rw [List.length_map]
        · show (es.map (·.1)).length ≤ cap ∧ _
          rw [List.length_map]; exact h4
        · show rest.length = (cap - (es.map (·.1)).length) * 1
          rw [List.length_map]; exact h5
end Go.Proofs.Ythncjilcflilcaa

namespace Go.Proofs.Ythncjilcflilcaa
set_option linter.all false
open Go

end Go.Proofs.Ythncjilcflilcaa

namespace Go.Proofs.Ythncjilcflilcaa
set_option linter.all false
open Go

/-- What is appended where it doesn't fit stands in a block of its own. -/
theorem append_grow {P : Program} {t e u : TypeId} {sz by_ : Nat} {z : Value} (hT : ElemT P t e sz by_ z) (hu : (match Sem.pv P (underlying u) with | some (.slice _) => true | _ => false) = true) {ty : TypeId} {lo lo2 : Nat} {w : World} {v x : Value} {n m : Nat} {cs xs : List Value} {ab : List Nat} (hA : Acc e sz lo w v n cs ab)
    (hx : Sl lo2 w x m sz xs) (hn : n + m ≤ 1000000000) (a : Option Addr) (cap : Nat) (hv : v = .slice a n cap) (hcap : ¬ n + m ≤ cap) :
    ∃ nc w' rest, (Builtin.append_ #[t, u] ty #[v, x]).run P w = .ok (.slice (some ⟨w.heap.size, 0, none⟩) (n + m) nc) w' ∧ (n + m ≤ nc ∧ nc ≤ 9223372036854775807) ∧ Ext w w' ∧ w'.heap.size = w.heap.size + 1 ∧ Blk w' w.heap.size ((cs ++ xs) ++ rest) e ∧ rest.length = (nc - (n + m)) * sz := by
  obtain ⟨i, hi, hby⟩ := hT.infoE
  have hty := typeInfo_run (P := P) hi
  have hund := Sem.pv_run P _ _ hT.und
  have hsz := Sem.pv_run P _ _ hT.size
  have hz := Sem.pv_run P _ _ hT.zero
  have hu' : ∃ e', ∀ w, (underlying u).run P w = .ok (.slice e') w := by
    split at hu
    · rename_i e' he; exact ⟨e', fun w => Sem.pv_run P _ _ he w⟩
    · cases hu
  obtain ⟨e', hu'⟩ := hu'
  have hxl : xs.length = m * sz := by obtain ⟨_, _, _, _, h, _⟩ := hx; exact h
  have hlen : ∀ w, (Builtin.lenOf x).run P w = .ok m w := by obtain ⟨a, c, rfl, _⟩ := hx; intro w; rfl
  have hfx : ∀ w', Ext w w' → (Builtin.firstCells sz m x).run P w' = .ok xs.toArray w' := by
    intro w' he
    have := firstCells_run (P := P) (hx.ext he) m (Nat.le_refl _)
    rwa [List.take_of_length_le (by omega)] at this
  have hcl := hA.1
  have hfs : ∀ w', Ext w w' → (Builtin.firstCells sz n v).run P w' = .ok cs.toArray w' := by
    intro w' he
    have := firstCells_run (P := P) (hA.sl.ext he) n (Nat.le_refl _)
    rwa [List.take_of_length_le (by omega)] at this
  have hnc := nextcap_le (n + m) cap (by omega)
  have hfit := hT.fits
  have hbig : ¬ (Builtin.nextslicecap (n + m) cap * by_ > 2 ^ 48) := by
    have : Builtin.nextslicecap (n + m) cap * by_ ≤ (2 * 1000000000 + 1000) * 64 := Nat.mul_le_mul (by omega) hfit
    omega
  have hmax : ¬ (((n + m : Nat) : Int) > IntKind.i64.max ∧ by_ = 0) := by
    have : IntKind.i64.max = 9223372036854775807 := by decide
    omega
  let q : Question := .appendCap (n + m) cap e
  let nc := q.cut (w.tape w.drawn q)
  have hnc' : n + m ≤ nc := by simp only [nc, q, Question.cut]; omega
  have hnc63 : nc ≤ 9223372036854775807 := by
    have hlt := Nat.mod_lt (w.tape w.drawn q) (show 0 < 2 ^ 63 - (n + m) by omega)
    simp only [nc, q, Question.cut] at hlt ⊢
    omega
  let w1 := bump w
  have hask : (askRoom (nc * by_)).run P w1 = .ok () w1 := by
    unfold askRoom mark
    split <;> rfl
  let rest := Builtin.zeroCells z.cells (nc - (n + m))
  refine ⟨nc, { w1 with heap := w1.heap.push (.cells (cs.toArray ++ xs.toArray ++ rest) e (0, 0)) }, rest.toList, ?_, ⟨hnc', hnc63⟩, (bump_ext w).trans (New.mk' (.cells (cs.toArray ++ xs.toArray ++ rest) e (0, 0)) w1).ext, by show (w.heap.push _).size = _; simp, ?_, by simp only [rest, Array.length_toList, zeroCells_size, hT.zsz]⟩
  · have hch : ∀ k : Nat → Sem Value, (choose q >>= k).run P w = (k nc).run P w1 := by
      intro k
      simp only [choose, bind, Sem.bind, Sem.run, q, Question.forced]
      rfl
    have h1 := hfs w1 (bump_ext w)
    have h2 := hfx w1 (bump_ext w)
    rw [hv] at h1 ⊢
    simp only [Builtin.append_, List.getElem?_toArray, List.getElem?_cons_zero, List.getElem?_cons_succ, Sem.run_bind, hund, Result.andThen_ok, hsz, hu', Sem.run_pure, hlen, if_neg hcap, hty, hby]
    simp only [Bool.false_eq_true, if_false, Sem.run_bind, Result.andThen_ok, hty, hby, hbig, Sem.run_pure, false_or, hmax, Sem.run_ite]
    simp only [hlen, Result.andThen_ok, hcap, if_false, hty, hby, hbig, hmax]
    rw [show (choose (.appendCap (n + m) cap e)).run P w = .ok nc w1 from rfl]
    simp only [Result.andThen_ok, hty, hby, hask, h1, h2, hz, newRow, newObj, Sem.run_bind, Sem.run_pure, Sem.run]
    rfl
  · show (w1.heap.push (.cells (cs.toArray ++ xs.toArray ++ rest) e (0, 0)))[w.heap.size]? = _
    have hb : (w1.heap.push (.cells (cs.toArray ++ xs.toArray ++ rest) e (0, 0)))[w.heap.size]? = some (.cells (cs.toArray ++ xs.toArray ++ rest) e (0, 0)) := by
      show (w.heap.push _)[w.heap.size]? = _
      simp
    rw [hb]
    congr 2
    apply Array.ext'
    simp
noncomputable def c33 : Code := (Try.f33.body).getD .skip
noncomputable def K33_20 : List Item := [.code (sub c33 [1, 1, 1, 1, 1, 1, 1, 0, 0]), .code (sub c33 [1, 1, 1, 1, 1, 1, 1, 0, 1]), .code (sub c33 [1, 1, 1, 1, 1, 1, 1, 1])]
noncomputable def K33_21 : List Item := [.code (sub c33 [1, 1, 1, 1, 1, 1, 1, 0, 1, 0, 0, 0, 0]), .code (sub c33 [1, 1, 1, 1, 1, 1, 1, 0, 1, 0, 0, 0, 1]), .code (sub c33 [1, 1, 1, 1, 1, 1, 1, 0, 1, 0, 0, 1]), .inLoop (sub c33 [1, 1, 1, 1, 1, 1, 1, 0, 1, 0, 0]), .inBlock 0, .code (sub c33 [1, 1, 1, 1, 1, 1, 1, 1])]
noncomputable def K33_22 : List Item := [.code (sub c33 [1, 1, 1, 1, 1, 1, 1, 0, 1, 0, 0, 0, 1]), .code (sub c33 [1, 1, 1, 1, 1, 1, 1, 0, 1, 0, 0, 1]), .inLoop (sub c33 [1, 1, 1, 1, 1, 1, 1, 0, 1, 0, 0]), .inBlock 0, .code (sub c33 [1, 1, 1, 1, 1, 1, 1, 1])]
noncomputable def K33_23 : List Item := [.code (sub c33 [1, 1, 1, 1, 1, 1, 1, 0, 1, 0, 0, 1, 0, 0]), .inBlock 1, .code (sub c33 [1, 1, 1, 1, 1, 1, 1, 0, 1, 0, 0, 1, 1]), .inLoop (sub c33 [1, 1, 1, 1, 1, 1, 1, 0, 1, 0, 0]), .inBlock 0, .code (sub c33 [1, 1, 1, 1, 1, 1, 1, 1])]
noncomputable def K33_24 : List Item := [.code (sub c33 [1, 1, 1, 1, 1, 1, 1, 1, 0]), .code (sub c33 [1, 1, 1, 1, 1, 1, 1, 1, 1])]
noncomputable def K33_25 : List Item := [.code (sub c33 [1, 1, 1, 1, 1, 1, 1, 0, 1, 0, 0, 1, 1]), .inLoop (sub c33 [1, 1, 1, 1, 1, 1, 1, 0, 1, 0, 0]), .inBlock 0, .code (sub c33 [1, 1, 1, 1, 1, 1, 1, 1])]
noncomputable def K33_26 : List Item := [.code (sub c33 [1, 1, 1, 1, 1, 1, 1, 1, 1, 0]), .code (sub c33 [1, 1, 1, 1, 1, 1, 1, 1, 1, 1])]
/-- Rows of our own, each in a block of its own, behind those before it; none is one of some blocks. -/
structure Rws (w : World) (lo : Nat) (l : List (List Int)) (vs : List Value) (n : Nat) (ab : List Nat) : Prop where
  len : vs.length = n
  row : ∀ j, j < n → CR w lo (l.getD j []) (vs.getD j undef)
  inc : ∀ i j, i < j → j < n → blkN (vs.getD i undef) < blkN (vs.getD j undef)
  off : ∀ j, j < n → blkN (vs.getD j undef) ∉ ab
theorem getD_snoc {α : Type} (l : List α) (x d : α) (j : Nat) : (l ++ [x]).getD j d = if j = l.length then x else l.getD j d := by
  simp only [List.getD_eq_getElem?_getD, List.getElem?_append]
  by_cases e : j < l.length
  · rw [if_pos e, if_neg (by omega)]
  · rw [if_neg e]
    by_cases e2 : j = l.length
    · rw [if_pos e2, e2, Nat.sub_self]; rfl
    · rw [if_neg e2, List.getElem?_eq_none (by simp; omega), List.getElem?_eq_none (by omega)]
set_option maxHeartbeats 2000000 in
theorem with_rows {X : Ctx} {df : List Deferred} {M : Nat → Option Obj} (b0 b1 b2 f t : Nat) (va : Int) (F : List (List Int)) (vW vS vL vR uW uS uL uR : Value) (aF : Option Addr) (cF : Nat) (ty0 ty2 : TypeId) (w0 : World)
    (hM : ∀ b o, M b = some o → b ≠ b2 ∧ w0.heap[b]? = some o) (h02 : b0 ≠ b2) (hB0 : Blk w0 b0 [vW, vS, vL, (.slice aF F.length cF), vR] ty0) (hB2 : Blk w0 b2 [uW, uS, uL, .slice none 0 0, uR] ty2)
    (hR : RepS M 1 (RepC M (.sl (.int .i64))) F (.slice aF F.length cF)) (hFn : F.length ≤ 1000000) (hF : ∀ r ∈ F, r ≠ [] ∧ r.length ≤ 1000000)
    (hk : ∀ v vs ab w, Upd [b2] w0 w → Blk w b2 [uW, uS, uL, v, uR] ty2 → Acc 23 1 w0.heap.size w v F.length vs ab → Rws w w0.heap.size F vs F.length ab → St Try.prog X 77 K33_24 [(1, .int .i64 (f : Int)), (2, .int .i64 (t : Int)), (3, .int .i64 va), (4, .pointer (some ⟨b0, 0, none⟩)), (8, .pointer (some ⟨b1, 0, none⟩)), (11, .pointer (some ⟨b2, 0, none⟩))] df w) :
    St Try.prog X 77 K33_21 [(12, .int .i64 0), (1, .int .i64 (f : Int)), (2, .int .i64 (t : Int)), (3, .int .i64 va), (4, .pointer (some ⟨b0, 0, none⟩)), (8, .pointer (some ⟨b1, 0, none⟩)), (11, .pointer (some ⟨b2, 0, none⟩))] df w0 := by
  have hb0 := lt_of_blk hB0; have hb2 := lt_of_blk hB2
  have hMb : ∀ b o, M b = some o → b < w0.heap.size := fun b o h => lt_of_blk (hM b o h).2
  obtain ⟨-, -, by1, zv1, hT1, -⟩ := elemT_of (P := Try.prog) (t := 23) (e := 3) (y := .int .i64) (by kernel_rfl)
  have hT1 : ElemT Try.prog 23 3 1 by1 zv1 := hT1
  obtain ⟨-, -, by2, zv2, hT2, -⟩ := elemT_of (P := Try.prog) (t := 24) (e := 23) (y := .sl (.int .i64)) (by kernel_rfl)
  have hT2 : ElemT Try.prog 24 23 1 by2 zv2 := hT2
  have loop : ∀ (N i : Nat) (v : Value) (vs : List Value) (ab : List Nat) (w : World), i ≤ F.length → N = F.length - i → Upd [b2] w0 w → Blk w b2 [uW, uS, uL, v, uR] ty2 → Acc 23 1 w0.heap.size w v i vs ab → Rws w w0.heap.size F vs i ab →
      St Try.prog X 77 K33_21 [(12, .int .i64 (i : Int)), (1, .int .i64 (f : Int)), (2, .int .i64 (t : Int)), (3, .int .i64 va), (4, .pointer (some ⟨b0, 0, none⟩)), (8, .pointer (some ⟨b1, 0, none⟩)), (11, .pointer (some ⟨b2, 0, none⟩))] df w := by
    intro N
    induction N using Nat.strongRecOn with
    | ind N ih => ?_
    intro i v vs ab w hi hN hu hb hA hrw
    have hsz := hu.size
    have habl := hA.lt
    have hb0w : Blk w b0 [vW, vS, vL, (.slice aF F.length cF), vR] ty0 := hu.blk hB0 (by simp [h02])
    refine St.reg K33_22 [(0, true), (1, true), (2, true), (3, true), (4, true)] (by kernel_rfl) (by kernel_rfl) ?_
    refine RX.q 5 [(2, true, (.slice aF F.length cF))] [(53, .bool (decide ((i : Int) < (F.length : Int)))), (12, .int .i64 (i : Int)), (1, .int .i64 (f : Int)), (2, .int .i64 (t : Int)), (3, .int .i64 va), (4, .pointer (some ⟨b0, 0, none⟩)), (8, .pointer (some ⟨b1, 0, none⟩)), (11, .pointer (some ⟨b2, 0, none⟩))] [.cell ⟨b0, 3, none⟩ (.slice aF F.length cF)] (by kernel_rfl) (Blk.cell hb0w rfl) ?_
    refine RX.done [(53, .bool (decide ((i : Int) < (F.length : Int)))), (12, .int .i64 (i : Int)), (1, .int .i64 (f : Int)), (2, .int .i64 (t : Int)), (3, .int .i64 va), (4, .pointer (some ⟨b0, 0, none⟩)), (8, .pointer (some ⟨b1, 0, none⟩)), (11, .pointer (some ⟨b2, 0, none⟩))] (by kernel_rfl) (by kernel_rfl) ?_
    refine St.cond (k1 := K33_23) (k2 := K33_24) (decide ((i : Int) < (F.length : Int))) (by kernel_rfl) (fun hc => ?_) (fun hc => ?_)
    rotate_left
    · have hh : (F.length : Int) ≤ (i : Int) := by simpa using hc
      clear hc
      obtain rfl : i = F.length := by omega
      exact St.weak (L' := [(1, .int .i64 (f : Int)), (2, .int .i64 (t : Int)), (3, .int .i64 va), (4, .pointer (some ⟨b0, 0, none⟩)), (8, .pointer (some ⟨b1, 0, none⟩)), (11, .pointer (some ⟨b2, 0, none⟩))]) (by kernel_rfl) (hk v vs ab w hu hb hA hrw)
    have hh : (i : Int) < (F.length : Int) := by simpa using hc
    clear hc
    have hil : i < F.length := by omega
    have hx0 : F[i]? = some (F.getD i []) := by simp [List.getD_eq_getElem?_getD, List.getElem?_eq_getElem hil]
    obtain ⟨-, a', c', e1, -, e2⟩ := hR
    have hmem : F.getD i [] ∈ F := List.mem_of_getElem? hx0
    obtain ⟨hne, hrl⟩ := hF _ hmem
    have hm0 : 0 < (F.getD i []).length := List.length_pos_iff.2 hne
    rcases e2 with e2 | ⟨bF, oF, ws, tyF, rfl, hMF, hseg⟩
    · rw [e2] at hil; simp at hil
    cases e1
    obtain ⟨us, hus, rv, rfl, hrs⟩ := hseg i _ hx0
    obtain ⟨ra, rc, rfl⟩ : ∃ ra rc, rv = (.slice ra (F.getD i []).length rc) := by
      obtain ⟨-, ra, rc, e, -⟩ := hrs
      exact ⟨ra, rc, e⟩
    have hcellF : ∀ w', Upd [b2] w0 w' → w'.cell? ⟨bF, oF + i * 1, none⟩ = some (.slice ra (F.getD i []).length rc) := fun w' hu' => by
      have h1 := hu'.blk (hM bF _ hMF).2 (by simp [(hM bF _ hMF).1])
      exact Cl.cell (Cl.of_seg h1 hus) (i := 0) rfl
    refine St.weak (L' := [(12, .int .i64 (i : Int)), (1, .int .i64 (f : Int)), (2, .int .i64 (t : Int)), (3, .int .i64 va), (4, .pointer (some ⟨b0, 0, none⟩)), (8, .pointer (some ⟨b1, 0, none⟩)), (11, .pointer (some ⟨b2, 0, none⟩))]) (by kernel_rfl) ?_
    refine St.drw K33_25 ab [(0, true), (1, true), (3, true), (4, true), (5, true), (6, true), (7, true), (2, false), (8, false), (9, false), (10, false), (11, true), (12, false)] mixed (by kernel_rfl) (by kernel_rfl) ?_
    intro w1 hd hds
    have hu1 : Upd [b2] w0 w1 := Upd.ext hu hd
    have h2ab : b2 ∉ ab := fun h => by have := (habl _ h).1; omega
    have h0ab : b0 ∉ ab := fun h => by have := (habl _ h).1; omega
    have hFab : bF ∉ ab := fun h => by have := (habl _ h).1; have := hMb _ _ hMF; omega
    have hix : ∀ w', (Instr.indexAt 24 (.slice (some ⟨bF, oF, none⟩) F.length cF) (.int .i64 (i : Int))).run Try.prog w' = .ok (.pointer (some ⟨bF, oF + i * 1, none⟩)) w' := fun w' => idx_sl (e := 23) (sz := 1) (by kernel_rfl) (by kernel_rfl) bF oF F.length cF i hil _
    refine RX.qd 7 [(1, true, v), (4, true, (.slice (some ⟨bF, oF, none⟩) F.length cF)), (6, true, (.pointer (some ⟨bF, oF + i * 1, none⟩))), (7, true, (.slice ra (F.getD i []).length rc))] [(63, (.slice ra (F.getD i []).length rc)), (57, v), (12, .int .i64 (i : Int)), (1, .int .i64 (f : Int)), (2, .int .i64 (t : Int)), (3, .int .i64 va), (4, .pointer (some ⟨b0, 0, none⟩)), (8, .pointer (some ⟨b1, 0, none⟩)), (11, .pointer (some ⟨b2, 0, none⟩))] [.cell ⟨b2, 3, none⟩ v, .cell ⟨b0, 3, none⟩ (.slice (some ⟨bF, oF, none⟩) F.length cF), .raw (Instr.indexAt 24 (.slice (some ⟨bF, oF, none⟩) F.length cF) (.int .i64 (i : Int))) (.pointer (some ⟨bF, oF + i * 1, none⟩)), .cell ⟨bF, oF + i * 1, none⟩ (.slice ra (F.getD i []).length rc)] (by kernel_rfl) ⟨Blk.cell (Ext.blk hd hb) rfl, Blk.cell (hu1.blk hB0 (by simp [h02])) rfl, hix _, hcellF w1 hu1⟩ ⟨h2ab, h0ab, fun w' _ => hix w', hFab⟩ ?_
    refine RX.newD 58 (.cells #[] 3) (.sl 0) [(63, (.slice ra (F.getD i []).length rc)), (57, v), (12, .int .i64 (i : Int)), (1, .int .i64 (f : Int)), (2, .int .i64 (t : Int)), (3, .int .i64 va), (4, .pointer (some ⟨b0, 0, none⟩)), (8, .pointer (some ⟨b1, 0, none⟩)), (11, .pointer (some ⟨b2, 0, none⟩))] (by kernel_rfl) ?_
    intro bz w2 hn2
    have hs2 := hn2.size; have ha2 := hn2.at_
    have hBz : Blk w2 bz [] 3 := hn2.blk
    have hu2 : Upd [b2] w0 w2 := Upd.ext hu1 hn2.ext
    obtain ⟨cs, hcs, hsl⟩ := sl_sl (g := ⟨fun _ => none, M⟩) (t := .int .i64) (w := w2) (fun b o h => hu2.blk (hM b o h).2 (by simp [(hM b o h).1])) hrs
    obtain ⟨rfl, hin⟩ := (repL_i2 _ _).1 hcs
    obtain ⟨nc, w3, rr, hr3, hnc, hx3, hs3, hB3, hrr⟩ := append_grow (P := Try.prog) (u := 23) (ty := 23) (lo := bz) (v := (.slice (some ⟨bz, 0, none⟩) 0 0)) (n := 0) (cs := []) (ab := [bz]) hT1 (by kernel_rfl) ⟨rfl, .inr ⟨bz, 0, [], rfl, rfl, Nat.le_refl _, ⟨Nat.le_refl _, by omega⟩, rfl, 3, hBz⟩⟩ hsl (by omega) _ 0 rfl (by omega)
    obtain ⟨br, hbr⟩ : ∃ br, br = w2.heap.size := ⟨_, rfl⟩
    rw [← hbr] at hr3 hB3
    refine RX.runD 64 (Builtin.append_ #[23, 23] 23 #[(.slice (some ⟨bz, 0, none⟩) 0 0), (.slice ra (F.getD i []).length rc)]) [(58, (.slice (some ⟨bz, 0, none⟩) 0 0)), (63, (.slice ra (F.getD i []).length rc)), (57, v), (12, .int .i64 (i : Int)), (1, .int .i64 (f : Int)), (2, .int .i64 (t : Int)), (3, .int .i64 va), (4, .pointer (some ⟨b0, 0, none⟩)), (8, .pointer (some ⟨b1, 0, none⟩)), (11, .pointer (some ⟨b2, 0, none⟩))] (by kernel_rfl) hr3 hx3.up ?_
    refine RX.newD 65 (.cells #[(.slice (some ⟨br, 0, none⟩) (0 + (F.getD i []).length) nc)] 23) (.sl 1) [(64, (.slice (some ⟨br, 0, none⟩) (0 + (F.getD i []).length) nc)), (58, (.slice (some ⟨bz, 0, none⟩) 0 0)), (63, (.slice ra (F.getD i []).length rc)), (57, v), (12, .int .i64 (i : Int)), (1, .int .i64 (f : Int)), (2, .int .i64 (t : Int)), (3, .int .i64 va), (4, .pointer (some ⟨b0, 0, none⟩)), (8, .pointer (some ⟨b1, 0, none⟩)), (11, .pointer (some ⟨b2, 0, none⟩))] (by kernel_rfl) ?_
    intro bx w4 hn4
    have hs4 := hn4.size; have ha4 := hn4.at_
    have hBx : Blk w4 bx [(.slice (some ⟨br, 0, none⟩) (0 + (F.getD i []).length) nc)] 23 := hn4.blk
    have hx4 : Ext w w4 := ((hd.trans hn2.ext).trans hx3).trans hn4.ext
    have hA4 := hA.ext hx4
    have hsx : Sl 0 w4 (.slice (some ⟨bx, 0, none⟩) 1 1) 1 1 [(.slice (some ⟨br, 0, none⟩) (0 + (F.getD i []).length) nc)] := ⟨_, 1, rfl, Nat.le_refl _, rfl, .inr ⟨bx, 0, rfl, Nat.zero_le _, lt_of_blk hBx, fun j u hj => by rw [addr_add, Nat.zero_add]; exact Blk.cell hBx hj⟩⟩
    obtain ⟨v', w5, ab', hr5, hA5, hU5, hab', hs5⟩ := append_run (P := Try.prog) (u := 24) (ty := 24) hT2 (by kernel_rfl) hA4 hsx (fun c hc => by simp at hc; subst hc; rfl) (by omega) (by omega)
    obtain ⟨av, cv, rfl⟩ := hA5.shape
    refine RX.runD 66 (Builtin.append_ #[24, 24] 24 #[v, (.slice (some ⟨bx, 0, none⟩) 1 1)]) [(65, (.slice (some ⟨bx, 0, none⟩) 1 1)), (64, (.slice (some ⟨br, 0, none⟩) (0 + (F.getD i []).length) nc)), (58, (.slice (some ⟨bz, 0, none⟩) 0 0)), (63, (.slice ra (F.getD i []).length rc)), (57, v), (12, .int .i64 (i : Int)), (1, .int .i64 (f : Int)), (2, .int .i64 (t : Int)), (3, .int .i64 va), (4, .pointer (some ⟨b0, 0, none⟩)), (8, .pointer (some ⟨b1, 0, none⟩)), (11, .pointer (some ⟨b2, 0, none⟩))] (by kernel_rfl) hr5 hU5 ?_
    refine RX.qd 1 [] [(66, .slice av (i + 1) cv), (67, .pointer (some ⟨b2, 3, none⟩)), (12, .int .i64 (i : Int)), (1, .int .i64 (f : Int)), (2, .int .i64 (t : Int)), (3, .int .i64 va), (4, .pointer (some ⟨b0, 0, none⟩)), (8, .pointer (some ⟨b1, 0, none⟩)), (11, .pointer (some ⟨b2, 0, none⟩))] [] (by kernel_rfl) trivial trivial ?_
    have hb5 : Blk w5 b2 [uW, uS, uL, v, uR] ty2 := hU5.blk (Ext.blk hx4 hb) h2ab
    refine RX.store1L b2 3 (.slice av (i + 1) cv) [uW, uS, uL, v, uR] ty2 (by kernel_rfl) rfl hb5 (by simp) (by kernel_rfl) ?_
    intro w6 hp
    have hs6 := hp.size
    refine RX.done [(12, .int .i64 (i : Int)), (1, .int .i64 (f : Int)), (2, .int .i64 (t : Int)), (3, .int .i64 va), (4, .pointer (some ⟨b0, 0, none⟩)), (8, .pointer (some ⟨b1, 0, none⟩)), (11, .pointer (some ⟨b2, 0, none⟩))] (by kernel_rfl) (by kernel_rfl) ?_
    refine St.reg K33_21 [(0, true), (1, true), (2, true)] (by kernel_rfl) (by kernel_rfl) ?_
    refine RX.q 3 [(1, false, .int .i64 ((i : Int) + 1))] [(12, .int .i64 ((i : Int) + 1)), (1, .int .i64 (f : Int)), (2, .int .i64 (t : Int)), (3, .int .i64 va), (4, .pointer (some ⟨b0, 0, none⟩)), (8, .pointer (some ⟨b1, 0, none⟩)), (11, .pointer (some ⟨b2, 0, none⟩))] [.eq (.int .i64 (IntKind.i64.wrap ((i : Int) + 1))) (.int .i64 ((i : Int) + 1))] (by kernel_rfl) (int64 (by omega)) ?_
    refine RX.done [(12, .int .i64 ((i : Int) + 1)), (1, .int .i64 (f : Int)), (2, .int .i64 (t : Int)), (3, .int .i64 va), (4, .pointer (some ⟨b0, 0, none⟩)), (8, .pointer (some ⟨b1, 0, none⟩)), (11, .pointer (some ⟨b2, 0, none⟩))] (by kernel_rfl) (by kernel_rfl) ?_
    have hs5' := hU5.size
    have hab5 : ∀ k ∈ ab', w0.heap.size ≤ k := fun k hk => (hA5.lt k hk).1
    have hU6 : Upd [b2] w0 w6 := ((Upd.ext hu hx4).trans_old hU5 (fun k hk => (habl k hk).1)).trans hp.upd
    have hszw := hx4.size
    have hr6 : CR w6 w0.heap.size (F.getD i []) (.slice (some ⟨br, 0, none⟩) (0 + (F.getD i []).length) nc) := by
      refine ⟨br, nc, rr, 3, by rw [Nat.zero_add], by omega, by omega, hrl, hin, ?_⟩
      have h1 : Blk w3 br ((F.getD i []).map (.int .i64) ++ rr) 3 := by simpa using hB3
      exact hp.upd.blk (hU5.blk (Ext.blk hn4.ext h1) (fun h => by have := (habl _ h).2; omega)) (by simp; omega)
    refine St.weak (by kernel_rfl) (ih _ (by omega) (i + 1) (.slice av (i + 1) cv) (vs ++ [(.slice (some ⟨br, 0, none⟩) (0 + (F.getD i []).length) nc)]) ab' w6 (by omega) rfl hU6 hp.blk (hA5.put hp (fun h => by have := hab5 _ h; omega)) ⟨by simp [hrw.len], fun j hj => ?_, fun j k hjk hk => ?_, fun j hj hja => ?_⟩)
    · rw [getD_snoc, hrw.len]
      by_cases e : j = i
      · subst e; rw [if_pos rfl]; exact hr6
      · rw [if_neg e]
        have h1 := hrw.row j (by omega)
        have h2 := h1.lt
        exact ((h1.upd hx4 (by simp)).upd hU5 (hrw.off j (by omega))).upd hp.upd (fun h => by rw [List.mem_singleton] at h; omega)
    · rw [getD_snoc, getD_snoc, hrw.len, if_neg (by omega)]
      by_cases e : k = i
      · subst e
        rw [if_pos rfl]
        have := (hrw.row j (by omega)).lt
        show blkN _ < br
        omega
      · rw [if_neg e]
        exact hrw.inc j k hjk (by omega)
    · rw [getD_snoc, hrw.len] at hja
      have h3 := hab' _ hja
      by_cases e : j = i
      · subst e
        rw [if_pos rfl] at h3 hja
        simp only [blkN] at h3
        rcases h3 with h3 | h3
        · have := (habl _ h3).2; omega
        · omega
      · rw [if_neg e] at h3 hja
        have h4 := (hrw.row j (by omega)).lt
        rcases h3 with h3 | h3
        · exact hrw.off j (by omega) h3
        · omega
  exact St.weak (by kernel_rfl) (loop _ 0 (.slice none 0 0) [] [] w0 (by omega) rfl (Upd.refl _ _) hB2 (Acc.nil _ _ _ _) ⟨rfl, fun j hj => by omega, fun _ _ _ hj => by omega, fun j hj => by omega⟩)
theorem with_walk {X : Ctx} {df : List Deferred} {M : Nat → Option Obj} (b0 b1 b2 f t : Nat) (va : Int) (F : List (List Int)) (vW vS vL vR uW uS uL uR : Value) (aF : Option Addr) (cF : Nat) (ty0 ty2 : TypeId) (w0 : World)
    (hM : ∀ b o, M b = some o → b ≠ b2 ∧ w0.heap[b]? = some o) (h02 : b0 ≠ b2) (hB0 : Blk w0 b0 [vW, vS, vL, (.slice aF F.length cF), vR] ty0) (hB2 : Blk w0 b2 [uW, uS, uL, .slice none 0 0, uR] ty2)
    (hR : RepS M 1 (RepC M (.sl (.int .i64))) F (.slice aF F.length cF)) (hFn : F.length ≤ 1000000) (hF : ∀ r ∈ F, r ≠ [] ∧ r.length ≤ 1000000) (hf : f < F.length) (ht : t < (F.getD f []).length) (hva : inR .i64 va)
    (hk : ∀ bl c w, Upd [b2] w0 w → Blk w b2 [uW, uS, uL, (.slice (some ⟨bl, 0, none⟩) F.length c), uR] ty2 → F.length ≤ c → w0.heap.size ≤ bl → RowsOK w w0.heap.size (F.set f ((F.getD f []).set t va)) bl → St Try.prog X 77 K33_26 [(8, .pointer (some ⟨b1, 0, none⟩)), (11, .pointer (some ⟨b2, 0, none⟩))] df w) :
    St Try.prog X 77 K33_20 [(1, .int .i64 (f : Int)), (2, .int .i64 (t : Int)), (3, .int .i64 va), (4, .pointer (some ⟨b0, 0, none⟩)), (8, .pointer (some ⟨b1, 0, none⟩)), (11, .pointer (some ⟨b2, 0, none⟩))] df w0 := by
  refine St.reg K33_21 [(0, true)] (by kernel_rfl) (by kernel_rfl) ?_
  refine RX.q 1 [] [(12, .int .i64 0), (1, .int .i64 (f : Int)), (2, .int .i64 (t : Int)), (3, .int .i64 va), (4, .pointer (some ⟨b0, 0, none⟩)), (8, .pointer (some ⟨b1, 0, none⟩)), (11, .pointer (some ⟨b2, 0, none⟩))] [] (by kernel_rfl) trivial ?_
  refine RX.done [(12, .int .i64 0), (1, .int .i64 (f : Int)), (2, .int .i64 (t : Int)), (3, .int .i64 va), (4, .pointer (some ⟨b0, 0, none⟩)), (8, .pointer (some ⟨b1, 0, none⟩)), (11, .pointer (some ⟨b2, 0, none⟩))] (by kernel_rfl) (by kernel_rfl) ?_
  refine with_rows b0 b1 b2 f t va F vW vS vL vR uW uS uL uR aF cF ty0 ty2 w0 hM h02 hB0 hB2 hR hFn hF ?_
  intro v vs ab w hu hb hA hrw
  have hb2 := lt_of_blk hB2
  obtain ⟨h1, ⟨_, h2, _⟩ | ⟨bl, c, rest, rfl, rfl, hlo, hc, hrest, ty, hB⟩⟩ := hA
  · omega
  have hrf := hrw.row f hf
  have hrf1 := hrf.lt
  obtain ⟨rb, rcc, rrest, rty, erb, hr1, hr2, hr3, hr4, hr5⟩ := id hrf
  have hlen := hrw.len
  have ev : vs[f]? = some (vs.getD f undef) := by simp [List.getD_eq_getElem?_getD, List.getElem?_eq_getElem (show f < vs.length by omega)]
  have ev2 : (vs ++ rest)[f]? = some (.slice (some ⟨rb, 0, none⟩) (F.getD f []).length rcc) := by rw [List.getElem?_append_left (by omega), ev, erb]
  refine St.reg K33_26 [(0, true), (1, true), (2, true), (3, true), (4, true), (5, true), (6, true), (7, true), (8, false)] (by kernel_rfl) (by kernel_rfl) ?_
  refine RX.q 8 [(1, true, (.slice (some ⟨bl, 0, none⟩) F.length c)), (3, true, (.pointer (some ⟨bl, 0 + f * 1, none⟩))), (4, true, (.slice (some ⟨rb, 0, none⟩) (F.getD f []).length rcc)), (7, true, (.pointer (some ⟨rb, 0 + t * 1, none⟩)))] [(74, .int .i64 va), (75, (.pointer (some ⟨rb, 0 + t * 1, none⟩))), (8, .pointer (some ⟨b1, 0, none⟩)), (11, .pointer (some ⟨b2, 0, none⟩))] [.cell ⟨b2, 3, none⟩ (.slice (some ⟨bl, 0, none⟩) F.length c), .raw (Instr.indexAt 24 (.slice (some ⟨bl, 0, none⟩) F.length c) (.int .i64 (f : Int))) (.pointer (some ⟨bl, 0 + f * 1, none⟩)), .cell ⟨bl, 0 + f * 1, none⟩ (.slice (some ⟨rb, 0, none⟩) (F.getD f []).length rcc), .raw (Instr.indexAt 23 (.slice (some ⟨rb, 0, none⟩) (F.getD f []).length rcc) (.int .i64 (t : Int))) (.pointer (some ⟨rb, 0 + t * 1, none⟩))] (by kernel_rfl)
    ⟨Blk.cell hb rfl, idx_sl (e := 23) (sz := 1) (by kernel_rfl) (by kernel_rfl) bl 0 F.length c f hf _, by rw [show 0 + f * 1 = f by omega]; exact Blk.cell hB ev2, idx_sl (e := 3) (sz := 1) (by kernel_rfl) (by kernel_rfl) rb 0 (F.getD f []).length rcc t ht _⟩ ?_
  rw [show 0 + t * 1 = t by omega]
  refine RX.store1 rb t (.int .i64 va) ((F.getD f []).map (.int .i64) ++ rrest) rty (by kernel_rfl) rfl hr5 (by rw [List.length_append, List.length_map]; omega) ?_
  intro w3 hp
  refine RX.done [(8, .pointer (some ⟨b1, 0, none⟩)), (11, .pointer (some ⟨b2, 0, none⟩))] (by kernel_rfl) (by kernel_rfl) ?_
  have erb' : blkN (vs.getD f undef) = rb := by rw [erb]; rfl
  have hlow : w0.heap.size ≤ w.heap.size := hu.size
  have hoff := hrw.off f hf
  rw [erb'] at hoff
  have hne : bl ≠ rb := fun e => hoff (by rw [e]; simp)
  refine hk bl c w3 (hu.trans_old hp.upd (fun k h => by simp at h; subst h; omega)) (hp.upd.blk hb (by simp; omega)) hc.1 hlo ⟨vs, rest, ty, hp.upd.blk hB (by simp; exact hne), by rw [hlen]; simp, fun j hj => ?_⟩
  simp only [List.length_set] at hj
  by_cases e : j = f
  · subst e
    rw [getD_set_self _ _ _ _ hf, erb]
    refine ⟨rb, rcc, rrest, rty, by simp, by simpa using hr1, by omega, by simpa using hr3, fun x hx => ?_, ?_⟩
    · rcases List.mem_or_eq_of_mem_set hx with h | h
      · exact hr4 x h
      · subst h; exact hva
    · have := hp.blk
      rw [List.set_append_left _ _ (by simpa using ht)] at this
      rw [List.map_set]; exact this
  · rw [getD_set_ne _ _ _ _ _ (Ne.symm e)]
    refine (hrw.row j hj).upd hp.upd ?_
    simp only [List.mem_singleton]
    intro h
    rcases Nat.lt_or_ge j f with h1 | h1
    · have := hrw.inc j f h1 hf; omega
    · have := hrw.inc f j (by omega) hj; omega
end Go.Proofs.Ythncjilcflilcaa

/-
  Parts of a proof, put together: F3, F4, FCo, F6, Fm3, FD1, FD2, FD3, FD4, FD5, FD6, FD7, FD8, FD9, FDa, FDb, FDk, FAw.
  Conditions: none.
-/
import Derived.Test.YthncjilcflilcaaZd
import Derived.Test.YthncjilcflilcaaZe
import Derived.Test.YthncjilcflilcaaZf
namespace Go.Proofs.Ythncjilcflilcaa
set_option linter.all false
open Go

def copyi_S (N : Nat) (l : Li) : Option Li :=
  grd (lmI (l.length : Int)) <|
  some (l.take (min l.length (List.replicate (l.length : Int).toNat (0 : Int)).length) ++ (List.replicate (l.length : Int).toNat (0 : Int)).drop (min l.length (List.replicate (l.length : Int).toNat (0 : Int)).length))
noncomputable def copyi_sp (N : Nat) : List Spec := []
theorem copyi_all (N : Nat) : AllP (SpecOK Try.prog) (copyi_sp N) := trivial
noncomputable def copyi_c : Code := (Try.f23.body).getD .skip
noncomputable abbrev copyi_B : Body := { c := copyi_c, n := 11, res := [.tmp 2], outs := [⟨[shL], []⟩], m0 := 0 }
abbrev copyi_rt : altD copyi_B.outs → Option Li := fun r => some r.1.1
abbrev copyi_st : Sta := ⟨[0], ⟨[shL], []⟩⟩
theorem copyi_eq (N : Nat) (l : Li) : ev (Z := Li) Try.prog (copyi_sp N) copyi_B [] [] (some copyi_rt) 400 false [.c [0], .c [1]] (stL copyi_st ((l, ()), ())) (stH copyi_st ((l, ()), ())) = copyi_S N l := by kernel_rfl
noncomputable def sp_copyi (N : Nat) : Spec := { f := 23, ins := ⟨[shL], []⟩, outs := [⟨[shL], []⟩], run := fun p k => (copyi_S N p.1.1).bind fun r => k ((r, ()), ()) }
theorem sp_copyi_ok (N : Nat) : SpecOK Try.prog (sp_copyi N) := fn_sound (B := copyi_B) (loops := []) (leaves := []) (fun p => copyi_S N p.1.1) (fun r => ((r, ()), ())) copyi_rt (fun _ _ _ => rfl) (fun r z h => by cases h; rfl) Try.func23 (by kernel_rfl) (by kernel_rfl) (by kernel_rfl) rfl rfl (by kernel_rfl) (fun args w => Sem.pv_run _ _ _ (by kernel_rfl) w) (copyi_all N) mixed trivial (fun z E Xc hE hX hret => trivial) (fun p => copyi_eq N p.1.1)

def copyr_l1 (N : Nat) : Nat → Ll → Int → Int → Ll → Option Ll
  | 0, _, _, _, _ => none
  | n_ + 1, u, u2, u3, out =>
    br (decide (u3 < u2))
      (idx u u3 fun x_1 =>
      (copyi_S N x_1).bind fun x_2 =>
      rng u3 out.length <|
      get out u3.toNat fun _ =>
      chk (u3 + 1) <|
      copyr_l1 N n_ u u2 (u3 + 1) (out.set u3.toNat x_2))
      (some (out))
def copyr_S (N : Nat) (l : Ll) : Option Ll :=
  grd (lmI (l.length : Int)) <|
  (copyr_l1 N N l (l.length : Int) 0 (List.replicate (l.length : Int).toNat ([] : Li))).bind fun out_4 =>
  some out_4
noncomputable def copyr_sp (N : Nat) : List Spec := [sp_copyi N]
theorem copyr_all (N : Nat) : AllP (SpecOK Try.prog) (copyr_sp N) := ⟨sp_copyi_ok N, trivial⟩
noncomputable def copyr_c : Code := (Try.f80.body).getD .skip
noncomputable abbrev copyr_B : Body := { c := copyr_c, n := 23, res := [.tmp 2], outs := [⟨[shQ], []⟩], m0 := 0 }
abbrev copyr_rt : altD copyr_B.outs → Option Ll := fun r => some r.1.1
abbrev copyr_l1_at : List PI := [.c [1, 1, 0, 1, 0, 0, 0], .c [1, 1, 0, 1, 0, 0, 1], .l [1, 1, 0, 1, 0, 0], .b 0, .c [1, 1, 1]]
abbrev copyr_l1_st : Sta := ⟨[3, 9, 10, 11], ⟨[.ols 0, shQ, shI, shI], [.lst (.sl (.int .i64))]⟩⟩
abbrev copyr_l1_h (rec : Ll → Int → Int → Ll → Option Ll) : Leaf Ll := ⟨copyr_l1_at, copyr_l1_st, fun p => rec p.1.2.1 p.1.2.2.1 p.1.2.2.2.1 p.2.1⟩
abbrev copyr_l1_e0 : Leaf Ll := ⟨[.c [1, 1, 1, 0], .c [1, 1, 1, 1]], ⟨[3], ⟨[.ols 0], [.lst (.sl (.int .i64))]⟩⟩, fun p => some (p.2.1)⟩
noncomputable def copyr_l1_L (N : Nat) : LoopS := { at_ := copyr_l1_at, sta := copyr_l1_st, exits := [([.c [1, 1, 1, 0], .c [1, 1, 1, 1]], ⟨[3], ⟨[.ols 0], [.lst (.sl (.int .i64))]⟩⟩)], run := fun p k => (copyr_l1 N N p.1.2.1 p.1.2.2.1 p.1.2.2.2.1 p.2.1).bind fun e => k (.inl (((), ()), (e, ()))) }
theorem copyr_l1_eq (N n_ : Nat) (u : Ll) (u2 : Int) (u3 : Int) (out : Ll) : ev (Z := Ll) Try.prog (copyr_sp N) copyr_B [] [copyr_l1_h (copyr_l1 N n_), copyr_l1_e0] none 400 true copyr_l1_at (stL copyr_l1_st (((), u, u2, u3, ()), (out, ()))) (stH copyr_l1_st (((), u, u2, u3, ()), (out, ()))) = copyr_l1 N (n_ + 1) u u2 u3 out := by kernel_rfl
theorem copyr_l1_ok (N : Nat) {top : Bool} : LoopOK Try.prog copyr_B.c copyr_B.n copyr_B.m0 top (copyr_l1_L N) := loop_of_ev (Z := Ll) (N := N) (fun m p => copyr_l1 N m p.1.2.1 p.1.2.2.1 p.1.2.2.2.1 p.2.1) (fun e => .inl (((), ()), (e, ()))) (fun _ _ _ => rfl) (fun _ => rfl) (fun m z E Xc hE hX hrec hx => leaf_of_ev (B := copyr_B) (loops := []) (leaves := [copyr_l1_h (copyr_l1 N m), copyr_l1_e0]) (copyr_all N) mixed trivial hE hX ⟨hrec, (fun p hp => by obtain rfl := Option.some.inj hp; exact hx), trivial⟩ RetOK.no (fun p => copyr_l1_eq N m p.1.2.1 p.1.2.2.1 p.1.2.2.2.1 p.2.1))
abbrev copyr_st : Sta := ⟨[0], ⟨[shQ], []⟩⟩
theorem copyr_eq (N : Nat) (l : Ll) : ev (Z := Ll) Try.prog (copyr_sp N) copyr_B [copyr_l1_L N] [] (some copyr_rt) 400 false [.c [0], .c [1]] (stL copyr_st ((l, ()), ())) (stH copyr_st ((l, ()), ())) = copyr_S N l := by kernel_rfl
noncomputable def sp_copyr (N : Nat) : Spec := { f := 80, ins := ⟨[shQ], []⟩, outs := [⟨[shQ], []⟩], run := fun p k => (copyr_S N p.1.1).bind fun r => k ((r, ()), ()) }
theorem sp_copyr_ok (N : Nat) : SpecOK Try.prog (sp_copyr N) := fn_sound (B := copyr_B) (loops := [copyr_l1_L N]) (leaves := []) (fun p => copyr_S N p.1.1) (fun r => ((r, ()), ())) copyr_rt (fun _ _ _ => rfl) (fun r z h => by cases h; rfl) Try.func80 (by kernel_rfl) (by kernel_rfl) (by kernel_rfl) rfl rfl (by kernel_rfl) (fun args w => Sem.pv_run _ _ _ (by kernel_rfl) w) (copyr_all N) mixed ⟨copyr_l1_ok N, trivial⟩ (fun z E Xc hE hX hret => trivial) (fun p => copyr_eq N p.1.1)

def copyd_S (N : Nat) (d : Li) (d2 : Int) (d3 : Ll) (d4 : Ll) (d5 : Li) : Option (Li × Int × Ll × Ll × Li) :=
  (copyi_S N d).bind fun x_1 =>
  (copyr_S N d3).bind fun x_2 =>
  (copyr_S N d4).bind fun x_3 =>
  (copyi_S N d5).bind fun x_4 =>
  some (x_1, d2, x_2, x_3, x_4)
noncomputable def copyd_sp (N : Nat) : List Spec := [sp_copyi N, sp_copyr N]
theorem copyd_all (N : Nat) : AllP (SpecOK Try.prog) (copyd_sp N) := ⟨sp_copyi_ok N, sp_copyr_ok N, trivial⟩
noncomputable def copyd_c : Code := (Try.f27.body).getD .skip
noncomputable abbrev copyd_B : Body := { c := copyd_c, n := 18, res := [.cell 2 26], outs := [⟨[shG], []⟩], m0 := 0 }
abbrev copyd_rt : altD copyd_B.outs → Option (Li × Int × Ll × Ll × Li) := fun r => some (r.1.1.1, r.1.1.2.1, r.1.1.2.2.1, r.1.1.2.2.2.1, r.1.1.2.2.2.2.1)
abbrev copyd_st : Sta := ⟨[0], ⟨[shG], []⟩⟩
theorem copyd_eq (N : Nat) (d : Li) (d2 : Int) (d3 : Ll) (d4 : Ll) (d5 : Li) : ev (Z := Li × Int × Ll × Ll × Li) Try.prog (copyd_sp N) copyd_B [] [] (some copyd_rt) 400 false [.c [0], .c [1]] (stL copyd_st (((d, d2, d3, d4, d5, ()), ()), ())) (stH copyd_st (((d, d2, d3, d4, d5, ()), ()), ())) = copyd_S N d d2 d3 d4 d5 := by kernel_rfl
noncomputable def sp_copyd (N : Nat) : Spec := { f := 27, ins := ⟨[shG], []⟩, outs := [⟨[shG], []⟩], run := fun p k => (copyd_S N p.1.1.1 p.1.1.2.1 p.1.1.2.2.1 p.1.1.2.2.2.1 p.1.1.2.2.2.2.1).bind fun r => k (((r.1, r.2.1, r.2.2.1, r.2.2.2.1, r.2.2.2.2, ()), ()), ()) }
theorem sp_copyd_ok (N : Nat) : SpecOK Try.prog (sp_copyd N) := fn_sound (B := copyd_B) (loops := []) (leaves := []) (fun p => copyd_S N p.1.1.1 p.1.1.2.1 p.1.1.2.2.1 p.1.1.2.2.2.1 p.1.1.2.2.2.2.1) (fun r => (((r.1, r.2.1, r.2.2.1, r.2.2.2.1, r.2.2.2.2, ()), ()), ())) copyd_rt (fun _ _ _ => rfl) (fun r z h => by cases h; rfl) Try.func27 (by kernel_rfl) (by kernel_rfl) (by kernel_rfl) rfl rfl (by kernel_rfl) (fun args w => Sem.pv_run _ _ _ (by kernel_rfl) w) (copyd_all N) mixed trivial (fun z E Xc hE hX hret => trivial) (fun p => copyd_eq N p.1.1.1 p.1.1.2.1 p.1.1.2.2.1 p.1.1.2.2.2.1 p.1.1.2.2.2.2.1)

def equalf_l1 (N : Nat) : Nat → Ll → Ll → Int → Int → Option ((Unit) ⊕ (Unit))
  | 0, _, _, _, _ => none
  | n_ + 1, s2, u, u2, u3 =>
    br (decide (u3 < u2))
      (idx u u3 fun x_1 =>
      idx s2 u3 fun x_2 =>
      (equali_S N x_1 x_2).bind fun x_3 =>
      br (!x_3)
        (some (.inl ()))
        (chk (u3 + 1) <|
        equalf_l1 N n_ s2 u u2 (u3 + 1)))
      (some (.inr ()))
def equalf_S (N : Nat) (s1 : Ll) (s2 : Ll) : Option Bool :=
  br (!decide ((s1.length : Int) = (s2.length : Int)))
    (some false)
    ((equalf_l1 N N s2 s1 (s1.length : Int) 0).bind fun e => match e with
    | .inl _ =>
      some false
    | .inr _ =>
      some true)
noncomputable def equalf_sp (N : Nat) : List Spec := [sp_equali N]
theorem equalf_all (N : Nat) : AllP (SpecOK Try.prog) (equalf_sp N) := ⟨sp_equali_ok N, trivial⟩
noncomputable def equalf_c : Code := (Try.f119.body).getD .skip
noncomputable abbrev equalf_B : Body := { c := equalf_c, n := 32, res := [.tmp 6], outs := [⟨[.b], []⟩], m0 := 0 }
abbrev equalf_rt : altD equalf_B.outs → Option Bool := fun r => some r.1.1
abbrev equalf_l1_at : List PI := [.c [1, 1, 0, 1, 0, 0, 0], .c [1, 1, 0, 1, 0, 0, 1], .l [1, 1, 0, 1, 0, 0], .b 0, .c [1, 1, 1]]
abbrev equalf_l1_st : Sta := ⟨[1, 2, 15, 16, 17], ⟨[shQ, .fn 97 [] [], shQ, shI, shI], []⟩⟩
abbrev equalf_l1_h (rec : Ll → Ll → Int → Int → Option ((Unit) ⊕ (Unit))) : Leaf ((Unit) ⊕ (Unit)) := ⟨equalf_l1_at, equalf_l1_st, fun p => rec p.1.1 p.1.2.2.1 p.1.2.2.2.1 p.1.2.2.2.2.1⟩
abbrev equalf_l1_e0 : Leaf ((Unit) ⊕ (Unit)) := ⟨[.c [1, 1, 0, 1, 0, 0, 1, 1, 0, 0, 1, 1, 1, 0, 0], .c [1, 1, 0, 1, 0, 0, 1, 1, 0, 0, 1, 1, 1, 0, 1], .b 1, .c [1, 1, 0, 1, 0, 0, 1, 1, 1], .l [1, 1, 0, 1, 0, 0], .b 0, .c [1, 1, 1]], ⟨[], ⟨[], []⟩⟩, fun p => some (.inl ())⟩
abbrev equalf_l1_e1 : Leaf ((Unit) ⊕ (Unit)) := ⟨[.c [1, 1, 1, 0], .c [1, 1, 1, 1]], ⟨[], ⟨[], []⟩⟩, fun p => some (.inr ())⟩
noncomputable def equalf_l1_L (N : Nat) : LoopS := { at_ := equalf_l1_at, sta := equalf_l1_st, exits := [([.c [1, 1, 0, 1, 0, 0, 1, 1, 0, 0, 1, 1, 1, 0, 0], .c [1, 1, 0, 1, 0, 0, 1, 1, 0, 0, 1, 1, 1, 0, 1], .b 1, .c [1, 1, 0, 1, 0, 0, 1, 1, 1], .l [1, 1, 0, 1, 0, 0], .b 0, .c [1, 1, 1]], ⟨[], ⟨[], []⟩⟩), ([.c [1, 1, 1, 0], .c [1, 1, 1, 1]], ⟨[], ⟨[], []⟩⟩)], run := fun p k => (equalf_l1 N N p.1.1 p.1.2.2.1 p.1.2.2.2.1 p.1.2.2.2.2.1).bind fun e => match e with | .inl x => k (.inl ((), ())) | .inr x => k (.inr (.inl ((), ()))) }
theorem equalf_l1_eq (N n_ : Nat) (s2 : Ll) (u : Ll) (u2 : Int) (u3 : Int) : ev (Z := (Unit) ⊕ (Unit)) Try.prog (equalf_sp N) equalf_B [] [equalf_l1_h (equalf_l1 N n_), equalf_l1_e0, equalf_l1_e1] none 400 true equalf_l1_at (stL equalf_l1_st ((s2, ((), ()), u, u2, u3, ()), ())) (stH equalf_l1_st ((s2, ((), ()), u, u2, u3, ()), ())) = equalf_l1 N (n_ + 1) s2 u u2 u3 := by kernel_rfl
theorem equalf_l1_ok (N : Nat) {top : Bool} : LoopOK Try.prog equalf_B.c equalf_B.n equalf_B.m0 top (equalf_l1_L N) := loop_of_ev (Z := (Unit) ⊕ (Unit)) (N := N) (fun m p => equalf_l1 N m p.1.1 p.1.2.2.1 p.1.2.2.2.1 p.1.2.2.2.2.1) (fun e => match e with | .inl x => .inl ((), ()) | .inr x => .inr (.inl ((), ()))) (fun _ p k => bind_congr_ (equalf_l1 N N p.1.1 p.1.2.2.1 p.1.2.2.2.1 p.1.2.2.2.2.1) _ _ (fun e => by rcases e with x | x <;> rfl)) (fun _ => rfl) (fun m z E Xc hE hX hrec hx => leaf_of_ev (B := equalf_B) (loops := []) (leaves := [equalf_l1_h (equalf_l1 N m), equalf_l1_e0, equalf_l1_e1]) (equalf_all N) mixed trivial hE hX ⟨hrec, (fun p hp => by obtain rfl := Option.some.inj hp; exact hx), (fun p hp => by obtain rfl := Option.some.inj hp; exact hx), trivial⟩ RetOK.no (fun p => equalf_l1_eq N m p.1.1 p.1.2.2.1 p.1.2.2.2.1 p.1.2.2.2.2.1))
abbrev equalf_st : Sta := ⟨[0, 1, 2], ⟨[shQ, shQ, .fn 97 [] []], []⟩⟩
theorem equalf_eq (N : Nat) (s1 : Ll) (s2 : Ll) : ev (Z := Bool) Try.prog (equalf_sp N) equalf_B [equalf_l1_L N] [] (some equalf_rt) 400 false [.c [0], .c [1]] (stL equalf_st ((s1, s2, ((), ()), ()), ())) (stH equalf_st ((s1, s2, ((), ()), ()), ())) = equalf_S N s1 s2 := by kernel_rfl
noncomputable def sp_equalf (N : Nat) : Spec := { f := 119, ins := ⟨[shQ, shQ, .fn 97 [] []], []⟩, outs := [⟨[.b], []⟩], run := fun p k => (equalf_S N p.1.1 p.1.2.1).bind fun r => k ((r, ()), ()) }
theorem sp_equalf_ok (N : Nat) : SpecOK Try.prog (sp_equalf N) := fn_sound (B := equalf_B) (loops := [equalf_l1_L N]) (leaves := []) (fun p => equalf_S N p.1.1 p.1.2.1) (fun r => ((r, ()), ())) equalf_rt (fun _ _ _ => rfl) (fun r z h => by cases h; rfl) Try.func119 (by kernel_rfl) (by kernel_rfl) (by kernel_rfl) rfl rfl (by kernel_rfl) (fun args w => Sem.pv_run _ _ _ (by kernel_rfl) w) (equalf_all N) mixed ⟨equalf_l1_ok N, trivial⟩ (fun z E Xc hE hX hret => trivial) (fun p => equalf_eq N p.1.1 p.1.2.1)

def liker_S (N : Nat) (a : Ll) (b : Ll) : Option Bool :=
  (equalf_S N a b).bind fun x_1 =>
  some x_1
noncomputable def liker_sp (N : Nat) : List Spec := [sp_equalf N]
theorem liker_all (N : Nat) : AllP (SpecOK Try.prog) (liker_sp N) := ⟨sp_equalf_ok N, trivial⟩
noncomputable def liker_c : Code := (Try.f82.body).getD .skip
noncomputable abbrev liker_B : Body := { c := liker_c, n := 8, res := [.tmp 4], outs := [⟨[.b], []⟩], m0 := 0 }
abbrev liker_rt : altD liker_B.outs → Option Bool := fun r => some r.1.1
abbrev liker_st : Sta := ⟨[0, 1], ⟨[shQ, shQ], []⟩⟩
theorem liker_eq (N : Nat) (a : Ll) (b : Ll) : ev (Z := Bool) Try.prog (liker_sp N) liker_B [] [] (some liker_rt) 400 false [.c [0], .c [1]] (stL liker_st ((a, b, ()), ())) (stH liker_st ((a, b, ()), ())) = liker_S N a b := by kernel_rfl
noncomputable def sp_liker (N : Nat) : Spec := { f := 82, ins := ⟨[shQ, shQ], []⟩, outs := [⟨[.b], []⟩], run := fun p k => (liker_S N p.1.1 p.1.2.1).bind fun r => k ((r, ()), ()) }
theorem sp_liker_ok (N : Nat) : SpecOK Try.prog (sp_liker N) := fn_sound (B := liker_B) (loops := []) (leaves := []) (fun p => liker_S N p.1.1 p.1.2.1) (fun r => ((r, ()), ())) liker_rt (fun _ _ _ => rfl) (fun r z h => by cases h; rfl) Try.func82 (by kernel_rfl) (by kernel_rfl) (by kernel_rfl) rfl rfl (by kernel_rfl) (fun args w => Sem.pv_run _ _ _ (by kernel_rfl) w) (liker_all N) mixed trivial (fun z E Xc hE hX hret => trivial) (fun p => liker_eq N p.1.1 p.1.2.1)

def same_S (N : Nat) (a : Li) (a2 : Int) (a3 : Ll) (a4 : Ll) (a5 : Li) (b : Li) (b2 : Int) (b3 : Ll) (b4 : Ll) (b5 : Li) : Option Bool :=
  (likei_S N a b).bind fun x_1 =>
  br x_1
    (br (decide (a2 = b2))
      ((liker_S N a3 b3).bind fun x_2 =>
      br x_2
        ((liker_S N a4 b4).bind fun x_3 =>
        br x_3
          ((likei_S N a5 b5).bind fun x_4 =>
          some x_4)
          (some false))
        (some false))
      (some false))
    (some false)
noncomputable def same_sp (N : Nat) : List Spec := [sp_likei N, sp_liker N]
theorem same_all (N : Nat) : AllP (SpecOK Try.prog) (same_sp N) := ⟨sp_likei_ok N, sp_liker_ok N, trivial⟩
noncomputable def same_c : Code := (Try.f30.body).getD .skip
noncomputable abbrev same_B : Body := { c := same_c, n := 38, res := [.tmp 4], outs := [⟨[.b], []⟩], m0 := 0 }
abbrev same_rt : altD same_B.outs → Option Bool := fun r => some r.1.1
abbrev same_st : Sta := ⟨[0, 1], ⟨[shG, shG], []⟩⟩
theorem same_eq (N : Nat) (a : Li) (a2 : Int) (a3 : Ll) (a4 : Ll) (a5 : Li) (b : Li) (b2 : Int) (b3 : Ll) (b4 : Ll) (b5 : Li) : ev (Z := Bool) Try.prog (same_sp N) same_B [] [] (some same_rt) 400 false [.c [0], .c [1]] (stL same_st (((a, a2, a3, a4, a5, ()), (b, b2, b3, b4, b5, ()), ()), ())) (stH same_st (((a, a2, a3, a4, a5, ()), (b, b2, b3, b4, b5, ()), ()), ())) = same_S N a a2 a3 a4 a5 b b2 b3 b4 b5 := by kernel_rfl
noncomputable def sp_same (N : Nat) : Spec := { f := 30, ins := ⟨[shG, shG], []⟩, outs := [⟨[.b], []⟩], run := fun p k => (same_S N p.1.1.1 p.1.1.2.1 p.1.1.2.2.1 p.1.1.2.2.2.1 p.1.1.2.2.2.2.1 p.1.2.1.1 p.1.2.1.2.1 p.1.2.1.2.2.1 p.1.2.1.2.2.2.1 p.1.2.1.2.2.2.2.1).bind fun r => k ((r, ()), ()) }
theorem sp_same_ok (N : Nat) : SpecOK Try.prog (sp_same N) := fn_sound (B := same_B) (loops := []) (leaves := []) (fun p => same_S N p.1.1.1 p.1.1.2.1 p.1.1.2.2.1 p.1.1.2.2.2.1 p.1.1.2.2.2.2.1 p.1.2.1.1 p.1.2.1.2.1 p.1.2.1.2.2.1 p.1.2.1.2.2.2.1 p.1.2.1.2.2.2.2.1) (fun r => ((r, ()), ())) same_rt (fun _ _ _ => rfl) (fun r z h => by cases h; rfl) Try.func30 (by kernel_rfl) (by kernel_rfl) (by kernel_rfl) rfl rfl (by kernel_rfl) (fun args w => Sem.pv_run _ _ _ (by kernel_rfl) w) (same_all N) mixed trivial (fun z E Xc hE hX hret => trivial) (fun p => same_eq N p.1.1.1 p.1.1.2.1 p.1.1.2.2.1 p.1.1.2.2.2.1 p.1.1.2.2.2.2.1 p.1.2.1.1 p.1.2.1.2.1 p.1.2.1.2.2.1 p.1.2.1.2.2.2.1 p.1.2.1.2.2.2.2.1)

def great_l2 (N : Nat) : Nat → Int → Int → Ll → Int → Int → (List Ll) → Option ((Unit) ⊕ (Int × Int × List Ll))
  | 0, _, _, _, _, _, _ => none
  | n_ + 1, u, u2, u3, u4, u5, g =>
    br (decide (u5 < u4))
      (idx u3 u5 fun x_2 =>
      br (decide (12 < (x_2.length : Int)))
        (some (.inl ()))
        (chk (u5 + 1) <|
        great_l2 N n_ u u2 u3 u4 (u5 + 1) g))
      (some (.inr (u, u2, g)))
def great_l1 (N : Nat) : Nat → Int → Int → (List Ll) → Option ((Unit) ⊕ (Unit))
  | 0, _, _, _ => none
  | n_ + 1, u, u2, g =>
    br (decide (u2 < u))
      (rng u2 g.length <|
      get g u2.toNat fun x_1 =>
      (great_l2 N N u u2 x_1 (x_1.length : Int) 0 g).bind fun e => match e with
      | .inl _ =>
        some (.inl ())
      | .inr (u_3, u2_4, g_5) =>
        chk (u2_4 + 1) <|
        great_l1 N n_ u_3 (u2_4 + 1) g_5)
      (some (.inr ()))
def great_S (N : Nat) (d : Li) (d2 : Int) (d3 : Ll) (d4 : Ll) (d5 : Li) : Option Bool :=
  br (decide (10 < (d.length : Int)))
    (some true)
    (br (decide (10 < (d3.length : Int)))
      (some true)
      (br (decide (10 < (d4.length : Int)))
        (some true)
        (br (decide (12 < (d5.length : Int)))
          (some true)
          ((great_l1 N N ([d3, d4].length : Int) 0 [d3, d4]).bind fun e => match e with
          | .inl _ =>
            some true
          | .inr _ =>
            some false))))
noncomputable def great_sp (N : Nat) : List Spec := []
theorem great_all (N : Nat) : AllP (SpecOK Try.prog) (great_sp N) := trivial
noncomputable def great_c : Code := (Try.f25.body).getD .skip
noncomputable abbrev great_B : Body := { c := great_c, n := 50, res := [.tmp 2], outs := [⟨[.b], []⟩], m0 := 0 }
abbrev great_rt : altD great_B.outs → Option Bool := fun r => some r.1.1
abbrev great_l2_at : List PI := [.c [1, 1, 0, 1, 0, 0, 1, 1, 0, 0, 1, 1, 0, 0, 0], .c [1, 1, 0, 1, 0, 0, 1, 1, 0, 0, 1, 1, 0, 0, 1], .l [1, 1, 0, 1, 0, 0, 1, 1, 0, 0, 1, 1, 0, 0], .b 2, .b 1, .c [1, 1, 0, 1, 0, 0, 1, 1, 1], .l [1, 1, 0, 1, 0, 0], .b 0, .c [1, 1, 1]]
abbrev great_l2_st : Sta := ⟨[33, 34, 35, 39, 40, 41], ⟨[.ols 0, shI, shI, shQ, shI, shI], [.lst (.sl (.sl (.int .i64)))]⟩⟩
abbrev great_l2_h (rec : Int → Int → Ll → Int → Int → (List Ll) → Option ((Unit) ⊕ (Int × Int × List Ll))) : Leaf ((Unit) ⊕ (Int × Int × List Ll)) := ⟨great_l2_at, great_l2_st, fun p => rec p.1.2.1 p.1.2.2.1 p.1.2.2.2.1 p.1.2.2.2.2.1 p.1.2.2.2.2.2.1 p.2.1⟩
abbrev great_l2_e0 : Leaf ((Unit) ⊕ (Int × Int × List Ll)) := ⟨[.c [1, 1, 0, 1, 0, 0, 1, 1, 0, 0, 1, 1, 0, 0, 1, 1, 0, 0, 1, 1, 0, 0], .c [1, 1, 0, 1, 0, 0, 1, 1, 0, 0, 1, 1, 0, 0, 1, 1, 0, 0, 1, 1, 0, 1], .b 3, .c [1, 1, 0, 1, 0, 0, 1, 1, 0, 0, 1, 1, 0, 0, 1, 1, 1], .l [1, 1, 0, 1, 0, 0, 1, 1, 0, 0, 1, 1, 0, 0], .b 2, .b 1, .c [1, 1, 0, 1, 0, 0, 1, 1, 1], .l [1, 1, 0, 1, 0, 0], .b 0, .c [1, 1, 1]], ⟨[], ⟨[], []⟩⟩, fun p => some (.inl ())⟩
abbrev great_l2_e1 : Leaf ((Unit) ⊕ (Int × Int × List Ll)) := ⟨[.c [1, 1, 0, 1, 0, 0, 1, 1, 1], .l [1, 1, 0, 1, 0, 0], .b 0, .c [1, 1, 1]], ⟨[33, 34, 35], ⟨[.ols 0, shI, shI], [.lst (.sl (.sl (.int .i64)))]⟩⟩, fun p => some (.inr (p.1.2.1, p.1.2.2.1, p.2.1))⟩
noncomputable def great_l2_L (N : Nat) : LoopS := { at_ := great_l2_at, sta := great_l2_st, exits := [([.c [1, 1, 0, 1, 0, 0, 1, 1, 0, 0, 1, 1, 0, 0, 1, 1, 0, 0, 1, 1, 0, 0], .c [1, 1, 0, 1, 0, 0, 1, 1, 0, 0, 1, 1, 0, 0, 1, 1, 0, 0, 1, 1, 0, 1], .b 3, .c [1, 1, 0, 1, 0, 0, 1, 1, 0, 0, 1, 1, 0, 0, 1, 1, 1], .l [1, 1, 0, 1, 0, 0, 1, 1, 0, 0, 1, 1, 0, 0], .b 2, .b 1, .c [1, 1, 0, 1, 0, 0, 1, 1, 1], .l [1, 1, 0, 1, 0, 0], .b 0, .c [1, 1, 1]], ⟨[], ⟨[], []⟩⟩), ([.c [1, 1, 0, 1, 0, 0, 1, 1, 1], .l [1, 1, 0, 1, 0, 0], .b 0, .c [1, 1, 1]], ⟨[33, 34, 35], ⟨[.ols 0, shI, shI], [.lst (.sl (.sl (.int .i64)))]⟩⟩)], run := fun p k => (great_l2 N N p.1.2.1 p.1.2.2.1 p.1.2.2.2.1 p.1.2.2.2.2.1 p.1.2.2.2.2.2.1 p.2.1).bind fun e => match e with | .inl x => k (.inl ((), ())) | .inr x => k (.inr (.inl (((), x.1, x.2.1, ()), (x.2.2, ())))) }
theorem great_l2_eq (N n_ : Nat) (u : Int) (u2 : Int) (u3 : Ll) (u4 : Int) (u5 : Int) (g : List Ll) : ev (Z := (Unit) ⊕ (Int × Int × List Ll)) Try.prog (great_sp N) great_B [] [great_l2_h (great_l2 N n_), great_l2_e0, great_l2_e1] none 400 true great_l2_at (stL great_l2_st (((), u, u2, u3, u4, u5, ()), (g, ()))) (stH great_l2_st (((), u, u2, u3, u4, u5, ()), (g, ()))) = great_l2 N (n_ + 1) u u2 u3 u4 u5 g := by kernel_rfl
theorem great_l2_ok (N : Nat) {top : Bool} : LoopOK Try.prog great_B.c great_B.n great_B.m0 top (great_l2_L N) := loop_of_ev (Z := (Unit) ⊕ (Int × Int × List Ll)) (N := N) (fun m p => great_l2 N m p.1.2.1 p.1.2.2.1 p.1.2.2.2.1 p.1.2.2.2.2.1 p.1.2.2.2.2.2.1 p.2.1) (fun e => match e with | .inl x => .inl ((), ()) | .inr x => .inr (.inl (((), x.1, x.2.1, ()), (x.2.2, ())))) (fun _ p k => bind_congr_ (great_l2 N N p.1.2.1 p.1.2.2.1 p.1.2.2.2.1 p.1.2.2.2.2.1 p.1.2.2.2.2.2.1 p.2.1) _ _ (fun e => by rcases e with x | x <;> rfl)) (fun _ => rfl) (fun m z E Xc hE hX hrec hx => leaf_of_ev (B := great_B) (loops := []) (leaves := [great_l2_h (great_l2 N m), great_l2_e0, great_l2_e1]) (great_all N) mixed trivial hE hX ⟨hrec, (fun p hp => by obtain rfl := Option.some.inj hp; exact hx), (fun p hp => by obtain rfl := Option.some.inj hp; exact hx), trivial⟩ RetOK.no (fun p => great_l2_eq N m p.1.2.1 p.1.2.2.1 p.1.2.2.2.1 p.1.2.2.2.2.1 p.1.2.2.2.2.2.1 p.2.1))
abbrev great_l1_at : List PI := [.c [1, 1, 0, 1, 0, 0, 0], .c [1, 1, 0, 1, 0, 0, 1], .l [1, 1, 0, 1, 0, 0], .b 0, .c [1, 1, 1]]
abbrev great_l1_st : Sta := ⟨[33, 34, 35], ⟨[.ols 0, shI, shI], [.lst (.sl (.sl (.int .i64)))]⟩⟩
abbrev great_l1_h (rec : Int → Int → (List Ll) → Option ((Unit) ⊕ (Unit))) : Leaf ((Unit) ⊕ (Unit)) := ⟨great_l1_at, great_l1_st, fun p => rec p.1.2.1 p.1.2.2.1 p.2.1⟩
abbrev great_l1_e0 : Leaf ((Unit) ⊕ (Unit)) := ⟨[.c [1, 1, 0, 1, 0, 0, 1, 1, 0, 0, 1, 1, 0, 0, 1, 1, 0, 0, 1, 1, 0, 0], .c [1, 1, 0, 1, 0, 0, 1, 1, 0, 0, 1, 1, 0, 0, 1, 1, 0, 0, 1, 1, 0, 1], .b 3, .c [1, 1, 0, 1, 0, 0, 1, 1, 0, 0, 1, 1, 0, 0, 1, 1, 1], .l [1, 1, 0, 1, 0, 0, 1, 1, 0, 0, 1, 1, 0, 0], .b 2, .b 1, .c [1, 1, 0, 1, 0, 0, 1, 1, 1], .l [1, 1, 0, 1, 0, 0], .b 0, .c [1, 1, 1]], ⟨[], ⟨[], []⟩⟩, fun p => some (.inl ())⟩
abbrev great_l1_e1 : Leaf ((Unit) ⊕ (Unit)) := ⟨[.c [1, 1, 1, 0], .c [1, 1, 1, 1]], ⟨[], ⟨[], []⟩⟩, fun p => some (.inr ())⟩
noncomputable def great_l1_L (N : Nat) : LoopS := { at_ := great_l1_at, sta := great_l1_st, exits := [([.c [1, 1, 0, 1, 0, 0, 1, 1, 0, 0, 1, 1, 0, 0, 1, 1, 0, 0, 1, 1, 0, 0], .c [1, 1, 0, 1, 0, 0, 1, 1, 0, 0, 1, 1, 0, 0, 1, 1, 0, 0, 1, 1, 0, 1], .b 3, .c [1, 1, 0, 1, 0, 0, 1, 1, 0, 0, 1, 1, 0, 0, 1, 1, 1], .l [1, 1, 0, 1, 0, 0, 1, 1, 0, 0, 1, 1, 0, 0], .b 2, .b 1, .c [1, 1, 0, 1, 0, 0, 1, 1, 1], .l [1, 1, 0, 1, 0, 0], .b 0, .c [1, 1, 1]], ⟨[], ⟨[], []⟩⟩), ([.c [1, 1, 1, 0], .c [1, 1, 1, 1]], ⟨[], ⟨[], []⟩⟩)], run := fun p k => (great_l1 N N p.1.2.1 p.1.2.2.1 p.2.1).bind fun e => match e with | .inl x => k (.inl ((), ())) | .inr x => k (.inr (.inl ((), ()))) }
theorem great_l1_eq (N n_ : Nat) (u : Int) (u2 : Int) (g : List Ll) : ev (Z := (Unit) ⊕ (Unit)) Try.prog (great_sp N) great_B [great_l2_L N] [great_l1_h (great_l1 N n_), great_l1_e0, great_l1_e1] none 400 true great_l1_at (stL great_l1_st (((), u, u2, ()), (g, ()))) (stH great_l1_st (((), u, u2, ()), (g, ()))) = great_l1 N (n_ + 1) u u2 g := by kernel_rfl
theorem great_l1_ok (N : Nat) {top : Bool} : LoopOK Try.prog great_B.c great_B.n great_B.m0 top (great_l1_L N) := loop_of_ev (Z := (Unit) ⊕ (Unit)) (N := N) (fun m p => great_l1 N m p.1.2.1 p.1.2.2.1 p.2.1) (fun e => match e with | .inl x => .inl ((), ()) | .inr x => .inr (.inl ((), ()))) (fun _ p k => bind_congr_ (great_l1 N N p.1.2.1 p.1.2.2.1 p.2.1) _ _ (fun e => by rcases e with x | x <;> rfl)) (fun _ => rfl) (fun m z E Xc hE hX hrec hx => leaf_of_ev (B := great_B) (loops := [great_l2_L N]) (leaves := [great_l1_h (great_l1 N m), great_l1_e0, great_l1_e1]) (great_all N) mixed ⟨great_l2_ok N, trivial⟩ hE hX ⟨hrec, (fun p hp => by obtain rfl := Option.some.inj hp; exact hx), (fun p hp => by obtain rfl := Option.some.inj hp; exact hx), trivial⟩ RetOK.no (fun p => great_l1_eq N m p.1.2.1 p.1.2.2.1 p.2.1))
abbrev great_st : Sta := ⟨[0], ⟨[shG], []⟩⟩
theorem great_eq (N : Nat) (d : Li) (d2 : Int) (d3 : Ll) (d4 : Ll) (d5 : Li) : ev (Z := Bool) Try.prog (great_sp N) great_B [great_l2_L N, great_l1_L N] [] (some great_rt) 400 false [.c [0], .c [1]] (stL great_st (((d, d2, d3, d4, d5, ()), ()), ())) (stH great_st (((d, d2, d3, d4, d5, ()), ()), ())) = great_S N d d2 d3 d4 d5 := by kernel_rfl
noncomputable def sp_great (N : Nat) : Spec := { f := 25, ins := ⟨[shG], []⟩, outs := [⟨[.b], []⟩], run := fun p k => (great_S N p.1.1.1 p.1.1.2.1 p.1.1.2.2.1 p.1.1.2.2.2.1 p.1.1.2.2.2.2.1).bind fun r => k ((r, ()), ()) }
theorem sp_great_ok (N : Nat) : SpecOK Try.prog (sp_great N) := fn_sound (B := great_B) (loops := [great_l2_L N, great_l1_L N]) (leaves := []) (fun p => great_S N p.1.1.1 p.1.1.2.1 p.1.1.2.2.1 p.1.1.2.2.2.1 p.1.1.2.2.2.2.1) (fun r => ((r, ()), ())) great_rt (fun _ _ _ => rfl) (fun r z h => by cases h; rfl) Try.func25 (by kernel_rfl) (by kernel_rfl) (by kernel_rfl) rfl rfl (by kernel_rfl) (fun args w => Sem.pv_run _ _ _ (by kernel_rfl) w) (great_all N) mixed ⟨great_l2_ok N, great_l1_ok N, trivial⟩ (fun z E Xc hE hX hret => trivial) (fun p => great_eq N p.1.1.1 p.1.1.2.1 p.1.1.2.2.1 p.1.1.2.2.2.1 p.1.1.2.2.2.2.1)

def off_S (N : Nat) (n : Int) (lo : Int) (hi : Int) : Option Bool :=
  br (decide (n < lo))
    (some true)
    (some (decide (hi < n)))
noncomputable def off_sp (N : Nat) : List Spec := []
theorem off_all (N : Nat) : AllP (SpecOK Try.prog) (off_sp N) := trivial
noncomputable def off_c : Code := (Try.f85.body).getD .skip
noncomputable abbrev off_B : Body := { c := off_c, n := 15, res := [.tmp 6], outs := [⟨[.b], []⟩], m0 := 0 }
abbrev off_rt : altD off_B.outs → Option Bool := fun r => some r.1.1
abbrev off_st : Sta := ⟨[0, 1, 2], ⟨[shI, shI, shI], []⟩⟩
theorem off_eq (N : Nat) (n : Int) (lo : Int) (hi : Int) : ev (Z := Bool) Try.prog (off_sp N) off_B [] [] (some off_rt) 400 false [.c [0], .c [1]] (stL off_st ((n, lo, hi, ()), ())) (stH off_st ((n, lo, hi, ()), ())) = off_S N n lo hi := by kernel_rfl
noncomputable def sp_off (N : Nat) : Spec := { f := 85, ins := ⟨[shI, shI, shI], []⟩, outs := [⟨[.b], []⟩], run := fun p k => (off_S N p.1.1 p.1.2.1 p.1.2.2.1).bind fun r => k ((r, ()), ()) }
theorem sp_off_ok (N : Nat) : SpecOK Try.prog (sp_off N) := fn_sound (B := off_B) (loops := []) (leaves := []) (fun p => off_S N p.1.1 p.1.2.1 p.1.2.2.1) (fun r => ((r, ()), ())) off_rt (fun _ _ _ => rfl) (fun r z h => by cases h; rfl) Try.func85 (by kernel_rfl) (by kernel_rfl) (by kernel_rfl) rfl rfl (by kernel_rfl) (fun args w => Sem.pv_run _ _ _ (by kernel_rfl) w) (off_all N) mixed trivial (fun z E Xc hE hX hret => trivial) (fun p => off_eq N p.1.1 p.1.2.1 p.1.2.2.1)

def described_l1 (N : Nat) : Nat → Ll → Int → Li → Int → Ll → Ll → Li → Option ((Unit) ⊕ (Unit))
  | 0, _, _, _, _, _, _, _ => none
  | n_ + 1, l, i, d, d2, d3, d4, d5 =>
    br (decide (i < (l.length : Int)))
      (idx l i fun x_1 =>
      br (!decide ((x_1.length : Int) = (d.length : Int)))
        (some (.inl ()))
        (chk (i + 1) <|
        described_l1 N n_ l (i + 1) d d2 d3 d4 d5))
      (some (.inr ()))
def described_S (N : Nat) (d : Li) (d2 : Int) (d3 : Ll) (d4 : Ll) (d5 : Li) (l : Ll) : Option Bool :=
  (described_l1 N N l 0 d d2 d3 d4 d5).bind fun e => match e with
  | .inl _ =>
    some false
  | .inr _ =>
    some true
noncomputable def described_sp (N : Nat) : List Spec := []
theorem described_all (N : Nat) : AllP (SpecOK Try.prog) (described_sp N) := trivial
noncomputable def described_c : Code := (Try.f100.body).getD .skip
noncomputable abbrev described_B : Body := { c := described_c, n := 21, res := [.tmp 4], outs := [⟨[.b], []⟩], m0 := 0 }
abbrev described_rt : altD described_B.outs → Option Bool := fun r => some r.1.1
abbrev described_l1_at : List PI := [.c [1, 0, 1, 0, 0, 0, 0], .c [1, 0, 1, 0, 0, 0, 1], .c [1, 0, 1, 0, 0, 1], .l [1, 0, 1, 0, 0], .b 0, .c [1, 1]]
abbrev described_l1_st : Sta := ⟨[1, 2, 5], ⟨[shQ, .own 0 0, shI], [.segs [shL, shI, shQ, shQ, shL]]⟩⟩
abbrev described_l1_h (rec : Ll → Int → Li → Int → Ll → Ll → Li → Option ((Unit) ⊕ (Unit))) : Leaf ((Unit) ⊕ (Unit)) := ⟨described_l1_at, described_l1_st, fun p => rec p.1.1 p.1.2.2.1 p.2.1.1 p.2.1.2.1 p.2.1.2.2.1 p.2.1.2.2.2.1 p.2.1.2.2.2.2.1⟩
abbrev described_l1_e0 : Leaf ((Unit) ⊕ (Unit)) := ⟨[.c [1, 0, 1, 0, 0, 1, 0, 0, 1, 0, 0], .c [1, 0, 1, 0, 0, 1, 0, 0, 1, 0, 1], .b 1, .c [1, 0, 1, 0, 0, 1, 1], .l [1, 0, 1, 0, 0], .b 0, .c [1, 1]], ⟨[], ⟨[], []⟩⟩, fun p => some (.inl ())⟩
abbrev described_l1_e1 : Leaf ((Unit) ⊕ (Unit)) := ⟨[.c [1, 1, 0], .c [1, 1, 1]], ⟨[], ⟨[], []⟩⟩, fun p => some (.inr ())⟩
noncomputable def described_l1_L (N : Nat) : LoopS := { at_ := described_l1_at, sta := described_l1_st, exits := [([.c [1, 0, 1, 0, 0, 1, 0, 0, 1, 0, 0], .c [1, 0, 1, 0, 0, 1, 0, 0, 1, 0, 1], .b 1, .c [1, 0, 1, 0, 0, 1, 1], .l [1, 0, 1, 0, 0], .b 0, .c [1, 1]], ⟨[], ⟨[], []⟩⟩), ([.c [1, 1, 0], .c [1, 1, 1]], ⟨[], ⟨[], []⟩⟩)], run := fun p k => (described_l1 N N p.1.1 p.1.2.2.1 p.2.1.1 p.2.1.2.1 p.2.1.2.2.1 p.2.1.2.2.2.1 p.2.1.2.2.2.2.1).bind fun e => match e with | .inl x => k (.inl ((), ())) | .inr x => k (.inr (.inl ((), ()))) }
theorem described_l1_eq (N n_ : Nat) (l : Ll) (i : Int) (d : Li) (d2 : Int) (d3 : Ll) (d4 : Ll) (d5 : Li) : ev (Z := (Unit) ⊕ (Unit)) Try.prog (described_sp N) described_B [] [described_l1_h (described_l1 N n_), described_l1_e0, described_l1_e1] none 400 true described_l1_at (stL described_l1_st ((l, (), i, ()), ((d, d2, d3, d4, d5, ()), ()))) (stH described_l1_st ((l, (), i, ()), ((d, d2, d3, d4, d5, ()), ()))) = described_l1 N (n_ + 1) l i d d2 d3 d4 d5 := by kernel_rfl
theorem described_l1_ok (N : Nat) {top : Bool} : LoopOK Try.prog described_B.c described_B.n described_B.m0 top (described_l1_L N) := loop_of_ev (Z := (Unit) ⊕ (Unit)) (N := N) (fun m p => described_l1 N m p.1.1 p.1.2.2.1 p.2.1.1 p.2.1.2.1 p.2.1.2.2.1 p.2.1.2.2.2.1 p.2.1.2.2.2.2.1) (fun e => match e with | .inl x => .inl ((), ()) | .inr x => .inr (.inl ((), ()))) (fun _ p k => bind_congr_ (described_l1 N N p.1.1 p.1.2.2.1 p.2.1.1 p.2.1.2.1 p.2.1.2.2.1 p.2.1.2.2.2.1 p.2.1.2.2.2.2.1) _ _ (fun e => by rcases e with x | x <;> rfl)) (fun _ => rfl) (fun m z E Xc hE hX hrec hx => leaf_of_ev (B := described_B) (loops := []) (leaves := [described_l1_h (described_l1 N m), described_l1_e0, described_l1_e1]) (described_all N) mixed trivial hE hX ⟨hrec, (fun p hp => by obtain rfl := Option.some.inj hp; exact hx), (fun p hp => by obtain rfl := Option.some.inj hp; exact hx), trivial⟩ RetOK.no (fun p => described_l1_eq N m p.1.1 p.1.2.2.1 p.2.1.1 p.2.1.2.1 p.2.1.2.2.1 p.2.1.2.2.2.1 p.2.1.2.2.2.2.1))
abbrev described_st : Sta := ⟨[0, 1], ⟨[shG, shQ], []⟩⟩
theorem described_eq (N : Nat) (d : Li) (d2 : Int) (d3 : Ll) (d4 : Ll) (d5 : Li) (l : Ll) : ev (Z := Bool) Try.prog (described_sp N) described_B [described_l1_L N] [] (some described_rt) 400 false [.c [0], .c [1]] (stL described_st (((d, d2, d3, d4, d5, ()), l, ()), ())) (stH described_st (((d, d2, d3, d4, d5, ()), l, ()), ())) = described_S N d d2 d3 d4 d5 l := by kernel_rfl
noncomputable def sp_described (N : Nat) : Spec := { f := 100, ins := ⟨[shG, shQ], []⟩, outs := [⟨[.b], []⟩], run := fun p k => (described_S N p.1.1.1 p.1.1.2.1 p.1.1.2.2.1 p.1.1.2.2.2.1 p.1.1.2.2.2.2.1 p.1.2.1).bind fun r => k ((r, ()), ()) }
theorem sp_described_ok (N : Nat) : SpecOK Try.prog (sp_described N) := fn_sound (B := described_B) (loops := [described_l1_L N]) (leaves := []) (fun p => described_S N p.1.1.1 p.1.1.2.1 p.1.1.2.2.1 p.1.1.2.2.2.1 p.1.1.2.2.2.2.1 p.1.2.1) (fun r => ((r, ()), ())) described_rt (fun _ _ _ => rfl) (fun r z h => by cases h; rfl) Try.func100 (by kernel_rfl) (by kernel_rfl) (by kernel_rfl) rfl rfl (by kernel_rfl) (fun args w => Sem.pv_run _ _ _ (by kernel_rfl) w) (described_all N) mixed ⟨described_l1_ok N, trivial⟩ (fun z E Xc hE hX hret => trivial) (fun p => described_eq N p.1.1.1 p.1.1.2.1 p.1.1.2.2.1 p.1.1.2.2.2.1 p.1.1.2.2.2.2.1 p.1.2.1)

def valued_l2 (N : Nat) : Nat → Ll → Int → Int → Option ((Unit) ⊕ (Ll × Int))
  | 0, _, _, _ => none
  | n_ + 1, l, i, t =>
    idx l i fun x_1 =>
    br (decide (t < (x_1.length : Int)))
      (idx l i fun x_2 =>
      idx x_2 t fun x_3 =>
      (off_S N x_3 (-1) 5).bind fun x_4 =>
      br x_4
        (some (.inl ()))
        (chk (t + 1) <|
        valued_l2 N n_ l i (t + 1)))
      (some (.inr (l, i)))
def valued_l1 (N : Nat) : Nat → Ll → Int → Option ((Unit) ⊕ (Unit))
  | 0, _, _ => none
  | n_ + 1, l, i =>
    br (decide (i < (l.length : Int)))
      ((valued_l2 N N l i 0).bind fun e => match e with
      | .inl _ =>
        some (.inl ())
      | .inr (l_5, i_6) =>
        chk (i_6 + 1) <|
        valued_l1 N n_ l_5 (i_6 + 1))
      (some (.inr ()))
def valued_S (N : Nat) (l : Ll) : Option Bool :=
  (valued_l1 N N l 0).bind fun e => match e with
  | .inl _ =>
    some false
  | .inr _ =>
    some true
noncomputable def valued_sp (N : Nat) : List Spec := [sp_off N]
theorem valued_all (N : Nat) : AllP (SpecOK Try.prog) (valued_sp N) := ⟨sp_off_ok N, trivial⟩
noncomputable def valued_c : Code := (Try.f101.body).getD .skip
noncomputable abbrev valued_B : Body := { c := valued_c, n := 28, res := [.tmp 2], outs := [⟨[.b], []⟩], m0 := 0 }
abbrev valued_rt : altD valued_B.outs → Option Bool := fun r => some r.1.1
abbrev valued_l2_at : List PI := [.c [1, 0, 1, 0, 0, 1, 0, 0, 1, 0, 0, 0, 0], .c [1, 0, 1, 0, 0, 1, 0, 0, 1, 0, 0, 0, 1], .c [1, 0, 1, 0, 0, 1, 0, 0, 1, 0, 0, 1], .l [1, 0, 1, 0, 0, 1, 0, 0, 1, 0, 0], .b 2, .b 1, .c [1, 0, 1, 0, 0, 1, 1], .l [1, 0, 1, 0, 0], .b 0, .c [1, 1]]
abbrev valued_l2_st : Sta := ⟨[0, 3, 4], ⟨[shQ, shI, shI], []⟩⟩
abbrev valued_l2_h (rec : Ll → Int → Int → Option ((Unit) ⊕ (Ll × Int))) : Leaf ((Unit) ⊕ (Ll × Int)) := ⟨valued_l2_at, valued_l2_st, fun p => rec p.1.1 p.1.2.1 p.1.2.2.1⟩
abbrev valued_l2_e0 : Leaf ((Unit) ⊕ (Ll × Int)) := ⟨[.c [1, 0, 1, 0, 0, 1, 0, 0, 1, 0, 0, 1, 0, 0, 1, 0, 0], .c [1, 0, 1, 0, 0, 1, 0, 0, 1, 0, 0, 1, 0, 0, 1, 0, 1], .b 3, .c [1, 0, 1, 0, 0, 1, 0, 0, 1, 0, 0, 1, 1], .l [1, 0, 1, 0, 0, 1, 0, 0, 1, 0, 0], .b 2, .b 1, .c [1, 0, 1, 0, 0, 1, 1], .l [1, 0, 1, 0, 0], .b 0, .c [1, 1]], ⟨[], ⟨[], []⟩⟩, fun p => some (.inl ())⟩
abbrev valued_l2_e1 : Leaf ((Unit) ⊕ (Ll × Int)) := ⟨[.c [1, 0, 1, 0, 0, 1, 1], .l [1, 0, 1, 0, 0], .b 0, .c [1, 1]], ⟨[0, 3], ⟨[shQ, shI], []⟩⟩, fun p => some (.inr (p.1.1, p.1.2.1))⟩
noncomputable def valued_l2_L (N : Nat) : LoopS := { at_ := valued_l2_at, sta := valued_l2_st, exits := [([.c [1, 0, 1, 0, 0, 1, 0, 0, 1, 0, 0, 1, 0, 0, 1, 0, 0], .c [1, 0, 1, 0, 0, 1, 0, 0, 1, 0, 0, 1, 0, 0, 1, 0, 1], .b 3, .c [1, 0, 1, 0, 0, 1, 0, 0, 1, 0, 0, 1, 1], .l [1, 0, 1, 0, 0, 1, 0, 0, 1, 0, 0], .b 2, .b 1, .c [1, 0, 1, 0, 0, 1, 1], .l [1, 0, 1, 0, 0], .b 0, .c [1, 1]], ⟨[], ⟨[], []⟩⟩), ([.c [1, 0, 1, 0, 0, 1, 1], .l [1, 0, 1, 0, 0], .b 0, .c [1, 1]], ⟨[0, 3], ⟨[shQ, shI], []⟩⟩)], run := fun p k => (valued_l2 N N p.1.1 p.1.2.1 p.1.2.2.1).bind fun e => match e with | .inl x => k (.inl ((), ())) | .inr x => k (.inr (.inl ((x.1, x.2, ()), ()))) }
theorem valued_l2_eq (N n_ : Nat) (l : Ll) (i : Int) (t : Int) : ev (Z := (Unit) ⊕ (Ll × Int)) Try.prog (valued_sp N) valued_B [] [valued_l2_h (valued_l2 N n_), valued_l2_e0, valued_l2_e1] none 400 true valued_l2_at (stL valued_l2_st ((l, i, t, ()), ())) (stH valued_l2_st ((l, i, t, ()), ())) = valued_l2 N (n_ + 1) l i t := by kernel_rfl
theorem valued_l2_ok (N : Nat) {top : Bool} : LoopOK Try.prog valued_B.c valued_B.n valued_B.m0 top (valued_l2_L N) := loop_of_ev (Z := (Unit) ⊕ (Ll × Int)) (N := N) (fun m p => valued_l2 N m p.1.1 p.1.2.1 p.1.2.2.1) (fun e => match e with | .inl x => .inl ((), ()) | .inr x => .inr (.inl ((x.1, x.2, ()), ()))) (fun _ p k => bind_congr_ (valued_l2 N N p.1.1 p.1.2.1 p.1.2.2.1) _ _ (fun e => by rcases e with x | x <;> rfl)) (fun _ => rfl) (fun m z E Xc hE hX hrec hx => leaf_of_ev (B := valued_B) (loops := []) (leaves := [valued_l2_h (valued_l2 N m), valued_l2_e0, valued_l2_e1]) (valued_all N) mixed trivial hE hX ⟨hrec, (fun p hp => by obtain rfl := Option.some.inj hp; exact hx), (fun p hp => by obtain rfl := Option.some.inj hp; exact hx), trivial⟩ RetOK.no (fun p => valued_l2_eq N m p.1.1 p.1.2.1 p.1.2.2.1))
abbrev valued_l1_at : List PI := [.c [1, 0, 1, 0, 0, 0, 0], .c [1, 0, 1, 0, 0, 0, 1], .c [1, 0, 1, 0, 0, 1], .l [1, 0, 1, 0, 0], .b 0, .c [1, 1]]
abbrev valued_l1_st : Sta := ⟨[0, 3], ⟨[shQ, shI], []⟩⟩
abbrev valued_l1_h (rec : Ll → Int → Option ((Unit) ⊕ (Unit))) : Leaf ((Unit) ⊕ (Unit)) := ⟨valued_l1_at, valued_l1_st, fun p => rec p.1.1 p.1.2.1⟩
abbrev valued_l1_e0 : Leaf ((Unit) ⊕ (Unit)) := ⟨[.c [1, 0, 1, 0, 0, 1, 0, 0, 1, 0, 0, 1, 0, 0, 1, 0, 0], .c [1, 0, 1, 0, 0, 1, 0, 0, 1, 0, 0, 1, 0, 0, 1, 0, 1], .b 3, .c [1, 0, 1, 0, 0, 1, 0, 0, 1, 0, 0, 1, 1], .l [1, 0, 1, 0, 0, 1, 0, 0, 1, 0, 0], .b 2, .b 1, .c [1, 0, 1, 0, 0, 1, 1], .l [1, 0, 1, 0, 0], .b 0, .c [1, 1]], ⟨[], ⟨[], []⟩⟩, fun p => some (.inl ())⟩
abbrev valued_l1_e1 : Leaf ((Unit) ⊕ (Unit)) := ⟨[.c [1, 1, 0], .c [1, 1, 1]], ⟨[], ⟨[], []⟩⟩, fun p => some (.inr ())⟩
noncomputable def valued_l1_L (N : Nat) : LoopS := { at_ := valued_l1_at, sta := valued_l1_st, exits := [([.c [1, 0, 1, 0, 0, 1, 0, 0, 1, 0, 0, 1, 0, 0, 1, 0, 0], .c [1, 0, 1, 0, 0, 1, 0, 0, 1, 0, 0, 1, 0, 0, 1, 0, 1], .b 3, .c [1, 0, 1, 0, 0, 1, 0, 0, 1, 0, 0, 1, 1], .l [1, 0, 1, 0, 0, 1, 0, 0, 1, 0, 0], .b 2, .b 1, .c [1, 0, 1, 0, 0, 1, 1], .l [1, 0, 1, 0, 0], .b 0, .c [1, 1]], ⟨[], ⟨[], []⟩⟩), ([.c [1, 1, 0], .c [1, 1, 1]], ⟨[], ⟨[], []⟩⟩)], run := fun p k => (valued_l1 N N p.1.1 p.1.2.1).bind fun e => match e with | .inl x => k (.inl ((), ())) | .inr x => k (.inr (.inl ((), ()))) }
theorem valued_l1_eq (N n_ : Nat) (l : Ll) (i : Int) : ev (Z := (Unit) ⊕ (Unit)) Try.prog (valued_sp N) valued_B [valued_l2_L N] [valued_l1_h (valued_l1 N n_), valued_l1_e0, valued_l1_e1] none 400 true valued_l1_at (stL valued_l1_st ((l, i, ()), ())) (stH valued_l1_st ((l, i, ()), ())) = valued_l1 N (n_ + 1) l i := by kernel_rfl
theorem valued_l1_ok (N : Nat) {top : Bool} : LoopOK Try.prog valued_B.c valued_B.n valued_B.m0 top (valued_l1_L N) := loop_of_ev (Z := (Unit) ⊕ (Unit)) (N := N) (fun m p => valued_l1 N m p.1.1 p.1.2.1) (fun e => match e with | .inl x => .inl ((), ()) | .inr x => .inr (.inl ((), ()))) (fun _ p k => bind_congr_ (valued_l1 N N p.1.1 p.1.2.1) _ _ (fun e => by rcases e with x | x <;> rfl)) (fun _ => rfl) (fun m z E Xc hE hX hrec hx => leaf_of_ev (B := valued_B) (loops := [valued_l2_L N]) (leaves := [valued_l1_h (valued_l1 N m), valued_l1_e0, valued_l1_e1]) (valued_all N) mixed ⟨valued_l2_ok N, trivial⟩ hE hX ⟨hrec, (fun p hp => by obtain rfl := Option.some.inj hp; exact hx), (fun p hp => by obtain rfl := Option.some.inj hp; exact hx), trivial⟩ RetOK.no (fun p => valued_l1_eq N m p.1.1 p.1.2.1))
abbrev valued_st : Sta := ⟨[0], ⟨[shQ], []⟩⟩
theorem valued_eq (N : Nat) (l : Ll) : ev (Z := Bool) Try.prog (valued_sp N) valued_B [valued_l2_L N, valued_l1_L N] [] (some valued_rt) 400 false [.c [0], .c [1]] (stL valued_st ((l, ()), ())) (stH valued_st ((l, ()), ())) = valued_S N l := by kernel_rfl
noncomputable def sp_valued (N : Nat) : Spec := { f := 101, ins := ⟨[shQ], []⟩, outs := [⟨[.b], []⟩], run := fun p k => (valued_S N p.1.1).bind fun r => k ((r, ()), ()) }
theorem sp_valued_ok (N : Nat) : SpecOK Try.prog (sp_valued N) := fn_sound (B := valued_B) (loops := [valued_l2_L N, valued_l1_L N]) (leaves := []) (fun p => valued_S N p.1.1) (fun r => ((r, ()), ())) valued_rt (fun _ _ _ => rfl) (fun r z h => by cases h; rfl) Try.func101 (by kernel_rfl) (by kernel_rfl) (by kernel_rfl) rfl rfl (by kernel_rfl) (fun args w => Sem.pv_run _ _ _ (by kernel_rfl) w) (valued_all N) mixed ⟨valued_l2_ok N, valued_l1_ok N, trivial⟩ (fun z E Xc hE hX hret => trivial) (fun p => valued_eq N p.1.1)

def rcheck_l1 (N : Nat) : Nat → Int → Li → Int → Ll → Ll → Li → Option ((Unit) ⊕ (Li × Int × Ll × Ll × Li))
  | 0, _, _, _, _, _, _ => none
  | n_ + 1, t, d, d2, d3, d4, d5 =>
    br (decide (t < (d.length : Int)))
      (idx d t fun x_4 =>
      (off_S N x_4 1 9).bind fun x_5 =>
      br x_5
        (some (.inl ()))
        (chk (t + 1) <|
        rcheck_l1 N n_ (t + 1) d d2 d3 d4 d5))
      (some (.inr (d, d2, d3, d4, d5)))
def rcheck_l2 (N : Nat) : Nat → Int → Li → Int → Ll → Ll → Li → Option ((Unit) ⊕ (Li × Int × Ll × Ll × Li))
  | 0, _, _, _, _, _, _ => none
  | n_ + 1, i, d, d2, d3, d4, d5 =>
    br (decide (i < (d5.length : Int)))
      (idx d5 i fun x_11 =>
      (off_S N x_11 0 99).bind fun x_12 =>
      br x_12
        (some (.inl ()))
        (chk (i + 1) <|
        rcheck_l2 N n_ (i + 1) d d2 d3 d4 d5))
      (some (.inr (d, d2, d3, d4, d5)))
def rcheck_S (N : Nat) (d : Li) (d2 : Int) (d3 : Ll) (d4 : Ll) (d5 : Li) : Option Int :=
  (off_S N (d.length : Int) 1 5).bind fun x_1 =>
  br x_1
    (some 2)
    (br (decide (6 < (d3.length : Int)))
      (some 2)
      (br (decide (6 < (d4.length : Int)))
        (some 2)
        ((described_S N d d2 d3 d4 d5 d3).bind fun x_2 =>
        br (!x_2)
          (some 2)
          ((described_S N d d2 d3 d4 d5 d4).bind fun x_3 =>
          br (!x_3)
            (some 2)
            (br (!decide ((d5.length : Int) = (d3.length : Int)))
              (some 2)
              ((rcheck_l1 N N 0 d d2 d3 d4 d5).bind fun e => match e with
              | .inl _ =>
                some 3
              | .inr (d_6, d2_7, d3_8, d4_9, d5_10) =>
                (rcheck_l2 N N 0 d_6 d2_7 d3_8 d4_9 d5_10).bind fun e => match e with
                | .inl _ =>
                  some 3
                | .inr (d_13, d2_14, d3_15, d4_16, d5_17) =>
                  (off_S N d2_14 0 3).bind fun x_18 =>
                  br x_18
                    (some 3)
                    ((valued_S N d3_15).bind fun x_19 =>
                    br (!x_19)
                      (some 3)
                      ((valued_S N d4_16).bind fun x_20 =>
                      br (!x_20)
                        (some 3)
                        (some 0)))))))))
noncomputable def rcheck_sp (N : Nat) : List Spec := [sp_off N, sp_described N, sp_valued N]
theorem rcheck_all (N : Nat) : AllP (SpecOK Try.prog) (rcheck_sp N) := ⟨sp_off_ok N, sp_described_ok N, sp_valued_ok N, trivial⟩
noncomputable def rcheck_c : Code := (Try.f57.body).getD .skip
noncomputable abbrev rcheck_B : Body := { c := rcheck_c, n := 83, res := [.tmp 2], outs := [⟨[shI], []⟩], m0 := 0 }
abbrev rcheck_rt : altD rcheck_B.outs → Option Int := fun r => some r.1.1
abbrev rcheck_l1_at : List PI := [.c [1, 1, 1, 0, 1, 0, 0, 0, 0], .c [1, 1, 1, 0, 1, 0, 0, 0, 1], .c [1, 1, 1, 0, 1, 0, 0, 1], .l [1, 1, 1, 0, 1, 0, 0], .b 0, .c [1, 1, 1, 1]]
abbrev rcheck_l1_st : Sta := ⟨[1, 3], ⟨[.own 0 0, shI], [.segs [shL, shI, shQ, shQ, shL]]⟩⟩
abbrev rcheck_l1_h (rec : Int → Li → Int → Ll → Ll → Li → Option ((Unit) ⊕ (Li × Int × Ll × Ll × Li))) : Leaf ((Unit) ⊕ (Li × Int × Ll × Ll × Li)) := ⟨rcheck_l1_at, rcheck_l1_st, fun p => rec p.1.2.1 p.2.1.1 p.2.1.2.1 p.2.1.2.2.1 p.2.1.2.2.2.1 p.2.1.2.2.2.2.1⟩
abbrev rcheck_l1_e0 : Leaf ((Unit) ⊕ (Li × Int × Ll × Ll × Li)) := ⟨[.c [1, 1, 1, 0, 1, 0, 0, 1, 0, 0, 1, 0, 0], .c [1, 1, 1, 0, 1, 0, 0, 1, 0, 0, 1, 0, 1], .b 1, .c [1, 1, 1, 0, 1, 0, 0, 1, 1], .l [1, 1, 1, 0, 1, 0, 0], .b 0, .c [1, 1, 1, 1]], ⟨[], ⟨[], []⟩⟩, fun p => some (.inl ())⟩
abbrev rcheck_l1_e1 : Leaf ((Unit) ⊕ (Li × Int × Ll × Ll × Li)) := ⟨[.c [1, 1, 1, 1, 0, 0], .c [1, 1, 1, 1, 0, 1], .c [1, 1, 1, 1, 1]], ⟨[1], ⟨[.own 0 0], [.segs [shL, shI, shQ, shQ, shL]]⟩⟩, fun p => some (.inr (p.2.1.1, p.2.1.2.1, p.2.1.2.2.1, p.2.1.2.2.2.1, p.2.1.2.2.2.2.1))⟩
noncomputable def rcheck_l1_L (N : Nat) : LoopS := { at_ := rcheck_l1_at, sta := rcheck_l1_st, exits := [([.c [1, 1, 1, 0, 1, 0, 0, 1, 0, 0, 1, 0, 0], .c [1, 1, 1, 0, 1, 0, 0, 1, 0, 0, 1, 0, 1], .b 1, .c [1, 1, 1, 0, 1, 0, 0, 1, 1], .l [1, 1, 1, 0, 1, 0, 0], .b 0, .c [1, 1, 1, 1]], ⟨[], ⟨[], []⟩⟩), ([.c [1, 1, 1, 1, 0, 0], .c [1, 1, 1, 1, 0, 1], .c [1, 1, 1, 1, 1]], ⟨[1], ⟨[.own 0 0], [.segs [shL, shI, shQ, shQ, shL]]⟩⟩)], run := fun p k => (rcheck_l1 N N p.1.2.1 p.2.1.1 p.2.1.2.1 p.2.1.2.2.1 p.2.1.2.2.2.1 p.2.1.2.2.2.2.1).bind fun e => match e with | .inl x => k (.inl ((), ())) | .inr x => k (.inr (.inl (((), ()), ((x.1, x.2.1, x.2.2.1, x.2.2.2.1, x.2.2.2.2, ()), ())))) }
theorem rcheck_l1_eq (N n_ : Nat) (t : Int) (d : Li) (d2 : Int) (d3 : Ll) (d4 : Ll) (d5 : Li) : ev (Z := (Unit) ⊕ (Li × Int × Ll × Ll × Li)) Try.prog (rcheck_sp N) rcheck_B [] [rcheck_l1_h (rcheck_l1 N n_), rcheck_l1_e0, rcheck_l1_e1] none 400 true rcheck_l1_at (stL rcheck_l1_st (((), t, ()), ((d, d2, d3, d4, d5, ()), ()))) (stH rcheck_l1_st (((), t, ()), ((d, d2, d3, d4, d5, ()), ()))) = rcheck_l1 N (n_ + 1) t d d2 d3 d4 d5 := by kernel_rfl
theorem rcheck_l1_ok (N : Nat) {top : Bool} : LoopOK Try.prog rcheck_B.c rcheck_B.n rcheck_B.m0 top (rcheck_l1_L N) := loop_of_ev (Z := (Unit) ⊕ (Li × Int × Ll × Ll × Li)) (N := N) (fun m p => rcheck_l1 N m p.1.2.1 p.2.1.1 p.2.1.2.1 p.2.1.2.2.1 p.2.1.2.2.2.1 p.2.1.2.2.2.2.1) (fun e => match e with | .inl x => .inl ((), ()) | .inr x => .inr (.inl (((), ()), ((x.1, x.2.1, x.2.2.1, x.2.2.2.1, x.2.2.2.2, ()), ())))) (fun _ p k => bind_congr_ (rcheck_l1 N N p.1.2.1 p.2.1.1 p.2.1.2.1 p.2.1.2.2.1 p.2.1.2.2.2.1 p.2.1.2.2.2.2.1) _ _ (fun e => by rcases e with x | x <;> rfl)) (fun _ => rfl) (fun m z E Xc hE hX hrec hx => leaf_of_ev (B := rcheck_B) (loops := []) (leaves := [rcheck_l1_h (rcheck_l1 N m), rcheck_l1_e0, rcheck_l1_e1]) (rcheck_all N) mixed trivial hE hX ⟨hrec, (fun p hp => by obtain rfl := Option.some.inj hp; exact hx), (fun p hp => by obtain rfl := Option.some.inj hp; exact hx), trivial⟩ RetOK.no (fun p => rcheck_l1_eq N m p.1.2.1 p.2.1.1 p.2.1.2.1 p.2.1.2.2.1 p.2.1.2.2.2.1 p.2.1.2.2.2.2.1))
abbrev rcheck_l2_at : List PI := [.c [1, 1, 1, 1, 0, 1, 0, 0, 0, 0], .c [1, 1, 1, 1, 0, 1, 0, 0, 0, 1], .c [1, 1, 1, 1, 0, 1, 0, 0, 1], .l [1, 1, 1, 1, 0, 1, 0, 0], .b 2, .c [1, 1, 1, 1, 1]]
abbrev rcheck_l2_st : Sta := ⟨[1, 4], ⟨[.own 0 0, shI], [.segs [shL, shI, shQ, shQ, shL]]⟩⟩
abbrev rcheck_l2_h (rec : Int → Li → Int → Ll → Ll → Li → Option ((Unit) ⊕ (Li × Int × Ll × Ll × Li))) : Leaf ((Unit) ⊕ (Li × Int × Ll × Ll × Li)) := ⟨rcheck_l2_at, rcheck_l2_st, fun p => rec p.1.2.1 p.2.1.1 p.2.1.2.1 p.2.1.2.2.1 p.2.1.2.2.2.1 p.2.1.2.2.2.2.1⟩
abbrev rcheck_l2_e0 : Leaf ((Unit) ⊕ (Li × Int × Ll × Ll × Li)) := ⟨[.c [1, 1, 1, 1, 0, 1, 0, 0, 1, 0, 0, 1, 0, 0], .c [1, 1, 1, 1, 0, 1, 0, 0, 1, 0, 0, 1, 0, 1], .b 3, .c [1, 1, 1, 1, 0, 1, 0, 0, 1, 1], .l [1, 1, 1, 1, 0, 1, 0, 0], .b 2, .c [1, 1, 1, 1, 1]], ⟨[], ⟨[], []⟩⟩, fun p => some (.inl ())⟩
abbrev rcheck_l2_e1 : Leaf ((Unit) ⊕ (Li × Int × Ll × Ll × Li)) := ⟨[.c [1, 1, 1, 1, 1, 0, 0], .c [1, 1, 1, 1, 1, 0, 1], .c [1, 1, 1, 1, 1, 1]], ⟨[1], ⟨[.own 0 0], [.segs [shL, shI, shQ, shQ, shL]]⟩⟩, fun p => some (.inr (p.2.1.1, p.2.1.2.1, p.2.1.2.2.1, p.2.1.2.2.2.1, p.2.1.2.2.2.2.1))⟩
noncomputable def rcheck_l2_L (N : Nat) : LoopS := { at_ := rcheck_l2_at, sta := rcheck_l2_st, exits := [([.c [1, 1, 1, 1, 0, 1, 0, 0, 1, 0, 0, 1, 0, 0], .c [1, 1, 1, 1, 0, 1, 0, 0, 1, 0, 0, 1, 0, 1], .b 3, .c [1, 1, 1, 1, 0, 1, 0, 0, 1, 1], .l [1, 1, 1, 1, 0, 1, 0, 0], .b 2, .c [1, 1, 1, 1, 1]], ⟨[], ⟨[], []⟩⟩), ([.c [1, 1, 1, 1, 1, 0, 0], .c [1, 1, 1, 1, 1, 0, 1], .c [1, 1, 1, 1, 1, 1]], ⟨[1], ⟨[.own 0 0], [.segs [shL, shI, shQ, shQ, shL]]⟩⟩)], run := fun p k => (rcheck_l2 N N p.1.2.1 p.2.1.1 p.2.1.2.1 p.2.1.2.2.1 p.2.1.2.2.2.1 p.2.1.2.2.2.2.1).bind fun e => match e with | .inl x => k (.inl ((), ())) | .inr x => k (.inr (.inl (((), ()), ((x.1, x.2.1, x.2.2.1, x.2.2.2.1, x.2.2.2.2, ()), ())))) }
theorem rcheck_l2_eq (N n_ : Nat) (i : Int) (d : Li) (d2 : Int) (d3 : Ll) (d4 : Ll) (d5 : Li) : ev (Z := (Unit) ⊕ (Li × Int × Ll × Ll × Li)) Try.prog (rcheck_sp N) rcheck_B [rcheck_l1_L N] [rcheck_l2_h (rcheck_l2 N n_), rcheck_l2_e0, rcheck_l2_e1] none 400 true rcheck_l2_at (stL rcheck_l2_st (((), i, ()), ((d, d2, d3, d4, d5, ()), ()))) (stH rcheck_l2_st (((), i, ()), ((d, d2, d3, d4, d5, ()), ()))) = rcheck_l2 N (n_ + 1) i d d2 d3 d4 d5 := by kernel_rfl
theorem rcheck_l2_ok (N : Nat) {top : Bool} : LoopOK Try.prog rcheck_B.c rcheck_B.n rcheck_B.m0 top (rcheck_l2_L N) := loop_of_ev (Z := (Unit) ⊕ (Li × Int × Ll × Ll × Li)) (N := N) (fun m p => rcheck_l2 N m p.1.2.1 p.2.1.1 p.2.1.2.1 p.2.1.2.2.1 p.2.1.2.2.2.1 p.2.1.2.2.2.2.1) (fun e => match e with | .inl x => .inl ((), ()) | .inr x => .inr (.inl (((), ()), ((x.1, x.2.1, x.2.2.1, x.2.2.2.1, x.2.2.2.2, ()), ())))) (fun _ p k => bind_congr_ (rcheck_l2 N N p.1.2.1 p.2.1.1 p.2.1.2.1 p.2.1.2.2.1 p.2.1.2.2.2.1 p.2.1.2.2.2.2.1) _ _ (fun e => by rcases e with x | x <;> rfl)) (fun _ => rfl) (fun m z E Xc hE hX hrec hx => leaf_of_ev (B := rcheck_B) (loops := [rcheck_l1_L N]) (leaves := [rcheck_l2_h (rcheck_l2 N m), rcheck_l2_e0, rcheck_l2_e1]) (rcheck_all N) mixed ⟨rcheck_l1_ok N, trivial⟩ hE hX ⟨hrec, (fun p hp => by obtain rfl := Option.some.inj hp; exact hx), (fun p hp => by obtain rfl := Option.some.inj hp; exact hx), trivial⟩ RetOK.no (fun p => rcheck_l2_eq N m p.1.2.1 p.2.1.1 p.2.1.2.1 p.2.1.2.2.1 p.2.1.2.2.2.1 p.2.1.2.2.2.2.1))
abbrev rcheck_st : Sta := ⟨[0], ⟨[shG], []⟩⟩
theorem rcheck_eq (N : Nat) (d : Li) (d2 : Int) (d3 : Ll) (d4 : Ll) (d5 : Li) : ev (Z := Int) Try.prog (rcheck_sp N) rcheck_B [rcheck_l1_L N, rcheck_l2_L N] [] (some rcheck_rt) 400 false [.c [0], .c [1]] (stL rcheck_st (((d, d2, d3, d4, d5, ()), ()), ())) (stH rcheck_st (((d, d2, d3, d4, d5, ()), ()), ())) = rcheck_S N d d2 d3 d4 d5 := by kernel_rfl
noncomputable def sp_rcheck (N : Nat) : Spec := { f := 57, ins := ⟨[shG], []⟩, outs := [⟨[shI], []⟩], run := fun p k => (rcheck_S N p.1.1.1 p.1.1.2.1 p.1.1.2.2.1 p.1.1.2.2.2.1 p.1.1.2.2.2.2.1).bind fun r => k ((r, ()), ()) }
theorem sp_rcheck_ok (N : Nat) : SpecOK Try.prog (sp_rcheck N) := fn_sound (B := rcheck_B) (loops := [rcheck_l1_L N, rcheck_l2_L N]) (leaves := []) (fun p => rcheck_S N p.1.1.1 p.1.1.2.1 p.1.1.2.2.1 p.1.1.2.2.2.1 p.1.1.2.2.2.2.1) (fun r => ((r, ()), ())) rcheck_rt (fun _ _ _ => rfl) (fun r z h => by cases h; rfl) Try.func57 (by kernel_rfl) (by kernel_rfl) (by kernel_rfl) rfl rfl (by kernel_rfl) (fun args w => Sem.pv_run _ _ _ (by kernel_rfl) w) (rcheck_all N) mixed ⟨rcheck_l1_ok N, rcheck_l2_ok N, trivial⟩ (fun z E Xc hE hX hret => trivial) (fun p => rcheck_eq N p.1.1.1 p.1.1.2.1 p.1.1.2.2.1 p.1.1.2.2.2.1 p.1.1.2.2.2.2.1)

def rpair_j2 (N : Nat) (rec : Int → Int → Int → Int → Int → Li → Int → Ll → Ll → Li → Option (Int × Int × Li × Int × Ll × Ll × Li)) (lost : Int) (found : Int) (n : Int) (slips : Int) (t : Int) (d : Li) (d2 : Int) (d3 : Ll) (d4 : Ll) (d5 : Li) : Option (Int × Int × Li × Int × Ll × Ll × Li) :=
  chk (t + 1) <|
  rec lost found n slips (t + 1) d d2 d3 d4 d5
def rpair_j1 (N : Nat) (rec : Int → Int → Int → Int → Int → Li → Int → Ll → Ll → Li → Option (Int × Int × Li × Int × Ll × Ll × Li)) (lost : Int) (found : Int) (n : Int) (slips : Int) (t : Int) (a : Int) (b : Int) (d : Li) (d2 : Int) (d3 : Ll) (d4 : Ll) (d5 : Li) : Option (Int × Int × Li × Int × Ll × Ll × Li) :=
  br (decide (0 ≤ a))
    (br (decide (0 ≤ b))
      (br (!decide (a = b))
        (chk (slips + 1) <|
        rpair_j2 N (rec) lost found n (slips + 1) t d d2 d3 d4 d5)
        (rpair_j2 N (rec) lost found n slips t d d2 d3 d4 d5))
      (rpair_j2 N (rec) lost found n slips t d d2 d3 d4 d5))
    (rpair_j2 N (rec) lost found n slips t d d2 d3 d4 d5)
def rpair_l1 (N : Nat) : Nat → Int → Int → Int → Int → Int → Li → Int → Ll → Ll → Li → Option (Int × Int × Li × Int × Ll × Ll × Li)
  | 0, _, _, _, _, _, _, _, _, _, _ => none
  | n_ + 1, lost, found, n, slips, t, d, d2, d3, d4, d5 =>
    br (decide (t < (d.length : Int)))
      (idx d3 lost fun x_1 =>
      idx x_1 t fun x_2 =>
      idx d4 found fun x_3 =>
      idx x_3 t fun x_4 =>
      br (decide (0 ≤ x_2))
        (br (decide (0 ≤ x_4))
          (br (decide (x_2 = x_4))
            (idx d t fun x_5 =>
            chk (n + x_5) <|
            rpair_j1 N (rpair_l1 N n_) lost found (n + x_5) slips t x_2 x_4 d d2 d3 d4 d5)
            (rpair_j1 N (rpair_l1 N n_) lost found n slips t x_2 x_4 d d2 d3 d4 d5))
          (rpair_j1 N (rpair_l1 N n_) lost found n slips t x_2 x_4 d d2 d3 d4 d5))
        (rpair_j1 N (rpair_l1 N n_) lost found n slips t x_2 x_4 d d2 d3 d4 d5))
      (some ((n, slips, d, d2, d3, d4, d5)))
def rpair_S (N : Nat) (d : Li) (d2 : Int) (d3 : Ll) (d4 : Ll) (d5 : Li) (lost : Int) (found : Int) : Option (Int × Int × Bool) :=
  (rpair_l1 N N lost found 0 0 0 d d2 d3 d4 d5).bind fun (n_6, slips_7, d_8, d2_9, d3_10, d4_11, d5_12) =>
  br (decide (0 < n_6))
    (some (n_6, slips_7, (decide (slips_7 ≤ d2_9))))
    (some (n_6, slips_7, false))
noncomputable def rpair_sp (N : Nat) : List Spec := []
theorem rpair_all (N : Nat) : AllP (SpecOK Try.prog) (rpair_sp N) := trivial
noncomputable def rpair_c : Code := (Try.f92.body).getD .skip
noncomputable abbrev rpair_B : Body := { c := rpair_c, n := 78, res := [.tmp 6, .tmp 7, .tmp 8], outs := [⟨[shI, shI, .b], []⟩], m0 := 0 }
abbrev rpair_rt : altD rpair_B.outs → Option (Int × Int × Bool) := fun r => some (r.1.1, r.1.2.1, r.1.2.2.1)
abbrev rpair_l1_at : List PI := [.c [1, 1, 0, 1, 0, 0, 0, 0], .c [1, 1, 0, 1, 0, 0, 0, 1], .c [1, 1, 0, 1, 0, 0, 1], .l [1, 1, 0, 1, 0, 0], .b 0, .c [1, 1, 1]]
abbrev rpair_l1_st : Sta := ⟨[1, 2, 3, 9, 10, 11], ⟨[shI, shI, .own 0 0, shI, shI, shI], [.segs [shL, shI, shQ, shQ, shL]]⟩⟩
abbrev rpair_l1_h (rec : Int → Int → Int → Int → Int → Li → Int → Ll → Ll → Li → Option (Int × Int × Li × Int × Ll × Ll × Li)) : Leaf (Int × Int × Li × Int × Ll × Ll × Li) := ⟨rpair_l1_at, rpair_l1_st, fun p => rec p.1.1 p.1.2.1 p.1.2.2.2.1 p.1.2.2.2.2.1 p.1.2.2.2.2.2.1 p.2.1.1 p.2.1.2.1 p.2.1.2.2.1 p.2.1.2.2.2.1 p.2.1.2.2.2.2.1⟩
abbrev rpair_l1_e0 : Leaf (Int × Int × Li × Int × Ll × Ll × Li) := ⟨[.c [1, 1, 1, 0], .c [1, 1, 1, 1]], ⟨[3, 9, 10], ⟨[.own 0 0, shI, shI], [.segs [shL, shI, shQ, shQ, shL]]⟩⟩, fun p => some ((p.1.2.1, p.1.2.2.1, p.2.1.1, p.2.1.2.1, p.2.1.2.2.1, p.2.1.2.2.2.1, p.2.1.2.2.2.2.1))⟩
abbrev rpair_j2_at : List PI := [.c [1, 1, 0, 1, 0, 0, 1, 1], .l [1, 1, 0, 1, 0, 0], .b 0, .c [1, 1, 1]]
abbrev rpair_j2_st : Sta := ⟨[1, 2, 3, 9, 10, 11], ⟨[shI, shI, .own 0 0, shI, shI, shI], [.segs [shL, shI, shQ, shQ, shL]]⟩⟩
abbrev rpair_j2_k (N : Nat) (rec : Int → Int → Int → Int → Int → Li → Int → Ll → Ll → Li → Option (Int × Int × Li × Int × Ll × Ll × Li)) : Leaf (Int × Int × Li × Int × Ll × Ll × Li) := ⟨rpair_j2_at, rpair_j2_st, fun p => rpair_j2 N rec p.1.1 p.1.2.1 p.1.2.2.2.1 p.1.2.2.2.2.1 p.1.2.2.2.2.2.1 p.2.1.1 p.2.1.2.1 p.2.1.2.2.1 p.2.1.2.2.2.1 p.2.1.2.2.2.2.1⟩
theorem rpair_j2_eq (N : Nat) (rec : Int → Int → Int → Int → Int → Li → Int → Ll → Ll → Li → Option (Int × Int × Li × Int × Ll × Ll × Li)) (lost : Int) (found : Int) (n : Int) (slips : Int) (t : Int) (d : Li) (d2 : Int) (d3 : Ll) (d4 : Ll) (d5 : Li) : ev (Z := Int × Int × Li × Int × Ll × Ll × Li) Try.prog (rpair_sp N) rpair_B [] [rpair_l1_h rec, rpair_l1_e0] none 400 true rpair_j2_at (stL rpair_j2_st ((lost, found, (), n, slips, t, ()), ((d, d2, d3, d4, d5, ()), ()))) (stH rpair_j2_st ((lost, found, (), n, slips, t, ()), ((d, d2, d3, d4, d5, ()), ()))) = rpair_j2 N rec lost found n slips t d d2 d3 d4 d5 := by kernel_rfl
theorem rpair_j2_lf (N : Nat) (rec : Int → Int → Int → Int → Int → Li → Int → Ll → Ll → Li → Option (Int × Int × Li × Int × Ll × Ll × Li)) {z : Int × Int × Li × Int × Ll × Ll × Li} {top : Bool} {E : EE} {Xc : Ctx} (hE : EOK rpair_B.m0 E) (hX : CxOK top Xc) (hrec : LeafOK Try.prog rpair_B.c rpair_B.n rpair_B.m0 E Xc z (rpair_l1_h rec)) (h0 : LeafOK Try.prog rpair_B.c rpair_B.n rpair_B.m0 E Xc z rpair_l1_e0) : LeafOK Try.prog rpair_B.c rpair_B.n rpair_B.m0 E Xc z (rpair_j2_k N rec) := leaf_of_ev (B := rpair_B) (loops := []) (leaves := [rpair_l1_h rec, rpair_l1_e0]) (rpair_all N) mixed trivial hE hX ⟨hrec, h0, trivial⟩ RetOK.no (fun p => rpair_j2_eq N rec p.1.1 p.1.2.1 p.1.2.2.2.1 p.1.2.2.2.2.1 p.1.2.2.2.2.2.1 p.2.1.1 p.2.1.2.1 p.2.1.2.2.1 p.2.1.2.2.2.1 p.2.1.2.2.2.2.1)
abbrev rpair_j1_at : List PI := [.c [1, 1, 0, 1, 0, 0, 1, 0, 0, 1, 1, 0], .c [1, 1, 0, 1, 0, 0, 1, 0, 0, 1, 1, 1], .b 1, .c [1, 1, 0, 1, 0, 0, 1, 1], .l [1, 1, 0, 1, 0, 0], .b 0, .c [1, 1, 1]]
abbrev rpair_j1_st : Sta := ⟨[1, 2, 3, 9, 10, 11, 12, 13], ⟨[shI, shI, .own 0 0, shI, shI, shI, shI, shI], [.segs [shL, shI, shQ, shQ, shL]]⟩⟩
abbrev rpair_j1_k (N : Nat) (rec : Int → Int → Int → Int → Int → Li → Int → Ll → Ll → Li → Option (Int × Int × Li × Int × Ll × Ll × Li)) : Leaf (Int × Int × Li × Int × Ll × Ll × Li) := ⟨rpair_j1_at, rpair_j1_st, fun p => rpair_j1 N rec p.1.1 p.1.2.1 p.1.2.2.2.1 p.1.2.2.2.2.1 p.1.2.2.2.2.2.1 p.1.2.2.2.2.2.2.1 p.1.2.2.2.2.2.2.2.1 p.2.1.1 p.2.1.2.1 p.2.1.2.2.1 p.2.1.2.2.2.1 p.2.1.2.2.2.2.1⟩
theorem rpair_j1_eq (N : Nat) (rec : Int → Int → Int → Int → Int → Li → Int → Ll → Ll → Li → Option (Int × Int × Li × Int × Ll × Ll × Li)) (lost : Int) (found : Int) (n : Int) (slips : Int) (t : Int) (a : Int) (b : Int) (d : Li) (d2 : Int) (d3 : Ll) (d4 : Ll) (d5 : Li) : ev (Z := Int × Int × Li × Int × Ll × Ll × Li) Try.prog (rpair_sp N) rpair_B [] [rpair_l1_h rec, rpair_l1_e0, rpair_j2_k N rec] none 400 true rpair_j1_at (stL rpair_j1_st ((lost, found, (), n, slips, t, a, b, ()), ((d, d2, d3, d4, d5, ()), ()))) (stH rpair_j1_st ((lost, found, (), n, slips, t, a, b, ()), ((d, d2, d3, d4, d5, ()), ()))) = rpair_j1 N rec lost found n slips t a b d d2 d3 d4 d5 := by kernel_rfl
theorem rpair_j1_lf (N : Nat) (rec : Int → Int → Int → Int → Int → Li → Int → Ll → Ll → Li → Option (Int × Int × Li × Int × Ll × Ll × Li)) {z : Int × Int × Li × Int × Ll × Ll × Li} {top : Bool} {E : EE} {Xc : Ctx} (hE : EOK rpair_B.m0 E) (hX : CxOK top Xc) (hrec : LeafOK Try.prog rpair_B.c rpair_B.n rpair_B.m0 E Xc z (rpair_l1_h rec)) (h0 : LeafOK Try.prog rpair_B.c rpair_B.n rpair_B.m0 E Xc z rpair_l1_e0) : LeafOK Try.prog rpair_B.c rpair_B.n rpair_B.m0 E Xc z (rpair_j1_k N rec) := leaf_of_ev (B := rpair_B) (loops := []) (leaves := [rpair_l1_h rec, rpair_l1_e0, rpair_j2_k N rec]) (rpair_all N) mixed trivial hE hX ⟨hrec, h0, rpair_j2_lf N rec hE hX hrec h0, trivial⟩ RetOK.no (fun p => rpair_j1_eq N rec p.1.1 p.1.2.1 p.1.2.2.2.1 p.1.2.2.2.2.1 p.1.2.2.2.2.2.1 p.1.2.2.2.2.2.2.1 p.1.2.2.2.2.2.2.2.1 p.2.1.1 p.2.1.2.1 p.2.1.2.2.1 p.2.1.2.2.2.1 p.2.1.2.2.2.2.1)
noncomputable def rpair_l1_L (N : Nat) : LoopS := { at_ := rpair_l1_at, sta := rpair_l1_st, exits := [([.c [1, 1, 1, 0], .c [1, 1, 1, 1]], ⟨[3, 9, 10], ⟨[.own 0 0, shI, shI], [.segs [shL, shI, shQ, shQ, shL]]⟩⟩)], run := fun p k => (rpair_l1 N N p.1.1 p.1.2.1 p.1.2.2.2.1 p.1.2.2.2.2.1 p.1.2.2.2.2.2.1 p.2.1.1 p.2.1.2.1 p.2.1.2.2.1 p.2.1.2.2.2.1 p.2.1.2.2.2.2.1).bind fun e => k (.inl (((), e.1, e.2.1, ()), ((e.2.2.1, e.2.2.2.1, e.2.2.2.2.1, e.2.2.2.2.2.1, e.2.2.2.2.2.2, ()), ()))) }
theorem rpair_l1_eq (N n_ : Nat) (lost : Int) (found : Int) (n : Int) (slips : Int) (t : Int) (d : Li) (d2 : Int) (d3 : Ll) (d4 : Ll) (d5 : Li) : ev (Z := Int × Int × Li × Int × Ll × Ll × Li) Try.prog (rpair_sp N) rpair_B [] [rpair_l1_h (rpair_l1 N n_), rpair_l1_e0, rpair_j2_k N (rpair_l1 N n_), rpair_j1_k N (rpair_l1 N n_)] none 400 true rpair_l1_at (stL rpair_l1_st ((lost, found, (), n, slips, t, ()), ((d, d2, d3, d4, d5, ()), ()))) (stH rpair_l1_st ((lost, found, (), n, slips, t, ()), ((d, d2, d3, d4, d5, ()), ()))) = rpair_l1 N (n_ + 1) lost found n slips t d d2 d3 d4 d5 := by kernel_rfl
theorem rpair_l1_ok (N : Nat) {top : Bool} : LoopOK Try.prog rpair_B.c rpair_B.n rpair_B.m0 top (rpair_l1_L N) := loop_of_ev (Z := Int × Int × Li × Int × Ll × Ll × Li) (N := N) (fun m p => rpair_l1 N m p.1.1 p.1.2.1 p.1.2.2.2.1 p.1.2.2.2.2.1 p.1.2.2.2.2.2.1 p.2.1.1 p.2.1.2.1 p.2.1.2.2.1 p.2.1.2.2.2.1 p.2.1.2.2.2.2.1) (fun e => .inl (((), e.1, e.2.1, ()), ((e.2.2.1, e.2.2.2.1, e.2.2.2.2.1, e.2.2.2.2.2.1, e.2.2.2.2.2.2, ()), ()))) (fun _ _ _ => rfl) (fun _ => rfl) (fun m z E Xc hE hX hrec hx => leaf_of_ev (B := rpair_B) (loops := []) (leaves := [rpair_l1_h (rpair_l1 N m), rpair_l1_e0, rpair_j2_k N (rpair_l1 N m), rpair_j1_k N (rpair_l1 N m)]) (rpair_all N) mixed trivial hE hX ⟨hrec, (fun p hp => by obtain rfl := Option.some.inj hp; exact hx), rpair_j2_lf N _ hE hX hrec (fun p hp => by obtain rfl := Option.some.inj hp; exact hx), rpair_j1_lf N _ hE hX hrec (fun p hp => by obtain rfl := Option.some.inj hp; exact hx), trivial⟩ RetOK.no (fun p => rpair_l1_eq N m p.1.1 p.1.2.1 p.1.2.2.2.1 p.1.2.2.2.2.1 p.1.2.2.2.2.2.1 p.2.1.1 p.2.1.2.1 p.2.1.2.2.1 p.2.1.2.2.2.1 p.2.1.2.2.2.2.1))
abbrev rpair_st : Sta := ⟨[0, 1, 2], ⟨[shG, shI, shI], []⟩⟩
theorem rpair_eq (N : Nat) (d : Li) (d2 : Int) (d3 : Ll) (d4 : Ll) (d5 : Li) (lost : Int) (found : Int) : ev (Z := Int × Int × Bool) Try.prog (rpair_sp N) rpair_B [rpair_l1_L N] [] (some rpair_rt) 400 false [.c [0], .c [1]] (stL rpair_st (((d, d2, d3, d4, d5, ()), lost, found, ()), ())) (stH rpair_st (((d, d2, d3, d4, d5, ()), lost, found, ()), ())) = rpair_S N d d2 d3 d4 d5 lost found := by kernel_rfl
noncomputable def sp_rpair (N : Nat) : Spec := { f := 92, ins := ⟨[shG, shI, shI], []⟩, outs := [⟨[shI, shI, .b], []⟩], run := fun p k => (rpair_S N p.1.1.1 p.1.1.2.1 p.1.1.2.2.1 p.1.1.2.2.2.1 p.1.1.2.2.2.2.1 p.1.2.1 p.1.2.2.1).bind fun r => k ((r.1, r.2.1, r.2.2, ()), ()) }
theorem sp_rpair_ok (N : Nat) : SpecOK Try.prog (sp_rpair N) := fn_sound (B := rpair_B) (loops := [rpair_l1_L N]) (leaves := []) (fun p => rpair_S N p.1.1.1 p.1.1.2.1 p.1.1.2.2.1 p.1.1.2.2.2.1 p.1.1.2.2.2.2.1 p.1.2.1 p.1.2.2.1) (fun r => ((r.1, r.2.1, r.2.2, ()), ())) rpair_rt (fun _ _ _ => rfl) (fun r z h => by cases h; rfl) Try.func92 (by kernel_rfl) (by kernel_rfl) (by kernel_rfl) rfl rfl (by kernel_rfl) (fun args w => Sem.pv_run _ _ _ (by kernel_rfl) w) (rpair_all N) mixed ⟨rpair_l1_ok N, trivial⟩ (fun z E Xc hE hX hret => trivial) (fun p => rpair_eq N p.1.1.1 p.1.1.2.1 p.1.1.2.2.1 p.1.1.2.2.2.1 p.1.1.2.2.2.2.1 p.1.2.1 p.1.2.2.1)

def ragree_S (N : Nat) (d : Li) (d2 : Int) (d3 : Ll) (d4 : Ll) (d5 : Li) (lost : Int) (found : Int) : Option (Int × Int × Bool × Int) :=
  (rcheck_S N d d2 d3 d4 d5).bind fun x_1 =>
  br (!decide (x_1 = 0))
    (some (0, 0, false, x_1))
    (chk ((d3.length : Int) - 1) <|
    (off_S N lost 0 ((d3.length : Int) - 1)).bind fun x_2 =>
    br x_2
      (some (0, 0, false, 1))
      (chk ((d4.length : Int) - 1) <|
      (off_S N found 0 ((d4.length : Int) - 1)).bind fun x_3 =>
      br x_3
        (some (0, 0, false, 1))
        ((rpair_S N d d2 d3 d4 d5 lost found).bind fun (x_4, y_5, y_6) =>
        some (x_4, y_5, y_6, 0))))
noncomputable def ragree_sp (N : Nat) : List Spec := [sp_off N, sp_rcheck N, sp_rpair N]
theorem ragree_all (N : Nat) : AllP (SpecOK Try.prog) (ragree_sp N) := ⟨sp_off_ok N, sp_rcheck_ok N, sp_rpair_ok N, trivial⟩
noncomputable def ragree_c : Code := (Try.f52.body).getD .skip
noncomputable abbrev ragree_B : Body := { c := ragree_c, n := 44, res := [.tmp 6, .tmp 7, .tmp 8, .tmp 9], outs := [⟨[shI, shI, .b, shI], []⟩], m0 := 0 }
abbrev ragree_rt : altD ragree_B.outs → Option (Int × Int × Bool × Int) := fun r => some (r.1.1, r.1.2.1, r.1.2.2.1, r.1.2.2.2.1)
abbrev ragree_st : Sta := ⟨[0, 1, 2], ⟨[shG, shI, shI], []⟩⟩
theorem ragree_eq (N : Nat) (d : Li) (d2 : Int) (d3 : Ll) (d4 : Ll) (d5 : Li) (lost : Int) (found : Int) : ev (Z := Int × Int × Bool × Int) Try.prog (ragree_sp N) ragree_B [] [] (some ragree_rt) 400 false [.c [0], .c [1]] (stL ragree_st (((d, d2, d3, d4, d5, ()), lost, found, ()), ())) (stH ragree_st (((d, d2, d3, d4, d5, ()), lost, found, ()), ())) = ragree_S N d d2 d3 d4 d5 lost found := by kernel_rfl
noncomputable def sp_ragree (N : Nat) : Spec := { f := 52, ins := ⟨[shG, shI, shI], []⟩, outs := [⟨[shI, shI, .b, shI], []⟩], run := fun p k => (ragree_S N p.1.1.1 p.1.1.2.1 p.1.1.2.2.1 p.1.1.2.2.2.1 p.1.1.2.2.2.2.1 p.1.2.1 p.1.2.2.1).bind fun r => k ((r.1, r.2.1, r.2.2.1, r.2.2.2, ()), ()) }
theorem sp_ragree_ok (N : Nat) : SpecOK Try.prog (sp_ragree N) := fn_sound (B := ragree_B) (loops := []) (leaves := []) (fun p => ragree_S N p.1.1.1 p.1.1.2.1 p.1.1.2.2.1 p.1.1.2.2.2.1 p.1.1.2.2.2.2.1 p.1.2.1 p.1.2.2.1) (fun r => ((r.1, r.2.1, r.2.2.1, r.2.2.2, ()), ())) ragree_rt (fun _ _ _ => rfl) (fun r z h => by cases h; rfl) Try.func52 (by kernel_rfl) (by kernel_rfl) (by kernel_rfl) rfl rfl (by kernel_rfl) (fun args w => Sem.pv_run _ _ _ (by kernel_rfl) w) (ragree_all N) mixed trivial (fun z E Xc hE hX hret => trivial) (fun p => ragree_eq N p.1.1.1 p.1.1.2.1 p.1.1.2.2.1 p.1.1.2.2.2.1 p.1.1.2.2.2.2.1 p.1.2.1 p.1.2.2.1)

def rmay_j1 (N : Nat) (rec : Int → Int → Li → Int → Ll → Ll → Li → Li → Option Li) (lost : Int) (k : Int) (d : Li) (d2 : Int) (d3 : Ll) (d4 : Ll) (d5 : Li) (out : Li) : Option Li :=
  chk (k + 1) <|
  rec lost (k + 1) d d2 d3 d4 d5 out
def rmay_l1 (N : Nat) : Nat → Int → Int → Li → Int → Ll → Ll → Li → Li → Option Li
  | 0, _, _, _, _, _, _, _, _ => none
  | n_ + 1, lost, k, d, d2, d3, d4, d5, out =>
    br (decide (k < (d4.length : Int)))
      ((rpair_S N d d2 d3 d4 d5 lost k).bind fun (x_3, y_4, y_5) =>
      br y_5
        (lim (out.length + [k].length) <|
        rmay_j1 N (rmay_l1 N n_) lost k d d2 d3 d4 d5 (out ++ [k]))
        (rmay_j1 N (rmay_l1 N n_) lost k d d2 d3 d4 d5 out))
      (some (out))
def rmay_S (N : Nat) (d : Li) (d2 : Int) (d3 : Ll) (d4 : Ll) (d5 : Li) (lost : Int) : Option (Li × Int) :=
  (rcheck_S N d d2 d3 d4 d5).bind fun x_1 =>
  br (!decide (x_1 = 0))
    (some ([], x_1))
    (chk ((d3.length : Int) - 1) <|
    (off_S N lost 0 ((d3.length : Int) - 1)).bind fun x_2 =>
    br x_2
      (some ([], 1))
      ((rmay_l1 N N lost 0 d d2 d3 d4 d5 []).bind fun out_6 =>
      some (out_6, 0)))
noncomputable def rmay_sp (N : Nat) : List Spec := [sp_off N, sp_rcheck N, sp_rpair N]
theorem rmay_all (N : Nat) : AllP (SpecOK Try.prog) (rmay_sp N) := ⟨sp_off_ok N, sp_rcheck_ok N, sp_rpair_ok N, trivial⟩
noncomputable def rmay_c : Code := (Try.f65.body).getD .skip
noncomputable abbrev rmay_B : Body := { c := rmay_c, n := 44, res := [.tmp 4, .tmp 5], outs := [⟨[shL, shI], []⟩], m0 := 0 }
abbrev rmay_rt : altD rmay_B.outs → Option (Li × Int) := fun r => some (r.1.1, r.1.2.1)
abbrev rmay_l1_at : List PI := [.c [1, 1, 1, 1, 0, 1, 0, 0, 0, 0], .c [1, 1, 1, 1, 0, 1, 0, 0, 0, 1], .c [1, 1, 1, 1, 0, 1, 0, 0, 1], .l [1, 1, 1, 1, 0, 1, 0, 0], .b 0, .c [1, 1, 1, 1, 1]]
abbrev rmay_l1_st : Sta := ⟨[1, 2, 7, 8], ⟨[shI, .own 0 0, .ols 1, shI], [.segs [shL, shI, shQ, shQ, shL], .lst (.int .i64)]⟩⟩
abbrev rmay_l1_h (rec : Int → Int → Li → Int → Ll → Ll → Li → Li → Option Li) : Leaf Li := ⟨rmay_l1_at, rmay_l1_st, fun p => rec p.1.1 p.1.2.2.2.1 p.2.1.1 p.2.1.2.1 p.2.1.2.2.1 p.2.1.2.2.2.1 p.2.1.2.2.2.2.1 p.2.2.1⟩
abbrev rmay_l1_e0 : Leaf Li := ⟨[.c [1, 1, 1, 1, 1, 0], .c [1, 1, 1, 1, 1, 1]], ⟨[7], ⟨[.ols 0], [.lst (.int .i64)]⟩⟩, fun p => some (p.2.1)⟩
abbrev rmay_j1_at : List PI := [.c [1, 1, 1, 1, 0, 1, 0, 0, 1, 1], .l [1, 1, 1, 1, 0, 1, 0, 0], .b 0, .c [1, 1, 1, 1, 1]]
abbrev rmay_j1_st : Sta := ⟨[1, 2, 7, 8], ⟨[shI, .own 0 0, .ols 1, shI], [.segs [shL, shI, shQ, shQ, shL], .lst (.int .i64)]⟩⟩
abbrev rmay_j1_k (N : Nat) (rec : Int → Int → Li → Int → Ll → Ll → Li → Li → Option Li) : Leaf Li := ⟨rmay_j1_at, rmay_j1_st, fun p => rmay_j1 N rec p.1.1 p.1.2.2.2.1 p.2.1.1 p.2.1.2.1 p.2.1.2.2.1 p.2.1.2.2.2.1 p.2.1.2.2.2.2.1 p.2.2.1⟩
theorem rmay_j1_eq (N : Nat) (rec : Int → Int → Li → Int → Ll → Ll → Li → Li → Option Li) (lost : Int) (k : Int) (d : Li) (d2 : Int) (d3 : Ll) (d4 : Ll) (d5 : Li) (out : Li) : ev (Z := Li) Try.prog (rmay_sp N) rmay_B [] [rmay_l1_h rec, rmay_l1_e0] none 400 true rmay_j1_at (stL rmay_j1_st ((lost, (), (), k, ()), ((d, d2, d3, d4, d5, ()), out, ()))) (stH rmay_j1_st ((lost, (), (), k, ()), ((d, d2, d3, d4, d5, ()), out, ()))) = rmay_j1 N rec lost k d d2 d3 d4 d5 out := by kernel_rfl
theorem rmay_j1_lf (N : Nat) (rec : Int → Int → Li → Int → Ll → Ll → Li → Li → Option Li) {z : Li} {top : Bool} {E : EE} {Xc : Ctx} (hE : EOK rmay_B.m0 E) (hX : CxOK top Xc) (hrec : LeafOK Try.prog rmay_B.c rmay_B.n rmay_B.m0 E Xc z (rmay_l1_h rec)) (h0 : LeafOK Try.prog rmay_B.c rmay_B.n rmay_B.m0 E Xc z rmay_l1_e0) : LeafOK Try.prog rmay_B.c rmay_B.n rmay_B.m0 E Xc z (rmay_j1_k N rec) := leaf_of_ev (B := rmay_B) (loops := []) (leaves := [rmay_l1_h rec, rmay_l1_e0]) (rmay_all N) mixed trivial hE hX ⟨hrec, h0, trivial⟩ RetOK.no (fun p => rmay_j1_eq N rec p.1.1 p.1.2.2.2.1 p.2.1.1 p.2.1.2.1 p.2.1.2.2.1 p.2.1.2.2.2.1 p.2.1.2.2.2.2.1 p.2.2.1)
noncomputable def rmay_l1_L (N : Nat) : LoopS := { at_ := rmay_l1_at, sta := rmay_l1_st, exits := [([.c [1, 1, 1, 1, 1, 0], .c [1, 1, 1, 1, 1, 1]], ⟨[7], ⟨[.ols 0], [.lst (.int .i64)]⟩⟩)], run := fun p k => (rmay_l1 N N p.1.1 p.1.2.2.2.1 p.2.1.1 p.2.1.2.1 p.2.1.2.2.1 p.2.1.2.2.2.1 p.2.1.2.2.2.2.1 p.2.2.1).bind fun e => k (.inl (((), ()), (e, ()))) }
theorem rmay_l1_eq (N n_ : Nat) (lost : Int) (k : Int) (d : Li) (d2 : Int) (d3 : Ll) (d4 : Ll) (d5 : Li) (out : Li) : ev (Z := Li) Try.prog (rmay_sp N) rmay_B [] [rmay_l1_h (rmay_l1 N n_), rmay_l1_e0, rmay_j1_k N (rmay_l1 N n_)] none 400 true rmay_l1_at (stL rmay_l1_st ((lost, (), (), k, ()), ((d, d2, d3, d4, d5, ()), out, ()))) (stH rmay_l1_st ((lost, (), (), k, ()), ((d, d2, d3, d4, d5, ()), out, ()))) = rmay_l1 N (n_ + 1) lost k d d2 d3 d4 d5 out := by kernel_rfl
theorem rmay_l1_ok (N : Nat) {top : Bool} : LoopOK Try.prog rmay_B.c rmay_B.n rmay_B.m0 top (rmay_l1_L N) := loop_of_ev (Z := Li) (N := N) (fun m p => rmay_l1 N m p.1.1 p.1.2.2.2.1 p.2.1.1 p.2.1.2.1 p.2.1.2.2.1 p.2.1.2.2.2.1 p.2.1.2.2.2.2.1 p.2.2.1) (fun e => .inl (((), ()), (e, ()))) (fun _ _ _ => rfl) (fun _ => rfl) (fun m z E Xc hE hX hrec hx => leaf_of_ev (B := rmay_B) (loops := []) (leaves := [rmay_l1_h (rmay_l1 N m), rmay_l1_e0, rmay_j1_k N (rmay_l1 N m)]) (rmay_all N) mixed trivial hE hX ⟨hrec, (fun p hp => by obtain rfl := Option.some.inj hp; exact hx), rmay_j1_lf N _ hE hX hrec (fun p hp => by obtain rfl := Option.some.inj hp; exact hx), trivial⟩ RetOK.no (fun p => rmay_l1_eq N m p.1.1 p.1.2.2.2.1 p.2.1.1 p.2.1.2.1 p.2.1.2.2.1 p.2.1.2.2.2.1 p.2.1.2.2.2.2.1 p.2.2.1))
abbrev rmay_st : Sta := ⟨[0, 1], ⟨[shG, shI], []⟩⟩
theorem rmay_eq (N : Nat) (d : Li) (d2 : Int) (d3 : Ll) (d4 : Ll) (d5 : Li) (lost : Int) : ev (Z := Li × Int) Try.prog (rmay_sp N) rmay_B [rmay_l1_L N] [] (some rmay_rt) 400 false [.c [0], .c [1]] (stL rmay_st (((d, d2, d3, d4, d5, ()), lost, ()), ())) (stH rmay_st (((d, d2, d3, d4, d5, ()), lost, ()), ())) = rmay_S N d d2 d3 d4 d5 lost := by kernel_rfl
noncomputable def sp_rmay (N : Nat) : Spec := { f := 65, ins := ⟨[shG, shI], []⟩, outs := [⟨[shL, shI], []⟩], run := fun p k => (rmay_S N p.1.1.1 p.1.1.2.1 p.1.1.2.2.1 p.1.1.2.2.2.1 p.1.1.2.2.2.2.1 p.1.2.1).bind fun r => k ((r.1, r.2, ()), ()) }
theorem sp_rmay_ok (N : Nat) : SpecOK Try.prog (sp_rmay N) := fn_sound (B := rmay_B) (loops := [rmay_l1_L N]) (leaves := []) (fun p => rmay_S N p.1.1.1 p.1.1.2.1 p.1.1.2.2.1 p.1.1.2.2.2.1 p.1.1.2.2.2.2.1 p.1.2.1) (fun r => ((r.1, r.2, ()), ())) rmay_rt (fun _ _ _ => rfl) (fun r z h => by cases h; rfl) Try.func65 (by kernel_rfl) (by kernel_rfl) (by kernel_rfl) rfl rfl (by kernel_rfl) (fun args w => Sem.pv_run _ _ _ (by kernel_rfl) w) (rmay_all N) mixed ⟨rmay_l1_ok N, trivial⟩ (fun z E Xc hE hX hret => trivial) (fun p => rmay_eq N p.1.1.1 p.1.1.2.1 p.1.1.2.2.1 p.1.1.2.2.2.1 p.1.1.2.2.2.2.1 p.1.2.1)

def rclaims1_j1 (N : Nat) (rec : Int → Int → Int → Bool → Int → Li → Int → Ll → Ll → Li → Li → Option (Int × Int × Bool × Li × Int × Ll × Ll × Li × Li)) (found : Int) (i : Int) (n : Int) (is : Bool) (k : Int) (d : Li) (d2 : Int) (d3 : Ll) (d4 : Ll) (d5 : Li) (out : Li) : Option (Int × Int × Bool × Li × Int × Ll × Ll × Li × Li) :=
  chk (k + 1) <|
  rec found i n is (k + 1) d d2 d3 d4 d5 out
def rclaims1_l2 (N : Nat) : Nat → Int → Int → Int → Bool → Int → Li → Int → Ll → Ll → Li → Li → Option (Int × Int × Bool × Li × Int × Ll × Ll × Li × Li)
  | 0, _, _, _, _, _, _, _, _, _, _, _ => none
  | n_ + 1, found, i, n, is, k, d, d2, d3, d4, d5, out =>
    br (decide (k < (d4.length : Int)))
      ((rpair_S N d d2 d3 d4 d5 i k).bind fun (x_4, y_5, y_6) =>
      br y_6
        (br (decide (n < x_4))
          (rclaims1_j1 N (rclaims1_l2 N n_) found i n false k d d2 d3 d4 d5 out)
          (rclaims1_j1 N (rclaims1_l2 N n_) found i n is k d d2 d3 d4 d5 out))
        (rclaims1_j1 N (rclaims1_l2 N n_) found i n is k d d2 d3 d4 d5 out))
      (some ((found, i, is, d, d2, d3, d4, d5, out)))
def rclaims1_j2 (N : Nat) (rec : Int → Int → Li → Int → Ll → Ll → Li → Li → Option Li) (found : Int) (i : Int) (d : Li) (d2 : Int) (d3 : Ll) (d4 : Ll) (d5 : Li) (out : Li) : Option Li :=
  chk (i + 1) <|
  rec found (i + 1) d d2 d3 d4 d5 out
def rclaims1_l1 (N : Nat) : Nat → Int → Int → Li → Int → Ll → Ll → Li → Li → Option Li
  | 0, _, _, _, _, _, _, _, _ => none
  | n_ + 1, found, i, d, d2, d3, d4, d5, out =>
    br (decide (i < (d3.length : Int)))
      ((rpair_S N d d2 d3 d4 d5 i found).bind fun (x_1, y_2, y_3) =>
      (rclaims1_l2 N N found i x_1 y_3 0 d d2 d3 d4 d5 out).bind fun (found_7, i_8, is_9, d_10, d2_11, d3_12, d4_13, d5_14, out_15) =>
      br is_9
        (lim (out_15.length + [i_8].length) <|
        rclaims1_j2 N (rclaims1_l1 N n_) found_7 i_8 d_10 d2_11 d3_12 d4_13 d5_14 (out_15 ++ [i_8]))
        (rclaims1_j2 N (rclaims1_l1 N n_) found_7 i_8 d_10 d2_11 d3_12 d4_13 d5_14 out_15))
      (some (out))
def rclaims1_S (N : Nat) (d : Li) (d2 : Int) (d3 : Ll) (d4 : Ll) (d5 : Li) (found : Int) : Option Li :=
  (rclaims1_l1 N N found 0 d d2 d3 d4 d5 []).bind fun out_16 =>
  some out_16
noncomputable def rclaims1_sp (N : Nat) : List Spec := [sp_rpair N]
theorem rclaims1_all (N : Nat) : AllP (SpecOK Try.prog) (rclaims1_sp N) := ⟨sp_rpair_ok N, trivial⟩
noncomputable def rclaims1_c : Code := (Try.f112.body).getD .skip
noncomputable abbrev rclaims1_B : Body := { c := rclaims1_c, n := 56, res := [.tmp 4], outs := [⟨[shL], []⟩], m0 := 0 }
abbrev rclaims1_rt : altD rclaims1_B.outs → Option Li := fun r => some r.1.1
abbrev rclaims1_l2_at : List PI := [.c [1, 1, 0, 1, 0, 0, 1, 0, 0, 1, 0, 1, 0, 0, 0, 0], .c [1, 1, 0, 1, 0, 0, 1, 0, 0, 1, 0, 1, 0, 0, 0, 1], .c [1, 1, 0, 1, 0, 0, 1, 0, 0, 1, 0, 1, 0, 0, 1], .l [1, 1, 0, 1, 0, 0, 1, 0, 0, 1, 0, 1, 0, 0], .b 2, .c [1, 1, 0, 1, 0, 0, 1, 0, 0, 1, 1], .b 1, .c [1, 1, 0, 1, 0, 0, 1, 1], .l [1, 1, 0, 1, 0, 0], .b 0, .c [1, 1, 1]]
abbrev rclaims1_l2_st : Sta := ⟨[1, 2, 5, 6, 7, 9, 10], ⟨[shI, .own 0 0, .ols 1, shI, shI, .b, shI], [.segs [shL, shI, shQ, shQ, shL], .lst (.int .i64)]⟩⟩
abbrev rclaims1_l2_h (rec : Int → Int → Int → Bool → Int → Li → Int → Ll → Ll → Li → Li → Option (Int × Int × Bool × Li × Int × Ll × Ll × Li × Li)) : Leaf (Int × Int × Bool × Li × Int × Ll × Ll × Li × Li) := ⟨rclaims1_l2_at, rclaims1_l2_st, fun p => rec p.1.1 p.1.2.2.2.1 p.1.2.2.2.2.1 p.1.2.2.2.2.2.1 p.1.2.2.2.2.2.2.1 p.2.1.1 p.2.1.2.1 p.2.1.2.2.1 p.2.1.2.2.2.1 p.2.1.2.2.2.2.1 p.2.2.1⟩
abbrev rclaims1_l2_e0 : Leaf (Int × Int × Bool × Li × Int × Ll × Ll × Li × Li) := ⟨[.c [1, 1, 0, 1, 0, 0, 1, 0, 0, 1, 1, 0], .c [1, 1, 0, 1, 0, 0, 1, 0, 0, 1, 1, 1], .b 1, .c [1, 1, 0, 1, 0, 0, 1, 1], .l [1, 1, 0, 1, 0, 0], .b 0, .c [1, 1, 1]], ⟨[1, 2, 5, 6, 9], ⟨[shI, .own 0 0, .ols 1, shI, .b], [.segs [shL, shI, shQ, shQ, shL], .lst (.int .i64)]⟩⟩, fun p => some ((p.1.1, p.1.2.2.2.1, p.1.2.2.2.2.1, p.2.1.1, p.2.1.2.1, p.2.1.2.2.1, p.2.1.2.2.2.1, p.2.1.2.2.2.2.1, p.2.2.1))⟩
abbrev rclaims1_j1_at : List PI := [.c [1, 1, 0, 1, 0, 0, 1, 0, 0, 1, 0, 1, 0, 0, 1, 1], .l [1, 1, 0, 1, 0, 0, 1, 0, 0, 1, 0, 1, 0, 0], .b 2, .c [1, 1, 0, 1, 0, 0, 1, 0, 0, 1, 1], .b 1, .c [1, 1, 0, 1, 0, 0, 1, 1], .l [1, 1, 0, 1, 0, 0], .b 0, .c [1, 1, 1]]
abbrev rclaims1_j1_st : Sta := ⟨[1, 2, 5, 6, 7, 9, 10], ⟨[shI, .own 0 0, .ols 1, shI, shI, .b, shI], [.segs [shL, shI, shQ, shQ, shL], .lst (.int .i64)]⟩⟩
abbrev rclaims1_j1_k (N : Nat) (rec : Int → Int → Int → Bool → Int → Li → Int → Ll → Ll → Li → Li → Option (Int × Int × Bool × Li × Int × Ll × Ll × Li × Li)) : Leaf (Int × Int × Bool × Li × Int × Ll × Ll × Li × Li) := ⟨rclaims1_j1_at, rclaims1_j1_st, fun p => rclaims1_j1 N rec p.1.1 p.1.2.2.2.1 p.1.2.2.2.2.1 p.1.2.2.2.2.2.1 p.1.2.2.2.2.2.2.1 p.2.1.1 p.2.1.2.1 p.2.1.2.2.1 p.2.1.2.2.2.1 p.2.1.2.2.2.2.1 p.2.2.1⟩
theorem rclaims1_j1_eq (N : Nat) (rec : Int → Int → Int → Bool → Int → Li → Int → Ll → Ll → Li → Li → Option (Int × Int × Bool × Li × Int × Ll × Ll × Li × Li)) (found : Int) (i : Int) (n : Int) (is : Bool) (k : Int) (d : Li) (d2 : Int) (d3 : Ll) (d4 : Ll) (d5 : Li) (out : Li) : ev (Z := Int × Int × Bool × Li × Int × Ll × Ll × Li × Li) Try.prog (rclaims1_sp N) rclaims1_B [] [rclaims1_l2_h rec, rclaims1_l2_e0] none 400 true rclaims1_j1_at (stL rclaims1_j1_st ((found, (), (), i, n, is, k, ()), ((d, d2, d3, d4, d5, ()), out, ()))) (stH rclaims1_j1_st ((found, (), (), i, n, is, k, ()), ((d, d2, d3, d4, d5, ()), out, ()))) = rclaims1_j1 N rec found i n is k d d2 d3 d4 d5 out := by kernel_rfl
theorem rclaims1_j1_lf (N : Nat) (rec : Int → Int → Int → Bool → Int → Li → Int → Ll → Ll → Li → Li → Option (Int × Int × Bool × Li × Int × Ll × Ll × Li × Li)) {z : Int × Int × Bool × Li × Int × Ll × Ll × Li × Li} {top : Bool} {E : EE} {Xc : Ctx} (hE : EOK rclaims1_B.m0 E) (hX : CxOK top Xc) (hrec : LeafOK Try.prog rclaims1_B.c rclaims1_B.n rclaims1_B.m0 E Xc z (rclaims1_l2_h rec)) (h0 : LeafOK Try.prog rclaims1_B.c rclaims1_B.n rclaims1_B.m0 E Xc z rclaims1_l2_e0) : LeafOK Try.prog rclaims1_B.c rclaims1_B.n rclaims1_B.m0 E Xc z (rclaims1_j1_k N rec) := leaf_of_ev (B := rclaims1_B) (loops := []) (leaves := [rclaims1_l2_h rec, rclaims1_l2_e0]) (rclaims1_all N) mixed trivial hE hX ⟨hrec, h0, trivial⟩ RetOK.no (fun p => rclaims1_j1_eq N rec p.1.1 p.1.2.2.2.1 p.1.2.2.2.2.1 p.1.2.2.2.2.2.1 p.1.2.2.2.2.2.2.1 p.2.1.1 p.2.1.2.1 p.2.1.2.2.1 p.2.1.2.2.2.1 p.2.1.2.2.2.2.1 p.2.2.1)
noncomputable def rclaims1_l2_L (N : Nat) : LoopS := { at_ := rclaims1_l2_at, sta := rclaims1_l2_st, exits := [([.c [1, 1, 0, 1, 0, 0, 1, 0, 0, 1, 1, 0], .c [1, 1, 0, 1, 0, 0, 1, 0, 0, 1, 1, 1], .b 1, .c [1, 1, 0, 1, 0, 0, 1, 1], .l [1, 1, 0, 1, 0, 0], .b 0, .c [1, 1, 1]], ⟨[1, 2, 5, 6, 9], ⟨[shI, .own 0 0, .ols 1, shI, .b], [.segs [shL, shI, shQ, shQ, shL], .lst (.int .i64)]⟩⟩)], run := fun p k => (rclaims1_l2 N N p.1.1 p.1.2.2.2.1 p.1.2.2.2.2.1 p.1.2.2.2.2.2.1 p.1.2.2.2.2.2.2.1 p.2.1.1 p.2.1.2.1 p.2.1.2.2.1 p.2.1.2.2.2.1 p.2.1.2.2.2.2.1 p.2.2.1).bind fun e => k (.inl ((e.1, (), (), e.2.1, e.2.2.1, ()), ((e.2.2.2.1, e.2.2.2.2.1, e.2.2.2.2.2.1, e.2.2.2.2.2.2.1, e.2.2.2.2.2.2.2.1, ()), e.2.2.2.2.2.2.2.2, ()))) }
theorem rclaims1_l2_eq (N n_ : Nat) (found : Int) (i : Int) (n : Int) (is : Bool) (k : Int) (d : Li) (d2 : Int) (d3 : Ll) (d4 : Ll) (d5 : Li) (out : Li) : ev (Z := Int × Int × Bool × Li × Int × Ll × Ll × Li × Li) Try.prog (rclaims1_sp N) rclaims1_B [] [rclaims1_l2_h (rclaims1_l2 N n_), rclaims1_l2_e0, rclaims1_j1_k N (rclaims1_l2 N n_)] none 400 true rclaims1_l2_at (stL rclaims1_l2_st ((found, (), (), i, n, is, k, ()), ((d, d2, d3, d4, d5, ()), out, ()))) (stH rclaims1_l2_st ((found, (), (), i, n, is, k, ()), ((d, d2, d3, d4, d5, ()), out, ()))) = rclaims1_l2 N (n_ + 1) found i n is k d d2 d3 d4 d5 out := by kernel_rfl
theorem rclaims1_l2_ok (N : Nat) {top : Bool} : LoopOK Try.prog rclaims1_B.c rclaims1_B.n rclaims1_B.m0 top (rclaims1_l2_L N) := loop_of_ev (Z := Int × Int × Bool × Li × Int × Ll × Ll × Li × Li) (N := N) (fun m p => rclaims1_l2 N m p.1.1 p.1.2.2.2.1 p.1.2.2.2.2.1 p.1.2.2.2.2.2.1 p.1.2.2.2.2.2.2.1 p.2.1.1 p.2.1.2.1 p.2.1.2.2.1 p.2.1.2.2.2.1 p.2.1.2.2.2.2.1 p.2.2.1) (fun e => .inl ((e.1, (), (), e.2.1, e.2.2.1, ()), ((e.2.2.2.1, e.2.2.2.2.1, e.2.2.2.2.2.1, e.2.2.2.2.2.2.1, e.2.2.2.2.2.2.2.1, ()), e.2.2.2.2.2.2.2.2, ()))) (fun _ _ _ => rfl) (fun _ => rfl) (fun m z E Xc hE hX hrec hx => leaf_of_ev (B := rclaims1_B) (loops := []) (leaves := [rclaims1_l2_h (rclaims1_l2 N m), rclaims1_l2_e0, rclaims1_j1_k N (rclaims1_l2 N m)]) (rclaims1_all N) mixed trivial hE hX ⟨hrec, (fun p hp => by obtain rfl := Option.some.inj hp; exact hx), rclaims1_j1_lf N _ hE hX hrec (fun p hp => by obtain rfl := Option.some.inj hp; exact hx), trivial⟩ RetOK.no (fun p => rclaims1_l2_eq N m p.1.1 p.1.2.2.2.1 p.1.2.2.2.2.1 p.1.2.2.2.2.2.1 p.1.2.2.2.2.2.2.1 p.2.1.1 p.2.1.2.1 p.2.1.2.2.1 p.2.1.2.2.2.1 p.2.1.2.2.2.2.1 p.2.2.1))
abbrev rclaims1_l1_at : List PI := [.c [1, 1, 0, 1, 0, 0, 0, 0], .c [1, 1, 0, 1, 0, 0, 0, 1], .c [1, 1, 0, 1, 0, 0, 1], .l [1, 1, 0, 1, 0, 0], .b 0, .c [1, 1, 1]]
abbrev rclaims1_l1_st : Sta := ⟨[1, 2, 5, 6], ⟨[shI, .own 0 0, .ols 1, shI], [.segs [shL, shI, shQ, shQ, shL], .lst (.int .i64)]⟩⟩
abbrev rclaims1_l1_h (rec : Int → Int → Li → Int → Ll → Ll → Li → Li → Option Li) : Leaf Li := ⟨rclaims1_l1_at, rclaims1_l1_st, fun p => rec p.1.1 p.1.2.2.2.1 p.2.1.1 p.2.1.2.1 p.2.1.2.2.1 p.2.1.2.2.2.1 p.2.1.2.2.2.2.1 p.2.2.1⟩
abbrev rclaims1_l1_e0 : Leaf Li := ⟨[.c [1, 1, 1, 0], .c [1, 1, 1, 1]], ⟨[5], ⟨[.ols 0], [.lst (.int .i64)]⟩⟩, fun p => some (p.2.1)⟩
abbrev rclaims1_j2_at : List PI := [.c [1, 1, 0, 1, 0, 0, 1, 1], .l [1, 1, 0, 1, 0, 0], .b 0, .c [1, 1, 1]]
abbrev rclaims1_j2_st : Sta := ⟨[1, 2, 5, 6], ⟨[shI, .own 0 0, .ols 1, shI], [.segs [shL, shI, shQ, shQ, shL], .lst (.int .i64)]⟩⟩
abbrev rclaims1_j2_k (N : Nat) (rec : Int → Int → Li → Int → Ll → Ll → Li → Li → Option Li) : Leaf Li := ⟨rclaims1_j2_at, rclaims1_j2_st, fun p => rclaims1_j2 N rec p.1.1 p.1.2.2.2.1 p.2.1.1 p.2.1.2.1 p.2.1.2.2.1 p.2.1.2.2.2.1 p.2.1.2.2.2.2.1 p.2.2.1⟩
theorem rclaims1_j2_eq (N : Nat) (rec : Int → Int → Li → Int → Ll → Ll → Li → Li → Option Li) (found : Int) (i : Int) (d : Li) (d2 : Int) (d3 : Ll) (d4 : Ll) (d5 : Li) (out : Li) : ev (Z := Li) Try.prog (rclaims1_sp N) rclaims1_B [rclaims1_l2_L N] [rclaims1_l1_h rec, rclaims1_l1_e0] none 400 true rclaims1_j2_at (stL rclaims1_j2_st ((found, (), (), i, ()), ((d, d2, d3, d4, d5, ()), out, ()))) (stH rclaims1_j2_st ((found, (), (), i, ()), ((d, d2, d3, d4, d5, ()), out, ()))) = rclaims1_j2 N rec found i d d2 d3 d4 d5 out := by kernel_rfl
theorem rclaims1_j2_lf (N : Nat) (rec : Int → Int → Li → Int → Ll → Ll → Li → Li → Option Li) {z : Li} {top : Bool} {E : EE} {Xc : Ctx} (hE : EOK rclaims1_B.m0 E) (hX : CxOK top Xc) (hrec : LeafOK Try.prog rclaims1_B.c rclaims1_B.n rclaims1_B.m0 E Xc z (rclaims1_l1_h rec)) (h0 : LeafOK Try.prog rclaims1_B.c rclaims1_B.n rclaims1_B.m0 E Xc z rclaims1_l1_e0) : LeafOK Try.prog rclaims1_B.c rclaims1_B.n rclaims1_B.m0 E Xc z (rclaims1_j2_k N rec) := leaf_of_ev (B := rclaims1_B) (loops := [rclaims1_l2_L N]) (leaves := [rclaims1_l1_h rec, rclaims1_l1_e0]) (rclaims1_all N) mixed ⟨rclaims1_l2_ok N, trivial⟩ hE hX ⟨hrec, h0, trivial⟩ RetOK.no (fun p => rclaims1_j2_eq N rec p.1.1 p.1.2.2.2.1 p.2.1.1 p.2.1.2.1 p.2.1.2.2.1 p.2.1.2.2.2.1 p.2.1.2.2.2.2.1 p.2.2.1)
noncomputable def rclaims1_l1_L (N : Nat) : LoopS := { at_ := rclaims1_l1_at, sta := rclaims1_l1_st, exits := [([.c [1, 1, 1, 0], .c [1, 1, 1, 1]], ⟨[5], ⟨[.ols 0], [.lst (.int .i64)]⟩⟩)], run := fun p k => (rclaims1_l1 N N p.1.1 p.1.2.2.2.1 p.2.1.1 p.2.1.2.1 p.2.1.2.2.1 p.2.1.2.2.2.1 p.2.1.2.2.2.2.1 p.2.2.1).bind fun e => k (.inl (((), ()), (e, ()))) }
theorem rclaims1_l1_eq (N n_ : Nat) (found : Int) (i : Int) (d : Li) (d2 : Int) (d3 : Ll) (d4 : Ll) (d5 : Li) (out : Li) : ev (Z := Li) Try.prog (rclaims1_sp N) rclaims1_B [rclaims1_l2_L N] [rclaims1_l1_h (rclaims1_l1 N n_), rclaims1_l1_e0, rclaims1_j2_k N (rclaims1_l1 N n_)] none 400 true rclaims1_l1_at (stL rclaims1_l1_st ((found, (), (), i, ()), ((d, d2, d3, d4, d5, ()), out, ()))) (stH rclaims1_l1_st ((found, (), (), i, ()), ((d, d2, d3, d4, d5, ()), out, ()))) = rclaims1_l1 N (n_ + 1) found i d d2 d3 d4 d5 out := by kernel_rfl
theorem rclaims1_l1_ok (N : Nat) {top : Bool} : LoopOK Try.prog rclaims1_B.c rclaims1_B.n rclaims1_B.m0 top (rclaims1_l1_L N) := loop_of_ev (Z := Li) (N := N) (fun m p => rclaims1_l1 N m p.1.1 p.1.2.2.2.1 p.2.1.1 p.2.1.2.1 p.2.1.2.2.1 p.2.1.2.2.2.1 p.2.1.2.2.2.2.1 p.2.2.1) (fun e => .inl (((), ()), (e, ()))) (fun _ _ _ => rfl) (fun _ => rfl) (fun m z E Xc hE hX hrec hx => leaf_of_ev (B := rclaims1_B) (loops := [rclaims1_l2_L N]) (leaves := [rclaims1_l1_h (rclaims1_l1 N m), rclaims1_l1_e0, rclaims1_j2_k N (rclaims1_l1 N m)]) (rclaims1_all N) mixed ⟨rclaims1_l2_ok N, trivial⟩ hE hX ⟨hrec, (fun p hp => by obtain rfl := Option.some.inj hp; exact hx), rclaims1_j2_lf N _ hE hX hrec (fun p hp => by obtain rfl := Option.some.inj hp; exact hx), trivial⟩ RetOK.no (fun p => rclaims1_l1_eq N m p.1.1 p.1.2.2.2.1 p.2.1.1 p.2.1.2.1 p.2.1.2.2.1 p.2.1.2.2.2.1 p.2.1.2.2.2.2.1 p.2.2.1))
abbrev rclaims1_st : Sta := ⟨[0, 1], ⟨[shG, shI], []⟩⟩
theorem rclaims1_eq (N : Nat) (d : Li) (d2 : Int) (d3 : Ll) (d4 : Ll) (d5 : Li) (found : Int) : ev (Z := Li) Try.prog (rclaims1_sp N) rclaims1_B [rclaims1_l2_L N, rclaims1_l1_L N] [] (some rclaims1_rt) 400 false [.c [0], .c [1]] (stL rclaims1_st (((d, d2, d3, d4, d5, ()), found, ()), ())) (stH rclaims1_st (((d, d2, d3, d4, d5, ()), found, ()), ())) = rclaims1_S N d d2 d3 d4 d5 found := by kernel_rfl
noncomputable def sp_rclaims1 (N : Nat) : Spec := { f := 112, ins := ⟨[shG, shI], []⟩, outs := [⟨[shL], []⟩], run := fun p k => (rclaims1_S N p.1.1.1 p.1.1.2.1 p.1.1.2.2.1 p.1.1.2.2.2.1 p.1.1.2.2.2.2.1 p.1.2.1).bind fun r => k ((r, ()), ()) }
theorem sp_rclaims1_ok (N : Nat) : SpecOK Try.prog (sp_rclaims1 N) := fn_sound (B := rclaims1_B) (loops := [rclaims1_l2_L N, rclaims1_l1_L N]) (leaves := []) (fun p => rclaims1_S N p.1.1.1 p.1.1.2.1 p.1.1.2.2.1 p.1.1.2.2.2.1 p.1.1.2.2.2.2.1 p.1.2.1) (fun r => ((r, ()), ())) rclaims1_rt (fun _ _ _ => rfl) (fun r z h => by cases h; rfl) Try.func112 (by kernel_rfl) (by kernel_rfl) (by kernel_rfl) rfl rfl (by kernel_rfl) (fun args w => Sem.pv_run _ _ _ (by kernel_rfl) w) (rclaims1_all N) mixed ⟨rclaims1_l2_ok N, rclaims1_l1_ok N, trivial⟩ (fun z E Xc hE hX hret => trivial) (fun p => rclaims1_eq N p.1.1.1 p.1.1.2.1 p.1.1.2.2.1 p.1.1.2.2.2.1 p.1.1.2.2.2.2.1 p.1.2.1)

def rclaims_S (N : Nat) (d : Li) (d2 : Int) (d3 : Ll) (d4 : Ll) (d5 : Li) (found : Int) : Option (Li × Int) :=
  (rcheck_S N d d2 d3 d4 d5).bind fun x_1 =>
  br (!decide (x_1 = 0))
    (some ([], x_1))
    (chk ((d4.length : Int) - 1) <|
    (off_S N found 0 ((d4.length : Int) - 1)).bind fun x_2 =>
    br x_2
      (some ([], 1))
      ((rclaims1_S N d d2 d3 d4 d5 found).bind fun x_3 =>
      some (x_3, 0)))
noncomputable def rclaims_sp (N : Nat) : List Spec := [sp_off N, sp_rcheck N, sp_rclaims1 N]
theorem rclaims_all (N : Nat) : AllP (SpecOK Try.prog) (rclaims_sp N) := ⟨sp_off_ok N, sp_rcheck_ok N, sp_rclaims1_ok N, trivial⟩
noncomputable def rclaims_c : Code := (Try.f66.body).getD .skip
noncomputable abbrev rclaims_B : Body := { c := rclaims_c, n := 21, res := [.tmp 4, .tmp 5], outs := [⟨[shL, shI], []⟩], m0 := 0 }
abbrev rclaims_rt : altD rclaims_B.outs → Option (Li × Int) := fun r => some (r.1.1, r.1.2.1)
abbrev rclaims_st : Sta := ⟨[0, 1], ⟨[shG, shI], []⟩⟩
theorem rclaims_eq (N : Nat) (d : Li) (d2 : Int) (d3 : Ll) (d4 : Ll) (d5 : Li) (found : Int) : ev (Z := Li × Int) Try.prog (rclaims_sp N) rclaims_B [] [] (some rclaims_rt) 400 false [.c [0], .c [1]] (stL rclaims_st (((d, d2, d3, d4, d5, ()), found, ()), ())) (stH rclaims_st (((d, d2, d3, d4, d5, ()), found, ()), ())) = rclaims_S N d d2 d3 d4 d5 found := by kernel_rfl
noncomputable def sp_rclaims (N : Nat) : Spec := { f := 66, ins := ⟨[shG, shI], []⟩, outs := [⟨[shL, shI], []⟩], run := fun p k => (rclaims_S N p.1.1.1 p.1.1.2.1 p.1.1.2.2.1 p.1.1.2.2.2.1 p.1.1.2.2.2.2.1 p.1.2.1).bind fun r => k ((r.1, r.2, ()), ()) }
theorem sp_rclaims_ok (N : Nat) : SpecOK Try.prog (sp_rclaims N) := fn_sound (B := rclaims_B) (loops := []) (leaves := []) (fun p => rclaims_S N p.1.1.1 p.1.1.2.1 p.1.1.2.2.1 p.1.1.2.2.2.1 p.1.1.2.2.2.2.1 p.1.2.1) (fun r => ((r.1, r.2, ()), ())) rclaims_rt (fun _ _ _ => rfl) (fun r z h => by cases h; rfl) Try.func66 (by kernel_rfl) (by kernel_rfl) (by kernel_rfl) rfl rfl (by kernel_rfl) (fun args w => Sem.pv_run _ _ _ (by kernel_rfl) w) (rclaims_all N) mixed trivial (fun z E Xc hE hX hret => trivial) (fun p => rclaims_eq N p.1.1.1 p.1.1.2.1 p.1.1.2.2.1 p.1.1.2.2.2.1 p.1.1.2.2.2.2.1 p.1.2.1)

def rcontests_j1 (N : Nat) (rec : Int → Li → Int → Ll → Ll → Li → Li → Option Li) (k : Int) (d : Li) (d2 : Int) (d3 : Ll) (d4 : Ll) (d5 : Li) (out : Li) : Option Li :=
  chk (k + 1) <|
  rec (k + 1) d d2 d3 d4 d5 out
def rcontests_l1 (N : Nat) : Nat → Int → Li → Int → Ll → Ll → Li → Li → Option Li
  | 0, _, _, _, _, _, _, _ => none
  | n_ + 1, k, d, d2, d3, d4, d5, out =>
    br (decide (k < (d4.length : Int)))
      ((rclaims1_S N d d2 d3 d4 d5 k).bind fun x_2 =>
      br (decide (2 ≤ (x_2.length : Int)))
        (lim (out.length + [k].length) <|
        rcontests_j1 N (rcontests_l1 N n_) k d d2 d3 d4 d5 (out ++ [k]))
        (rcontests_j1 N (rcontests_l1 N n_) k d d2 d3 d4 d5 out))
      (some (out))
def rcontests_S (N : Nat) (d : Li) (d2 : Int) (d3 : Ll) (d4 : Ll) (d5 : Li) : Option (Li × Int) :=
  (rcheck_S N d d2 d3 d4 d5).bind fun x_1 =>
  br (!decide (x_1 = 0))
    (some ([], x_1))
    ((rcontests_l1 N N 0 d d2 d3 d4 d5 []).bind fun out_3 =>
    some (out_3, 0))
noncomputable def rcontests_sp (N : Nat) : List Spec := [sp_rcheck N, sp_rclaims1 N]
theorem rcontests_all (N : Nat) : AllP (SpecOK Try.prog) (rcontests_sp N) := ⟨sp_rcheck_ok N, sp_rclaims1_ok N, trivial⟩
noncomputable def rcontests_c : Code := (Try.f67.body).getD .skip
noncomputable abbrev rcontests_B : Body := { c := rcontests_c, n := 29, res := [.tmp 2, .tmp 3], outs := [⟨[shL, shI], []⟩], m0 := 0 }
abbrev rcontests_rt : altD rcontests_B.outs → Option (Li × Int) := fun r => some (r.1.1, r.1.2.1)
abbrev rcontests_l1_at : List PI := [.c [1, 1, 1, 0, 1, 0, 0, 0, 0], .c [1, 1, 1, 0, 1, 0, 0, 0, 1], .c [1, 1, 1, 0, 1, 0, 0, 1], .l [1, 1, 1, 0, 1, 0, 0], .b 0, .c [1, 1, 1, 1]]
abbrev rcontests_l1_st : Sta := ⟨[1, 5, 6], ⟨[.own 0 0, .ols 1, shI], [.segs [shL, shI, shQ, shQ, shL], .lst (.int .i64)]⟩⟩
abbrev rcontests_l1_h (rec : Int → Li → Int → Ll → Ll → Li → Li → Option Li) : Leaf Li := ⟨rcontests_l1_at, rcontests_l1_st, fun p => rec p.1.2.2.1 p.2.1.1 p.2.1.2.1 p.2.1.2.2.1 p.2.1.2.2.2.1 p.2.1.2.2.2.2.1 p.2.2.1⟩
abbrev rcontests_l1_e0 : Leaf Li := ⟨[.c [1, 1, 1, 1, 0], .c [1, 1, 1, 1, 1]], ⟨[5], ⟨[.ols 0], [.lst (.int .i64)]⟩⟩, fun p => some (p.2.1)⟩
abbrev rcontests_j1_at : List PI := [.c [1, 1, 1, 0, 1, 0, 0, 1, 1], .l [1, 1, 1, 0, 1, 0, 0], .b 0, .c [1, 1, 1, 1]]
abbrev rcontests_j1_st : Sta := ⟨[1, 5, 6], ⟨[.own 0 0, .ols 1, shI], [.segs [shL, shI, shQ, shQ, shL], .lst (.int .i64)]⟩⟩
abbrev rcontests_j1_k (N : Nat) (rec : Int → Li → Int → Ll → Ll → Li → Li → Option Li) : Leaf Li := ⟨rcontests_j1_at, rcontests_j1_st, fun p => rcontests_j1 N rec p.1.2.2.1 p.2.1.1 p.2.1.2.1 p.2.1.2.2.1 p.2.1.2.2.2.1 p.2.1.2.2.2.2.1 p.2.2.1⟩
theorem rcontests_j1_eq (N : Nat) (rec : Int → Li → Int → Ll → Ll → Li → Li → Option Li) (k : Int) (d : Li) (d2 : Int) (d3 : Ll) (d4 : Ll) (d5 : Li) (out : Li) : ev (Z := Li) Try.prog (rcontests_sp N) rcontests_B [] [rcontests_l1_h rec, rcontests_l1_e0] none 400 true rcontests_j1_at (stL rcontests_j1_st (((), (), k, ()), ((d, d2, d3, d4, d5, ()), out, ()))) (stH rcontests_j1_st (((), (), k, ()), ((d, d2, d3, d4, d5, ()), out, ()))) = rcontests_j1 N rec k d d2 d3 d4 d5 out := by kernel_rfl
theorem rcontests_j1_lf (N : Nat) (rec : Int → Li → Int → Ll → Ll → Li → Li → Option Li) {z : Li} {top : Bool} {E : EE} {Xc : Ctx} (hE : EOK rcontests_B.m0 E) (hX : CxOK top Xc) (hrec : LeafOK Try.prog rcontests_B.c rcontests_B.n rcontests_B.m0 E Xc z (rcontests_l1_h rec)) (h0 : LeafOK Try.prog rcontests_B.c rcontests_B.n rcontests_B.m0 E Xc z rcontests_l1_e0) : LeafOK Try.prog rcontests_B.c rcontests_B.n rcontests_B.m0 E Xc z (rcontests_j1_k N rec) := leaf_of_ev (B := rcontests_B) (loops := []) (leaves := [rcontests_l1_h rec, rcontests_l1_e0]) (rcontests_all N) mixed trivial hE hX ⟨hrec, h0, trivial⟩ RetOK.no (fun p => rcontests_j1_eq N rec p.1.2.2.1 p.2.1.1 p.2.1.2.1 p.2.1.2.2.1 p.2.1.2.2.2.1 p.2.1.2.2.2.2.1 p.2.2.1)
noncomputable def rcontests_l1_L (N : Nat) : LoopS := { at_ := rcontests_l1_at, sta := rcontests_l1_st, exits := [([.c [1, 1, 1, 1, 0], .c [1, 1, 1, 1, 1]], ⟨[5], ⟨[.ols 0], [.lst (.int .i64)]⟩⟩)], run := fun p k => (rcontests_l1 N N p.1.2.2.1 p.2.1.1 p.2.1.2.1 p.2.1.2.2.1 p.2.1.2.2.2.1 p.2.1.2.2.2.2.1 p.2.2.1).bind fun e => k (.inl (((), ()), (e, ()))) }
theorem rcontests_l1_eq (N n_ : Nat) (k : Int) (d : Li) (d2 : Int) (d3 : Ll) (d4 : Ll) (d5 : Li) (out : Li) : ev (Z := Li) Try.prog (rcontests_sp N) rcontests_B [] [rcontests_l1_h (rcontests_l1 N n_), rcontests_l1_e0, rcontests_j1_k N (rcontests_l1 N n_)] none 400 true rcontests_l1_at (stL rcontests_l1_st (((), (), k, ()), ((d, d2, d3, d4, d5, ()), out, ()))) (stH rcontests_l1_st (((), (), k, ()), ((d, d2, d3, d4, d5, ()), out, ()))) = rcontests_l1 N (n_ + 1) k d d2 d3 d4 d5 out := by kernel_rfl
theorem rcontests_l1_ok (N : Nat) {top : Bool} : LoopOK Try.prog rcontests_B.c rcontests_B.n rcontests_B.m0 top (rcontests_l1_L N) := loop_of_ev (Z := Li) (N := N) (fun m p => rcontests_l1 N m p.1.2.2.1 p.2.1.1 p.2.1.2.1 p.2.1.2.2.1 p.2.1.2.2.2.1 p.2.1.2.2.2.2.1 p.2.2.1) (fun e => .inl (((), ()), (e, ()))) (fun _ _ _ => rfl) (fun _ => rfl) (fun m z E Xc hE hX hrec hx => leaf_of_ev (B := rcontests_B) (loops := []) (leaves := [rcontests_l1_h (rcontests_l1 N m), rcontests_l1_e0, rcontests_j1_k N (rcontests_l1 N m)]) (rcontests_all N) mixed trivial hE hX ⟨hrec, (fun p hp => by obtain rfl := Option.some.inj hp; exact hx), rcontests_j1_lf N _ hE hX hrec (fun p hp => by obtain rfl := Option.some.inj hp; exact hx), trivial⟩ RetOK.no (fun p => rcontests_l1_eq N m p.1.2.2.1 p.2.1.1 p.2.1.2.1 p.2.1.2.2.1 p.2.1.2.2.2.1 p.2.1.2.2.2.2.1 p.2.2.1))
abbrev rcontests_st : Sta := ⟨[0], ⟨[shG], []⟩⟩
theorem rcontests_eq (N : Nat) (d : Li) (d2 : Int) (d3 : Ll) (d4 : Ll) (d5 : Li) : ev (Z := Li × Int) Try.prog (rcontests_sp N) rcontests_B [rcontests_l1_L N] [] (some rcontests_rt) 400 false [.c [0], .c [1]] (stL rcontests_st (((d, d2, d3, d4, d5, ()), ()), ())) (stH rcontests_st (((d, d2, d3, d4, d5, ()), ()), ())) = rcontests_S N d d2 d3 d4 d5 := by kernel_rfl
noncomputable def sp_rcontests (N : Nat) : Spec := { f := 67, ins := ⟨[shG], []⟩, outs := [⟨[shL, shI], []⟩], run := fun p k => (rcontests_S N p.1.1.1 p.1.1.2.1 p.1.1.2.2.1 p.1.1.2.2.2.1 p.1.1.2.2.2.2.1).bind fun r => k ((r.1, r.2, ()), ()) }
theorem sp_rcontests_ok (N : Nat) : SpecOK Try.prog (sp_rcontests N) := fn_sound (B := rcontests_B) (loops := [rcontests_l1_L N]) (leaves := []) (fun p => rcontests_S N p.1.1.1 p.1.1.2.1 p.1.1.2.2.1 p.1.1.2.2.2.1 p.1.1.2.2.2.2.1) (fun r => ((r.1, r.2, ()), ())) rcontests_rt (fun _ _ _ => rfl) (fun r z h => by cases h; rfl) Try.func67 (by kernel_rfl) (by kernel_rfl) (by kernel_rfl) rfl rfl (by kernel_rfl) (fun args w => Sem.pv_run _ _ _ (by kernel_rfl) w) (rcontests_all N) mixed ⟨rcontests_l1_ok N, trivial⟩ (fun z E Xc hE hX hret => trivial) (fun p => rcontests_eq N p.1.1.1 p.1.1.2.1 p.1.1.2.2.1 p.1.1.2.2.2.1 p.1.1.2.2.2.2.1)

end Go.Proofs.Ythncjilcflilcaa

namespace Go.Proofs.Ythncjilcflilcaa
set_option linter.all false
open Go

end Go.Proofs.Ythncjilcflilcaa

namespace Go.Proofs.Ythncjilcflilcaa
set_option linter.all false
open Go

set_option maxHeartbeats 400000 in
theorem may1_up (l bd od bc oc bl ol : Nat) (vd vd2 : Addr) (lost : Int) (m : Nat) (fs : Option Addr) (fc : Nat) (R : Nat → Bool) (S : List Nat) (J : List Nat → World → Prop) (Q : World → Prop) (w : World)
    (hbd : ∀ w', Upd (l :: S) w w' → Cl w' bd od [.pointer (some vd)]) (hbc : ∀ w', Upd (l :: S) w w' → Cl w' bc oc [(.func (.func 111) #[.pointer (some vd2)] #[])]) (hbl : ∀ w', Upd (l :: S) w w' → Cl w' bl ol [.int .i64 lost])
    (hfo : ∀ w', Upd (l :: S) w w' → w'.cell? (vd.add 3) = some (.slice fs m fc))
    (hcan : ∀ (k : Nat) w', k < m → Upd (l :: S) w w' → Fn Try.prog 111 #[.pointer (some vd2), .int .i64 lost, .int .i64 (↑k : Int)] w' (fun v w2 => Ext w' w2 ∧ v = .bool (R k)))
    (hm : m ≤ 1000000) (hJ : J (mayF R m 0) w) (hxJ : ∀ r, Stays w.heap.size (J r))
    (hy : ∀ k r w1, k ∈ mayF R m 0 → J (k :: r) w1 → Upd (l :: S) w w1 → Yield Try.prog l #[.int .i64 ↑k] w1 (fun v w2 => Upd (l :: S) w w2 ∧ ((v = .bool true ∧ J r w2) ∨ (v = .bool false ∧ Q w2)))) :
    Fn Try.prog 123 #[(.func (.yield l) #[] #[]), (.pointer (some ⟨bd, od, none⟩)), (.pointer (some ⟨bc, oc, none⟩)), (.pointer (some ⟨bl, ol, none⟩))] w (fun _ w' => Upd (l :: S) w w' ∧ (J [] w' ∨ Q w')) := by
  refine Fn.ofSt (c := c123) 26 K123_0 [(0, (.func (.yield l) #[] #[])), (1, (.pointer (some ⟨bd, od, none⟩))), (2, (.pointer (some ⟨bc, oc, none⟩))), (3, (.pointer (some ⟨bl, ol, none⟩)))] Try.func123 (by kernel_rfl) ⟨⟨rfl, by kernel_rfl⟩, by kernel_rfl⟩ (by kernel_rfl) ?_
  intro cs
  refine St.reg K123_1 [(0, true), (1, true), (2, true), (3, true), (4, true), (5, true), (6, true)] (by kernel_rfl) (by kernel_rfl) ?_
  refine RX.q 7 [(0, true, (.pointer (some vd))), (4, true, (.slice fs m fc))] [(0, (.func (.yield l) #[] #[])), (1, (.pointer (some ⟨bd, od, none⟩))), (2, (.pointer (some ⟨bc, oc, none⟩))), (3, (.pointer (some ⟨bl, ol, none⟩))), (11, (.int .i64 (↑m : Int))), (12, (.int .i64 0))] [.cell ⟨bd, od + 0, none⟩ (.pointer (some vd)), .cell (vd.add 3) (.slice fs m fc)] (by kernel_rfl) ⟨Cl.cell (hbd w (Upd.refl _ w)) rfl, hfo w (Upd.refl _ w)⟩ ?_
  refine RX.done [(0, (.func (.yield l) #[] #[])), (1, (.pointer (some ⟨bd, od, none⟩))), (2, (.pointer (some ⟨bc, oc, none⟩))), (3, (.pointer (some ⟨bl, ol, none⟩))), (11, (.int .i64 (↑m : Int))), (12, (.int .i64 0))] (by kernel_rfl) (by kernel_rfl) ?_
  have loop1 : ∀ (N : Nat) (k : Nat) (w2 : World), k ≤ m → (J (mayF R m k) w2) → (Upd (l :: S) w w2) → N = m - k → St Try.prog (fctx Try.prog 123 (fun _ w' => Upd (l :: S) w w' ∧ (J [] w' ∨ Q w')) cs) 26 K123_1 [(12, (.int .i64 (↑k : Int))), (11, (.int .i64 (↑m : Int))), (0, (.func (.yield l) #[] #[])), (1, (.pointer (some ⟨bd, od, none⟩))), (2, (.pointer (some ⟨bc, oc, none⟩))), (3, (.pointer (some ⟨bl, ol, none⟩)))] [] w2 := by
    intro N3
    induction N3 using Nat.strongRecOn with
    | ind N3 ih4 => ?_
    intro k w2 hk hJk hE hN5
    refine St.reg K123_2 [(0, true)] (by kernel_rfl) (by kernel_rfl) ?_
    refine RX.q 1 [] [(0, (.func (.yield l) #[] #[])), (1, (.pointer (some ⟨bd, od, none⟩))), (2, (.pointer (some ⟨bc, oc, none⟩))), (3, (.pointer (some ⟨bl, ol, none⟩))), (11, (.int .i64 (↑m : Int))), (12, (.int .i64 (↑k : Int))), (13, (.bool (decide ((↑k : Int) < (↑m : Int)))))] [] (by kernel_rfl) trivial ?_
    refine RX.done [(0, (.func (.yield l) #[] #[])), (1, (.pointer (some ⟨bd, od, none⟩))), (2, (.pointer (some ⟨bc, oc, none⟩))), (3, (.pointer (some ⟨bl, ol, none⟩))), (11, (.int .i64 (↑m : Int))), (12, (.int .i64 (↑k : Int))), (13, (.bool (decide ((↑k : Int) < (↑m : Int)))))] (by kernel_rfl) (by kernel_rfl) ?_
    refine St.cond (k1 := K123_3) (k2 := K123_4) (decide ((↑k : Int) < (↑m : Int))) (by kernel_rfl) (fun hc7 => ?_) (fun hc7 => ?_)
    · have hh8 : (↑k : Int) < (↑m : Int) := by simpa using hc7
      clear hc7
      refine St.weak (L' := [(12, (.int .i64 (↑k : Int))), (11, (.int .i64 (↑m : Int))), (0, (.func (.yield l) #[] #[])), (1, (.pointer (some ⟨bd, od, none⟩))), (2, (.pointer (some ⟨bc, oc, none⟩))), (3, (.pointer (some ⟨bl, ol, none⟩)))]) (by kernel_rfl) ?_
      refine St.reg K123_5 [(0, true), (1, true)] (by kernel_rfl) (by kernel_rfl) ?_
      refine RX.q 2 [] [(0, (.func (.yield l) #[] #[])), (1, (.pointer (some ⟨bd, od, none⟩))), (2, (.pointer (some ⟨bc, oc, none⟩))), (3, (.pointer (some ⟨bl, ol, none⟩))), (11, (.int .i64 (↑m : Int))), (12, (.int .i64 (↑k : Int))), (5, (.int .i64 (↑k : Int)))] [] (by kernel_rfl) trivial ?_
      refine RX.done [(0, (.func (.yield l) #[] #[])), (1, (.pointer (some ⟨bd, od, none⟩))), (2, (.pointer (some ⟨bc, oc, none⟩))), (3, (.pointer (some ⟨bl, ol, none⟩))), (11, (.int .i64 (↑m : Int))), (12, (.int .i64 (↑k : Int))), (5, (.int .i64 (↑k : Int)))] (by kernel_rfl) (by kernel_rfl) ?_
      refine St.reg K123_6 [(0, true), (1, true), (2, true), (3, false), (4, true), (5, true), (6, true), (7, false), (8, true), (9, true)] (by kernel_rfl) (by kernel_rfl) ?_
      refine RX.q 3 [(0, true, (.func (.func 111) #[.pointer (some vd2)] #[])), (1, true, (.int .i64 lost))] [(0, (.func (.yield l) #[] #[])), (1, (.pointer (some ⟨bd, od, none⟩))), (2, (.pointer (some ⟨bc, oc, none⟩))), (3, (.pointer (some ⟨bl, ol, none⟩))), (11, (.int .i64 (↑m : Int))), (12, (.int .i64 (↑k : Int))), (5, (.int .i64 (↑k : Int))), (15, (.func (.func 111) #[.pointer (some vd2)] #[])), (16, (.int .i64 lost)), (17, (.int .i64 (↑k : Int)))] [.cell ⟨bc, oc + 0, none⟩ (.func (.func 111) #[.pointer (some vd2)] #[]), .cell ⟨bl, ol + 0, none⟩ (.int .i64 lost)] (by kernel_rfl) ⟨Cl.cell (hbc w2 hE) rfl, Cl.cell (hbl w2 hE) rfl⟩ ?_
      refine RX.call 18 111 #[.pointer (some vd2), (.int .i64 lost), (.int .i64 (↑k : Int))] [(0, (.func (.yield l) #[] #[])), (1, (.pointer (some ⟨bd, od, none⟩))), (2, (.pointer (some ⟨bc, oc, none⟩))), (3, (.pointer (some ⟨bl, ol, none⟩))), (11, (.int .i64 (↑m : Int))), (12, (.int .i64 (↑k : Int))), (5, (.int .i64 (↑k : Int))), (15, (.func (.func 111) #[.pointer (some vd2)] #[])), (16, (.int .i64 lost)), (17, (.int .i64 (↑k : Int)))] (fun _ => by kernel_rfl) (by kernel_rfl) ?_
      refine Fn.mono (hcan k w2 (by omega) hE) ?_
      rintro _ w4 ⟨hx4, rfl⟩
      have hE4 : Upd (l :: S) w w4 := Upd.ext hE hx4
      have hJ4 : J (mayF R m k) w4 := Stays.ext (hxJ _) hJk hx4
      cases hR : R k with
      | true =>
        refine RX.q 3 [] [(0, (.func (.yield l) #[] #[])), (1, (.pointer (some ⟨bd, od, none⟩))), (2, (.pointer (some ⟨bc, oc, none⟩))), (3, (.pointer (some ⟨bl, ol, none⟩))), (11, (.int .i64 (↑m : Int))), (12, (.int .i64 (↑k : Int))), (19, (.bool true)), (20, (.func (.yield l) #[] #[])), (21, (.int .i64 (↑k : Int)))] [] (by kernel_rfl) trivial ?_
        rw [mayF_yes (by omega) hR] at hJ4
        refine RX.yield 22 l #[(.int .i64 (↑k : Int))] [(0, (.func (.yield l) #[] #[])), (1, (.pointer (some ⟨bd, od, none⟩))), (2, (.pointer (some ⟨bc, oc, none⟩))), (3, (.pointer (some ⟨bl, ol, none⟩))), (11, (.int .i64 (↑m : Int))), (12, (.int .i64 (↑k : Int))), (19, (.bool true)), (20, (.func (.yield l) #[] #[])), (21, (.int .i64 (↑k : Int)))] (by kernel_rfl) ?_
        refine Yield.mono (hy k _ w4 (mem_mayF.2 ⟨by omega, by omega, hR⟩) hJ4 hE4) ?_
        rintro _ w5 ⟨hu5, ⟨rfl, hv⟩ | ⟨rfl, hv⟩⟩
        · refine RX.q 2 [] [(0, (.func (.yield l) #[] #[])), (1, (.pointer (some ⟨bd, od, none⟩))), (2, (.pointer (some ⟨bc, oc, none⟩))), (3, (.pointer (some ⟨bl, ol, none⟩))), (11, (.int .i64 (↑m : Int))), (12, (.int .i64 (↑k : Int))), (24, (.bool false))] [] (by kernel_rfl) trivial ?_
          refine RX.done [(0, (.func (.yield l) #[] #[])), (1, (.pointer (some ⟨bd, od, none⟩))), (2, (.pointer (some ⟨bc, oc, none⟩))), (3, (.pointer (some ⟨bl, ol, none⟩))), (11, (.int .i64 (↑m : Int))), (12, (.int .i64 (↑k : Int))), (24, (.bool false))] (by kernel_rfl) (by kernel_rfl) ?_
          refine St.cond (k1 := K123_7) (k2 := K123_8) false (by kernel_rfl) (fun hc => ?_) (fun hc => ?_)
          · cases hc
          · clear hc
            refine St.weak (L' := [(12, (.int .i64 (↑k : Int))), (11, (.int .i64 (↑m : Int))), (0, (.func (.yield l) #[] #[])), (1, (.pointer (some ⟨bd, od, none⟩))), (2, (.pointer (some ⟨bc, oc, none⟩))), (3, (.pointer (some ⟨bl, ol, none⟩)))]) (by kernel_rfl) ?_
            refine St.reg K123_1 [(0, true), (1, true)] (by kernel_rfl) (by kernel_rfl) ?_
            refine RX.q 2 [(0, false, (.int .i64 ((↑k : Int) + 1)))] [(0, (.func (.yield l) #[] #[])), (1, (.pointer (some ⟨bd, od, none⟩))), (2, (.pointer (some ⟨bc, oc, none⟩))), (3, (.pointer (some ⟨bl, ol, none⟩))), (11, (.int .i64 (↑m : Int))), (12, (.int .i64 ((↑k : Int) + 1)))] [.eq (.int .i64 (IntKind.i64.wrap ((↑k : Int) + 1))) (.int .i64 ((↑k : Int) + 1))] (by kernel_rfl) (int64 (by omega)) ?_
            refine RX.done [(0, (.func (.yield l) #[] #[])), (1, (.pointer (some ⟨bd, od, none⟩))), (2, (.pointer (some ⟨bc, oc, none⟩))), (3, (.pointer (some ⟨bl, ol, none⟩))), (11, (.int .i64 (↑m : Int))), (12, (.int .i64 ((↑k : Int) + 1)))] (by kernel_rfl) (by kernel_rfl) ?_
            refine St.weak (by kernel_rfl) (ih4 _ ?_ (k + 1) w5 (by omega) hv hu5 rfl)
            omega
        · refine RX.q 2 [] [(0, (.func (.yield l) #[] #[])), (1, (.pointer (some ⟨bd, od, none⟩))), (2, (.pointer (some ⟨bc, oc, none⟩))), (3, (.pointer (some ⟨bl, ol, none⟩))), (11, (.int .i64 (↑m : Int))), (12, (.int .i64 (↑k : Int))), (24, (.bool true))] [] (by kernel_rfl) trivial ?_
          refine RX.done [(0, (.func (.yield l) #[] #[])), (1, (.pointer (some ⟨bd, od, none⟩))), (2, (.pointer (some ⟨bc, oc, none⟩))), (3, (.pointer (some ⟨bl, ol, none⟩))), (11, (.int .i64 (↑m : Int))), (12, (.int .i64 (↑k : Int))), (24, (.bool true))] (by kernel_rfl) (by kernel_rfl) ?_
          refine St.cond (k1 := K123_7) (k2 := K123_8) true (by kernel_rfl) (fun hc => ?_) (fun hc => ?_)
          · clear hc
            refine St.weak (L' := []) (by kernel_rfl) ?_
            refine St.ret [] [] (by kernel_rfl) Try.func123 (by kernel_rfl) .nil ?_
            exact ⟨hu5, .inr hv⟩
          · cases hc
      | false =>
        refine RX.q 3 [] [(0, (.func (.yield l) #[] #[])), (1, (.pointer (some ⟨bd, od, none⟩))), (2, (.pointer (some ⟨bc, oc, none⟩))), (3, (.pointer (some ⟨bl, ol, none⟩))), (11, (.int .i64 (↑m : Int))), (12, (.int .i64 (↑k : Int))), (19, (.bool false)), (20, undef), (21, undef)] [] (by kernel_rfl) trivial ?_
        refine RX.skip [(0, (.func (.yield l) #[] #[])), (1, (.pointer (some ⟨bd, od, none⟩))), (2, (.pointer (some ⟨bc, oc, none⟩))), (3, (.pointer (some ⟨bl, ol, none⟩))), (11, (.int .i64 (↑m : Int))), (12, (.int .i64 (↑k : Int))), (19, (.bool false)), (20, undef), (21, undef), (22, undef)] (by kernel_rfl) ?_
        refine RX.q 2 [] [(0, (.func (.yield l) #[] #[])), (1, (.pointer (some ⟨bd, od, none⟩))), (2, (.pointer (some ⟨bc, oc, none⟩))), (3, (.pointer (some ⟨bl, ol, none⟩))), (11, (.int .i64 (↑m : Int))), (12, (.int .i64 (↑k : Int))), (24, (.bool false))] [] (by kernel_rfl) trivial ?_
        refine RX.done [(0, (.func (.yield l) #[] #[])), (1, (.pointer (some ⟨bd, od, none⟩))), (2, (.pointer (some ⟨bc, oc, none⟩))), (3, (.pointer (some ⟨bl, ol, none⟩))), (11, (.int .i64 (↑m : Int))), (12, (.int .i64 (↑k : Int))), (24, (.bool false))] (by kernel_rfl) (by kernel_rfl) ?_
        refine St.cond (k1 := K123_7) (k2 := K123_8) false (by kernel_rfl) (fun hc => ?_) (fun hc => ?_)
        · cases hc
        · clear hc
          refine St.weak (L' := [(12, (.int .i64 (↑k : Int))), (11, (.int .i64 (↑m : Int))), (0, (.func (.yield l) #[] #[])), (1, (.pointer (some ⟨bd, od, none⟩))), (2, (.pointer (some ⟨bc, oc, none⟩))), (3, (.pointer (some ⟨bl, ol, none⟩)))]) (by kernel_rfl) ?_
          refine St.reg K123_1 [(0, true), (1, true)] (by kernel_rfl) (by kernel_rfl) ?_
          refine RX.q 2 [(0, false, (.int .i64 ((↑k : Int) + 1)))] [(0, (.func (.yield l) #[] #[])), (1, (.pointer (some ⟨bd, od, none⟩))), (2, (.pointer (some ⟨bc, oc, none⟩))), (3, (.pointer (some ⟨bl, ol, none⟩))), (11, (.int .i64 (↑m : Int))), (12, (.int .i64 ((↑k : Int) + 1)))] [.eq (.int .i64 (IntKind.i64.wrap ((↑k : Int) + 1))) (.int .i64 ((↑k : Int) + 1))] (by kernel_rfl) (int64 (by omega)) ?_
          refine RX.done [(0, (.func (.yield l) #[] #[])), (1, (.pointer (some ⟨bd, od, none⟩))), (2, (.pointer (some ⟨bc, oc, none⟩))), (3, (.pointer (some ⟨bl, ol, none⟩))), (11, (.int .i64 (↑m : Int))), (12, (.int .i64 ((↑k : Int) + 1)))] (by kernel_rfl) (by kernel_rfl) ?_
          refine St.weak (by kernel_rfl) (ih4 _ ?_ (k + 1) w4 (by omega) (by rw [← mayF_no (by omega) hR]; exact hJ4) hE4 rfl)
          omega
    · have hh52 : (↑m : Int) ≤ (↑k : Int) := by simpa using hc7
      clear hc7
      refine St.weak (L' := []) (by kernel_rfl) ?_
      refine St.ret [] [] (by kernel_rfl) Try.func123 (by kernel_rfl) .nil ?_
      refine ⟨hE, .inl ?_⟩
      rw [← mayF_end (R := R) (m := m) (k := k) (by omega)]; exact hJk
  exact St.weak (by kernel_rfl) (loop1 _ 0 w (by omega) hJ (Upd.refl (l :: S) w) rfl)
/-- As the contract of may, but rounds may write what was new when the range began. -/
theorem is_may_up : ∀ (p : Shs.den is_may.cap) (es : List (Shs.den is_may.elem)), is_may.run p = some es → ∀ (g : Gh) (vs : List Value), RepVs g (encs id is_may.cap p) vs →
    ∀ (l : Nat) (S : List Nat) (J : List (Shs.den is_may.elem) → World → Prop) (Q : World → Prop) (w : World), (∀ b o, g.M b = some o → b ∉ l :: S ∧ w.heap[b]? = some o) → (∀ k ∈ l :: S, k < w.heap.size) → J es w → (∀ r, Stays w.heap.size (J r)) → Stays w.heap.size Q →
      (∀ m r w1 us, J (m :: r) w1 → Upd (l :: S) w w1 → RepVs g00 (encs id is_may.elem m) us → Yield Try.prog l us.toArray w1 (fun v w2 => Upd (l :: S) w w2 ∧ ((v = .bool true ∧ J r w2) ∨ (v = .bool false ∧ Q w2)))) →
      Fn Try.prog 123 (#[.func (.yield l) #[] #[]] ++ vs.toArray) w (fun _ w' => Upd (l :: S) w w' ∧ (J [] w' ∨ Q w')) := by
  intro p es hes g vs hvs l S J Q w hM hS hJ hxJ hxQ hy
  obtain ⟨⟨d, ⟨⟩⟩, ⟨⟨⟨d', ⟨⟩⟩, ⟨⟩⟩, ⟨⟩⟩, lost, ⟨⟩⟩ := p
  simp only [mayR] at hes
  split at hes
  rotate_left
  · cases hes
  rename_i hc
  simp only [Option.some.injEq] at hes
  subst hes
  obtain ⟨⟨ha0, ha1⟩, hf, hA, hS'⟩ := hc
  obtain ⟨i, rfl⟩ : ∃ n : Nat, lost = n := ⟨lost.toNat, (Int.toNat_of_nonneg ha0).symm⟩
  simp only [Int.toNat_natCast] at hJ ⊢
  simp only [encs, enc, RepVs, RepV] at hvs
  obtain ⟨v1, r1, rfl, ⟨bd, od, wd, td, ud, rfl, hbd, hsd, hcd⟩, v2, r2, rfl, ⟨bc, oc, wc, tc, uc, rfl, hbc, hsc, hcc⟩, v3, r3, rfl, ⟨bl, ol, wl, tl, ul, rfl, hbl, hsl, hcl⟩, rfl⟩ := hvs
  obtain ⟨rfl, hin⟩ := hcl
  obtain ⟨x1, x2, rfl, ⟨x3, rfl, hx⟩, rfl⟩ := hcd
  simp only [RepV] at hx
  obtain ⟨bo, oo, wo, to, uo, rfl, hbo, hso, hco⟩ := hx
  obtain ⟨y1, y2, rfl, ⟨y3, rfl, hy'⟩, rfl⟩ := hcc
  simp only [RepV, RepVs] at hy'
  obtain ⟨va, vc, rfl, ⟨z1, z2, rfl, ⟨be, oe, we, te, ue, rfl, hbe, hse, hce⟩, rfl⟩, rfl⟩ := hy'
  simp only [RepPs, PartOf, RepV] at hco
  obtain ⟨p1, q1, rfl, ⟨e1, rfl, h1⟩, p2, q2, rfl, ⟨e2, rfl, h2⟩, p3, q3, rfl, ⟨e3, rfl, h3⟩, p4, q4, rfl, ⟨e4, rfl, h4⟩, hrest⟩ := hco
  obtain ⟨hl4, fa, fc, rfl, hfc, hf4⟩ := h4
  have hmem : ∀ w', Upd (l :: S) w w' → ∀ b o, g.M b = some o → w'.heap[b]? = some o := fun w' hu b o hb => hu.blk (hM b o hb).2 (hM b o hb).1
  have hrd : RepV ⟨fun _ => none, g.M⟩ (enc id shD d') (.pointer (some ⟨be, oe, none⟩)) := ⟨be, oe, we, te, ue, rfl, hbe, hse, hce⟩
  have hfn := may1_up l bd od bc oc bl ol ⟨bo, oo, none⟩ ⟨be, oe, none⟩ (i : Int) d.2.2.2.1.length fa fc (canD d' i) S (fun r => J (r.map fun (j : Nat) => ((j : Int), ()))) Q w
    (fun w' hu => Cl.of_seg (hmem w' hu _ _ hbd) hsd) (fun w' hu => Cl.of_seg (hmem w' hu _ _ hbc) hsc) (fun w' hu => Cl.of_seg (hmem w' hu _ _ hbl) hsl)
    (fun w' hu => Cl.cell (Cl.of_seg (hmem w' hu _ _ hbo) hso) (i := 3) rfl)
    (fun k w' h1 hu => Fn.mono (call_pure (sp_can_ok 200) rfl (p := ((d', ((i : Int), ((k : Int), ()))), ())) (r := ((canD d' i k, ()), ())) (by
        show ((can_S 200 d' i k).bind fun r => some ((r, ()), ())) = _
        rw [can_v hA hS' (by omega) (by omega)]; rfl) (hmem w' hu) ⟨_, _, rfl, hrd, _, _, rfl, ⟨rfl, (show inR .i64 (i : Int) from inR_small (by omega))⟩, _, _, rfl, ⟨rfl, (show inR .i64 (k : Int) from inR_small (by omega))⟩, rfl⟩) (fun v w2 ⟨h1, g', h2⟩ => ⟨h1, by
      simp only [altOf, encs, enc, resVal, RepV] at h2
      exact h2⟩))
    (by omega) hJ (fun r => hxJ _) (fun m r w1 hm hj hu => hy ((m : Int), ()) (r.map fun (j : Nat) => ((j : Int), ())) w1 [.int .i64 (m : Int)] hj hu ⟨_, _, rfl, ⟨rfl, inR_small (by have := (mem_mayF.1 hm).2.1; omega)⟩, rfl⟩)
  exact hfn
noncomputable def c128 : Code := (Try.f128.body).getD .skip
noncomputable def K128_0 : List Item := [.code (sub c128 [0]), .code (sub c128 [1])]
noncomputable def K128_1 : List Item := [.code (sub c128 [1, 0, 0]), .code (sub c128 [1, 0, 1]), .code (sub c128 [1, 1])]
noncomputable def K128_2 : List Item := [.code (sub c128 [1, 0, 1, 0]), .inBlock 0, .code (sub c128 [1, 1])]
noncomputable def K128_3 : List Item := [.code (sub c128 [1, 1, 0]), .code (sub c128 [1, 1, 1])]
noncomputable def K128_4 : List Item := [.code (sub c128 [1, 1, 1])]
noncomputable def K128_a : List Item := [.code (sub c128 [1, 0, 1, 0, 0]), .beginRound, .code (sub c128 [1, 0, 1, 0, 1])]
noncomputable def K128_b : List Item := [.beginRound, .code (sub c128 [1, 0, 1, 0, 1])]
noncomputable def K128_c : List Item := [.code (sub c128 [1, 0, 1, 0, 1, 0]), .inBlock 1]
/-- What has been appended, and what is still to come. -/
def AppJ (all : List Int) (bc D lo : Nat) (tm : Array Value) (w0 : World) (es : List Int) (w : World) : Prop :=
  ∃ (l : List Int) (v : Value) (ab : List Nat), all = l ++ es ∧ Blk w bc [v] 23 ∧ Acc 3 1 lo w v l.length (l.map (.int .i64)) ab ∧
    w.heap[D + 1]? = some (.loop (lrec 128 tm #[7] (sub c128 [1, 0, 1, 0, 0]) (sub c128 [1, 0, 1, 0, 1]) D .ready none))
set_option maxHeartbeats 1000000 in
theorem appseq_fn {p : Shs.den is_may.cap} {es : List (Int × Unit)} (hes : is_may.run p = some es) (hlen : es.length ≤ 1000000) (g : Gh) (vc : List Value) (hvc : RepVs g (encs id is_may.cap p) vc) (w : World) (hM : ∀ b o, g.M b = some o → w.heap[b]? = some o) :
    Fn Try.prog 128 #[.slice none 0 0, .func (.func 123) #[] vc.toArray] w (fun v w' => Ext w w' ∧ ∃ ab, Acc 3 1 w.heap.size w' v es.length ((es.map (·.1)).map (.int .i64)) ab) := by
  have hMb : ∀ b o, g.M b = some o → b < w.heap.size := fun b o h => lt_of_blk (hM b o h)
  obtain ⟨hue, hel, by_, zv, hT, hZ⟩ := elemT_of (P := Try.prog) (t := 23) (e := 3) (y := .int .i64) (by kernel_rfl)
  have hT : ElemT Try.prog 23 3 1 by_ zv := hT
  refine Fn.ofSt (c := c128) 13 K128_0 [(0, .slice none 0 0), (1, .func (.func 123) #[] vc.toArray)] Try.func128 (by kernel_rfl) ⟨⟨rfl, by kernel_rfl⟩, by kernel_rfl⟩ (by kernel_rfl) ?_
  intro cs
  refine St.reg K128_1 [(0, false), (1, true)] (by kernel_rfl) (by kernel_rfl) ?_
  refine RX.new 2 (.cells #[.slice none 0 0] 23) .ptr [(0, .slice none 0 0), (1, .func (.func 123) #[] vc.toArray)] (by kernel_rfl) ?_
  intro bc w1 hn1
  have hsz1 := hn1.size; have hat1 := hn1.at_
  have hb1 : Blk w1 bc [.slice none 0 0] 23 := hn1.blk
  refine RX.q 1 [] [(1, .func (.func 123) #[] vc.toArray), (2, .pointer (some ⟨bc, 0, none⟩))] [] (by kernel_rfl) trivial ?_
  refine RX.done [(1, .func (.func 123) #[] vc.toArray), (2, .pointer (some ⟨bc, 0, none⟩))] (by kernel_rfl) (by kernel_rfl) ?_
  refine St.reg K128_2 [(0, true)] (by kernel_rfl) (by kernel_rfl) ?_
  refine RX.q 1 [] [(6, .func (.func 123) #[] vc.toArray), (2, .pointer (some ⟨bc, 0, none⟩))] [] (by kernel_rfl) trivial ?_
  refine RX.done [(6, .func (.func 123) #[] vc.toArray), (2, .pointer (some ⟨bc, 0, none⟩))] (by kernel_rfl) (by kernel_rfl) ?_
  refine St.rangeFunc (g := .tmp 6) (ps := #[7]) (assign := (sub c128 [1, 0, 1, 0, 0])) (body := (sub c128 [1, 0, 1, 0, 1])) (k := K128_2.tail) 123 #[] vc.toArray rfl (by kernel_rfl) (by kernel_rfl) (fun _ => by kernel_rfl) ?_
  intro tm w2 htm hx2 hsz2 hD hL
  obtain ⟨D, hDe⟩ : ∃ D, D = w1.heap.size := ⟨_, rfl⟩
  rw [← hDe] at hsz2 hD hL ⊢
  have hl : w2.heap[D + 1]? = some (.loop (lrec 128 tm #[7] (sub c128 [1, 0, 1, 0, 0]) (sub c128 [1, 0, 1, 0, 1]) D .ready none)) := hL
  have hb2 : Blk w2 bc [.slice none 0 0] 23 := Ext.blk hx2 hb1
  have hE2 : Ext w w2 := hn1.ext.trans hx2
  have hsz := hE2.size
  have hfn := is_may_up p es hes g vc hvc (D + 1) [bc] (fun r wv => AppJ (es.map (·.1)) bc D w2.heap.size tm w2 (r.map (·.1)) wv) (fun _ => False) w2
    (fun b o h => ⟨fun hm => by have := hMb b o h; simp at hm; omega, Ext.blk hE2 (hM b o h)⟩) (fun k hk => by simp at hk; omega)
    ⟨[], .slice none 0 0, [], rfl, hb2, Acc.nil 3 1 _ _, hl⟩ ?_ (fun _ _ _ h _ _ => h) ?_
  rotate_left
  · -- blocks that the function that is ranged over may change
    rintro r wa wb T ⟨l, v, ab, e1, h1, h2, h3⟩ hu hT
    refine ⟨l, v, ab, e1, hu.blk h1 (fun hk => by have := (hT _ hk).1; omega), h2.upd hu (fun k hk hkT => ?_), hu.blk h3 (fun hk => by have := (hT _ hk).1; omega)⟩
    obtain ⟨h4, h5⟩ := h2
    rcases h5 with ⟨_, _, rfl⟩ | ⟨b, cap, rest, _, rfl, _, _, _, ty, hB⟩
    · cases hk
    · simp at hk
      subst hk
      exact (hT _ hkT).2 _ _ _ hB
  · -- a round
    rintro ⟨x, ⟨⟩⟩ r wa us ⟨l, v, ab, e1, h1, h2, h3⟩ hU hus
    simp only [encs, enc, RepVs, RepV] at hus
    obtain ⟨v1, us', rfl, ⟨rfl, hx⟩, rfl⟩ := hus
    have hszU := hU.size
    have habl := h2.lt
    refine Yield.one K128_a [(7, .int .i64 x), (6, .func (.func 123) #[] vc.toArray), (2, .pointer (some ⟨bc, 0, none⟩))] h3 htm (by kernel_rfl) (by kernel_rfl) (fun c cs => ?_)
    refine St.reg K128_b [(0, true)] (by kernel_rfl) (by kernel_rfl) ?_
    refine RX.q 1 [] [(5, .int .i64 x), (2, .pointer (some ⟨bc, 0, none⟩))] [] (by kernel_rfl) trivial ?_
    refine RX.done [(5, .int .i64 x), (2, .pointer (some ⟨bc, 0, none⟩))] (by kernel_rfl) (by kernel_rfl) ?_
    refine St.beginRound (k' := K128_c) h3 rfl (by kernel_rfl) ?_
    intro wb hp
    have hlb : wb.heap[D + 1]? = some (.loop (lrec 128 tm #[7] (sub c128 [1, 0, 1, 0, 0]) (sub c128 [1, 0, 1, 0, 1]) D .busy none)) := hp.blk
    have hszb := hp.size
    have hab : ∀ k ∈ ab, k ∉ [D + 1] := fun k hk hk2 => by
      have h4 := (habl k hk).1
      simp at hk2; omega
    have hB1 : Blk wb bc [v] 23 := hp.upd.blk h1 (by simp; omega)
    have hA1 := h2.upd hp.upd hab
    refine St.reg [] [(0, true), (1, true), (2, false), (3, false), (4, false)] (by kernel_rfl) (by kernel_rfl) ?_
    refine RX.q 2 [(0, true, v)] [(8, v), (9, .int .i64 x), (2, .pointer (some ⟨bc, 0, none⟩))] [.cell ⟨bc, 0, none⟩ v] (by kernel_rfl) (Blk.cell hB1 rfl) ?_
    refine RX.new 10 (.cells #[.int .i64 x] 3) (.sl 1) [(8, v), (9, .int .i64 x), (2, .pointer (some ⟨bc, 0, none⟩))] (by kernel_rfl) ?_
    intro bx wc hnc
    have hszc := hnc.size; have hatc := hnc.at_
    have hBx : Blk wc bx [.int .i64 x] 3 := hnc.blk
    have hA2 := hA1.ext hnc.ext
    have hall : l.length + 1 ≤ 1000000 := by
      have : (es.map (·.1)).length = l.length + (x :: r.map (·.1)).length := by rw [e1]; simp
      simp at this; omega
    obtain ⟨v', wd, ab', hr, hA3, hU3, hab', -⟩ := append_run (P := Try.prog) (u := 23) (ty := 23) (lo2 := 0) (x := .slice (some ⟨bx, 0, none⟩) 1 1) (m := 1) (xs := [.int .i64 x]) hT (by kernel_rfl) hA2
      ⟨_, 1, rfl, Nat.le_refl _, rfl, .inr ⟨bx, 0, rfl, Nat.zero_le _, lt_of_blk hBx, fun i u hi => by rw [addr_add, Nat.zero_add]; exact Blk.cell hBx hi⟩⟩ (fun c hc => by simp at hc; subst hc; rfl) (by omega) (by omega)
    obtain ⟨av, cv, rfl⟩ := hA3.shape
    refine RX.run 11 (Builtin.append_ #[23, 23] 23 #[v, .slice (some ⟨bx, 0, none⟩) 1 1]) [(10, .slice (some ⟨bx, 0, none⟩) 1 1), (8, v), (9, .int .i64 x), (2, .pointer (some ⟨bc, 0, none⟩))] (by kernel_rfl) hr ?_
    have habc : ∀ k ∈ ab, k ∉ [bc] := fun k hk hk2 => by
      have h4 := (habl k hk).1
      simp at hk2; omega
    have hB3 : Blk wd bc [v] 23 := hU3.blk (Ext.blk hnc.ext hB1) (fun hk => habc _ hk (by simp))
    have hlc : wd.heap[D + 1]? = some (.loop (lrec 128 tm #[7] (sub c128 [1, 0, 1, 0, 0]) (sub c128 [1, 0, 1, 0, 1]) D .busy none)) := hU3.blk (Ext.blk hnc.ext hlb) (fun hk => hab _ hk (by simp))
    have hszd := hU3.size
    refine RX.store1 bc 0 (.slice av (l.length + 1) cv) [v] 23 (by kernel_rfl) rfl hB3 (by simp) ?_
    intro we hpe
    have hsze := hpe.size
    refine RX.done [] (by kernel_rfl) (by kernel_rfl) ?_
    have hab3 : ∀ k ∈ ab', w2.heap.size ≤ k := fun k hk => hA3.lt k hk |>.1
    have hBe : Blk we bc [.slice av (l.length + 1) cv] 23 := hpe.blk
    have hAe := hA3.upd hpe.upd (fun k hk hk2 => by have := hab3 k hk; simp at hk2; omega)
    have hle : we.heap[D + 1]? = some (.loop (lrec 128 tm #[7] (sub c128 [1, 0, 1, 0, 0]) (sub c128 [1, 0, 1, 0, 1]) D .busy none)) := hpe.upd.blk hlc (by simp; omega)
    refine St.roundEnd hle ?_
    intro wf hpf
    have hUf : Upd [D + 1, bc] w2 wf := by
      have u1 : Upd [D + 1, bc] w2 wd := ((hU.trans (hp.upd.mono (fun k hk => by simp at hk; simp [hk]))).trans hnc.ext.up).trans_old hU3 (fun k hk => (habl k hk).1)
      exact (u1.trans (hpe.upd.mono (fun k hk => by simp at hk; simp [hk]))).trans (hpf.upd.mono (fun k hk => by simp at hk; simp [hk]))
    refine ⟨hUf, .inl ⟨rfl, l ++ [x], .slice av (l.length + 1) cv, ab', by rw [e1]; simp, hpf.upd.blk hBe (by simp; omega), ?_, hpf.blk⟩⟩
    have := hAe.upd hpf.upd (fun k hk hk2 => by have := hab3 k hk; simp at hk2; omega)
    simpa using this
  refine Fn.mono hfn ?_
  rintro _ w3 ⟨hU3, ⟨l, v, ab, e1, h1, h2, h3⟩ | h⟩
  rotate_left
  · exact h.elim
  simp only [List.map_nil, List.append_nil] at e1
  subst e1
  refine ⟨_, h3, by simp [lrec], fun w4 hp4 => ?_⟩
  have hsz3 := hU3.size; have hsz4 := hp4.size
  have habl := h2.lt
  have hD4 : w4.heap[D]? = some (.deferred (some [])) := hp4.upd.blk (hU3.blk hD (by simp; omega)) (by simp)
  have hb4 : Blk w4 bc [v] 23 := hp4.upd.blk h1 (by simp; omega)
  have hA4 := h2.upd hp4.upd (fun k hk hk2 => by have := (habl k hk).1; simp at hk2; omega)
  refine At.norm 99 (k' := K128_3) (by kernel_rfl) ?_
  refine St.toAt (n := 13) (L := [(6, .func (.func 123) #[] vc.toArray), (2, .pointer (some ⟨bc, 0, none⟩))]) ?_ htm
  refine St.reg K128_4 [(0, true), (1, true)] (by kernel_rfl) (by kernel_rfl) ?_
  refine RX.q 2 [(0, true, v)] [(4, v)] [.cell ⟨bc, 0, none⟩ v] (by kernel_rfl) (Blk.cell hb4 rfl) ?_
  refine RX.done [(4, v)] (by kernel_rfl) (by kernel_rfl) ?_
  refine St.retMarks [D] [.tmp 4] [v] (by kernel_rfl) Try.func128 (by kernel_rfl) (by simp) (by simpa using hD4) (fun w5 hu5 hsz5 => ⟨.cons (.tmp (by kernel_rfl)) .nil, ?_, ab, ?_⟩)
  · exact (((hE2.trans_old hU3 (fun k hk => by simp at hk; omega)).trans_old hp4.upd (fun k hk => by simp at hk; omega))).trans_old hu5 (fun k hk => by simp at hk; omega)
  · have := hA4.upd hu5 (fun k hk hk2 => by have := (habl k hk).1; simp at hk2; omega)
    obtain ⟨q1, q2⟩ := this
    refine ⟨by simpa using q1, ?_⟩
    rcases q2 with ⟨q2, q3, q4⟩ | ⟨b, cap, rest, q2, q3, q4, q5⟩
    · exact .inl ⟨q2, by simpa using q3, q4⟩
    · exact .inr ⟨b, cap, rest, by rw [List.length_map] at q2; exact q2, q3, by omega, by simpa using q5⟩
def appseq_S (_N : Nat) (d d' : Dk) (i : Int) : Option Li := (mayR d d' i).map fun es => es.map (·.1)
noncomputable def sp_appseq (N : Nat) : Spec := { f := 128, ins := ⟨[.nils, .fn 123 [] is_may.cap], []⟩, outs := [⟨[.ols 0], [.lst (.int .i64)]⟩], run := fun p k => (appseq_S N p.1.2.1.2.1.1 p.1.2.1.2.2.1.1.1.1 p.1.2.1.2.2.2.1).bind fun r => k (((), ()), (r, ())) }
theorem mayR_small {d d' : Dk} {i : Int} {es : List (Int × Unit)} (h : mayR d d' i = some es) : es.length ≤ 6 ∧ ∀ x ∈ es.map (·.1), inR .i64 x := by
  unfold mayR at h
  split at h
  rotate_left
  · cases h
  rename_i hc
  simp only [Option.some.injEq] at h
  subst h
  refine ⟨?_, fun x hx => ?_⟩
  · have h1 := List.length_filter_le (canD d' i.toNat) (List.range' 0 (d.2.2.2.1.length - 0))
    rw [List.length_map]
    unfold mayF
    rw [List.length_range'] at h1
    omega
  · rw [List.map_map, List.mem_map] at hx
    obtain ⟨k, hk, rfl⟩ := hx
    have := (mem_mayF.1 hk).2.1
    exact inR_small (by show -1000000 ≤ (k : Int) ∧ (k : Int) ≤ 1000000; omega)
theorem sp_appseq_ok (N : Nat) : SpecOK Try.prog (sp_appseq N) := by
  refine ⟨fun Z p κ => ?_, fun args w => Sem.pv_run _ _ _ (by kernel_rfl) w, fun p r hpr g w vs hv hs hρ => ?_⟩
  · show ((appseq_S N _ _ _).bind _) = ((appseq_S N _ _ _).bind _).bind κ
    cases appseq_S N p.1.2.1.2.1.1 p.1.2.1.2.2.1.1.1.1 p.1.2.1.2.2.2.1 <;> rfl
  · obtain ⟨⟨⟨⟩, ⟨⟨⟩, q⟩, ⟨⟩⟩, ⟨⟩⟩ := p
    have hpr' : ((mayR q.1.1 q.2.1.1.1.1 q.2.2.1).map fun es => es.map (·.1)).bind (fun r : Li => some ((((), ()), (r, ())) : (Unit × Unit) × (Li × Unit))) = some r := hpr
    cases hes : mayR q.1.1 q.2.1.1.1.1 q.2.2.1 with
    | none => rw [hes] at hpr'; cases hpr'
    | some es =>
      rw [hes] at hpr'
      have e : ((((), ()), (es.map (·.1), ())) : (Unit × Unit) × (Li × Unit)) = r := Option.some.inj hpr'
      subst e
      have hv : RepVs g [.nils, .fn 123 [] (encs id is_may.cap q)] vs := hv
      simp only [RepVs] at hv
      obtain ⟨v, us, rfl, hv0, v2, us2, rfl, hv2, rfl⟩ := hv
      simp only [RepV, RepVs] at hv0 hv2
      obtain ⟨va, vc, rfl, rfl, hvc⟩ := hv2
      subst hv0
      obtain ⟨hl, hin⟩ := mayR_small hes
      refine Fn.mono (appseq_fn (p := q) hes (by omega) g vc hvc w hs.mem) ?_
      rintro v w' ⟨hE, ab, h1, h2⟩
      refine own_new (y := .int .i64) (l := es.map (·.1)) hs (fun i => hρ i (Nat.zero_le _)) hE (by show (es.map (·.1)).length ≤ 1000000; rw [List.length_map]; omega) ?_
      rcases h2 with ⟨rfl, h3, _⟩ | ⟨b, cap, rest, rfl, _, h3, h4, h5, ty, h6⟩
      · refine .inl ⟨rfl, ?_⟩
        have : es = [] := List.eq_nil_of_length_eq_zero h3
        rw [this]; rfl
      · refine .inr ⟨b, cap, (es.map (·.1)).map (.int .i64), rest, ty, ?_, h3, h6, (repL_i2 _ _).2 ⟨rfl, hin⟩, ?_, ?_⟩
        · show _ = Value.slice (some ⟨b, 0, none⟩) (es.map (·.1)).length cap
          rw [List.length_map]
        · show (es.map (·.1)).length ≤ cap ∧ _
          rw [List.length_map]; exact h4
        · show rest.length = (cap - (es.map (·.1)).length) * 1
          rw [List.length_map]; exact h5
end Go.Proofs.Ythncjilcflilcaa

namespace Go.Proofs.Ythncjilcflilcaa
set_option linter.all false
open Go

def collect_S (N : Nat) (seq : Dk) (seq2 : Dk) (seq3 : Int) : Option Li :=
  (appseq_S N seq seq2 seq3).bind fun x_1 =>
  some x_1
noncomputable def collect_sp (N : Nat) : List Spec := [sp_appseq N]
theorem collect_all (N : Nat) : AllP (SpecOK Try.prog) (collect_sp N) := ⟨sp_appseq_ok N, trivial⟩
noncomputable def collect_c : Code := (Try.f110.body).getD .skip
noncomputable abbrev collect_B : Body := { c := collect_c, n := 5, res := [.tmp 2], outs := [⟨[shL], []⟩], m0 := 0 }
abbrev collect_rt : altD collect_B.outs → Option Li := fun r => some r.1.1
abbrev collect_st : Sta := ⟨[0], ⟨[.fn 123 [] [.fz [shD], .fz [.fn 111 [shD] []], .fe (.int .i64)]], []⟩⟩
theorem collect_eq (N : Nat) (seq : Dk) (seq2 : Dk) (seq3 : Int) : ev (Z := Li) Try.prog (collect_sp N) collect_B [] [] (some collect_rt) 400 false [.c [0], .c [1]] (stL collect_st ((((), ((seq, ()), (((seq2, ()), ()), ()), seq3, ())), ()), ())) (stH collect_st ((((), ((seq, ()), (((seq2, ()), ()), ()), seq3, ())), ()), ())) = collect_S N seq seq2 seq3 := by kernel_rfl
noncomputable def sp_collect (N : Nat) : Spec := { f := 110, ins := ⟨[.fn 123 [] [.fz [shD], .fz [.fn 111 [shD] []], .fe (.int .i64)]], []⟩, outs := [⟨[shL], []⟩], run := fun p k => (collect_S N p.1.1.2.1.1 p.1.1.2.2.1.1.1.1 p.1.1.2.2.2.1).bind fun r => k ((r, ()), ()) }
theorem sp_collect_ok (N : Nat) : SpecOK Try.prog (sp_collect N) := fn_sound (B := collect_B) (loops := []) (leaves := []) (fun p => collect_S N p.1.1.2.1.1 p.1.1.2.2.1.1.1.1 p.1.1.2.2.2.1) (fun r => ((r, ()), ())) collect_rt (fun _ _ _ => rfl) (fun r z h => by cases h; rfl) Try.func110 (by kernel_rfl) (by kernel_rfl) (by kernel_rfl) rfl rfl (by kernel_rfl) (fun args w => Sem.pv_run _ _ _ (by kernel_rfl) w) (collect_all N) mixed trivial (fun z E Xc hE hX hret => trivial) (fun p => collect_eq N p.1.1.2.1.1 p.1.1.2.2.1.1.1.1 p.1.1.2.2.2.1)

def lmay_S (N : Nat) (d : Li) (d2 : Int) (d3 : Ll) (d4 : Ll) (d5 : Li) (lost : Int) : Option (Li × Int) :=
  ((opened_S N d d2 d3 d4 d5).bind fun e => match e with
  | .inl (x_1, y_2) =>
    (br (!decide (y_2 = 0))
      (some ([], y_2))
      ((dlost_S N x_1 lost).bind fun x_3 =>
      br (!x_3)
        (some ([], 1))
        ((may_S N x_1 lost).bind fun (x_4, y_5, y_6) =>
        (collect_S N x_4 y_5 y_6).bind fun x_7 =>
        some (x_7, 0))))
  | .inr x_8 =>
    (br (!decide (x_8 = 0))
      (some ([], x_8))
      (none)))
noncomputable def lmay_sp (N : Nat) : List Spec := [sp_opened N, sp_dlost N, sp_may N, sp_collect N]
theorem lmay_all (N : Nat) : AllP (SpecOK Try.prog) (lmay_sp N) := ⟨sp_opened_ok N, sp_dlost_ok N, sp_may_ok N, sp_collect_ok N, trivial⟩
noncomputable def lmay_c : Code := (Try.f62.body).getD .skip
noncomputable abbrev lmay_B : Body := { c := lmay_c, n := 26, res := [.tmp 4, .tmp 5], outs := [⟨[shL, shI], []⟩], m0 := 0 }
abbrev lmay_rt : altD lmay_B.outs → Option (Li × Int) := fun r => some (r.1.1, r.1.2.1)
abbrev lmay_st : Sta := ⟨[0, 1], ⟨[shG, shI], []⟩⟩
theorem lmay_eq (N : Nat) (d : Li) (d2 : Int) (d3 : Ll) (d4 : Ll) (d5 : Li) (lost : Int) : ev (Z := Li × Int) Try.prog (lmay_sp N) lmay_B [] [] (some lmay_rt) 400 false [.c [0], .c [1]] (stL lmay_st (((d, d2, d3, d4, d5, ()), lost, ()), ())) (stH lmay_st (((d, d2, d3, d4, d5, ()), lost, ()), ())) = lmay_S N d d2 d3 d4 d5 lost := by kernel_rfl
noncomputable def sp_lmay (N : Nat) : Spec := { f := 62, ins := ⟨[shG, shI], []⟩, outs := [⟨[shL, shI], []⟩], run := fun p k => (lmay_S N p.1.1.1 p.1.1.2.1 p.1.1.2.2.1 p.1.1.2.2.2.1 p.1.1.2.2.2.2.1 p.1.2.1).bind fun r => k ((r.1, r.2, ()), ()) }
theorem sp_lmay_ok (N : Nat) : SpecOK Try.prog (sp_lmay N) := fn_sound (B := lmay_B) (loops := []) (leaves := []) (fun p => lmay_S N p.1.1.1 p.1.1.2.1 p.1.1.2.2.1 p.1.1.2.2.2.1 p.1.1.2.2.2.2.1 p.1.2.1) (fun r => ((r.1, r.2, ()), ())) lmay_rt (fun _ _ _ => rfl) (fun r z h => by cases h; rfl) Try.func62 (by kernel_rfl) (by kernel_rfl) (by kernel_rfl) rfl rfl (by kernel_rfl) (fun args w => Sem.pv_run _ _ _ (by kernel_rfl) w) (lmay_all N) mixed trivial (fun z E Xc hE hX hret => trivial) (fun p => lmay_eq N p.1.1.1 p.1.1.2.1 p.1.1.2.2.1 p.1.1.2.2.2.1 p.1.1.2.2.2.2.1 p.1.2.1)

def fchecks_S (N : Nat) (d : Li) (d2 : Int) (d3 : Ll) (d4 : Ll) (d5 : Li) (lost : Int) (found : Int) : Option Bool :=
  (great_S N d d2 d3 d4 d5).bind fun x_1 =>
  br x_1
    ((awake_S N).bind fun x_2 =>
    some x_2)
    ((copyd_S N d d2 d3 d4 d5).bind fun (x_3, y_4, y_5, y_6, y_7) =>
    (copyd_S N d d2 d3 d4 d5).bind fun (x_8, y_9, y_10, y_11, y_12) =>
    (check_S N x_3 y_4 y_5 y_6 y_7).bind fun x_13 =>
    (rcheck_S N x_8 y_9 y_10 y_11 y_12).bind fun x_14 =>
    br (!decide (x_13 = x_14))
      (some false)
      ((agree__S N x_3 y_4 y_5 y_6 y_7 lost found).bind fun (x_15, y_16, y_17, y_18) =>
      (ragree_S N x_8 y_9 y_10 y_11 y_12 lost found).bind fun (x_19, y_20, y_21, y_22) =>
      br (!decide (x_15 = x_19))
        (some false)
        (br (!decide (y_16 = y_20))
          (some false)
          (br (!(y_17 == y_21))
            (some false)
            (br (!decide (y_18 = y_22))
              (some false)
              ((lmay_S N x_3 y_4 y_5 y_6 y_7 lost).bind fun (x_23, y_24) =>
              (rmay_S N x_8 y_9 y_10 y_11 y_12 lost).bind fun (x_25, y_26) =>
              br (!decide (y_24 = y_26))
                (some false)
                ((likei_S N x_23 x_25).bind fun x_27 =>
                br (!x_27)
                  (some false)
                  ((claims__S N x_3 y_4 y_5 y_6 y_7 found).bind fun (x_28, y_29) =>
                  (rclaims_S N x_8 y_9 y_10 y_11 y_12 found).bind fun (x_30, y_31) =>
                  br (!decide (y_29 = y_31))
                    (some false)
                    ((likei_S N x_28 x_30).bind fun x_32 =>
                    br (!x_32)
                      (some false)
                      ((contests_S N x_3 y_4 y_5 y_6 y_7).bind fun (x_33, y_34) =>
                      (rcontests_S N x_8 y_9 y_10 y_11 y_12).bind fun (x_35, y_36) =>
                      br (decide (y_34 = y_36))
                        ((likei_S N x_33 x_35).bind fun x_37 =>
                        br x_37
                          ((same_S N x_3 y_4 y_5 y_6 y_7 d d2 d3 d4 d5).bind fun x_38 =>
                          br x_38
                            ((awake_S N).bind fun x_39 =>
                            some x_39)
                            (some false))
                          (some false))
                        (some false)))))))))))
noncomputable def fchecks_sp (N : Nat) : List Spec := [sp_check N, sp_agree_ N, sp_claims_ N, sp_contests N, sp_likei N, sp_awake N, sp_copyd N, sp_same N, sp_great N, sp_rcheck N, sp_ragree N, sp_rmay N, sp_rclaims N, sp_rcontests N, sp_lmay N]
theorem fchecks_all (N : Nat) : AllP (SpecOK Try.prog) (fchecks_sp N) := ⟨sp_check_ok N, sp_agree__ok N, sp_claims__ok N, sp_contests_ok N, sp_likei_ok N, sp_awake_ok N, sp_copyd_ok N, sp_same_ok N, sp_great_ok N, sp_rcheck_ok N, sp_ragree_ok N, sp_rmay_ok N, sp_rclaims_ok N, sp_rcontests_ok N, sp_lmay_ok N, trivial⟩
noncomputable def fchecks_c : Code := (Try.f16.body).getD .skip
noncomputable abbrev fchecks_B : Body := { c := fchecks_c, n := 135, res := [.tmp 6], outs := [⟨[.b], []⟩], m0 := 0 }
abbrev fchecks_rt : altD fchecks_B.outs → Option Bool := fun r => some r.1.1
abbrev fchecks_st : Sta := ⟨[0, 1, 2], ⟨[shG, shI, shI], []⟩⟩
theorem fchecks_eq (N : Nat) (d : Li) (d2 : Int) (d3 : Ll) (d4 : Ll) (d5 : Li) (lost : Int) (found : Int) : ev (Z := Bool) Try.prog (fchecks_sp N) fchecks_B [] [] (some fchecks_rt) 400 false [.c [0], .c [1]] (stL fchecks_st (((d, d2, d3, d4, d5, ()), lost, found, ()), ())) (stH fchecks_st (((d, d2, d3, d4, d5, ()), lost, found, ()), ())) = fchecks_S N d d2 d3 d4 d5 lost found := by kernel_rfl
noncomputable def sp_fchecks (N : Nat) : Spec := { f := 16, ins := ⟨[shG, shI, shI], []⟩, outs := [⟨[.b], []⟩], run := fun p k => (fchecks_S N p.1.1.1 p.1.1.2.1 p.1.1.2.2.1 p.1.1.2.2.2.1 p.1.1.2.2.2.2.1 p.1.2.1 p.1.2.2.1).bind fun r => k ((r, ()), ()) }
theorem sp_fchecks_ok (N : Nat) : SpecOK Try.prog (sp_fchecks N) := fn_sound (B := fchecks_B) (loops := []) (leaves := []) (fun p => fchecks_S N p.1.1.1 p.1.1.2.1 p.1.1.2.2.1 p.1.1.2.2.2.1 p.1.1.2.2.2.2.1 p.1.2.1 p.1.2.2.1) (fun r => ((r, ()), ())) fchecks_rt (fun _ _ _ => rfl) (fun r z h => by cases h; rfl) Try.func16 (by kernel_rfl) (by kernel_rfl) (by kernel_rfl) rfl rfl (by kernel_rfl) (fun args w => Sem.pv_run _ _ _ (by kernel_rfl) w) (fchecks_all N) mixed trivial (fun z E Xc hE hX hret => trivial) (fun p => fchecks_eq N p.1.1.1 p.1.1.2.1 p.1.1.2.2.1 p.1.1.2.2.2.1 p.1.1.2.2.2.2.1 p.1.2.1 p.1.2.2.1)

end Go.Proofs.Ythncjilcflilcaa

namespace Go.Proofs.Ythncjilcflilcaa
set_option linter.all false
open Go

/-! ### Numbers without one -/
def up (i x : Nat) : Nat := if x < i then x else x + 1
section
variable {n m : Nat} {can : Nat → Nat → Bool} {t : Nat → Nat → Int}
theorem Mt.bd {J : Nat → Int} (h : Mt n m can J) {i : Nat} (hi : i < n) : -1 ≤ J i ∧ J i < m := by
  rcases h.ok i hi with e | ⟨k, e, hk, _⟩ <;> omega
/-! ### Without a found thing -/
theorem IsMax.congr {fr fr' : Nat → Prop} {v : Int} (h : IsMax n m can t fr v) (hf : ∀ k, fr k ↔ fr' k) : IsMax n m can t fr' v := by
  have : fr = fr' := funext fun k => propext (hf k)
  rw [← this]; exact h
/-! ### Without a lost thing -/
/-! ### How many joins join two things -/
theorem Mt.congr {J J' : Nat → Int} (h : Mt n m can J) (he : ∀ i, i < n → J i = J' i) : Mt n m can J' := by
  refine ⟨fun i hi => by rw [← he i hi]; exact h.ok i hi, fun i j hi hj hij e => ?_⟩
  rw [← he i hi, ← he j hj] at e
  rw [← he i hi]
  exact h.inj i j hi hj hij e
end
end Go.Proofs.Ythncjilcflilcaa

namespace Go.Proofs.Ythncjilcflilcaa
set_option linter.all false
open Go

theorem drop_cons {α : Type} {l : List α} {k : Nat} (h : k < l.length) (d : α) : l.drop k = l.getD k d :: l.drop (k + 1) := by
  rw [List.drop_eq_getElem_cons h]; simp [List.getD, h]
theorem gets {α : Type} {l : List α} {k : Nat} (h : k < l.length) (d : α) : l[((k : Nat) : Int).toNat]? = some (l.getD k d) := by simp [List.getD, h]
theorem getD_mem {α : Type} {l : List α} {i : Nat} {d : α} (h : i < l.length) : l.getD i d ∈ l := by
  simp [List.getD, h]
theorem nat_succ (k : Nat) : ((k + 1 : Nat) : Int) = (k : Int) + 1 := by omega
theorem in_v (N : Nat) (n lo hi : Int) : in__S N n lo hi = some (decide (lo ≤ n ∧ n ≤ hi)) := by
  unfold in__S br
  by_cases h : lo ≤ n <;> simp [h]
theorem every_gen {α : Type} {f : α → Option Bool} {p : α → Bool} {s : List α} {N : Nat} (hf : ∀ x ∈ s, f x = some (p x)) (hs : s.length ≤ 1000000) (hN : s.length < N) :
    (((ixS (fun x => (f x).bind fun c => some (!c)) N s).bind fun x => some (decide (0 ≤ x))).bind fun x => some (!x)) = some (s.all p) := by
  rw [ixS_any (p := fun x => !p x) (fun x hx => by rw [hf x hx]; rfl) hs hN]
  simp only [Option.bind_some, any_not]
/-- The limits of a desk's numbers. -/
def okv (x : Int) : Bool := decide (-1 ≤ x ∧ x ≤ 5)
def okw (x : Int) : Bool := decide (1 ≤ x ∧ x ≤ 9)
def okr (x : Int) : Bool := decide (0 ≤ x ∧ x ≤ 99)
def okl (n : Nat) (r : List Int) : Bool := decide (r.length = n)
/-- What is looked at is small. -/
structure Sm (W : List Int) (L F : List (List Int)) (R : List Int) : Prop where
  w : W.length ≤ 100
  l : L.length ≤ 100
  f : F.length ≤ 100
  r : R.length ≤ 100
  lr : ∀ x ∈ L, x.length ≤ 100
  fr : ∀ x ∈ F, x.length ≤ 100
section
variable (N : Nat)
theorem ixfv_gen : ∀ (n : Nat) (s : List Int) (u u2 : Int), ixfv_l1 N n s u u2 = ixL (every1v_S N) n s u u2
  | 0, _, _, _ => rfl
  | n + 1, s, u, u2 => by unfold ixfv_l1 ixL; simp only [ixfv_gen n]
theorem ixfva_gen : ∀ (n : Nat) (s : List (List Int)) (u u2 : Int), ixfva_l1 N n s u u2 = ixL (every1va_S N) n s u u2
  | 0, _, _, _ => rfl
  | n + 1, s, u, u2 => by unfold ixfva_l1 ixL; simp only [ixfva_gen n]
theorem ixfw_gen : ∀ (n : Nat) (s : List Int) (u u2 : Int), ixfw_l1 N n s u u2 = ixL (every1w_S N) n s u u2
  | 0, _, _, _ => rfl
  | n + 1, s, u, u2 => by unfold ixfw_l1 ixL; simp only [ixfw_gen n]
theorem ixfr_gen : ∀ (n : Nat) (s : List Int) (u u2 : Int), ixfr_l1 N n s u u2 = ixL (every1r_S N) n s u u2
  | 0, _, _, _ => rfl
  | n + 1, s, u, u2 => by unfold ixfr_l1 ixL; simp only [ixfr_gen n]
end
section
variable {N : Nat} {W : List Int} {s : Int} {L F : List (List Int)} {R : List Int}
theorem everyv_v {l : List Int} (h : l.length ≤ 1000000) (hN : l.length < N) : everyv_S N l = some (l.all okv) := by
  unfold everyv_S cofv_S ixfv_S
  rw [← every_gen (f := check21_S N) (p := okv) (s := l) (N := N) (fun x _ => ?_) h hN]
  · unfold ixS
    rw [ixfv_gen]
    rfl
  · unfold check21_S okv
    rw [in_v]; rfl
theorem everyw_v {l : List Int} (h : l.length ≤ 1000000) (hN : l.length < N) : everyw_S N l = some (l.all okw) := by
  unfold everyw_S cofw_S ixfw_S
  rw [← every_gen (f := check3_S N) (p := okw) (s := l) (N := N) (fun x _ => ?_) h hN]
  · unfold ixS
    rw [ixfw_gen]
    rfl
  · unfold check3_S okw
    rw [in_v]; rfl
theorem everyr_v {l : List Int} (h : l.length ≤ 1000000) (hN : l.length < N) : everyr_S N l = some (l.all okr) := by
  unfold everyr_S cofr_S ixfr_S
  rw [← every_gen (f := check4_S N) (p := okr) (s := l) (N := N) (fun x _ => ?_) h hN]
  · unfold ixS
    rw [ixfr_gen]
    rfl
  · unfold check4_S okr
    rw [in_v]; rfl
theorem everyva_v {l : List (List Int)} (h : l.length ≤ 1000000) (hN : l.length < N) (hr : ∀ x ∈ l, x.length ≤ 1000000 ∧ x.length < N) : everyva_S N l = some (l.all fun r => r.all okv) := by
  unfold everyva_S cofva_S ixfva_S
  rw [← every_gen (f := check2_S N) (p := fun r => r.all okv) (s := l) (N := N) (fun x hx => ?_) h hN]
  · unfold ixS
    rw [ixfva_gen]
    rfl
  · unfold check2_S
    rw [everyv_v (hr x hx).1 (hr x hx).2]; rfl
theorem ixflo_gen : ∀ (n : Nat) (l : List (List Int)) (u u2 : Int), ixflo_l1 N n l u u2 (W, s, L, F, R) = (ixL (fun x => some (!okl W.length x)) n l u u2).map fun r => match r with | .inl i => .inl (i, (W, s, L, F, R)) | .inr _ => .inr (W, s, L, F, R)
  | 0, _, _, _ => rfl
  | n + 1, l, u, u2 => by
    have e : ∀ x, every1lo_S N x (W, s, L, F, R) = some (!okl W.length x, (W, s, L, F, R)) := fun x => by
      unfold every1lo_S check1_S okl
      simp only [Option.bind_some]
      congr 3
      exact decide_eq_decide.2 (by omega)
    unfold ixflo_l1 ixL
    simp only [e, Option.bind_some, ixflo_gen n]
    unfold br
    split
    · unfold idx
      split
      · cases l[u2.toNat]? with
        | none => rfl
        | some a =>
          dsimp only
          cases okl W.length a
          · rfl
          · simp only [Bool.not_true, Bool.false_eq_true, if_false]
            unfold chk
            split <;> rfl
      · rfl
    · rfl
theorem everylo_v {l : List (List Int)} (h : l.length ≤ 1000000) (hN : l.length < N) : everylo_S N l (W, s, L, F, R) = some (l.all (okl W.length)) := by
  unfold everylo_S coflo_S ixflo_S
  rw [← every_gen (f := fun x => some (okl W.length x)) (p := okl W.length) (s := l) (N := N) (fun x _ => rfl) h hN]
  unfold ixS
  rw [ixflo_gen]
  simp only [Option.bind_some]
  cases ixL (fun x => some (!okl W.length x)) N l l.length 0 with
  | none => rfl
  | some r => cases r <;> rfl
end
/-- The error of a desk. -/
def errD (W : List Int) (s : Int) (L F : List (List Int)) (R : List Int) : Int :=
  if ¬ (1 ≤ (W.length : Int) ∧ (W.length : Int) ≤ 5) then 2 else if 6 < (L.length : Int) then 2 else if 6 < (F.length : Int) then 2 else if L.all (okl W.length) = false then 2 else if F.all (okl W.length) = false then 2 else
  if ¬ ((R.length : Int) = (L.length : Int)) then 2 else if (W.all okw && decide (0 ≤ s ∧ s ≤ 3) && R.all okr && (L.all fun r => r.all okv) && F.all fun r => r.all okv) = true then 0 else 3
section
variable {N : Nat} {W : List Int} {s : Int} {L F : List (List Int)} {R : List Int}
theorem check_v (hN : 110 ≤ N) (h : Sm W L F R) : check_S N W s L F R = some (errD W s L F R) := by
  obtain ⟨hw, hl, hf, hr, hlr, hfr⟩ := h
  unfold check_S errD
  rw [in_v]
  simp only [Option.bind_some]
  by_cases c1 : 1 ≤ (W.length : Int) ∧ (W.length : Int) ≤ 5
  rotate_left
  · rw [br_nnd c1, if_pos c1]
  rw [br_nd c1, if_neg (by simpa using c1)]
  by_cases c2 : 6 < (L.length : Int)
  · rw [br_dec c2, if_pos c2]
  rw [br_ndec c2, if_neg c2]
  by_cases c3 : 6 < (F.length : Int)
  · rw [br_dec c3, if_pos c3]
  rw [br_ndec c3, if_neg c3, everylo_v (by omega) (by omega), everylo_v (by omega) (by omega), everyw_v (by omega) (by omega), in_v, everyr_v (by omega) (by omega),
    everyva_v (by omega) (by omega) (fun x hx => ⟨by have := hlr x hx; omega, by have := hlr x hx; omega⟩), everyva_v (by omega) (by omega) (fun x hx => ⟨by have := hfr x hx; omega, by have := hfr x hx; omega⟩)]
  simp only [Option.bind_some]
  cases L.all (okl W.length)
  · rfl
  cases F.all (okl W.length)
  · rfl
  by_cases c4 : (R.length : Int) = (L.length : Int)
  rotate_left
  · simp only [Bool.not_true, br_false, Bool.true_eq_false, if_false]
    rw [br_nnd c4, if_pos c4]
  simp only [Bool.not_true, br_false, Bool.true_eq_false, if_false]
  rw [br_nd c4, if_neg (not_not_intro c4)]
  cases W.all okw <;> cases decide (0 ≤ s ∧ s ≤ 3) <;> cases R.all okr <;> cases (L.all fun r => r.all okv) <;> cases (F.all fun r => r.all okv) <;> rfl
theorem off_v (n lo hi : Int) : off_S N n lo hi = some (!decide (lo ≤ n ∧ n ≤ hi)) := by
  unfold off_S
  by_cases c : n < lo
  · rw [br_dec c]; congr 1; simp; omega
  · rw [br_ndec c]; congr 1
    by_cases d : n ≤ hi
    · rw [decide_eq_false (show ¬ hi < n by omega), decide_eq_true (show lo ≤ n ∧ n ≤ hi from ⟨by omega, d⟩)]; rfl
    · rw [decide_eq_true (show hi < n by omega), decide_eq_false (fun h : lo ≤ n ∧ n ≤ hi => d h.2)]; rfl
/-- A loop through a list that ends at the first element that isn't so. -/
def alls {α β : Type} (p : α → Bool) (s : List α) (k : Nat) (b : β) : Option (Unit ⊕ β) := some (if (s.drop k).all p then .inr b else .inl ())
theorem alls_yes {α β : Type} {p : α → Bool} {s : List α} {k : Nat} {b : β} (d : α) (h : k < s.length) (hp : p (s.getD k d) = true) : alls p s k b = alls p s (k + 1) b := by
  unfold alls; rw [drop_cons h d, List.all_cons, hp, Bool.true_and]
theorem alls_no {α β : Type} {p : α → Bool} {s : List α} {k : Nat} {b : β} (d : α) (h : k < s.length) (hp : p (s.getD k d) = false) : alls p s k b = some (.inl ()) := by
  unfold alls; rw [drop_cons h d, List.all_cons, hp, Bool.false_and]; rfl
theorem alls_end {α β : Type} {p : α → Bool} {s : List α} {k : Nat} {b : β} (h : s.length ≤ k) : alls p s k b = some (.inr b) := by
  unfold alls; rw [List.drop_of_length_le h]; rfl
theorem described_l1_p (hw : W.length ≤ 1000000) {l : List (List Int)} (hl : l.length ≤ 1000000) : ∀ (n k : Nat), l.length < n + k → k ≤ l.length → described_l1 N n l k W s L F R = alls (okl W.length) l k ()
  | 0, k, h, _ => by omega
  | n + 1, k, h, hk => by
    unfold described_l1
    by_cases c : k < l.length
    · have ih := described_l1_p hw hl n (k + 1) (by omega) (by omega)
      rw [nat_succ] at ih
      rw [br_dec (by omega), idx_eq (by omega) (gets c [])]
      by_cases c1 : ((l.getD k []).length : Int) = W.length
      · rw [br_nd c1, chk_eq (by omega), ih, alls_yes [] c (by unfold okl; rw [decide_eq_true_eq]; omega)]
      · rw [br_nnd c1, alls_no [] c (by unfold okl; rw [decide_eq_false_iff_not]; omega)]
    · rw [br_ndec (by omega), alls_end (by omega)]
theorem described_v (hw : W.length ≤ 1000000) {l : List (List Int)} (hl : l.length ≤ 1000000) (hN : l.length < N) : described_S N W s L F R l = some (l.all (okl W.length)) := by
  unfold described_S
  have := described_l1_p (N := N) (s := s) (L := L) (F := F) (R := R) hw hl N 0 (by omega) (by omega)
  rw [show ((0 : Nat) : Int) = 0 from rfl] at this
  rw [this]
  unfold alls
  simp only [List.drop_zero, Option.bind_some]
  cases l.all (okl W.length) <;> rfl
theorem valued_l2_p {l : List (List Int)} {i : Nat} (hi : i < l.length) (hr : (l.getD i []).length ≤ 1000000) : ∀ (n k : Nat), (l.getD i []).length < n + k → k ≤ (l.getD i []).length → valued_l2 N n l i k = alls okv (l.getD i []) k (l, (i : Int))
  | 0, k, h, _ => by omega
  | n + 1, k, h, hk => by
    unfold valued_l2
    rw [idx_eq (by omega) (gets hi [])]
    by_cases c : k < (l.getD i []).length
    · have ih := valued_l2_p hi hr n (k + 1) (by omega) (by omega)
      rw [nat_succ] at ih
      rw [br_dec (by omega), idx_eq (by omega) (gets hi []), idx_eq (by omega) (gets c 0), off_v]
      simp only [Option.bind_some]
      by_cases c1 : -1 ≤ (l.getD i []).getD k 0 ∧ (l.getD i []).getD k 0 ≤ 5
      · rw [br_nd c1, chk_eq (by omega), ih, alls_yes 0 c (by simp only [okv, c1, and_self, decide_true])]
      · rw [br_nnd c1, alls_no 0 c (by simp only [okv, c1, decide_false])]
    · rw [br_ndec (by omega), alls_end (by omega)]
theorem valued_l1_p {l : List (List Int)} (hl : l.length ≤ 1000000) (hr : ∀ x ∈ l, x.length ≤ 1000000 ∧ x.length < N) : ∀ (n k : Nat), l.length < n + k → k ≤ l.length → valued_l1 N n l k = alls (fun r => r.all okv) l k ()
  | 0, k, h, _ => by omega
  | n + 1, k, h, hk => by
    unfold valued_l1
    by_cases c : k < l.length
    · have ih := valued_l1_p hl hr n (k + 1) (by omega) (by omega)
      rw [nat_succ] at ih
      have e := valued_l2_p (N := N) c (hr _ (getD_mem c)).1 N 0 (by have := (hr _ (getD_mem (d := []) c)).2; omega) (by omega)
      rw [show ((0 : Nat) : Int) = 0 from rfl] at e
      rw [br_dec (by omega), e]
      by_cases hb : (l.getD k []).all okv = true
      · rw [alls_yes (p := fun r => r.all okv) [] c hb, ← ih]
        unfold alls
        rw [List.drop_zero, if_pos hb]
        exact chk_eq (by omega)
      · rw [alls_no (p := fun r => r.all okv) [] c (Bool.eq_false_iff.2 hb)]
        unfold alls
        rw [List.drop_zero, if_neg hb]
        rfl
    · rw [br_ndec (by omega), alls_end (by omega)]
theorem valued_v {l : List (List Int)} (hl : l.length ≤ 1000000) (hN : l.length < N) (hr : ∀ x ∈ l, x.length ≤ 1000000 ∧ x.length < N) : valued_S N l = some (l.all fun r => r.all okv) := by
  unfold valued_S
  have := valued_l1_p (N := N) hl hr N 0 (by omega) (by omega)
  rw [show ((0 : Nat) : Int) = 0 from rfl] at this
  rw [this]
  unfold alls
  simp only [List.drop_zero, Option.bind_some]
  cases (l.all fun r => r.all okv) <;> rfl
theorem rcheck_l1_p (hw : W.length ≤ 1000000) : ∀ (n k : Nat), W.length < n + k → k ≤ W.length → rcheck_l1 N n k W s L F R = alls okw W k (W, s, L, F, R)
  | 0, k, h, _ => by omega
  | n + 1, k, h, hk => by
    unfold rcheck_l1
    by_cases c : k < W.length
    · have ih := rcheck_l1_p hw n (k + 1) (by omega) (by omega)
      rw [nat_succ] at ih
      rw [br_dec (by omega), idx_eq (by omega) (gets c 0), off_v]
      simp only [Option.bind_some]
      by_cases c1 : 1 ≤ W.getD k 0 ∧ W.getD k 0 ≤ 9
      · rw [br_nd c1, chk_eq (by omega), ih, alls_yes 0 c (by simp only [okw, c1, and_self, decide_true])]
      · rw [br_nnd c1, alls_no 0 c (by simp only [okw, c1, decide_false])]
    · rw [br_ndec (by omega), alls_end (by omega)]
theorem rcheck_l2_p (hw : R.length ≤ 1000000) : ∀ (n k : Nat), R.length < n + k → k ≤ R.length → rcheck_l2 N n k W s L F R = alls okr R k (W, s, L, F, R)
  | 0, k, h, _ => by omega
  | n + 1, k, h, hk => by
    unfold rcheck_l2
    by_cases c : k < R.length
    · have ih := rcheck_l2_p hw n (k + 1) (by omega) (by omega)
      rw [nat_succ] at ih
      rw [br_dec (by omega), idx_eq (by omega) (gets c 0), off_v]
      simp only [Option.bind_some]
      by_cases c1 : 0 ≤ R.getD k 0 ∧ R.getD k 0 ≤ 99
      · rw [br_nd c1, chk_eq (by omega), ih, alls_yes 0 c (by simp only [okr, c1, and_self, decide_true])]
      · rw [br_nnd c1, alls_no 0 c (by simp only [okr, c1, decide_false])]
    · rw [br_ndec (by omega), alls_end (by omega)]
theorem rcheck_v (hN : 110 ≤ N) (h : Sm W L F R) : rcheck_S N W s L F R = some (errD W s L F R) := by
  obtain ⟨hw, hl, hf, hr, hlr, hfr⟩ := h
  unfold rcheck_S errD
  rw [off_v]
  simp only [Option.bind_some]
  by_cases c1 : 1 ≤ (W.length : Int) ∧ (W.length : Int) ≤ 5
  rotate_left
  · rw [br_nnd c1, if_pos c1]
  rw [br_nd c1, if_neg (by simpa using c1)]
  by_cases c2 : 6 < (L.length : Int)
  · rw [br_dec c2, if_pos c2]
  rw [br_ndec c2, if_neg c2]
  by_cases c3 : 6 < (F.length : Int)
  · rw [br_dec c3, if_pos c3]
  have e1 := rcheck_l1_p (N := N) (s := s) (L := L) (F := F) (R := R) (W := W) (by omega) N 0 (by omega) (by omega)
  have e2 := rcheck_l2_p (N := N) (s := s) (L := L) (F := F) (W := W) (R := R) (by omega) N 0 (by omega) (by omega)
  rw [show ((0 : Nat) : Int) = 0 from rfl] at e1 e2
  rw [br_ndec c3, if_neg c3, described_v (by omega) (by omega) (by omega), described_v (by omega) (by omega) (by omega), e1]
  unfold alls at e2 ⊢
  simp only [List.drop_zero, Option.bind_some] at e2 ⊢
  cases L.all (okl W.length)
  · rfl
  cases F.all (okl W.length)
  · rfl
  by_cases c4 : (R.length : Int) = (L.length : Int)
  rotate_left
  · simp only [Bool.not_true, br_false, Bool.true_eq_false, if_false]
    rw [br_nnd c4, if_pos c4]
  simp only [Bool.not_true, br_false, Bool.true_eq_false, if_false]
  rw [br_nd c4, if_neg (not_not_intro c4)]
  by_cases d1 : W.all okw = true
  rotate_left
  · rw [if_neg d1, if_neg (by rw [Bool.eq_false_iff.2 d1]; simp)]
  rw [if_pos d1, d1]
  dsimp only
  rw [e2]
  simp only [Option.bind_some]
  by_cases d2 : R.all okr = true
  rotate_left
  · rw [if_neg d2, if_neg (by rw [Bool.eq_false_iff.2 d2]; simp)]
  rw [if_pos d2, d2]
  dsimp only
  rw [off_v, valued_v (N := N) (l := L) (by omega) (by omega) (fun x hx => ⟨by have := hlr x hx; omega, by have := hlr x hx; omega⟩), valued_v (N := N) (l := F) (by omega) (by omega) (fun x hx => ⟨by have := hfr x hx; omega, by have := hfr x hx; omega⟩)]
  simp only [Option.bind_some]
  cases decide (0 ≤ s ∧ s ≤ 3) <;> cases (L.all fun r => r.all okv) <;> cases (F.all fun r => r.all okv) <;> rfl
end
section
variable {N : Nat}
theorem copyi_v {l : List Int} (h : l.length ≤ 1000000) : copyi_S N l = some l := by
  unfold copyi_S
  rw [grd_eq (lmI_iff.2 (by omega))]
  simp
theorem take_succ' {α : Type} {l : List α} {k : Nat} (c : k < l.length) (d : α) : l.take (k + 1) = l.take k ++ [l.getD k d] := by
  rw [List.take_add_one]; simp [List.getD, c]
theorem likei_v {l : List Int} (h : l.length ≤ 1000) (hN : l.length < N) : likei_S N l l = some true := by
  have e : ∀ (n k : Nat), l.length < n + k → k ≤ l.length → equali_l1 N n l l l.length k = some (.inr ()) := by
    intro n
    induction n with
    | zero => intro k h _; omega
    | succ n ih =>
      intro k h2 hk
      unfold equali_l1
      by_cases c : k < l.length
      · have := ih (k + 1) (by omega) (by omega)
        rw [show ((k + 1 : Nat) : Int) = (k : Int) + 1 by omega] at this
        rw [br_dec (by omega), idx_eq (by omega) (gets c 0), idx_eq (by omega) (gets c 0), br_nd rfl, chk_eq (by omega), this]
      · rw [br_ndec (by omega)]
  have e0 := e N 0 (by omega) (by omega)
  simp only [Int.natCast_zero] at e0
  unfold likei_S equali_S
  rw [br_nd rfl, e0]; rfl
end
end Go.Proofs.Ythncjilcflilcaa

namespace Go.Proofs.Ythncjilcflilcaa
set_option linter.all false
open Go

def tabA (g : Nat → Int) : List Int := (List.range 36).map g
theorem tabA_len (g : Nat → Int) : (tabA g).length = 36 := by simp [tabA]
theorem tabA_get {g : Nat → Int} {x : Nat} (h : x < 36) : (tabA g).getD x 0 = g x := by simp [tabA, List.getD, h]
theorem tabA_set (g : Nat → Int) (x : Nat) (v : Int) : (tabA g).set x v = tabA (upd g x v) := by
  refine List.ext_getElem (by simp [tabA]) fun i h1 h2 => ?_
  simp only [tabA, List.getElem_set, List.getElem_map, List.getElem_range, upd]
  by_cases e : x = i
  · rw [if_pos e, if_pos e.symm]
  · rw [if_neg e, if_neg (Ne.symm e)]
/-- What two descriptions agree in, and how often they slip, up to a trait. -/
def agA (W a b : List Int) (t : Nat) : Int := if a.getD t 0 = b.getD t 0 ∧ a.getD t 0 ≠ -1 then W.getD t 0 else 0
def slA (a b : List Int) (t : Nat) : Int := if a.getD t 0 ≠ -1 ∧ b.getD t 0 ≠ -1 ∧ a.getD t 0 ≠ b.getD t 0 then 1 else 0
def agP (W a b : List Int) (k : Nat) : Int := sumN (agA W a b) k
def slP (a b : List Int) (k : Nat) : Int := sumN (slA a b) k
def agF (W : List Int) (L F : List (List Int)) (i k : Nat) : Int := if i < L.length ∧ k < F.length then agP W (L.getD i []) (F.getD k []) W.length else 0
def slF (W : List Int) (L F : List (List Int)) (i k : Nat) : Int := if i < L.length ∧ k < F.length then slP (L.getD i []) (F.getD k []) W.length else 0
theorem sumN_bound {f : Nat → Int} {m : Int} (h : ∀ i, 0 ≤ f i ∧ f i ≤ m) (hm : 0 ≤ m ∧ m ≤ 10) : ∀ n : Nat, n ≤ 1000 → 0 ≤ sumN f n ∧ sumN f n ≤ 10 * n
  | 0, _ => by simp [sumN]
  | n + 1, hn => by
    have h1 := sumN_bound h hm n (by omega)
    have h2 := h n
    rw [sumN]; omega
/-- A desk without an error. -/
structure Fine (W : List Int) (s : Int) (L F : List (List Int)) (R : List Int) : Prop where
  w1 : 1 ≤ W.length
  w5 : W.length ≤ 5
  l6 : L.length ≤ 6
  f6 : F.length ≤ 6
  lw : ∀ x ∈ L, x.length = W.length
  fw : ∀ x ∈ F, x.length = W.length
  rl : R.length = L.length
  w : ∀ x ∈ W, 1 ≤ x ∧ x ≤ 9
  s : 0 ≤ s ∧ s ≤ 3
  r : ∀ x ∈ R, 0 ≤ x ∧ x ≤ 99
  lv : ∀ r ∈ L, ∀ x ∈ r, -1 ≤ x ∧ x ≤ 5
  fv : ∀ r ∈ F, ∀ x ∈ r, -1 ≤ x ∧ x ≤ 5
section
variable {W : List Int} {s : Int} {L F : List (List Int)} {R : List Int}
theorem errD_iff : errD W s L F R = 0 ↔ Fine W s L F R := by
  unfold errD
  constructor
  · intro h
    split at h
    · cases h
    rename_i c1
    split at h
    · cases h
    rename_i c2
    split at h
    · cases h
    rename_i c3
    split at h
    · cases h
    rename_i c4
    split at h
    · cases h
    rename_i c5
    split at h
    · cases h
    rename_i c6
    split at h
    rotate_left
    · cases h
    rename_i c7
    simp only [Bool.and_eq_true, List.all_eq_true, okw, okr, okv, decide_eq_true_eq] at c7
    simp only [Bool.not_eq_false, List.all_eq_true, okl, decide_eq_true_eq] at c4 c5
    exact ⟨by omega, by omega, by omega, by omega, c4, c5, by omega, c7.1.1.1.1, c7.1.1.1.2, c7.1.1.2, c7.1.2, c7.2⟩
  · intro h
    have c4 : L.all (okl W.length) = true := by simpa [okl] using h.lw
    have c5 : F.all (okl W.length) = true := by simpa [okl] using h.fw
    have h1 := h.w1; have h2 := h.w5; have h3 := h.l6; have h4 := h.f6; have h5 := h.rl
    rw [if_neg (by omega), if_neg (by omega), if_neg (by omega), if_neg (by simp [c4]), if_neg (by simp [c5]), if_neg (by omega), if_pos]
    simp only [Bool.and_eq_true, List.all_eq_true, okw, okr, okv, decide_eq_true_eq]
    exact ⟨⟨⟨⟨h.w, h.s⟩, h.r⟩, h.lv⟩, h.fv⟩
/-- The desk at work. -/
def dkT (W : List Int) (s : Int) (L F : List (List Int)) (R : List Int) (A B : Nat → Nat → Int) : Dk := (W, s, L, F, R, tabA (fun x => A (x / 6) (x % 6)), tabA (fun x => B (x / 6) (x % 6)), ())
def dkO (W : List Int) (s : Int) (L F : List (List Int)) (R : List Int) : Dk := dkT W s L F R (agF W L F) (slF W L F)
theorem getD_W (hw : ∀ x ∈ W, 1 ≤ x ∧ x ≤ 9) (t : Nat) : 0 ≤ W.getD t 0 ∧ W.getD t 0 ≤ 9 := by
  by_cases h : t < W.length
  · have := hw _ (getD_mem (d := 0) h); omega
  · have : W.getD t 0 = 0 := by simp [List.getD, List.getElem?_eq_none (show W.length ≤ t by omega)]
    omega
theorem agA_bound (hw : ∀ x ∈ W, 1 ≤ x ∧ x ≤ 9) (a b : List Int) (t : Nat) : 0 ≤ agA W a b t ∧ agA W a b t ≤ 9 := by
  have := getD_W hw t
  unfold agA; split <;> omega
theorem slA_bound (a b : List Int) (t : Nat) : 0 ≤ slA a b t ∧ slA a b t ≤ 1 := by unfold slA; split <;> omega
theorem agP_bound (hw : ∀ x ∈ W, 1 ≤ x ∧ x ≤ 9) (a b : List Int) {t : Nat} (ht : t ≤ 5) : 0 ≤ agP W a b t ∧ agP W a b t ≤ 50 := by
  have := sumN_bound (agA_bound hw a b) (by omega) t (by omega)
  unfold agP; omega
theorem slP_bound (a b : List Int) {t : Nat} (ht : t ≤ 5) : 0 ≤ slP a b t ∧ slP a b t ≤ 50 := by
  have := sumN_bound (slA_bound a b) (by omega) t (by omega)
  unfold slP; omega
theorem upd_upd {α : Type} (J : Nat → α) (i : Nat) (v w : α) : upd (upd J i v) i w = upd J i w := by
  funext x; unfold upd; split <;> rfl
theorem upd_id {α : Type} (J : Nat → α) (i : Nat) : upd J i (J i) = J := by
  funext x; unfold upd; split
  · rename_i e; rw [e]
  · rfl
theorem opened_l3_p {N : Nat} (h : Fine W s L F R) {i k : Nat} (hi : i < 6) (hk : k < 6) {a b : List Int} (ha : a.length = W.length) (hb : b.length = W.length) {u u4 : List (List Int)} {u2 u3 u5 u6 : Int} {o1 o5 : List Int} {o2 : Int} {o3 o4 : List (List Int)} :
    ∀ (n t : Nat) (g g' : Nat → Int), W.length < n + t → t ≤ W.length → g (i * 6 + k) = agP W a b t → g' (i * 6 + k) = slP a b t →
      opened_l3 N n i a k b u u2 u3 u4 u5 u6 a a.length t W s L F R o1 o2 o3 o4 o5 (tabA g) (tabA g') = some ((i : Int), a, u, u2, u3, u4, u5, u6, W, s, L, F, R, o1, o2, o3, o4, o5, tabA (upd g (i * 6 + k) (agP W a b W.length)), tabA (upd g' (i * 6 + k) (slP a b W.length)))
  | 0, t, _, _, hn, ht, _, _ => by omega
  | n + 1, t, g, g', hn, ht, e1, e2 => by
    unfold opened_l3
    have hw5 := h.w5
    by_cases c : t < W.length
    · have hx : i * 6 + k < 36 := by omega
      have hj : ∀ g g' : Nat → Int, opened_j1 N (opened_l3 N n) i a k b u u2 u3 u4 u5 u6 a a.length t W s L F R o1 o2 o3 o4 o5 (tabA g) (tabA g') = opened_l3 N n i a k b u u2 u3 u4 u5 u6 a a.length ((t + 1 : Nat) : Int) W s L F R o1 o2 o3 o4 o5 (tabA g) (tabA g') := fun g g' => by
        unfold opened_j1
        rw [chk_eq (by omega)]; rfl
      have b1 := agP_bound h.w a b (t := t) (by omega)
      have b2 := slP_bound a b (t := t) (by omega)
      have b3 := getD_W h.w t
      have s1 : agP W a b (t + 1) = agP W a b t + agA W a b t := rfl
      have s2 : slP a b (t + 1) = slP a b t + slA a b t := rfl
      rw [br_dec (by omega), idx_eq (by omega) (gets (by omega) 0)]
      unfold agA at s1
      unfold slA at s2
      by_cases c1 : a.getD t 0 = -1
      · rw [if_neg (by omega)] at s1 s2
        rw [br_dec c1, hj, opened_l3_p h hi hk ha hb n (t + 1) g g' (by omega) (by omega) (by omega) (by omega)]
      rw [br_ndec c1, idx_eq (by omega) (gets (by omega) 0)]
      by_cases c2 : b.getD t 0 = -1
      · rw [if_neg (by omega)] at s1 s2
        rw [br_dec c2, hj, opened_l3_p h hi hk ha hb n (t + 1) g g' (by omega) (by omega) (by omega) (by omega)]
      rw [br_ndec c2, idx_eq (by omega) (gets (by omega) 0)]
      by_cases c3 : a.getD t 0 = b.getD t 0
      · rw [if_pos ⟨c3, c1⟩] at s1
        rw [if_neg (by omega)] at s2
        rw [br_dec c3, rng_eq (by omega), rng_eq (by omega)]
        simp only [Int.toNat_natCast]
        rw [get_get 0 (by rw [tabA_len]; exact hx), tabA_get hx, e1, idx_eq (by omega) (gets (k := t) (l := W) (by omega) 0), chk_eq (by omega), rng_eq (by omega), rng_eq (by omega), get_get 0 (by rw [tabA_len]; exact hx), tabA_set, hj,
          opened_l3_p h hi hk ha hb n (t + 1) _ _ (by omega) (by omega) (by rw [upd_self]; omega) (by omega), upd_upd]
      · rw [if_neg (by omega)] at s1
        rw [if_pos ⟨c1, c2, c3⟩] at s2
        rw [br_ndec c3, rng_eq (by omega), rng_eq (by omega)]
        simp only [Int.toNat_natCast]
        rw [get_get 0 (by rw [tabA_len]; exact hx), tabA_get hx, e2, chk_eq (by omega), rng_eq (by omega), rng_eq (by omega), get_get 0 (by rw [tabA_len]; exact hx), tabA_set, hj,
          opened_l3_p h hi hk ha hb n (t + 1) _ _ (by omega) (by omega) (by omega) (by rw [upd_self]; omega), upd_upd]
    · obtain rfl : t = W.length := by omega
      rw [br_ndec (by omega), ← e1, ← e2, upd_id, upd_id]
/-- Tables that are filled up to a pair. -/
def gK (A : Nat → Nat → Int) (i k : Nat) : Nat → Int := fun x => if x / 6 < i ∨ (x / 6 = i ∧ x % 6 < k) then A (x / 6) (x % 6) else 0
theorem gK_step (A : Nat → Nat → Int) {i k : Nat} (hk : k < 6) : upd (gK A i k) (i * 6 + k) (A i k) = gK A i (k + 1) := by
  funext x
  unfold upd gK
  by_cases e : x = i * 6 + k
  · rw [if_pos e, if_pos (by omega), show x / 6 = i by omega, show x % 6 = k by omega]
  · rw [if_neg e]
    by_cases c : x / 6 < i ∨ (x / 6 = i ∧ x % 6 < k)
    · rw [if_pos c, if_pos (by omega)]
    · rw [if_neg c, if_neg (by omega)]
theorem gK_self (A : Nat → Nat → Int) {i k : Nat} (hk : k < 6) : gK A i k (i * 6 + k) = 0 := if_neg (by omega)
theorem gK_row {A : Nat → Nat → Int} {i m : Nat} (h : ∀ k, m ≤ k → A i k = 0) : gK A i m = gK A (i + 1) 0 := by
  funext x
  unfold gK
  by_cases c : x / 6 < i ∨ (x / 6 = i ∧ x % 6 < m)
  · rw [if_pos c, if_pos (by omega)]
  · rw [if_neg c]
    by_cases d : x / 6 = i
    · rw [if_pos (by omega), d, h _ (by omega)]
    · rw [if_neg (by omega)]
theorem gK_all {A : Nat → Nat → Int} {n : Nat} (h : ∀ i k, n ≤ i → A i k = 0) : gK A n 0 = fun x => A (x / 6) (x % 6) := by
  funext x
  unfold gK
  by_cases c : x / 6 < n
  · rw [if_pos (.inl c)]
  · rw [if_neg (by omega), h _ _ (by omega)]
theorem opened_l2_p {N : Nat} (hN : 110 ≤ N) (h : Fine W s L F R) {i : Nat} (hi : i < L.length) {u : List (List Int)} {u2 u3 : Int} {o1 o5 : List Int} {o2 : Int} {o3 o4 : List (List Int)} :
    ∀ (n k : Nat), F.length < n + k → k ≤ F.length →
      opened_l2 N n i (L.getD i []) u u2 u3 F F.length k W s L F R o1 o2 o3 o4 o5 (tabA (gK (agF W L F) i k)) (tabA (gK (slF W L F) i k)) = some (u, u2, u3, W, s, L, F, R, o1, o2, o3, o4, o5, tabA (gK (agF W L F) (i + 1) 0), tabA (gK (slF W L F) (i + 1) 0))
  | 0, k, hn, hk => by omega
  | n + 1, k, hn, hk => by
    unfold opened_l2
    have hl6 := h.l6; have hf6 := h.f6; have hw5 := h.w5
    by_cases c : k < F.length
    · have ih := opened_l2_p hN h hi (u := u) (u2 := u2) (u3 := u3) (o1 := o1) (o5 := o5) (o2 := o2) (o3 := o3) (o4 := o4) n (k + 1) (by omega) (by omega)
      rw [nat_succ] at ih
      have e := opened_l3_p (N := N) h (i := i) (k := k) (by omega) (by omega) (h.lw _ (getD_mem (d := []) hi)) (h.fw _ (getD_mem (d := []) c)) (u := u) (u4 := F) (u2 := u2) (u3 := u3) (u5 := F.length) (u6 := k) (o1 := o1) (o5 := o5) (o2 := o2) (o3 := o3) (o4 := o4)
        N 0 (gK (agF W L F) i k) (gK (slF W L F) i k) (by omega) (by omega) (gK_self _ (by omega)) (gK_self _ (by omega))
      have a1 : agP W (L.getD i []) (F.getD k []) W.length = agF W L F i k := (if_pos ⟨hi, c⟩).symm
      have a2 : slP (L.getD i []) (F.getD k []) W.length = slF W L F i k := (if_pos ⟨hi, c⟩).symm
      rw [a1, a2, gK_step _ (by omega), gK_step _ (by omega), show ((0 : Nat) : Int) = 0 from rfl] at e
      rw [br_dec (by omega), idx_eq (by omega) (gets c []), e]
      simp only [Option.bind_some]
      rw [chk_eq (by omega)]
      exact ih
    · obtain rfl : k = F.length := by omega
      rw [br_ndec (by omega), gK_row (A := agF W L F) (i := i) (m := F.length) (fun k hk => by unfold agF; exact if_neg (by omega)), gK_row (A := slF W L F) (i := i) (m := F.length) (fun k hk => by unfold slF; exact if_neg (by omega))]
theorem opened_l1_p {N : Nat} (hN : 110 ≤ N) (h : Fine W s L F R) {o1 o5 : List Int} {o2 : Int} {o3 o4 : List (List Int)} :
    ∀ (n i : Nat), L.length < n + i → i ≤ L.length →
      opened_l1 N n L L.length i W s L F R o1 o2 o3 o4 o5 (tabA (gK (agF W L F) i 0)) (tabA (gK (slF W L F) i 0)) = some (o1, o2, o3, o4, o5, tabA (fun x => agF W L F (x / 6) (x % 6)), tabA (fun x => slF W L F (x / 6) (x % 6)))
  | 0, i, hn, hi => by omega
  | n + 1, i, hn, hi => by
    unfold opened_l1
    have hl6 := h.l6; have hf6 := h.f6
    by_cases c : i < L.length
    · have ih := opened_l1_p hN h (o1 := o1) (o5 := o5) (o2 := o2) (o3 := o3) (o4 := o4) n (i + 1) (by omega) (by omega)
      rw [nat_succ] at ih
      have e := opened_l2_p hN h c (u := L) (u2 := L.length) (u3 := i) (o1 := o1) (o5 := o5) (o2 := o2) (o3 := o3) (o4 := o4) N 0 (by omega) (by omega)
      rw [show ((0 : Nat) : Int) = 0 from rfl] at e
      rw [br_dec (by omega), idx_eq (by omega) (gets c []), e]
      simp only [Option.bind_some]
      rw [chk_eq (by omega)]
      exact ih
    · obtain rfl : i = L.length := by omega
      rw [br_ndec (by omega), gK_all (A := agF W L F) (fun i k hi => by unfold agF; exact if_neg (by omega)), gK_all (A := slF W L F) (fun i k hi => by unfold slF; exact if_neg (by omega))]
theorem opened_v {N : Nat} (hN : 110 ≤ N) (h : Sm W L F R) : opened_S N W s L F R = some (if errD W s L F R = 0 then .inl (dkO W s L F R, 0) else .inr (errD W s L F R)) := by
  unfold opened_S
  rw [check_v hN h]
  simp only [Option.bind_some]
  by_cases c : errD W s L F R = 0
  · have hF := errD_iff.1 c
    have e := opened_l1_p hN hF (o1 := W) (o2 := s) (o3 := L) (o4 := F) (o5 := R) N 0 (by have := hF.l6; omega) (by omega)
    have z : ∀ A : Nat → Nat → Int, tabA (gK A 0 0) = List.replicate 36 (0 : Int) := fun A => by
      rw [show gK A 0 0 = fun _ => 0 by funext x; exact if_neg (by omega)]; rfl
    rw [z, z, show ((0 : Nat) : Int) = 0 from rfl] at e
    rw [br_nd c, if_pos c, e]; rfl
  · rw [br_nnd c, if_neg c]
end
end Go.Proofs.Ythncjilcflilcaa

namespace Go.Proofs.Ythncjilcflilcaa
set_option linter.all false
open Go

/-! ### All of some numbers -/
/-! ### Tables -/
def canT (A B : Nat → Nat → Int) (s : Int) (i k : Nat) : Bool := decide (0 < A i k) && decide (B i k ≤ s)
section
variable {W : List Int} {s : Int} {L F : List (List Int)} {R : List Int} {A B : Nat → Nat → Int} {N : Nat}
theorem agD_T {i k : Nat} (hi : i < 6) (hk : k < 6) : agD (dkT W s L F R A B) i k = A i k := by
  unfold agD dkT
  rw [tabA_get (by omega), show (i * 6 + k) / 6 = i by omega, show (i * 6 + k) % 6 = k by omega]
theorem slD_T {i k : Nat} (hi : i < 6) (hk : k < 6) : slD (dkT W s L F R A B) i k = B i k := by
  unfold slD dkT
  rw [tabA_get (by omega), show (i * 6 + k) / 6 = i by omega, show (i * 6 + k) % 6 = k by omega]
theorem can_T {i k : Nat} (hi : i < 6) (hk : k < 6) : can_S N (dkT W s L F R A B) i k = some (canT A B s i k) := by
  rw [can_v (tabA_len _) (tabA_len _) hi hk]
  unfold canD canT
  rw [agD_T hi hk, slD_T hi hk]; rfl
theorem get_T {i k : Nat} (hi : i < 6) (hk : k < 6) {Z : Type} {f : Int → Option Z} : get (dkT W s L F R A B).2.2.2.2.2.1 (i * 6 + k) f = f (A i k) := by
  have e := agD_T (W := W) (s := s) (L := L) (F := F) (R := R) (A := A) (B := B) hi hk
  unfold agD at e
  rw [get_get 0 (by unfold dkT; rw [tabA_len]; omega), e]
theorem get_T2 {i k : Nat} (hi : i < 6) (hk : k < 6) {Z : Type} {f : Int → Option Z} : get (dkT W s L F R A B).2.2.2.2.2.2.1 (i * 6 + k) f = f (B i k) := by
  have e := slD_T (W := W) (s := s) (L := L) (F := F) (R := R) (A := A) (B := B) hi hk
  unfold slD at e
  rw [get_get 0 (by unfold dkT; rw [tabA_len]; omega), e]
abbrev canF (W : List Int) (s : Int) (L F : List (List Int)) : Nat → Nat → Bool := canT (agF W L F) (slF W L F) s
/-! ### A pair -/
theorem rpair_l1_p (h : Fine W s L F R) {i k : Nat} (hi : i < L.length) (hk : k < F.length) : ∀ (n t : Nat), W.length < n + t → t ≤ W.length →
    rpair_l1 N n i k (agP W (L.getD i []) (F.getD k []) t) (slP (L.getD i []) (F.getD k []) t) t W s L F R = some (agF W L F i k, slF W L F i k, W, s, L, F, R)
  | 0, t, hn, ht => by omega
  | n + 1, t, hn, ht => by
    unfold rpair_l1
    have hw5 := h.w5
    have ha := h.lw _ (getD_mem (d := []) hi)
    have hb := h.fw _ (getD_mem (d := []) hk)
    by_cases c : t < W.length
    · have e1 : -1 ≤ (L.getD i []).getD t 0 := (h.lv _ (getD_mem (d := []) hi) _ (getD_mem (d := 0) (by omega))).1
      have e2 : -1 ≤ (F.getD k []).getD t 0 := (h.fv _ (getD_mem (d := []) hk) _ (getD_mem (d := 0) (by omega))).1
      have ih := rpair_l1_p h hi hk n (t + 1) (by omega) (by omega)
      rw [nat_succ] at ih
      have b1 := agP_bound h.w (L.getD i []) (F.getD k []) (t := t) (by omega)
      have b2 := slP_bound (L.getD i []) (F.getD k []) (t := t) (by omega)
      have b3 := getD_W h.w t
      have s1 : agP W (L.getD i []) (F.getD k []) (t + 1) = agP W (L.getD i []) (F.getD k []) t + agA W (L.getD i []) (F.getD k []) t := rfl
      have s2 : slP (L.getD i []) (F.getD k []) (t + 1) = slP (L.getD i []) (F.getD k []) t + slA (L.getD i []) (F.getD k []) t := rfl
      rw [s1, s2] at ih
      clear s1 s2
      rw [br_dec (by omega), idx_eq (by omega) (gets hi []), idx_eq (by omega) (gets (by omega) 0), idx_eq (by omega) (gets hk []), idx_eq (by omega) (gets (by omega) 0)]
      have hj : ∀ x y, rpair_j2 N (rpair_l1 N n) i k x y t W s L F R = rpair_l1 N n i k x y (↑t + 1) W s L F R := fun x y => by
        unfold rpair_j2
        rw [chk_eq (by omega)]
      unfold rpair_j1
      simp only [hj]
      unfold agA slA at ih
      generalize (L.getD i []).getD t 0 = x at *
      generalize (F.getD k []).getD t 0 = y at *
      generalize agP W (L.getD i []) (F.getD k []) t = p at *
      generalize slP (L.getD i []) (F.getD k []) t = q at *
      by_cases c1 : 0 ≤ x
      rotate_left
      · rw [if_neg (by omega), if_neg (by omega), Int.add_zero, Int.add_zero] at ih
        rw [br_ndec c1, br_ndec c1, ih]
      by_cases c2 : 0 ≤ y
      rotate_left
      · rw [if_neg (by omega), if_neg (by omega), Int.add_zero, Int.add_zero] at ih
        rw [br_dec c1, br_ndec c2, br_dec c1, br_ndec c2, ih]
      by_cases c3 : x = y
      · rw [if_pos ⟨c3, by omega⟩, if_neg (by omega), Int.add_zero] at ih
        rw [br_dec c1, br_dec c2, br_dec c3, idx_eq (by omega) (gets c 0), chk_eq (by omega), br_dec c1, br_dec c2, br_nd c3, ih]
      · rw [if_neg (by omega), if_pos ⟨by omega, by omega, c3⟩, Int.add_zero] at ih
        rw [br_dec c1, br_dec c2, br_ndec c3, br_dec c1, br_dec c2, br_nnd c3, chk_eq (by omega), ih]
    · obtain rfl : t = W.length := by omega
      rw [br_ndec (by omega)]
      unfold agF slF
      rw [if_pos ⟨hi, hk⟩, if_pos ⟨hi, hk⟩]
theorem rpair_v (hN : 110 ≤ N) (h : Fine W s L F R) {i k : Nat} (hi : i < L.length) (hk : k < F.length) : rpair_S N W s L F R i k = some (agF W L F i k, slF W L F i k, canF W s L F i k) := by
  have e := rpair_l1_p (N := N) h hi hk N 0 (by have := h.w5; omega) (by omega)
  unfold rpair_S
  rw [show agP W (L.getD i []) (F.getD k []) 0 = 0 from rfl, show slP (L.getD i []) (F.getD k []) 0 = 0 from rfl, show ((0 : Nat) : Int) = 0 from rfl] at e
  rw [e]
  simp only [Option.bind_some]
  unfold canF canT
  by_cases c : 0 < agF W L F i k
  · rw [br_dec c, decide_eq_true c, Bool.true_and]
  · rw [br_ndec c, decide_eq_false c, Bool.false_and]
/-! ### Joins -/
theorem dfound_v (h : F.length ≤ 1000000) (x : Int) : dfound_S N (dkT W s L F R A B) x = some (decide (0 ≤ x ∧ x ≤ (F.length : Int) - 1)) := by
  unfold dfound_S
  rw [in_v]
  exact chk_eq (by simp only [dkT]; omega)
theorem dlost_v (h : L.length ≤ 1000000) (x : Int) : dlost_S N (dkT W s L F R A B) x = some (decide (0 ≤ x ∧ x ≤ (L.length : Int) - 1)) := by
  unfold dlost_S
  rw [in_v]
  exact chk_eq (by simp only [dkT]; omega)
end
end Go.Proofs.Ythncjilcflilcaa

namespace Go.Proofs.Ythncjilcflilcaa
set_option linter.all false
open Go

section
variable {N : Nat}
end
section
variable {W : List Int} {s : Int} {L F : List (List Int)} {R : List Int} {A B : Nat → Nat → Int} {N : Nat}
/-! ### What may be joined -/
def mayE (can : Nat → Nat → Bool) (m i : Nat) : List (Int × Unit) := (mayL can m i).map fun (j : Nat) => ((j : Int), ())
theorem mayR_T (hF : F.length ≤ 6) {i : Nat} (hi : i < 6) : mayR (dkT W s L F R A B) (dkT W s L F R A B) i = some (mayE (canT A B s) F.length i) := by
  unfold mayR mayE mayL mayF
  rw [if_pos ⟨⟨by omega, by omega⟩, hF, tabA_len _, tabA_len _⟩]
  congr 2
  simp only [Int.toNat_natCast, Nat.sub_zero]
  rw [← List.range_eq_range']
  refine List.filter_congr fun k hk => ?_
  have hk : k < F.length := by simpa [dkT] using hk
  unfold canD canT
  rw [agD_T hi (by omega), slD_T hi (by omega)]; rfl
end
end Go.Proofs.Ythncjilcflilcaa

namespace Go.Proofs.Ythncjilcflilcaa
set_option linter.all false
open Go

section
variable {W : List Int} {s : Int} {L F : List (List Int)} {R : List Int} {A B : Nat → Nat → Int} {N : Nat}
/-! ### Copies -/
theorem copyr_l1_p {l : List (List Int)} (hl : l.length ≤ 1000000) (hr : ∀ x ∈ l, x.length ≤ 1000000) : ∀ n k : Nat, l.length < n + k → k ≤ l.length → copyr_l1 N n l l.length k (l.take k ++ List.replicate (l.length - k) []) = some l
  | 0, k, h, _ => by omega
  | n + 1, k, h, hk => by
    unfold copyr_l1
    by_cases c : k < l.length
    · have ih := copyr_l1_p hl hr n (k + 1) (by omega) (by omega)
      rw [nat_succ, take_succ' c []] at ih
      rw [br_dec (by omega), idx_eq (by omega) (gets c []), copyi_v (hr _ (getD_mem c))]
      simp only [Option.bind_some, Int.toNat_natCast]
      have hlen : (l.take k ++ List.replicate (l.length - k) ([] : List Int)).length = l.length := by simp; omega
      rw [rng_eq (by rw [hlen]; omega), get_get [] (by rw [hlen]; exact c), chk_eq (by omega), ← ih]
      congr 1
      rw [List.set_append_right _ _ (by simp; omega), show k - (l.take k).length = 0 by simp; omega, show l.length - k = (l.length - (k + 1)) + 1 by omega, List.replicate_succ]
      simp
    · rw [br_ndec (by omega), List.take_of_length_le (by omega), show l.length - k = 0 by omega]; simp
theorem copyr_v {l : List (List Int)} (hl : l.length ≤ 1000000) (hN : l.length < N) (hr : ∀ x ∈ l, x.length ≤ 1000000) : copyr_S N l = some l := by
  unfold copyr_S
  have e := copyr_l1_p (N := N) hl hr N 0 (by omega) (by omega)
  simp only [List.take_zero, List.nil_append, Nat.sub_zero, Int.natCast_zero] at e
  rw [grd_eq (lmI_iff.2 (by omega)), Int.toNat_natCast, e]; rfl
theorem copyd_v (hN : 110 ≤ N) (h : Sm W L F R) : copyd_S N W s L F R = some (W, s, L, F, R) := by
  obtain ⟨hw, hl, hf, hr, hlr, hfr⟩ := h
  unfold copyd_S
  rw [copyi_v (by omega), copyr_v (by omega) (by omega) (fun x hx => by have := hlr x hx; omega), copyr_v (by omega) (by omega) (fun x hx => by have := hfr x hx; omega), copyi_v (by omega)]; rfl
theorem equali_v {l : List Int} (h : l.length ≤ 1000) (hN : l.length < N) : equali_S N l l = some true := by
  have := likei_v h hN
  unfold likei_S at this
  cases e : equali_S N l l with
  | none => rw [e] at this; cases this
  | some b => rw [e] at this; exact this
theorem liker_v {l : List (List Int)} (hl : l.length ≤ 1000) (hN : l.length < N) (hr : ∀ x ∈ l, x.length ≤ 1000 ∧ x.length < N) : liker_S N l l = some true := by
  have e : ∀ (n k : Nat), l.length < n + k → k ≤ l.length → equalf_l1 N n l l l.length k = some (.inr ()) := by
    intro n
    induction n with
    | zero => intro k h _; omega
    | succ n ih =>
      intro k h2 hk
      unfold equalf_l1
      by_cases c : k < l.length
      · have := ih (k + 1) (by omega) (by omega)
        rw [nat_succ] at this
        have hx := hr _ (getD_mem (d := []) c)
        rw [br_dec (by omega), idx_eq (by omega) (gets c []), idx_eq (by omega) (gets c []), equali_v hx.1 hx.2]
        simp only [Option.bind_some]
        rw [Bool.not_true, br_false, chk_eq (by omega), this]
      · rw [br_ndec (by omega)]
  have e0 := e N 0 (by omega) (by omega)
  simp only [Int.natCast_zero] at e0
  unfold liker_S equalf_S
  rw [br_nd rfl, e0]; rfl
theorem same_v (hN : 110 ≤ N) (h : Sm W L F R) : same_S N W s L F R W s L F R = some true := by
  obtain ⟨hw, hl, hf, hr, hlr, hfr⟩ := h
  unfold same_S
  rw [likei_v (by omega) (by omega), likei_v (by omega) (by omega), liker_v (by omega) (by omega) (fun x hx => ⟨by have := hlr x hx; omega, by have := hlr x hx; omega⟩), liker_v (by omega) (by omega) (fun x hx => ⟨by have := hfr x hx; omega, by have := hfr x hx; omega⟩)]
  simp [br]
theorem great_l2_p {u u2 : Int} {g : List (List (List Int))} {l : List (List Int)} (hl : l.length ≤ 1000000) : ∀ n k : Nat, l.length < n + k → k ≤ l.length → great_l2 N n u u2 l l.length k g = alls (fun r => decide ((r.length : Int) ≤ 12)) l k (u, u2, g)
  | 0, k, h, _ => by omega
  | n + 1, k, h, hk => by
    unfold great_l2
    by_cases c : k < l.length
    · have ih := great_l2_p (u := u) (u2 := u2) (g := g) hl n (k + 1) (by omega) (by omega)
      rw [nat_succ] at ih
      rw [br_dec (by omega), idx_eq (by omega) (gets c [])]
      by_cases d : 12 < ((l.getD k []).length : Int)
      · rw [br_dec d, alls_no [] c (by rw [decide_eq_false (by omega)])]
      · rw [br_ndec d, chk_eq (by omega), ih, alls_yes [] c (by rw [decide_eq_true (by omega)])]
    · rw [br_ndec (by omega), alls_end (by omega)]
theorem great_v (hN : 110 ≤ N) : great_S N W s L F R = some true ∨ great_S N W s L F R = some false ∧ Sm W L F R := by
  unfold great_S
  by_cases c1 : 10 < (W.length : Int)
  · rw [br_dec c1]; exact .inl rfl
  rw [br_ndec c1]
  by_cases c2 : 10 < (L.length : Int)
  · rw [br_dec c2]; exact .inl rfl
  rw [br_ndec c2]
  by_cases c3 : 10 < (F.length : Int)
  · rw [br_dec c3]; exact .inl rfl
  rw [br_ndec c3]
  by_cases c4 : 12 < (R.length : Int)
  · rw [br_dec c4]; exact .inl rfl
  rw [br_ndec c4]
  obtain ⟨n, rfl⟩ : ∃ n, N = n + 3 := ⟨N - 3, by omega⟩
  have e1 := great_l2_p (N := n + 3) (u := 2) (u2 := 0) (g := [L, F]) (l := L) (by omega) (n + 3) 0 (by omega) (by omega)
  have e2 := great_l2_p (N := n + 3) (u := 2) (u2 := 1) (g := [L, F]) (l := F) (by omega) (n + 3) 0 (by omega) (by omega)
  unfold alls at e1 e2
  simp only [List.drop_zero, Int.natCast_zero] at e1 e2
  have hl : (([L, F] : List (List (List Int))).length : Int) = 2 := rfl
  rw [hl]
  rw [great_l1, br_dec (by omega), rng_eq (by simp)]
  rw [show get [L, F] (0 : Int).toNat = fun f => f L from rfl]
  dsimp only
  rw [e1]
  by_cases d1 : L.all (fun r => decide ((r.length : Int) ≤ 12)) = true
  rotate_left
  · rw [if_neg d1]; exact .inl rfl
  rw [if_pos d1]
  simp only [Option.bind_some]
  rw [chk_eq (by omega), great_l1, br_dec (by omega), rng_eq (by simp)]
  rw [show get [L, F] ((0 : Int) + 1).toNat = fun f => f F from rfl]
  dsimp only
  rw [show ((0 : Int) + 1) = 1 from rfl, e2]
  by_cases d2 : F.all (fun r => decide ((r.length : Int) ≤ 12)) = true
  rotate_left
  · rw [if_neg d2]; exact .inl rfl
  rw [if_pos d2]
  simp only [Option.bind_some]
  rw [chk_eq (by omega), great_l1, br_ndec (by omega)]
  simp only [List.all_eq_true, decide_eq_true_eq] at d1 d2
  exact .inr ⟨rfl, by omega, by omega, by omega, by omega, fun x hx => by have := d1 x hx; omega, fun x hx => by have := d2 x hx; omega⟩
end
end Go.Proofs.Ythncjilcflilcaa

namespace Go.Proofs.Ythncjilcflilcaa
set_option linter.all false
open Go

abbrev MK := List ((Int × Int) × (Int × (Int × Int)))
def lkM (g : MK) (i u : Int) : Option (Int × (Int × Int)) := (g.find? fun (y : (Int × Int) × (Int × (Int × Int))) => Ty.beq (.pair (.int .i64) (.int .i64)) y.1 (i, u)).map (·.2)
theorem lkM_cons (a b : Int) (v : Int × (Int × Int)) (g : MK) (i u : Int) : lkM (((a, b), v) :: g) i u = if a = i ∧ b = u then some v else lkM g i u := by
  have e : Ty.beq (.pair (.int .i64) (.int .i64)) (a, b) (i, u) = decide (a = i ∧ b = u) := by
    show (decide (a = i) && decide (b = u)) = _
    by_cases h1 : a = i <;> by_cases h2 : b = u <;> simp [h1, h2]
  unfold lkM
  rw [List.find?_cons]
  by_cases h : a = i ∧ b = u
  · rw [if_pos h, show (Ty.beq (.pair (.int .i64) (.int .i64)) (((a, b), v) : (Int × Int) × (Int × (Int × Int))).1 (i, u)) = true by rw [e, decide_eq_true h]]; rfl
  · rw [if_neg h, show (Ty.beq (.pair (.int .i64) (.int .i64)) (((a, b), v) : (Int × Int) × (Int × (Int × Int))).1 (i, u)) = false by rw [e, decide_eq_false h]]
def hasM (g : MK) (i u : Nat) : Prop := (lkM g i u).isSome = true
def subM (g g' : MK) : Prop := ∀ i u : Nat, hasM g i u → hasM g' i u
theorem subM.refl (g : MK) : subM g g := fun _ _ h => h
theorem subM.trans {a b c : MK} (h : subM a b) (k : subM b c) : subM a c := fun i u x => k i u (h i u x)
/-- What is remembered is right, and so is what follows from it. -/
structure MOK (can : Nat → Nat → Bool) (t : Nat → Nat → Int) (m n : Nat) (g : MK) : Prop where
  val : ∀ (i u : Nat) v, lkM g i u = some v → v = rsR can t m (n - i) i u
  clo : ∀ i u : Nat, hasM g i u → i + 1 < n → hasM g (i + 1) u ∧ ∀ k ∈ mayL can m i, u.testBit k = false → hasM g (i + 1) (u ||| 2 ^ k)
theorem MOK.nil {can : Nat → Nat → Bool} {t : Nat → Nat → Int} {m n : Nat} : MOK can t m n [] := ⟨fun i u v h => by simp [lkM] at h, fun i u h => by simp [hasM, lkM] at h⟩
theorem MOK.cons {can : Nat → Nat → Bool} {t : Nat → Nat → Int} {m n : Nat} {g : MK} (h : MOK can t m n g) {i u : Nat} (h1 : i + 1 < n → hasM g (i + 1) u ∧ ∀ k ∈ mayL can m i, u.testBit k = false → hasM g (i + 1) (u ||| 2 ^ k)) :
    MOK can t m n ((((i : Int), (u : Int)), rsR can t m (n - i) i u) :: g) ∧ subM g ((((i : Int), (u : Int)), rsR can t m (n - i) i u) :: g) ∧ hasM ((((i : Int), (u : Int)), rsR can t m (n - i) i u) :: g) i u := by
  have hsub : subM g ((((i : Int), (u : Int)), rsR can t m (n - i) i u) :: g) := fun i' u' hh => by
    unfold hasM at *
    rw [lkM_cons]
    split
    · rfl
    · exact hh
  refine ⟨⟨fun i' u' v hv => ?_, fun i' u' hh hi => ?_⟩, hsub, ?_⟩
  · rw [lkM_cons] at hv
    split at hv
    · rename_i e
      obtain rfl : i = i' := by omega
      obtain rfl : u = u' := by omega
      simp only [Option.some.injEq] at hv
      exact hv.symm
    · exact h.val i' u' v hv
  · unfold hasM at hh
    rw [lkM_cons] at hh
    split at hh
    · rename_i e
      obtain rfl : i = i' := by omega
      obtain rfl : u = u' := by omega
      exact ⟨hsub _ _ (h1 hi).1, fun k hk hb => hsub _ _ ((h1 hi).2 k hk hb)⟩
    · obtain ⟨x, y⟩ := h.clo i' u' hh hi
      exact ⟨hsub _ _ x, fun k hk hb => hsub _ _ (y k hk hb)⟩
  · unfold hasM
    rw [lkM_cons, if_pos ⟨rfl, rfl⟩]; rfl
theorem MOK.get {can : Nat → Nat → Bool} {t : Nat → Nat → Int} {m n : Nat} {g : MK} (h : MOK can t m n g) {i u : Nat} (hh : hasM g i u) : lkM g i u = some (rsR can t m (n - i) i u) := by
  unfold hasM at hh
  cases e : lkM g i u with
  | none => rw [e] at hh; cases hh
  | some v => rw [h.val i u v e]
/-! ### Bounds -/
section
variable {W : List Int} {s : Int} {L F : List (List Int)} {R : List Int} {A B : Nat → Nat → Int} {N : Nat}
end
end Go.Proofs.Ythncjilcflilcaa

namespace Go.Proofs.Ythncjilcflilcaa
set_option linter.all false
open Go

section
variable {N : Nat}
end
/-! ### Joins without an error -/
section
variable {W : List Int} {s : Int} {L F : List (List Int)} {R : List Int} {A B : Nat → Nat → Int} {N : Nat}
end
end Go.Proofs.Ythncjilcflilcaa

namespace Go.Proofs.Ythncjilcflilcaa
set_option linter.all false
open Go

section
variable {W : List Int} {s : Int} {L F : List (List Int)} {R : List Int} {A B : Nat → Nat → Int} {N : Nat}
/-! ### Rewards -/
/-! ### Prices -/
theorem foldl_ub {f : Nat → Int} : ∀ (l : List Nat) (a : Int), a ≤ l.foldl (fun a k => max a (f k)) a ∧ (∀ k ∈ l, f k ≤ l.foldl (fun a k => max a (f k)) a) ∧ (l.foldl (fun a k => max a (f k)) a = a ∨ ∃ k ∈ l, l.foldl (fun a k => max a (f k)) a = f k)
  | [], a => ⟨Int.le_refl _, (fun k hk => by cases hk), .inl rfl⟩
  | x :: l, a => by
    obtain ⟨h1, h2, h3⟩ := foldl_ub (f := f) l (max a (f x))
    rw [List.foldl_cons]
    refine ⟨by omega, fun k hk => ?_, ?_⟩
    · rcases List.mem_cons.1 hk with rfl | hk
      · omega
      · exact h2 k hk
    · rcases h3 with h3 | ⟨k, hk, e⟩
      · rw [h3]
        rcases Int.le_total a (f x) with h | h
        · exact .inr ⟨x, by simp, by omega⟩
        · exact .inl (by omega)
      · exact .inr ⟨k, by simp [hk], e⟩
end
end Go.Proofs.Ythncjilcflilcaa

namespace Go.Proofs.Ythncjilcflilcaa
set_option linter.all false
open Go

section
variable {N : Nat}
end
section
variable {W : List Int} {s : Int} {L F : List (List Int)} {R : List Int} {A B : Nat → Nat → Int} {N : Nat}
end
end Go.Proofs.Ythncjilcflilcaa

namespace Go.Proofs.Ythncjilcflilcaa
set_option linter.all false
open Go

section
variable {W : List Int} {s : Int} {L F : List (List Int)} {R : List Int} {A B : Nat → Nat → Int} {N : Nat}
/-! ### The reference -/
end
end Go.Proofs.Ythncjilcflilcaa

namespace Go.Proofs.Ythncjilcflilcaa
set_option linter.all false
open Go

section
variable {W : List Int} {s : Int} {L F : List (List Int)} {R : List Int} {A B : Nat → Nat → Int} {N : Nat}
/-! ### What is spare -/
theorem ragree_v (hN : 110 ≤ N) (h : Sm W L F R) (a b : Int) : ragree_S N W s L F R a b = some (if errD W s L F R = 0 then if ¬ (0 ≤ a ∧ a ≤ (L.length : Int) - 1) then (0, 0, false, 1) else if ¬ (0 ≤ b ∧ b ≤ (F.length : Int) - 1) then (0, 0, false, 1) else (agF W L F a.toNat b.toNat, slF W L F a.toNat b.toNat, canF W s L F a.toNat b.toNat, 0) else (0, 0, false, errD W s L F R)) := by
  have hl := h.l; have hf := h.f
  unfold ragree_S
  rw [rcheck_v hN h]
  simp only [Option.bind_some]
  by_cases c : errD W s L F R = 0
  rotate_left
  · rw [br_nnd c, if_neg c]
  have hF := errD_iff.1 c
  rw [br_nd c, if_pos c, chk_eq (by omega), off_v]
  simp only [Option.bind_some]
  by_cases c1 : 0 ≤ a ∧ a ≤ (L.length : Int) - 1
  rotate_left
  · rw [br_nnd c1, if_pos c1]
  rw [br_nd c1, if_neg (not_not_intro c1), chk_eq (by omega), off_v]
  simp only [Option.bind_some]
  by_cases c2 : 0 ≤ b ∧ b ≤ (F.length : Int) - 1
  rotate_left
  · rw [br_nnd c2, if_pos c2]
  rw [br_nd c2, if_neg (not_not_intro c2)]
  obtain ⟨i, rfl⟩ : ∃ i : Nat, a = i := ⟨a.toNat, (Int.toNat_of_nonneg c1.1).symm⟩
  obtain ⟨k, rfl⟩ : ∃ k : Nat, b = k := ⟨b.toNat, (Int.toNat_of_nonneg c2.1).symm⟩
  rw [rpair_v hN hF (by omega) (by omega)]; rfl
end
end Go.Proofs.Ythncjilcflilcaa

namespace Go.Proofs.Ythncjilcflilcaa
set_option linter.all false
open Go

section
variable {W : List Int} {s : Int} {L F : List (List Int)} {R : List Int} {A B : Nat → Nat → Int} {N : Nat}
/-- Those of the numbers below n that are so. -/
def selN (p : Nat → Bool) (n : Nat) : List Int := ((List.range n).filter p).map fun (k : Nat) => (k : Int)
theorem selN_succ (p : Nat → Bool) (n : Nat) : selN p (n + 1) = selN p n ++ (if p n = true then [(n : Int)] else []) := by
  unfold selN
  rw [List.range_succ, List.filter_append, List.map_append]
  congr 1
  rw [List.filter_cons]
  split <;> rfl
theorem selN_len (p : Nat → Bool) (n : Nat) : (selN p n).length ≤ n := by
  have := List.length_filter_le p (List.range n)
  simpa [selN] using this
/-- The most that a lost thing agrees in with one that it can be joined with. -/
def mtI (W : List Int) (s : Int) (L F : List (List Int)) (i : Nat) : Int := (mayL (canF W s L F) F.length i).foldl (fun a k => max a (agF W L F i k)) 0
def clm (W : List Int) (s : Int) (L F : List (List Int)) (k i : Nat) : Bool := canF W s L F i k && decide (agF W L F i k = mtI W s L F i)
def claimL (W : List Int) (s : Int) (L F : List (List Int)) (k : Nat) : List Int := selN (clm W s L F k) L.length
def cntB (W : List Int) (s : Int) (L F : List (List Int)) (k : Nat) : Bool := decide (2 ≤ (claimL W s L F k).length)
def contL (W : List Int) (s : Int) (L F : List (List Int)) : List Int := selN (cntB W s L F) F.length
theorem mtI_le {i k : Nat} (hk : k < F.length) (hc : canF W s L F i k = true) : agF W L F i k ≤ mtI W s L F i :=
  (foldl_ub (f := fun k => agF W L F i k) (mayL (canF W s L F) F.length i) 0).2.1 k (mem_mayL.2 ⟨hk, hc⟩)
theorem dclaims_l2_p (hF : F.length ≤ 6) {i : Nat} (hi : i < 6) {found u u2 u5 : Int} {out : List Int} : ∀ (ks : List Nat) (x : Int), (∀ k ∈ ks, k < F.length) →
    dclaims_l2 N (ks.map fun (j : Nat) => ((j : Int), ())) found u u2 (dkT W s L F R A B) (dkT W s L F R A B) u5 (dkT W s L F R A B) out i x = some (found, u, u2, dkT W s L F R A B, out, (i : Int), ks.foldl (fun a k => max a (A i k)) x)
  | [], x, _ => rfl
  | k :: ks, x, hk => by
    have hk0 := hk k (by simp)
    have ih := dclaims_l2_p hF hi (found := found) (u := u) (u2 := u2) (u5 := u5) (out := out) ks (max x (A i k)) (fun y hy => hk y (by simp [hy]))
    rw [List.map_cons, List.foldl_cons, dclaims_l2, dclaims_l2_b]
    dsimp only
    rw [rng_eq (by omega), rng_eq (by omega)]
    simp only [Int.toNat_natCast]
    rw [get_T hi (by omega), ih]
theorem dclaims_l1_p (h : Fine W s L F R) {k : Nat} (hk : k < F.length) : ∀ (n i : Nat), L.length < n + i → i ≤ L.length →
    dclaims_l1 N n k L.length i (dkO W s L F R) (selN (clm W s L F k) i) = some (claimL W s L F k)
  | 0, i, hn, hi => by omega
  | n + 1, i, hn, hi => by
    unfold dclaims_l1
    have hl6 := h.l6; have hf6 := h.f6
    by_cases c : i < L.length
    · have ih := dclaims_l1_p h hk n (i + 1) (by omega) (by omega)
      rw [nat_succ, selN_succ] at ih
      have hlen := selN_len (clm W s L F k) i
      have em : may_S N (dkO W s L F R) (i : Int) = some (dkO W s L F R, dkO W s L F R, (i : Int)) := rfl
      rw [br_dec (by omega), em]
      simp only [Option.bind_some]
      unfold dkO at ih ⊢
      rw [mayR_T hf6 (by omega)]
      simp only [Option.bind_some]
      unfold mayE
      rw [dclaims_l2_p hf6 (by omega) _ _ (fun k hk => (mem_mayL.1 hk).1)]
      simp only [Option.bind_some]
      rw [can_T (by omega) (by omega)]
      simp only [Option.bind_some]
      unfold dclaims_j1
      cases hc : canT (agF W L F) (slF W L F) s i k with
      | false =>
        have hc : canF W s L F i k = false := hc
        have e : clm W s L F k i = false := by unfold clm; rw [hc]; rfl
        rw [e, if_neg (by simp), List.append_nil] at ih
        rw [br_false, chk_eq (by omega), ih]
      | true =>
        have hc : canF W s L F i k = true := hc
        rw [br_true, rng_eq (by omega), rng_eq (by omega)]
        simp only [Int.toNat_natCast]
        rw [get_T (by omega) (by omega), show (mayL (canT (agF W L F) (slF W L F) s) F.length i).foldl (fun a k => max a (agF W L F i k)) 0 = mtI W s L F i from rfl]
        by_cases d : agF W L F i k = mtI W s L F i
        · have e : clm W s L F k i = true := by unfold clm; rw [hc, decide_eq_true d]; rfl
          rw [e, if_pos rfl] at ih
          rw [br_dec d, lim_eq (by simp; omega), chk_eq (by omega), ih]
        · have e : clm W s L F k i = false := by unfold clm; rw [hc, decide_eq_false d]; rfl
          rw [e, if_neg (by simp), List.append_nil] at ih
          rw [br_ndec d, chk_eq (by omega), ih]
    · obtain rfl : i = L.length := by omega
      rw [br_ndec (by omega)]
      rfl
theorem dclaims_v (hN : 110 ≤ N) (h : Fine W s L F R) {k : Nat} (hk : k < F.length) : dclaims_S N (dkO W s L F R) k = some (claimL W s L F k) := by
  have hl6 := h.l6
  have e := dclaims_l1_p (N := N) h hk N 0 (by omega) (by omega)
  rw [show ((0 : Nat) : Int) = 0 from rfl, show selN (clm W s L F k) 0 = [] from rfl] at e
  unfold dclaims_S
  rw [show (dkO W s L F R).2.2.1 = L from rfl, e]; rfl
theorem claims_v (hN : 110 ≤ N) (h : Sm W L F R) (a : Int) : claims__S N W s L F R a = some (if errD W s L F R = 0 then if ¬ (0 ≤ a ∧ a ≤ (F.length : Int) - 1) then ([], 1) else (claimL W s L F a.toNat, 0) else ([], errD W s L F R)) := by
  unfold claims__S
  rw [opened_v hN h]
  by_cases c : errD W s L F R = 0
  rotate_left
  · rw [if_neg c, if_neg c]
    simp only [Option.bind_some]
    rw [br_nnd c]
  have hF := errD_iff.1 c
  have hf6 := hF.f6
  rw [if_pos c, if_pos c]
  simp only [Option.bind_some]
  rw [br_nd (by first | trivial | rfl), show dfound_S N (dkO W s L F R) a = _ from dfound_v (by omega) a]
  simp only [Option.bind_some]
  by_cases c1 : 0 ≤ a ∧ a ≤ (F.length : Int) - 1
  rotate_left
  · rw [br_nnd c1, if_pos c1]
  obtain ⟨k, rfl⟩ : ∃ k : Nat, a = k := ⟨a.toNat, (Int.toNat_of_nonneg c1.1).symm⟩
  rw [br_nd c1, if_neg (not_not_intro c1), dclaims_v hN hF (by omega)]
  rfl
theorem contests_l1_p (hN : 110 ≤ N) (h : Fine W s L F R) : ∀ (n k : Nat), F.length < n + k → k ≤ F.length →
    contests_l1 N n (dkO W s L F R) F.length k (selN (cntB W s L F) k) = some (contL W s L F)
  | 0, k, hn, hk => by omega
  | n + 1, k, hn, hk => by
    unfold contests_l1
    have hf6 := h.f6
    by_cases c : k < F.length
    · have ih := contests_l1_p hN h n (k + 1) (by omega) (by omega)
      rw [nat_succ, selN_succ] at ih
      have hlen := selN_len (cntB W s L F) k
      rw [br_dec (by omega), dclaims_v hN h c]
      simp only [Option.bind_some]
      unfold contests_j1
      by_cases d : 2 ≤ (claimL W s L F k).length
      · have e : cntB W s L F k = true := decide_eq_true d
        rw [e, if_pos rfl] at ih
        rw [br_dec (by omega), lim_eq (by simp; omega), chk_eq (by omega), ih]
      · have e : cntB W s L F k = false := decide_eq_false d
        rw [e, if_neg (by simp), List.append_nil] at ih
        rw [br_ndec (by omega), chk_eq (by omega), ih]
    · obtain rfl : k = F.length := by omega
      rw [br_ndec (by omega)]
      rfl
theorem contests_v (hN : 110 ≤ N) (h : Sm W L F R) : contests_S N W s L F R = some (if errD W s L F R = 0 then (contL W s L F, 0) else ([], errD W s L F R)) := by
  unfold contests_S
  rw [opened_v hN h]
  by_cases c : errD W s L F R = 0
  rotate_left
  · rw [if_neg c, if_neg c]
    simp only [Option.bind_some]
    rw [br_nnd c]
  have hF := errD_iff.1 c
  have hf6 := hF.f6
  have e := contests_l1_p hN hF N 0 (by omega) (by omega)
  rw [show ((0 : Nat) : Int) = 0 from rfl, show selN (cntB W s L F) 0 = [] from rfl] at e
  rw [if_pos c, if_pos c]
  simp only [Option.bind_some]
  rw [br_nd (by first | trivial | rfl), e]
  rfl
/-! ### The reference -/
theorem rmay_l1_p (hN : 110 ≤ N) (h : Fine W s L F R) {i : Nat} (hi : i < L.length) : ∀ (n k : Nat), F.length < n + k → k ≤ F.length →
    rmay_l1 N n i k W s L F R (selN (canF W s L F i) k) = some (selN (canF W s L F i) F.length)
  | 0, k, hn, hk => by omega
  | n + 1, k, hn, hk => by
    unfold rmay_l1
    have hf6 := h.f6
    by_cases c : k < F.length
    · have ih := rmay_l1_p hN h hi n (k + 1) (by omega) (by omega)
      rw [nat_succ, selN_succ] at ih
      have hlen := selN_len (canF W s L F i) k
      rw [br_dec (by omega), rpair_v hN h hi c]
      simp only [Option.bind_some]
      unfold rmay_j1
      cases d : canF W s L F i k with
      | true =>
        rw [d, if_pos rfl] at ih
        rw [br_true, lim_eq (by simp; omega), chk_eq (by omega), ih]
      | false =>
        rw [d, if_neg (by simp), List.append_nil] at ih
        rw [br_false, chk_eq (by omega), ih]
    · obtain rfl : k = F.length := by omega
      rw [br_ndec (by omega)]
theorem rmay_v (hN : 110 ≤ N) (h : Sm W L F R) (a : Int) : rmay_S N W s L F R a = some (if errD W s L F R = 0 then if ¬ (0 ≤ a ∧ a ≤ (L.length : Int) - 1) then ([], 1) else (selN (canF W s L F a.toNat) F.length, 0) else ([], errD W s L F R)) := by
  unfold rmay_S
  rw [rcheck_v hN h]
  simp only [Option.bind_some]
  by_cases c : errD W s L F R = 0
  rotate_left
  · rw [br_nnd c, if_neg c]
  have hF := errD_iff.1 c
  have hf6 := hF.f6; have hl6 := hF.l6
  rw [br_nd c, if_pos c, chk_eq (by omega), off_v]
  simp only [Option.bind_some]
  by_cases c1 : 0 ≤ a ∧ a ≤ (L.length : Int) - 1
  rotate_left
  · rw [br_nnd c1, if_pos c1]
  obtain ⟨i, rfl⟩ : ∃ k : Nat, a = k := ⟨a.toNat, (Int.toNat_of_nonneg c1.1).symm⟩
  have e := rmay_l1_p hN hF (i := i) (by omega) N 0 (by omega) (by omega)
  rw [show ((0 : Nat) : Int) = 0 from rfl, show selN (canF W s L F i) 0 = [] from rfl] at e
  rw [br_nd c1, if_neg (not_not_intro c1), e]
  rfl
/-- Whether a lost thing claims a found one, by all others up to one. -/
def isC (W : List Int) (s : Int) (L F : List (List Int)) (k i n : Nat) : Bool := canF W s L F i k && (List.range n).all fun j => !(canF W s L F i j && decide (agF W L F i k < agF W L F i j))
theorem isC_succ (k i n : Nat) : isC W s L F k i (n + 1) = (isC W s L F k i n && !(canF W s L F i n && decide (agF W L F i k < agF W L F i n))) := by
  unfold isC
  rw [List.range_succ, List.all_append, ← Bool.and_assoc]
  simp
theorem isC_clm {k i : Nat} (hk : k < F.length) (h : Fine W s L F R) : isC W s L F k i F.length = clm W s L F k i := by
  unfold isC clm
  cases hc : canF W s L F i k with
  | false => rfl
  | true =>
    rw [Bool.true_and, Bool.true_and]
    have hle := mtI_le hk hc
    obtain ⟨h1, h2, h3⟩ := foldl_ub (f := fun k => agF W L F i k) (mayL (canF W s L F) F.length i) 0
    rw [Bool.eq_iff_iff, List.all_eq_true, decide_eq_true_eq]
    have hpos : 0 < agF W L F i k := by
      have : canT (agF W L F) (slF W L F) s i k = true := hc
      unfold canT at this
      rw [Bool.and_eq_true, decide_eq_true_eq] at this
      exact this.1
    constructor
    · intro ha
      rcases h3 with h3 | ⟨j, hj, e⟩
      · have : mtI W s L F i = 0 := h3
        omega
      · obtain ⟨j1, j2⟩ := mem_mayL.1 hj
        have := ha j (List.mem_range.2 j1)
        rw [j2, Bool.true_and, Bool.not_eq_true', decide_eq_false_iff_not] at this
        have e : mtI W s L F i = agF W L F i j := e
        omega
    · intro e j hj
      rw [List.mem_range] at hj
      rw [Bool.not_eq_true', Bool.and_eq_false_iff]
      by_cases hcj : canF W s L F i j = true
      · right
        rw [decide_eq_false_iff_not]
        have := mtI_le hj hcj
        omega
      · left; simpa using hcj
theorem rclaims1_l2_p (hN : 110 ≤ N) (h : Fine W s L F R) {k i : Nat} (hk : k < F.length) (hi : i < L.length) {out : List Int} : ∀ (n j : Nat), F.length < n + j → j ≤ F.length →
    rclaims1_l2 N n k i (agF W L F i k) (isC W s L F k i j) j W s L F R out = some ((k : Int), (i : Int), isC W s L F k i F.length, W, s, L, F, R, out)
  | 0, j, hn, hj => by omega
  | n + 1, j, hn, hj => by
    unfold rclaims1_l2
    have hf6 := h.f6
    by_cases c : j < F.length
    · have ih := rclaims1_l2_p hN h hk hi (out := out) n (j + 1) (by omega) (by omega)
      rw [nat_succ, isC_succ] at ih
      rw [br_dec (by omega), rpair_v hN h hi c]
      simp only [Option.bind_some]
      unfold rclaims1_j1
      cases d : canF W s L F i j with
      | false =>
        rw [d, Bool.false_and, Bool.not_false, Bool.and_true] at ih
        rw [br_false, chk_eq (by omega), ih]
      | true =>
        rw [d, Bool.true_and] at ih
        rw [br_true]
        by_cases c2 : agF W L F i k < agF W L F i j
        · rw [decide_eq_true c2, Bool.not_true, Bool.and_false] at ih
          rw [br_dec c2, chk_eq (by omega), ih]
        · rw [decide_eq_false c2, Bool.not_false, Bool.and_true] at ih
          rw [br_ndec c2, chk_eq (by omega), ih]
    · obtain rfl : j = F.length := by omega
      rw [br_ndec (by omega)]
theorem rclaims1_l1_p (hN : 110 ≤ N) (h : Fine W s L F R) {k : Nat} (hk : k < F.length) : ∀ (n i : Nat), L.length < n + i → i ≤ L.length →
    rclaims1_l1 N n k i W s L F R (selN (clm W s L F k) i) = some (claimL W s L F k)
  | 0, i, hn, hi => by omega
  | n + 1, i, hn, hi => by
    unfold rclaims1_l1
    have hl6 := h.l6; have hf6 := h.f6
    by_cases c : i < L.length
    · have ih := rclaims1_l1_p hN h hk n (i + 1) (by omega) (by omega)
      rw [nat_succ, selN_succ] at ih
      have hlen := selN_len (clm W s L F k) i
      have e := rclaims1_l2_p hN h hk c (out := selN (clm W s L F k) i) N 0 (by omega) (by omega)
      rw [show ((0 : Nat) : Int) = 0 from rfl, isC_clm hk h, show isC W s L F k i 0 = canF W s L F i k by unfold isC; simp] at e
      rw [br_dec (by omega), rpair_v hN h c hk]
      simp only [Option.bind_some]
      rw [e]
      simp only [Option.bind_some]
      unfold rclaims1_j2
      cases d : clm W s L F k i with
      | true =>
        rw [d, if_pos rfl] at ih
        rw [br_true, lim_eq (by simp; omega), chk_eq (by omega), ih]
      | false =>
        rw [d, if_neg (by simp), List.append_nil] at ih
        rw [br_false, chk_eq (by omega), ih]
    · obtain rfl : i = L.length := by omega
      rw [br_ndec (by omega)]
      rfl
theorem rclaims1_v (hN : 110 ≤ N) (h : Fine W s L F R) {k : Nat} (hk : k < F.length) : rclaims1_S N W s L F R k = some (claimL W s L F k) := by
  have hl6 := h.l6
  have e := rclaims1_l1_p hN h hk N 0 (by omega) (by omega)
  rw [show ((0 : Nat) : Int) = 0 from rfl, show selN (clm W s L F k) 0 = [] from rfl] at e
  unfold rclaims1_S
  rw [e]; rfl
theorem rclaims_v (hN : 110 ≤ N) (h : Sm W L F R) (a : Int) : rclaims_S N W s L F R a = some (if errD W s L F R = 0 then if ¬ (0 ≤ a ∧ a ≤ (F.length : Int) - 1) then ([], 1) else (claimL W s L F a.toNat, 0) else ([], errD W s L F R)) := by
  unfold rclaims_S
  rw [rcheck_v hN h]
  simp only [Option.bind_some]
  by_cases c : errD W s L F R = 0
  rotate_left
  · rw [br_nnd c, if_neg c]
  have hF := errD_iff.1 c
  have hf6 := hF.f6
  rw [br_nd c, if_pos c, chk_eq (by omega), off_v]
  simp only [Option.bind_some]
  by_cases c1 : 0 ≤ a ∧ a ≤ (F.length : Int) - 1
  rotate_left
  · rw [br_nnd c1, if_pos c1]
  obtain ⟨k, rfl⟩ : ∃ k : Nat, a = k := ⟨a.toNat, (Int.toNat_of_nonneg c1.1).symm⟩
  rw [br_nd c1, if_neg (not_not_intro c1), rclaims1_v hN hF (by omega)]
  rfl
theorem rcontests_l1_p (hN : 110 ≤ N) (h : Fine W s L F R) : ∀ (n k : Nat), F.length < n + k → k ≤ F.length →
    rcontests_l1 N n k W s L F R (selN (cntB W s L F) k) = some (contL W s L F)
  | 0, k, hn, hk => by omega
  | n + 1, k, hn, hk => by
    unfold rcontests_l1
    have hf6 := h.f6
    by_cases c : k < F.length
    · have ih := rcontests_l1_p hN h n (k + 1) (by omega) (by omega)
      rw [nat_succ, selN_succ] at ih
      have hlen := selN_len (cntB W s L F) k
      rw [br_dec (by omega), rclaims1_v hN h c]
      simp only [Option.bind_some]
      unfold rcontests_j1
      by_cases d : 2 ≤ (claimL W s L F k).length
      · have e : cntB W s L F k = true := decide_eq_true d
        rw [e, if_pos rfl] at ih
        rw [br_dec (by omega), lim_eq (by simp; omega), chk_eq (by omega), ih]
      · have e : cntB W s L F k = false := decide_eq_false d
        rw [e, if_neg (by simp), List.append_nil] at ih
        rw [br_ndec (by omega), chk_eq (by omega), ih]
    · obtain rfl : k = F.length := by omega
      rw [br_ndec (by omega)]
      rfl
theorem rcontests_v (hN : 110 ≤ N) (h : Sm W L F R) : rcontests_S N W s L F R = some (if errD W s L F R = 0 then (contL W s L F, 0) else ([], errD W s L F R)) := by
  unfold rcontests_S
  rw [rcheck_v hN h]
  simp only [Option.bind_some]
  by_cases c : errD W s L F R = 0
  rotate_left
  · rw [br_nnd c, if_neg c]
  have hF := errD_iff.1 c
  have hf6 := hF.f6
  have e := rcontests_l1_p hN hF N 0 (by omega) (by omega)
  rw [show ((0 : Nat) : Int) = 0 from rfl, show selN (cntB W s L F) 0 = [] from rfl] at e
  rw [br_nd c, if_pos c, e]
  rfl
end
end Go.Proofs.Ythncjilcflilcaa

namespace Go.Proofs.Ythncjilcflilcaa
set_option linter.all false
open Go
theorem awake_v : awake_S 1100 = some true := by kernel_rfl
end Go.Proofs.Ythncjilcflilcaa

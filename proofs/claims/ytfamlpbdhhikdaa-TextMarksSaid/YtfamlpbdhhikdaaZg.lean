/-
  Parts of a proof, put together: X5, TD6, TD7, TD8, TD9, TB, TL1, TL2, TL3, TL4, TL5, TL6, TL7, TL8, TL9, TM1, TM2, X7, TM3, TShl, X8, TM4.
  Conditions: none.
-/
import Derived.Ground.Names2Prog
import Derived.Shelf.Lay
import Derived.Shelf.Slices.Delete
import Derived.Test.YtfamlpbdhhikdaaZd
import Derived.Test.YtfamlpbdhhikdaaZf
namespace Go.Proofs.Ytfamlpbdhhikdaa
set_option linter.all false
open Go

noncomputable abbrev readings_self (self : Int → Option (List (List Int))) : Spec := { f := 93, ins := ⟨[.i .i64], []⟩, outs := [⟨[.ols 0], [.lst (.sl (.int .i64))]⟩], run := fun p k => (self p.1.1).bind fun r => k (((), ()), (r, ())) }
def readings_l2 (N : Nat) (self : Int → Option (List (List Int))) : Nat → Int → Int → Int → (List (List Int)) → (List (List Int)) → Option (Int × Int × List (List Int))
  | 0, _, _, _, _, _ => none
  | n_ + 1, n, k, i, out, rest =>
    br (decide (i < (rest.length : Int)))
      (rng i rest.length <|
      get rest i.toNat fun x_2 =>
      lim ([k].length + x_2.length) <|
      lim (out.length + ([([k] ++ x_2)]).length) <|
      chk (i + 1) <|
      readings_l2 N self n_ n k (i + 1) (out ++ [([k] ++ x_2)]) rest)
      (some ((n, k, out)))
def readings_l1 (N : Nat) (self : Int → Option (List (List Int))) : Nat → Int → Int → (List (List Int)) → Option (List (List Int))
  | 0, _, _, _ => none
  | n_ + 1, n, k, out =>
    br (decide (k ≤ n))
      (chk (n - k) <|
      (self (n - k)).bind fun x_1 =>
      (readings_l2 N self N n k 0 out x_1).bind fun (n_3, k_4, out_5) =>
      chk (k_4 + 1) <|
      readings_l1 N self n_ n_3 (k_4 + 1) out_5)
      (some (out))
def readings_S (N : Nat) (self : Int → Option (List (List Int))) (n : Int) : Option (List (List Int)) :=
  br (decide (n = 0))
    (some ([[]]))
    ((readings_l1 N self N n 1 []).bind fun out_6 =>
    some out_6)
noncomputable def readings_sp (N : Nat) (self : Int → Option (List (List Int))) : List Spec := [readings_self self]
theorem readings_all (N : Nat) (self : Int → Option (List (List Int))) (hself : SpecOK Try.prog (readings_self self)) : AllP (SpecOK Try.prog) (readings_sp N self) := ⟨hself, trivial⟩
noncomputable def readings_c : Code := (Try.f93.body).getD .skip
noncomputable abbrev readings_B : Body := { c := readings_c, n := 36, res := [.tmp 2], outs := [⟨[.ols 0], [.lst (.sl (.int .i64))]⟩], m0 := 0 }
abbrev readings_rt : altD readings_B.outs → Option (List (List Int)) := fun r => some r.2.1
abbrev readings_l2_at : List PI := [.c [1, 1, 1, 0, 1, 0, 0, 1, 0, 0, 1, 1, 0, 0, 0, 0], .c [1, 1, 1, 0, 1, 0, 0, 1, 0, 0, 1, 1, 0, 0, 0, 1], .c [1, 1, 1, 0, 1, 0, 0, 1, 0, 0, 1, 1, 0, 0, 1], .l [1, 1, 1, 0, 1, 0, 0, 1, 0, 0, 1, 1, 0, 0], .b 2, .b 1, .c [1, 1, 1, 0, 1, 0, 0, 1, 1], .l [1, 1, 1, 0, 1, 0, 0], .b 0, .c [1, 1, 1, 1]]
abbrev readings_l2_st : Sta := ⟨[0, 3, 4, 5, 6], ⟨[.i .i64, .ols 0, .i .i64, .ols 1, .i .i64], [.lst (.sl (.int .i64)), .lst (.sl (.int .i64))]⟩⟩
abbrev readings_l2_h (rec : Int → Int → Int → (List (List Int)) → (List (List Int)) → Option (Int × Int × List (List Int))) : Leaf (Int × Int × List (List Int)) := ⟨readings_l2_at, readings_l2_st, fun p => rec p.1.1 p.1.2.2.1 p.1.2.2.2.2.1 p.2.1 p.2.2.1⟩
abbrev readings_l2_e0 : Leaf (Int × Int × List (List Int)) := ⟨[.c [1, 1, 1, 0, 1, 0, 0, 1, 1], .l [1, 1, 1, 0, 1, 0, 0], .b 0, .c [1, 1, 1, 1]], ⟨[0, 3, 4], ⟨[.i .i64, .ols 0, .i .i64], [.lst (.sl (.int .i64))]⟩⟩, fun p => some ((p.1.1, p.1.2.2.1, p.2.1))⟩
noncomputable def readings_l2_L (N : Nat) (self : Int → Option (List (List Int))) : LoopS := { at_ := readings_l2_at, sta := readings_l2_st, exits := [([.c [1, 1, 1, 0, 1, 0, 0, 1, 1], .l [1, 1, 1, 0, 1, 0, 0], .b 0, .c [1, 1, 1, 1]], ⟨[0, 3, 4], ⟨[.i .i64, .ols 0, .i .i64], [.lst (.sl (.int .i64))]⟩⟩)], run := fun p k => (readings_l2 N self N p.1.1 p.1.2.2.1 p.1.2.2.2.2.1 p.2.1 p.2.2.1).bind fun e => k (.inl ((e.1, (), e.2.1, ()), (e.2.2, ()))) }
theorem readings_l2_eq (N : Nat) (self : Int → Option (List (List Int))) (n_ : Nat) (n : Int) (k : Int) (i : Int) (out : List (List Int)) (rest : List (List Int)) : ev (Z := Int × Int × List (List Int)) Try.prog (readings_sp N self) readings_B [] [readings_l2_h (readings_l2 N self n_), readings_l2_e0] none 400 true readings_l2_at (stL readings_l2_st ((n, (), k, (), i, ()), (out, rest, ()))) (stH readings_l2_st ((n, (), k, (), i, ()), (out, rest, ()))) = readings_l2 N self (n_ + 1) n k i out rest := by kernel_rfl
theorem readings_l2_ok (N : Nat) (self : Int → Option (List (List Int))) (hself : SpecOK Try.prog (readings_self self)) {top : Bool} : LoopOK Try.prog readings_B.c readings_B.n readings_B.m0 top (readings_l2_L N self) := loop_of_ev (Z := Int × Int × List (List Int)) (N := N) (fun m p => readings_l2 N self m p.1.1 p.1.2.2.1 p.1.2.2.2.2.1 p.2.1 p.2.2.1) (fun e => .inl ((e.1, (), e.2.1, ()), (e.2.2, ()))) (fun _ _ _ => rfl) (fun _ => rfl) (fun m z E Xc hE hX hrec hx => leaf_of_ev (B := readings_B) (loops := []) (leaves := [readings_l2_h (readings_l2 N self m), readings_l2_e0]) (readings_all N self hself) mixed trivial hE hX ⟨hrec, (fun p hp => by obtain rfl := Option.some.inj hp; exact hx), trivial⟩ RetOK.no (fun p => readings_l2_eq N self m p.1.1 p.1.2.2.1 p.1.2.2.2.2.1 p.2.1 p.2.2.1))
abbrev readings_l1_at : List PI := [.c [1, 1, 1, 0, 1, 0, 0, 0, 0], .c [1, 1, 1, 0, 1, 0, 0, 0, 1], .c [1, 1, 1, 0, 1, 0, 0, 1], .l [1, 1, 1, 0, 1, 0, 0], .b 0, .c [1, 1, 1, 1]]
abbrev readings_l1_st : Sta := ⟨[0, 3, 4], ⟨[.i .i64, .ols 0, .i .i64], [.lst (.sl (.int .i64))]⟩⟩
abbrev readings_l1_h (rec : Int → Int → (List (List Int)) → Option (List (List Int))) : Leaf (List (List Int)) := ⟨readings_l1_at, readings_l1_st, fun p => rec p.1.1 p.1.2.2.1 p.2.1⟩
abbrev readings_l1_e0 : Leaf (List (List Int)) := ⟨[.c [1, 1, 1, 1, 0], .c [1, 1, 1, 1, 1]], ⟨[3], ⟨[.ols 0], [.lst (.sl (.int .i64))]⟩⟩, fun p => some (p.2.1)⟩
noncomputable def readings_l1_L (N : Nat) (self : Int → Option (List (List Int))) : LoopS := { at_ := readings_l1_at, sta := readings_l1_st, exits := [([.c [1, 1, 1, 1, 0], .c [1, 1, 1, 1, 1]], ⟨[3], ⟨[.ols 0], [.lst (.sl (.int .i64))]⟩⟩)], run := fun p k => (readings_l1 N self N p.1.1 p.1.2.2.1 p.2.1).bind fun e => k (.inl (((), ()), (e, ()))) }
theorem readings_l1_eq (N : Nat) (self : Int → Option (List (List Int))) (n_ : Nat) (n : Int) (k : Int) (out : List (List Int)) : ev (Z := List (List Int)) Try.prog (readings_sp N self) readings_B [readings_l2_L N self] [readings_l1_h (readings_l1 N self n_), readings_l1_e0] none 400 true readings_l1_at (stL readings_l1_st ((n, (), k, ()), (out, ()))) (stH readings_l1_st ((n, (), k, ()), (out, ()))) = readings_l1 N self (n_ + 1) n k out := by kernel_rfl
theorem readings_l1_ok (N : Nat) (self : Int → Option (List (List Int))) (hself : SpecOK Try.prog (readings_self self)) {top : Bool} : LoopOK Try.prog readings_B.c readings_B.n readings_B.m0 top (readings_l1_L N self) := loop_of_ev (Z := List (List Int)) (N := N) (fun m p => readings_l1 N self m p.1.1 p.1.2.2.1 p.2.1) (fun e => .inl (((), ()), (e, ()))) (fun _ _ _ => rfl) (fun _ => rfl) (fun m z E Xc hE hX hrec hx => leaf_of_ev (B := readings_B) (loops := [readings_l2_L N self]) (leaves := [readings_l1_h (readings_l1 N self m), readings_l1_e0]) (readings_all N self hself) mixed ⟨readings_l2_ok N self hself, trivial⟩ hE hX ⟨hrec, (fun p hp => by obtain rfl := Option.some.inj hp; exact hx), trivial⟩ RetOK.no (fun p => readings_l1_eq N self m p.1.1 p.1.2.2.1 p.2.1))
abbrev readings_st : Sta := ⟨[0], ⟨[.i .i64], []⟩⟩
theorem readings_eq (N : Nat) (self : Int → Option (List (List Int))) (n : Int) : ev (Z := List (List Int)) Try.prog (readings_sp N self) readings_B [readings_l2_L N self, readings_l1_L N self] [] (some readings_rt) 400 false [.c [0], .c [1]] (stL readings_st ((n, ()), ())) (stH readings_st ((n, ()), ())) = readings_S N self n := by kernel_rfl
theorem readings_self_ok (N : Nat) (self : Int → Option (List (List Int))) (hself : SpecOK Try.prog (readings_self self)) : SpecOK Try.prog (readings_self (readings_S N self)) := fn_sound (B := readings_B) (loops := [readings_l2_L N self, readings_l1_L N self]) (leaves := []) (fun p => readings_S N self p.1.1) (fun r => (((), ()), (r, ()))) readings_rt (fun _ _ _ => rfl) (fun r z h => by cases h; rfl) Try.func93 (by kernel_rfl) (by kernel_rfl) (by kernel_rfl) rfl rfl (by kernel_rfl) (fun args w => Sem.pv_run _ _ _ (by kernel_rfl) w) (readings_all N self hself) mixed ⟨readings_l2_ok N self hself, readings_l1_ok N self hself, trivial⟩ (fun z E Xc hE hX hret => trivial) (fun p => readings_eq N self p.1.1)
def readings_R (N : Nat) : Nat → Int → Option (List (List Int))
  | 0 => fun _ => none
  | n + 1 => readings_S N (readings_R N n)
theorem readings_R_ok (N : Nat) : ∀ n, SpecOK Try.prog (readings_self (readings_R N n))
  | 0 => SpecOK.none (fun _ _ _ => rfl) (fun args w => Sem.pv_run _ _ _ (by kernel_rfl) w)
  | n + 1 => readings_self_ok N (readings_R N n) (readings_R_ok N n)
noncomputable abbrev sp_readings (N : Nat) : Spec := readings_self (readings_R N N)
theorem sp_readings_ok (N : Nat) : SpecOK Try.prog (sp_readings N) := readings_R_ok N N

def rright_j1 (N : Nat) (rec : Int → (List (Int × (Int × Bool))) → (List (Int × (Int × Int))) → Int → (List (List Int)) → (List (List Int)) → Option (List (List Int))) (i : Int) (t : List (Int × (Int × Bool))) (t2 : List (Int × (Int × Int))) (t3 : Int) (out : List (List Int)) (all : List (List Int)) : Option (List (List Int)) :=
  chk (i + 1) <|
  rec (i + 1) t t2 t3 out all
def rright_l1 (N : Nat) : Nat → Int → (List (Int × (Int × Bool))) → (List (Int × (Int × Int))) → Int → (List (List Int)) → (List (List Int)) → Option (List (List Int))
  | 0, _, _, _, _, _, _ => none
  | n_ + 1, i, t, t2, t3, out, all =>
    br (decide (i < (all.length : Int)))
      (rng i all.length <|
      get all i.toNat fun x_2 =>
      (rwrong_S N t t2 t3 x_2).bind fun (x_3, y_4, y_5) =>
      br (decide (y_5 = 6))
        (rng i all.length <|
        get all i.toNat fun x_6 =>
        lim (out.length + [x_6].length) <|
        rright_j1 N (rright_l1 N n_) i t t2 t3 (out ++ [x_6]) all)
        (rright_j1 N (rright_l1 N n_) i t t2 t3 out all))
      (some (out))
def rright_S (N : Nat) (t : List (Int × (Int × Bool))) (t2 : List (Int × (Int × Int))) (t3 : Int) : Option (List (List Int)) :=
  (readings_R N N (t.length : Int)).bind fun x_1 =>
  (rright_l1 N N 0 t t2 t3 [] x_1).bind fun out_7 =>
  some out_7
noncomputable def rright_sp (N : Nat) : List Spec := [sp_rwrong N, sp_readings N]
theorem rright_all (N : Nat) : AllP (SpecOK Try.prog) (rright_sp N) := ⟨sp_rwrong_ok N, sp_readings_ok N, trivial⟩
noncomputable def rright_c : Code := (Try.f26.body).getD .skip
noncomputable abbrev rright_B : Body := { c := rright_c, n := 39, res := [.tmp 2], outs := [⟨[.sl (.sl (.int .i64))], []⟩], m0 := 0 }
abbrev rright_rt : altD rright_B.outs → Option (List (List Int)) := fun r => some r.1.1
abbrev rright_l1_at : List PI := [.c [1, 1, 1, 0, 1, 0, 0, 0, 0], .c [1, 1, 1, 0, 1, 0, 0, 0, 1], .c [1, 1, 1, 0, 1, 0, 0, 1], .l [1, 1, 1, 0, 1, 0, 0], .b 0, .c [1, 1, 1, 1]]
abbrev rright_l1_st : Sta := ⟨[1, 3, 4, 5], ⟨[.own 0 0, .ols 1, .ols 2, .i .i64], [.segs [.sl (.pair (.int .i64) (.pair (.int .i64) .bool)), .sl (.pair (.int .i64) (.pair (.int .i64) (.int .i64))), .i .i64], .lst (.sl (.int .i64)), .lst (.sl (.int .i64))]⟩⟩
abbrev rright_l1_h (rec : Int → (List (Int × (Int × Bool))) → (List (Int × (Int × Int))) → Int → (List (List Int)) → (List (List Int)) → Option (List (List Int))) : Leaf (List (List Int)) := ⟨rright_l1_at, rright_l1_st, fun p => rec p.1.2.2.2.1 p.2.1.1 p.2.1.2.1 p.2.1.2.2.1 p.2.2.1 p.2.2.2.1⟩
abbrev rright_l1_e0 : Leaf (List (List Int)) := ⟨[.c [1, 1, 1, 1, 0], .c [1, 1, 1, 1, 1]], ⟨[3], ⟨[.ols 0], [.lst (.sl (.int .i64))]⟩⟩, fun p => some (p.2.1)⟩
abbrev rright_j1_at : List PI := [.c [1, 1, 1, 0, 1, 0, 0, 1, 1], .l [1, 1, 1, 0, 1, 0, 0], .b 0, .c [1, 1, 1, 1]]
abbrev rright_j1_st : Sta := ⟨[1, 3, 4, 5], ⟨[.own 0 0, .ols 1, .ols 2, .i .i64], [.segs [.sl (.pair (.int .i64) (.pair (.int .i64) .bool)), .sl (.pair (.int .i64) (.pair (.int .i64) (.int .i64))), .i .i64], .lst (.sl (.int .i64)), .lst (.sl (.int .i64))]⟩⟩
abbrev rright_j1_k (N : Nat) (rec : Int → (List (Int × (Int × Bool))) → (List (Int × (Int × Int))) → Int → (List (List Int)) → (List (List Int)) → Option (List (List Int))) : Leaf (List (List Int)) := ⟨rright_j1_at, rright_j1_st, fun p => rright_j1 N rec p.1.2.2.2.1 p.2.1.1 p.2.1.2.1 p.2.1.2.2.1 p.2.2.1 p.2.2.2.1⟩
theorem rright_j1_eq (N : Nat) (rec : Int → (List (Int × (Int × Bool))) → (List (Int × (Int × Int))) → Int → (List (List Int)) → (List (List Int)) → Option (List (List Int))) (i : Int) (t : List (Int × (Int × Bool))) (t2 : List (Int × (Int × Int))) (t3 : Int) (out : List (List Int)) (all : List (List Int)) : ev (Z := List (List Int)) Try.prog (rright_sp N) rright_B [] [rright_l1_h rec, rright_l1_e0] none 400 true rright_j1_at (stL rright_j1_st (((), (), (), i, ()), ((t, t2, t3, ()), out, all, ()))) (stH rright_j1_st (((), (), (), i, ()), ((t, t2, t3, ()), out, all, ()))) = rright_j1 N rec i t t2 t3 out all := by kernel_rfl
theorem rright_j1_lf (N : Nat) (rec : Int → (List (Int × (Int × Bool))) → (List (Int × (Int × Int))) → Int → (List (List Int)) → (List (List Int)) → Option (List (List Int))) {z : List (List Int)} {top : Bool} {E : EE} {Xc : Ctx} (hE : EOK rright_B.m0 E) (hX : CxOK top Xc) (hrec : LeafOK Try.prog rright_B.c rright_B.n rright_B.m0 E Xc z (rright_l1_h rec)) (h0 : LeafOK Try.prog rright_B.c rright_B.n rright_B.m0 E Xc z rright_l1_e0) : LeafOK Try.prog rright_B.c rright_B.n rright_B.m0 E Xc z (rright_j1_k N rec) := leaf_of_ev (B := rright_B) (loops := []) (leaves := [rright_l1_h rec, rright_l1_e0]) (rright_all N) mixed trivial hE hX ⟨hrec, h0, trivial⟩ RetOK.no (fun p => rright_j1_eq N rec p.1.2.2.2.1 p.2.1.1 p.2.1.2.1 p.2.1.2.2.1 p.2.2.1 p.2.2.2.1)
noncomputable def rright_l1_L (N : Nat) : LoopS := { at_ := rright_l1_at, sta := rright_l1_st, exits := [([.c [1, 1, 1, 1, 0], .c [1, 1, 1, 1, 1]], ⟨[3], ⟨[.ols 0], [.lst (.sl (.int .i64))]⟩⟩)], run := fun p k => (rright_l1 N N p.1.2.2.2.1 p.2.1.1 p.2.1.2.1 p.2.1.2.2.1 p.2.2.1 p.2.2.2.1).bind fun e => k (.inl (((), ()), (e, ()))) }
theorem rright_l1_eq (N n_ : Nat) (i : Int) (t : List (Int × (Int × Bool))) (t2 : List (Int × (Int × Int))) (t3 : Int) (out : List (List Int)) (all : List (List Int)) : ev (Z := List (List Int)) Try.prog (rright_sp N) rright_B [] [rright_l1_h (rright_l1 N n_), rright_l1_e0, rright_j1_k N (rright_l1 N n_)] none 400 true rright_l1_at (stL rright_l1_st (((), (), (), i, ()), ((t, t2, t3, ()), out, all, ()))) (stH rright_l1_st (((), (), (), i, ()), ((t, t2, t3, ()), out, all, ()))) = rright_l1 N (n_ + 1) i t t2 t3 out all := by kernel_rfl
theorem rright_l1_ok (N : Nat) {top : Bool} : LoopOK Try.prog rright_B.c rright_B.n rright_B.m0 top (rright_l1_L N) := loop_of_ev (Z := List (List Int)) (N := N) (fun m p => rright_l1 N m p.1.2.2.2.1 p.2.1.1 p.2.1.2.1 p.2.1.2.2.1 p.2.2.1 p.2.2.2.1) (fun e => .inl (((), ()), (e, ()))) (fun _ _ _ => rfl) (fun _ => rfl) (fun m z E Xc hE hX hrec hx => leaf_of_ev (B := rright_B) (loops := []) (leaves := [rright_l1_h (rright_l1 N m), rright_l1_e0, rright_j1_k N (rright_l1 N m)]) (rright_all N) mixed trivial hE hX ⟨hrec, (fun p hp => by obtain rfl := Option.some.inj hp; exact hx), rright_j1_lf N _ hE hX hrec (fun p hp => by obtain rfl := Option.some.inj hp; exact hx), trivial⟩ RetOK.no (fun p => rright_l1_eq N m p.1.2.2.2.1 p.2.1.1 p.2.1.2.1 p.2.1.2.2.1 p.2.2.1 p.2.2.2.1))
abbrev rright_st : Sta := ⟨[0], ⟨[.agg [.sl (.pair (.int .i64) (.pair (.int .i64) .bool)), .sl (.pair (.int .i64) (.pair (.int .i64) (.int .i64))), .i .i64]], []⟩⟩
theorem rright_eq (N : Nat) (t : List (Int × (Int × Bool))) (t2 : List (Int × (Int × Int))) (t3 : Int) : ev (Z := List (List Int)) Try.prog (rright_sp N) rright_B [rright_l1_L N] [] (some rright_rt) 400 false [.c [0], .c [1]] (stL rright_st (((t, t2, t3, ()), ()), ())) (stH rright_st (((t, t2, t3, ()), ()), ())) = rright_S N t t2 t3 := by kernel_rfl
noncomputable def sp_rright (N : Nat) : Spec := { f := 26, ins := ⟨[.agg [.sl (.pair (.int .i64) (.pair (.int .i64) .bool)), .sl (.pair (.int .i64) (.pair (.int .i64) (.int .i64))), .i .i64]], []⟩, outs := [⟨[.sl (.sl (.int .i64))], []⟩], run := fun p k => (rright_S N p.1.1.1 p.1.1.2.1 p.1.1.2.2.1).bind fun r => k ((r, ()), ()) }
theorem sp_rright_ok (N : Nat) : SpecOK Try.prog (sp_rright N) := fn_sound (B := rright_B) (loops := [rright_l1_L N]) (leaves := []) (fun p => rright_S N p.1.1.1 p.1.1.2.1 p.1.1.2.2.1) (fun r => ((r, ()), ())) rright_rt (fun _ _ _ => rfl) (fun r z h => by cases h; rfl) Try.func26 (by kernel_rfl) (by kernel_rfl) (by kernel_rfl) rfl rfl (by kernel_rfl) (fun args w => Sem.pv_run _ _ _ (by kernel_rfl) w) (rright_all N) mixed ⟨rright_l1_ok N, trivial⟩ (fun z E Xc hE hX hret => trivial) (fun p => rright_eq N p.1.1.1 p.1.1.2.1 p.1.1.2.2.1)

def rfewest_j1 (N : Nat) (rec : (List (List Int)) → Int → Int → Option Int) (l : List (List Int)) (best : Int) (i : Int) : Option Int :=
  chk (i + 1) <|
  rec l best (i + 1)
def rfewest_l1 (N : Nat) : Nat → (List (List Int)) → Int → Int → Option Int
  | 0, _, _, _ => none
  | n_ + 1, l, best, i =>
    br (decide (i < (l.length : Int)))
      (br (decide (best = 0))
        (idx l i fun x_1 =>
        rfewest_j1 N (rfewest_l1 N n_) l (x_1.length : Int) i)
        (idx l i fun x_2 =>
        br (decide ((x_2.length : Int) < best))
          (idx l i fun x_3 =>
          rfewest_j1 N (rfewest_l1 N n_) l (x_3.length : Int) i)
          (rfewest_j1 N (rfewest_l1 N n_) l best i)))
      (some (best))
def rfewest_S (N : Nat) (l : List (List Int)) : Option (Int × Int) :=
  (rfewest_l1 N N l 0 0).bind fun best_4 =>
  br (decide (best_4 = 0))
    (some (0, 6))
    (some (best_4, 0))
noncomputable def rfewest_sp (N : Nat) : List Spec := []
theorem rfewest_all (N : Nat) : AllP (SpecOK Try.prog) (rfewest_sp N) := trivial
noncomputable def rfewest_c : Code := (Try.f27.body).getD .skip
noncomputable abbrev rfewest_B : Body := { c := rfewest_c, n := 31, res := [.tmp 2, .tmp 3], outs := [⟨[.i .i64, .i .i64], []⟩], m0 := 0 }
abbrev rfewest_rt : altD rfewest_B.outs → Option (Int × Int) := fun r => some (r.1.1, r.1.2.1)
abbrev rfewest_l1_at : List PI := [.c [1, 1, 0, 1, 0, 0, 0, 0], .c [1, 1, 0, 1, 0, 0, 0, 1], .c [1, 1, 0, 1, 0, 0, 1], .l [1, 1, 0, 1, 0, 0], .b 0, .c [1, 1, 1]]
abbrev rfewest_l1_st : Sta := ⟨[0, 4, 5], ⟨[.sl (.sl (.int .i64)), .i .i64, .i .i64], []⟩⟩
abbrev rfewest_l1_h (rec : (List (List Int)) → Int → Int → Option Int) : Leaf Int := ⟨rfewest_l1_at, rfewest_l1_st, fun p => rec p.1.1 p.1.2.1 p.1.2.2.1⟩
abbrev rfewest_l1_e0 : Leaf Int := ⟨[.c [1, 1, 1, 0, 0], .c [1, 1, 1, 0, 1], .c [1, 1, 1, 1]], ⟨[4], ⟨[.i .i64], []⟩⟩, fun p => some (p.1.1)⟩
abbrev rfewest_j1_at : List PI := [.c [1, 1, 0, 1, 0, 0, 1, 1], .l [1, 1, 0, 1, 0, 0], .b 0, .c [1, 1, 1]]
abbrev rfewest_j1_st : Sta := ⟨[0, 4, 5], ⟨[.sl (.sl (.int .i64)), .i .i64, .i .i64], []⟩⟩
abbrev rfewest_j1_k (N : Nat) (rec : (List (List Int)) → Int → Int → Option Int) : Leaf Int := ⟨rfewest_j1_at, rfewest_j1_st, fun p => rfewest_j1 N rec p.1.1 p.1.2.1 p.1.2.2.1⟩
theorem rfewest_j1_eq (N : Nat) (rec : (List (List Int)) → Int → Int → Option Int) (l : List (List Int)) (best : Int) (i : Int) : ev (Z := Int) Try.prog (rfewest_sp N) rfewest_B [] [rfewest_l1_h rec, rfewest_l1_e0] none 400 true rfewest_j1_at (stL rfewest_j1_st ((l, best, i, ()), ())) (stH rfewest_j1_st ((l, best, i, ()), ())) = rfewest_j1 N rec l best i := by kernel_rfl
theorem rfewest_j1_lf (N : Nat) (rec : (List (List Int)) → Int → Int → Option Int) {z : Int} {top : Bool} {E : EE} {Xc : Ctx} (hE : EOK rfewest_B.m0 E) (hX : CxOK top Xc) (hrec : LeafOK Try.prog rfewest_B.c rfewest_B.n rfewest_B.m0 E Xc z (rfewest_l1_h rec)) (h0 : LeafOK Try.prog rfewest_B.c rfewest_B.n rfewest_B.m0 E Xc z rfewest_l1_e0) : LeafOK Try.prog rfewest_B.c rfewest_B.n rfewest_B.m0 E Xc z (rfewest_j1_k N rec) := leaf_of_ev (B := rfewest_B) (loops := []) (leaves := [rfewest_l1_h rec, rfewest_l1_e0]) (rfewest_all N) mixed trivial hE hX ⟨hrec, h0, trivial⟩ RetOK.no (fun p => rfewest_j1_eq N rec p.1.1 p.1.2.1 p.1.2.2.1)
noncomputable def rfewest_l1_L (N : Nat) : LoopS := { at_ := rfewest_l1_at, sta := rfewest_l1_st, exits := [([.c [1, 1, 1, 0, 0], .c [1, 1, 1, 0, 1], .c [1, 1, 1, 1]], ⟨[4], ⟨[.i .i64], []⟩⟩)], run := fun p k => (rfewest_l1 N N p.1.1 p.1.2.1 p.1.2.2.1).bind fun e => k (.inl ((e, ()), ())) }
theorem rfewest_l1_eq (N n_ : Nat) (l : List (List Int)) (best : Int) (i : Int) : ev (Z := Int) Try.prog (rfewest_sp N) rfewest_B [] [rfewest_l1_h (rfewest_l1 N n_), rfewest_l1_e0, rfewest_j1_k N (rfewest_l1 N n_)] none 400 true rfewest_l1_at (stL rfewest_l1_st ((l, best, i, ()), ())) (stH rfewest_l1_st ((l, best, i, ()), ())) = rfewest_l1 N (n_ + 1) l best i := by kernel_rfl
theorem rfewest_l1_ok (N : Nat) {top : Bool} : LoopOK Try.prog rfewest_B.c rfewest_B.n rfewest_B.m0 top (rfewest_l1_L N) := loop_of_ev (Z := Int) (N := N) (fun m p => rfewest_l1 N m p.1.1 p.1.2.1 p.1.2.2.1) (fun e => .inl ((e, ()), ())) (fun _ _ _ => rfl) (fun _ => rfl) (fun m z E Xc hE hX hrec hx => leaf_of_ev (B := rfewest_B) (loops := []) (leaves := [rfewest_l1_h (rfewest_l1 N m), rfewest_l1_e0, rfewest_j1_k N (rfewest_l1 N m)]) (rfewest_all N) mixed trivial hE hX ⟨hrec, (fun p hp => by obtain rfl := Option.some.inj hp; exact hx), rfewest_j1_lf N _ hE hX hrec (fun p hp => by obtain rfl := Option.some.inj hp; exact hx), trivial⟩ RetOK.no (fun p => rfewest_l1_eq N m p.1.1 p.1.2.1 p.1.2.2.1))
abbrev rfewest_st : Sta := ⟨[0], ⟨[.sl (.sl (.int .i64))], []⟩⟩
theorem rfewest_eq (N : Nat) (l : List (List Int)) : ev (Z := Int × Int) Try.prog (rfewest_sp N) rfewest_B [rfewest_l1_L N] [] (some rfewest_rt) 400 false [.c [0], .c [1]] (stL rfewest_st ((l, ()), ())) (stH rfewest_st ((l, ()), ())) = rfewest_S N l := by kernel_rfl
noncomputable def sp_rfewest (N : Nat) : Spec := { f := 27, ins := ⟨[.sl (.sl (.int .i64))], []⟩, outs := [⟨[.i .i64, .i .i64], []⟩], run := fun p k => (rfewest_S N p.1.1).bind fun r => k ((r.1, r.2, ()), ()) }
theorem sp_rfewest_ok (N : Nat) : SpecOK Try.prog (sp_rfewest N) := fn_sound (B := rfewest_B) (loops := [rfewest_l1_L N]) (leaves := []) (fun p => rfewest_S N p.1.1) (fun r => ((r.1, r.2, ()), ())) rfewest_rt (fun _ _ _ => rfl) (fun r z h => by cases h; rfl) Try.func27 (by kernel_rfl) (by kernel_rfl) (by kernel_rfl) rfl rfl (by kernel_rfl) (fun args w => Sem.pv_run _ _ _ (by kernel_rfl) w) (rfewest_all N) mixed ⟨rfewest_l1_ok N, trivial⟩ (fun z E Xc hE hX hret => trivial) (fun p => rfewest_eq N p.1.1)

def lists_l1 (N : Nat) : Nat → Int → Int → (List (Int × (Int × Bool))) → (List (Int × (Int × Int))) → Int → Option Int
  | 0, _, _, _, _, _ => none
  | n_ + 1, n, i, t, t2, t3 =>
    br (decide (i < (t.length : Int)))
      (chk (2 * n) <|
      chk (i + 1) <|
      lists_l1 N n_ (2 * n) (i + 1) t t2 t3)
      (some (n))
def lists_S (N : Nat) (t : List (Int × (Int × Bool))) (t2 : List (Int × (Int × Int))) (t3 : Int) : Option Int :=
  (lists_l1 N N 1 0 t t2 t3).bind fun n_1 =>
  some n_1
noncomputable def lists_sp (N : Nat) : List Spec := []
theorem lists_all (N : Nat) : AllP (SpecOK Try.prog) (lists_sp N) := trivial
noncomputable def lists_c : Code := (Try.f120.body).getD .skip
noncomputable abbrev lists_B : Body := { c := lists_c, n := 15, res := [.tmp 2], outs := [⟨[.i .i64], []⟩], m0 := 0 }
abbrev lists_rt : altD lists_B.outs → Option Int := fun r => some r.1.1
abbrev lists_l1_at : List PI := [.c [1, 1, 0, 1, 0, 0, 0, 0], .c [1, 1, 0, 1, 0, 0, 0, 1], .c [1, 1, 0, 1, 0, 0, 1], .l [1, 1, 0, 1, 0, 0], .b 0, .c [1, 1, 1]]
abbrev lists_l1_st : Sta := ⟨[1, 3, 4], ⟨[.own 0 0, .i .i64, .i .i64], [.segs [.sl (.pair (.int .i64) (.pair (.int .i64) .bool)), .sl (.pair (.int .i64) (.pair (.int .i64) (.int .i64))), .i .i64]]⟩⟩
abbrev lists_l1_h (rec : Int → Int → (List (Int × (Int × Bool))) → (List (Int × (Int × Int))) → Int → Option Int) : Leaf Int := ⟨lists_l1_at, lists_l1_st, fun p => rec p.1.2.1 p.1.2.2.1 p.2.1.1 p.2.1.2.1 p.2.1.2.2.1⟩
abbrev lists_l1_e0 : Leaf Int := ⟨[.c [1, 1, 1, 0], .c [1, 1, 1, 1]], ⟨[3], ⟨[.i .i64], []⟩⟩, fun p => some (p.1.1)⟩
noncomputable def lists_l1_L (N : Nat) : LoopS := { at_ := lists_l1_at, sta := lists_l1_st, exits := [([.c [1, 1, 1, 0], .c [1, 1, 1, 1]], ⟨[3], ⟨[.i .i64], []⟩⟩)], run := fun p k => (lists_l1 N N p.1.2.1 p.1.2.2.1 p.2.1.1 p.2.1.2.1 p.2.1.2.2.1).bind fun e => k (.inl ((e, ()), ())) }
theorem lists_l1_eq (N n_ : Nat) (n : Int) (i : Int) (t : List (Int × (Int × Bool))) (t2 : List (Int × (Int × Int))) (t3 : Int) : ev (Z := Int) Try.prog (lists_sp N) lists_B [] [lists_l1_h (lists_l1 N n_), lists_l1_e0] none 400 true lists_l1_at (stL lists_l1_st (((), n, i, ()), ((t, t2, t3, ()), ()))) (stH lists_l1_st (((), n, i, ()), ((t, t2, t3, ()), ()))) = lists_l1 N (n_ + 1) n i t t2 t3 := by kernel_rfl
theorem lists_l1_ok (N : Nat) {top : Bool} : LoopOK Try.prog lists_B.c lists_B.n lists_B.m0 top (lists_l1_L N) := loop_of_ev (Z := Int) (N := N) (fun m p => lists_l1 N m p.1.2.1 p.1.2.2.1 p.2.1.1 p.2.1.2.1 p.2.1.2.2.1) (fun e => .inl ((e, ()), ())) (fun _ _ _ => rfl) (fun _ => rfl) (fun m z E Xc hE hX hrec hx => leaf_of_ev (B := lists_B) (loops := []) (leaves := [lists_l1_h (lists_l1 N m), lists_l1_e0]) (lists_all N) mixed trivial hE hX ⟨hrec, (fun p hp => by obtain rfl := Option.some.inj hp; exact hx), trivial⟩ RetOK.no (fun p => lists_l1_eq N m p.1.2.1 p.1.2.2.1 p.2.1.1 p.2.1.2.1 p.2.1.2.2.1))
abbrev lists_st : Sta := ⟨[0], ⟨[.agg [.sl (.pair (.int .i64) (.pair (.int .i64) .bool)), .sl (.pair (.int .i64) (.pair (.int .i64) (.int .i64))), .i .i64]], []⟩⟩
theorem lists_eq (N : Nat) (t : List (Int × (Int × Bool))) (t2 : List (Int × (Int × Int))) (t3 : Int) : ev (Z := Int) Try.prog (lists_sp N) lists_B [lists_l1_L N] [] (some lists_rt) 400 false [.c [0], .c [1]] (stL lists_st (((t, t2, t3, ()), ()), ())) (stH lists_st (((t, t2, t3, ()), ()), ())) = lists_S N t t2 t3 := by kernel_rfl
noncomputable def sp_lists (N : Nat) : Spec := { f := 120, ins := ⟨[.agg [.sl (.pair (.int .i64) (.pair (.int .i64) .bool)), .sl (.pair (.int .i64) (.pair (.int .i64) (.int .i64))), .i .i64]], []⟩, outs := [⟨[.i .i64], []⟩], run := fun p k => (lists_S N p.1.1.1 p.1.1.2.1 p.1.1.2.2.1).bind fun r => k ((r, ()), ()) }
theorem sp_lists_ok (N : Nat) : SpecOK Try.prog (sp_lists N) := fn_sound (B := lists_B) (loops := [lists_l1_L N]) (leaves := []) (fun p => lists_S N p.1.1.1 p.1.1.2.1 p.1.1.2.2.1) (fun r => ((r, ()), ())) lists_rt (fun _ _ _ => rfl) (fun r z h => by cases h; rfl) Try.func120 (by kernel_rfl) (by kernel_rfl) (by kernel_rfl) rfl rfl (by kernel_rfl) (fun args w => Sem.pv_run _ _ _ (by kernel_rfl) w) (lists_all N) mixed ⟨lists_l1_ok N, trivial⟩ (fun z E Xc hE hX hret => trivial) (fun p => lists_eq N p.1.1.1 p.1.1.2.1 p.1.1.2.2.1)

def list__j1 (N : Nat) (rec : Int → Int → (List Int) → Option (List Int)) (n : Int) (w : Int) (out : List Int) : Option (List Int) :=
  chk (w + 1) <|
  rec (IntKind.i64.wrap (Int.tdiv n 2)) (w + 1) out
def list__l1 (N : Nat) : Nat → Int → Int → (List Int) → Option (List Int)
  | 0, _, _, _ => none
  | n_ + 1, n, w, out =>
    br (decide (0 < n))
      (br (decide ((Int.tmod n 2) = 1))
        (lim (out.length + [w].length) <|
        list__j1 N (list__l1 N n_) n w (out ++ [w]))
        (list__j1 N (list__l1 N n_) n w out))
      (some (out))
def list__S (N : Nat) (n : Int) : Option (List Int) :=
  (list__l1 N N n 0 []).bind fun out_1 =>
  some out_1
noncomputable def list__sp (N : Nat) : List Spec := []
theorem list__all (N : Nat) : AllP (SpecOK Try.prog) (list__sp N) := trivial
noncomputable def list__c : Code := (Try.f121.body).getD .skip
noncomputable abbrev list__B : Body := { c := list__c, n := 19, res := [.tmp 2], outs := [⟨[.sl (.int .i64)], []⟩], m0 := 0 }
abbrev list__rt : altD list__B.outs → Option (List Int) := fun r => some r.1.1
abbrev list__l1_at : List PI := [.c [1, 1, 0, 1, 0, 0, 0, 0], .c [1, 1, 0, 1, 0, 0, 0, 1], .c [1, 1, 0, 1, 0, 0, 1], .l [1, 1, 0, 1, 0, 0], .b 0, .c [1, 1, 1]]
abbrev list__l1_st : Sta := ⟨[0, 3, 4], ⟨[.i .i64, .ols 0, .i .i64], [.lst (.int .i64)]⟩⟩
abbrev list__l1_h (rec : Int → Int → (List Int) → Option (List Int)) : Leaf (List Int) := ⟨list__l1_at, list__l1_st, fun p => rec p.1.1 p.1.2.2.1 p.2.1⟩
abbrev list__l1_e0 : Leaf (List Int) := ⟨[.c [1, 1, 1, 0], .c [1, 1, 1, 1]], ⟨[3], ⟨[.ols 0], [.lst (.int .i64)]⟩⟩, fun p => some (p.2.1)⟩
abbrev list__j1_at : List PI := [.c [1, 1, 0, 1, 0, 0, 1, 0, 0, 1], .b 1, .c [1, 1, 0, 1, 0, 0, 1, 1], .l [1, 1, 0, 1, 0, 0], .b 0, .c [1, 1, 1]]
abbrev list__j1_st : Sta := ⟨[0, 3, 4], ⟨[.i .i64, .ols 0, .i .i64], [.lst (.int .i64)]⟩⟩
abbrev list__j1_k (N : Nat) (rec : Int → Int → (List Int) → Option (List Int)) : Leaf (List Int) := ⟨list__j1_at, list__j1_st, fun p => list__j1 N rec p.1.1 p.1.2.2.1 p.2.1⟩
theorem list__j1_eq (N : Nat) (rec : Int → Int → (List Int) → Option (List Int)) (n : Int) (w : Int) (out : List Int) : ev (Z := List Int) Try.prog (list__sp N) list__B [] [list__l1_h rec, list__l1_e0] none 400 true list__j1_at (stL list__j1_st ((n, (), w, ()), (out, ()))) (stH list__j1_st ((n, (), w, ()), (out, ()))) = list__j1 N rec n w out := by kernel_rfl
theorem list__j1_lf (N : Nat) (rec : Int → Int → (List Int) → Option (List Int)) {z : List Int} {top : Bool} {E : EE} {Xc : Ctx} (hE : EOK list__B.m0 E) (hX : CxOK top Xc) (hrec : LeafOK Try.prog list__B.c list__B.n list__B.m0 E Xc z (list__l1_h rec)) (h0 : LeafOK Try.prog list__B.c list__B.n list__B.m0 E Xc z list__l1_e0) : LeafOK Try.prog list__B.c list__B.n list__B.m0 E Xc z (list__j1_k N rec) := leaf_of_ev (B := list__B) (loops := []) (leaves := [list__l1_h rec, list__l1_e0]) (list__all N) mixed trivial hE hX ⟨hrec, h0, trivial⟩ RetOK.no (fun p => list__j1_eq N rec p.1.1 p.1.2.2.1 p.2.1)
noncomputable def list__l1_L (N : Nat) : LoopS := { at_ := list__l1_at, sta := list__l1_st, exits := [([.c [1, 1, 1, 0], .c [1, 1, 1, 1]], ⟨[3], ⟨[.ols 0], [.lst (.int .i64)]⟩⟩)], run := fun p k => (list__l1 N N p.1.1 p.1.2.2.1 p.2.1).bind fun e => k (.inl (((), ()), (e, ()))) }
theorem list__l1_eq (N n_ : Nat) (n : Int) (w : Int) (out : List Int) : ev (Z := List Int) Try.prog (list__sp N) list__B [] [list__l1_h (list__l1 N n_), list__l1_e0, list__j1_k N (list__l1 N n_)] none 400 true list__l1_at (stL list__l1_st ((n, (), w, ()), (out, ()))) (stH list__l1_st ((n, (), w, ()), (out, ()))) = list__l1 N (n_ + 1) n w out := by kernel_rfl
theorem list__l1_ok (N : Nat) {top : Bool} : LoopOK Try.prog list__B.c list__B.n list__B.m0 top (list__l1_L N) := loop_of_ev (Z := List Int) (N := N) (fun m p => list__l1 N m p.1.1 p.1.2.2.1 p.2.1) (fun e => .inl (((), ()), (e, ()))) (fun _ _ _ => rfl) (fun _ => rfl) (fun m z E Xc hE hX hrec hx => leaf_of_ev (B := list__B) (loops := []) (leaves := [list__l1_h (list__l1 N m), list__l1_e0, list__j1_k N (list__l1 N m)]) (list__all N) mixed trivial hE hX ⟨hrec, (fun p hp => by obtain rfl := Option.some.inj hp; exact hx), list__j1_lf N _ hE hX hrec (fun p hp => by obtain rfl := Option.some.inj hp; exact hx), trivial⟩ RetOK.no (fun p => list__l1_eq N m p.1.1 p.1.2.2.1 p.2.1))
abbrev list__st : Sta := ⟨[0], ⟨[.i .i64], []⟩⟩
theorem list__eq (N : Nat) (n : Int) : ev (Z := List Int) Try.prog (list__sp N) list__B [list__l1_L N] [] (some list__rt) 400 false [.c [0], .c [1]] (stL list__st ((n, ()), ())) (stH list__st ((n, ()), ())) = list__S N n := by kernel_rfl
noncomputable def sp_list_ (N : Nat) : Spec := { f := 121, ins := ⟨[.i .i64], []⟩, outs := [⟨[.sl (.int .i64)], []⟩], run := fun p k => (list__S N p.1.1).bind fun r => k ((r, ()), ()) }
theorem sp_list__ok (N : Nat) : SpecOK Try.prog (sp_list_ N) := fn_sound (B := list__B) (loops := [list__l1_L N]) (leaves := []) (fun p => list__S N p.1.1) (fun r => ((r, ()), ())) list__rt (fun _ _ _ => rfl) (fun r z h => by cases h; rfl) Try.func121 (by kernel_rfl) (by kernel_rfl) (by kernel_rfl) rfl rfl (by kernel_rfl) (fun args w => Sem.pv_run _ _ _ (by kernel_rfl) w) (list__all N) mixed ⟨list__l1_ok N, trivial⟩ (fun z E Xc hE hX hret => trivial) (fun p => list__eq N p.1.1)

def before_l1 (N : Nat) : Nat → (List Int) → (List Int) → Int → Option ((List Int × List Int × Int) ⊕ (Unit))
  | 0, _, _, _ => none
  | n_ + 1, a, b, i =>
    br (decide (i < (a.length : Int)))
      (idx a i fun x_1 =>
      idx b i fun x_2 =>
      br (!decide (x_1 = x_2))
        (some (.inl (a, b, i)))
        (chk (i + 1) <|
        before_l1 N n_ a b (i + 1)))
      (some (.inr ()))
def before_S (N : Nat) (a : List Int) (b : List Int) : Option Bool :=
  (before_l1 N N a b 0).bind fun e => match e with
  | .inl (a_3, b_4, i_5) =>
    idx a_3 i_5 fun x_6 =>
    idx b_4 i_5 fun x_7 =>
    some (decide (x_6 < x_7))
  | .inr _ =>
    some false
noncomputable def before_sp (N : Nat) : List Spec := []
theorem before_all (N : Nat) : AllP (SpecOK Try.prog) (before_sp N) := trivial
noncomputable def before_c : Code := (Try.f123.body).getD .skip
noncomputable abbrev before_B : Body := { c := before_c, n := 30, res := [.tmp 4], outs := [⟨[.b], []⟩], m0 := 0 }
abbrev before_rt : altD before_B.outs → Option Bool := fun r => some r.1.1
abbrev before_l1_at : List PI := [.c [1, 0, 1, 0, 0, 0, 0], .c [1, 0, 1, 0, 0, 0, 1], .c [1, 0, 1, 0, 0, 1], .l [1, 0, 1, 0, 0], .b 0, .c [1, 1]]
abbrev before_l1_st : Sta := ⟨[0, 1, 5], ⟨[.sl (.int .i64), .sl (.int .i64), .i .i64], []⟩⟩
abbrev before_l1_h (rec : (List Int) → (List Int) → Int → Option ((List Int × List Int × Int) ⊕ (Unit))) : Leaf ((List Int × List Int × Int) ⊕ (Unit)) := ⟨before_l1_at, before_l1_st, fun p => rec p.1.1 p.1.2.1 p.1.2.2.1⟩
abbrev before_l1_e0 : Leaf ((List Int × List Int × Int) ⊕ (Unit)) := ⟨[.c [1, 0, 1, 0, 0, 1, 0, 0, 1, 0, 0], .c [1, 0, 1, 0, 0, 1, 0, 0, 1, 0, 1], .b 1, .c [1, 0, 1, 0, 0, 1, 1], .l [1, 0, 1, 0, 0], .b 0, .c [1, 1]], ⟨[0, 1, 5], ⟨[.sl (.int .i64), .sl (.int .i64), .i .i64], []⟩⟩, fun p => some (.inl (p.1.1, p.1.2.1, p.1.2.2.1))⟩
abbrev before_l1_e1 : Leaf ((List Int × List Int × Int) ⊕ (Unit)) := ⟨[.c [1, 1, 0], .c [1, 1, 1]], ⟨[], ⟨[], []⟩⟩, fun p => some (.inr ())⟩
noncomputable def before_l1_L (N : Nat) : LoopS := { at_ := before_l1_at, sta := before_l1_st, exits := [([.c [1, 0, 1, 0, 0, 1, 0, 0, 1, 0, 0], .c [1, 0, 1, 0, 0, 1, 0, 0, 1, 0, 1], .b 1, .c [1, 0, 1, 0, 0, 1, 1], .l [1, 0, 1, 0, 0], .b 0, .c [1, 1]], ⟨[0, 1, 5], ⟨[.sl (.int .i64), .sl (.int .i64), .i .i64], []⟩⟩), ([.c [1, 1, 0], .c [1, 1, 1]], ⟨[], ⟨[], []⟩⟩)], run := fun p k => (before_l1 N N p.1.1 p.1.2.1 p.1.2.2.1).bind fun e => match e with | .inl x => k (.inl ((x.1, x.2.1, x.2.2, ()), ())) | .inr x => k (.inr (.inl ((), ()))) }
theorem before_l1_eq (N n_ : Nat) (a : List Int) (b : List Int) (i : Int) : ev (Z := (List Int × List Int × Int) ⊕ (Unit)) Try.prog (before_sp N) before_B [] [before_l1_h (before_l1 N n_), before_l1_e0, before_l1_e1] none 400 true before_l1_at (stL before_l1_st ((a, b, i, ()), ())) (stH before_l1_st ((a, b, i, ()), ())) = before_l1 N (n_ + 1) a b i := by kernel_rfl
theorem before_l1_ok (N : Nat) {top : Bool} : LoopOK Try.prog before_B.c before_B.n before_B.m0 top (before_l1_L N) := loop_of_ev (Z := (List Int × List Int × Int) ⊕ (Unit)) (N := N) (fun m p => before_l1 N m p.1.1 p.1.2.1 p.1.2.2.1) (fun e => match e with | .inl x => .inl ((x.1, x.2.1, x.2.2, ()), ()) | .inr x => .inr (.inl ((), ()))) (fun _ p k => bind_congr_ (before_l1 N N p.1.1 p.1.2.1 p.1.2.2.1) _ _ (fun e => by rcases e with x | x <;> rfl)) (fun _ => rfl) (fun m z E Xc hE hX hrec hx => leaf_of_ev (B := before_B) (loops := []) (leaves := [before_l1_h (before_l1 N m), before_l1_e0, before_l1_e1]) (before_all N) mixed trivial hE hX ⟨hrec, (fun p hp => by obtain rfl := Option.some.inj hp; exact hx), (fun p hp => by obtain rfl := Option.some.inj hp; exact hx), trivial⟩ RetOK.no (fun p => before_l1_eq N m p.1.1 p.1.2.1 p.1.2.2.1))
abbrev before_st : Sta := ⟨[0, 1], ⟨[.sl (.int .i64), .sl (.int .i64)], []⟩⟩
theorem before_eq (N : Nat) (a : List Int) (b : List Int) : ev (Z := Bool) Try.prog (before_sp N) before_B [before_l1_L N] [] (some before_rt) 400 false [.c [0], .c [1]] (stL before_st ((a, b, ()), ())) (stH before_st ((a, b, ()), ())) = before_S N a b := by kernel_rfl
noncomputable def sp_before (N : Nat) : Spec := { f := 123, ins := ⟨[.sl (.int .i64), .sl (.int .i64)], []⟩, outs := [⟨[.b], []⟩], run := fun p k => (before_S N p.1.1 p.1.2.1).bind fun r => k ((r, ()), ()) }
theorem sp_before_ok (N : Nat) : SpecOK Try.prog (sp_before N) := fn_sound (B := before_B) (loops := [before_l1_L N]) (leaves := []) (fun p => before_S N p.1.1 p.1.2.1) (fun r => ((r, ()), ())) before_rt (fun _ _ _ => rfl) (fun r z h => by cases h; rfl) Try.func123 (by kernel_rfl) (by kernel_rfl) (by kernel_rfl) rfl rfl (by kernel_rfl) (fun args w => Sem.pv_run _ _ _ (by kernel_rfl) w) (before_all N) mixed ⟨before_l1_ok N, trivial⟩ (fun z E Xc hE hX hret => trivial) (fun p => before_eq N p.1.1 p.1.2.1)

def rshows_l1 (N : Nat) : Nat → (List Int) → Int → (List (Int × (Int × Bool))) → (List (Int × (Int × Int))) → Int → Option ((Unit) ⊕ (List Int × (List (Int × (Int × Bool))) × (List (Int × (Int × Int))) × Int))
  | 0, _, _, _, _, _ => none
  | n_ + 1, marks, i, t, t2, t3 =>
    br (decide (i < (marks.length : Int)))
      (idx marks i fun x_2 =>
      (off_S N x_2 0 99).bind fun x_3 =>
      br x_3
        (some (.inl ()))
        (chk (i + 1) <|
        rshows_l1 N n_ marks (i + 1) t t2 t3))
      (some (.inr (marks, t, t2, t3)))
def rshows_j1 (N : Nat) (rec : (List Int) → Bool → Int → Int → (List (Int × (Int × Bool))) → (List (Int × (Int × Int))) → Int → Option (List Int × Bool × Int × (List (Int × (Int × Bool))) × (List (Int × (Int × Int))) × Int)) (marks : List Int) (holds : Bool) (from_ : Int) (to : Int) (t : List (Int × (Int × Bool))) (t2 : List (Int × (Int × Int))) (t3 : Int) : Option (List Int × Bool × Int × (List (Int × (Int × Bool))) × (List (Int × (Int × Int))) × Int) :=
  chk (to + 1) <|
  rec marks holds from_ (to + 1) t t2 t3
def rshows_l3 (N : Nat) : Nat → (List Int) → Bool → Int → Int → (List (Int × (Int × Bool))) → (List (Int × (Int × Int))) → Int → Option (List Int × Bool × Int × (List (Int × (Int × Bool))) × (List (Int × (Int × Int))) × Int)
  | 0, _, _, _, _, _, _, _ => none
  | n_ + 1, marks, holds, from_, to, t, t2, t3 =>
    br (decide (to ≤ (t.length : Int)))
      ((rfault_S N t t2 t3 from_ to).bind fun x_9 =>
      br (decide (x_9 < 0))
        (idx marks to fun x_10 =>
        idx marks from_ fun x_11 =>
        chk (x_11 + 1) <|
        br (decide ((x_11 + 1) < x_10))
          (rshows_j1 N (rshows_l3 N n_) marks false from_ to t t2 t3)
          (rshows_j1 N (rshows_l3 N n_) marks holds from_ to t t2 t3))
        (rshows_j1 N (rshows_l3 N n_) marks holds from_ to t t2 t3))
      (some ((marks, holds, from_, t, t2, t3)))
def rshows_l2 (N : Nat) : Nat → (List Int) → Bool → Int → (List (Int × (Int × Bool))) → (List (Int × (Int × Int))) → Int → Option (List Int × Bool × (List (Int × (Int × Bool))) × (List (Int × (Int × Int))) × Int)
  | 0, _, _, _, _, _, _ => none
  | n_ + 1, marks, holds, from_, t, t2, t3 =>
    br (decide (from_ < (t.length : Int)))
      (chk (from_ + 1) <|
      (rshows_l3 N N marks holds from_ (from_ + 1) t t2 t3).bind fun (marks_12, holds_13, from__14, t_15, t2_16, t3_17) =>
      chk (from__14 + 1) <|
      rshows_l2 N n_ marks_12 holds_13 (from__14 + 1) t_15 t2_16 t3_17)
      (some ((marks, holds, t, t2, t3)))
def rshows_S (N : Nat) (t : List (Int × (Int × Bool))) (t2 : List (Int × (Int × Int))) (t3 : Int) (marks : List Int) : Option (Int × Int) :=
  (rcheck_S N t t2 t3).bind fun x_1 =>
  br (!decide (x_1 = 0))
    (some (0, x_1))
    (chk ((t.length : Int) + 1) <|
    br (!decide ((marks.length : Int) = ((t.length : Int) + 1)))
      (some (0, 2))
      ((rshows_l1 N N marks 0 t t2 t3).bind fun e => match e with
      | .inl _ =>
        some (0, 3)
      | .inr (marks_4, t_5, t2_6, t3_7) =>
        idx marks_4 0 fun x_8 =>
        (rshows_l2 N N marks_4 (decide (x_8 = 0)) 0 t_5 t2_6 t3_7).bind fun (marks_18, holds_19, t_20, t2_21, t3_22) =>
        br (!holds_19)
          (some (0, 8))
          (idx marks_18 (t_20.length : Int) fun x_23 =>
          some (x_23, 0))))
noncomputable def rshows_sp (N : Nat) : List Spec := [sp_off N, sp_rcheck N, sp_rfault N]
theorem rshows_all (N : Nat) : AllP (SpecOK Try.prog) (rshows_sp N) := ⟨sp_off_ok N, sp_rcheck_ok N, sp_rfault_ok N, trivial⟩
noncomputable def rshows_c : Code := (Try.f67.body).getD .skip
noncomputable abbrev rshows_B : Body := { c := rshows_c, n := 79, res := [.tmp 4, .tmp 5], outs := [⟨[.i .i64, .i .i64], []⟩], m0 := 0 }
abbrev rshows_rt : altD rshows_B.outs → Option (Int × Int) := fun r => some (r.1.1, r.1.2.1)
abbrev rshows_l1_at : List PI := [.c [1, 1, 1, 0, 1, 0, 0, 0, 0], .c [1, 1, 1, 0, 1, 0, 0, 0, 1], .c [1, 1, 1, 0, 1, 0, 0, 1], .l [1, 1, 1, 0, 1, 0, 0], .b 0, .c [1, 1, 1, 1]]
abbrev rshows_l1_st : Sta := ⟨[1, 2, 7], ⟨[.sl (.int .i64), .own 0 0, .i .i64], [.segs [.sl (.pair (.int .i64) (.pair (.int .i64) .bool)), .sl (.pair (.int .i64) (.pair (.int .i64) (.int .i64))), .i .i64]]⟩⟩
abbrev rshows_l1_h (rec : (List Int) → Int → (List (Int × (Int × Bool))) → (List (Int × (Int × Int))) → Int → Option ((Unit) ⊕ (List Int × (List (Int × (Int × Bool))) × (List (Int × (Int × Int))) × Int))) : Leaf ((Unit) ⊕ (List Int × (List (Int × (Int × Bool))) × (List (Int × (Int × Int))) × Int)) := ⟨rshows_l1_at, rshows_l1_st, fun p => rec p.1.1 p.1.2.2.1 p.2.1.1 p.2.1.2.1 p.2.1.2.2.1⟩
abbrev rshows_l1_e0 : Leaf ((Unit) ⊕ (List Int × (List (Int × (Int × Bool))) × (List (Int × (Int × Int))) × Int)) := ⟨[.c [1, 1, 1, 0, 1, 0, 0, 1, 0, 0, 1, 0, 0], .c [1, 1, 1, 0, 1, 0, 0, 1, 0, 0, 1, 0, 1], .b 1, .c [1, 1, 1, 0, 1, 0, 0, 1, 1], .l [1, 1, 1, 0, 1, 0, 0], .b 0, .c [1, 1, 1, 1]], ⟨[], ⟨[], []⟩⟩, fun p => some (.inl ())⟩
abbrev rshows_l1_e1 : Leaf ((Unit) ⊕ (List Int × (List (Int × (Int × Bool))) × (List (Int × (Int × Int))) × Int)) := ⟨[.c [1, 1, 1, 1, 0], .c [1, 1, 1, 1, 1]], ⟨[1, 2], ⟨[.sl (.int .i64), .own 0 0], [.segs [.sl (.pair (.int .i64) (.pair (.int .i64) .bool)), .sl (.pair (.int .i64) (.pair (.int .i64) (.int .i64))), .i .i64]]⟩⟩, fun p => some (.inr (p.1.1, p.2.1.1, p.2.1.2.1, p.2.1.2.2.1))⟩
noncomputable def rshows_l1_L (N : Nat) : LoopS := { at_ := rshows_l1_at, sta := rshows_l1_st, exits := [([.c [1, 1, 1, 0, 1, 0, 0, 1, 0, 0, 1, 0, 0], .c [1, 1, 1, 0, 1, 0, 0, 1, 0, 0, 1, 0, 1], .b 1, .c [1, 1, 1, 0, 1, 0, 0, 1, 1], .l [1, 1, 1, 0, 1, 0, 0], .b 0, .c [1, 1, 1, 1]], ⟨[], ⟨[], []⟩⟩), ([.c [1, 1, 1, 1, 0], .c [1, 1, 1, 1, 1]], ⟨[1, 2], ⟨[.sl (.int .i64), .own 0 0], [.segs [.sl (.pair (.int .i64) (.pair (.int .i64) .bool)), .sl (.pair (.int .i64) (.pair (.int .i64) (.int .i64))), .i .i64]]⟩⟩)], run := fun p k => (rshows_l1 N N p.1.1 p.1.2.2.1 p.2.1.1 p.2.1.2.1 p.2.1.2.2.1).bind fun e => match e with | .inl x => k (.inl ((), ())) | .inr x => k (.inr (.inl ((x.1, (), ()), ((x.2.1, x.2.2.1, x.2.2.2, ()), ())))) }
theorem rshows_l1_eq (N n_ : Nat) (marks : List Int) (i : Int) (t : List (Int × (Int × Bool))) (t2 : List (Int × (Int × Int))) (t3 : Int) : ev (Z := (Unit) ⊕ (List Int × (List (Int × (Int × Bool))) × (List (Int × (Int × Int))) × Int)) Try.prog (rshows_sp N) rshows_B [] [rshows_l1_h (rshows_l1 N n_), rshows_l1_e0, rshows_l1_e1] none 400 true rshows_l1_at (stL rshows_l1_st ((marks, (), i, ()), ((t, t2, t3, ()), ()))) (stH rshows_l1_st ((marks, (), i, ()), ((t, t2, t3, ()), ()))) = rshows_l1 N (n_ + 1) marks i t t2 t3 := by kernel_rfl
theorem rshows_l1_ok (N : Nat) {top : Bool} : LoopOK Try.prog rshows_B.c rshows_B.n rshows_B.m0 top (rshows_l1_L N) := loop_of_ev (Z := (Unit) ⊕ (List Int × (List (Int × (Int × Bool))) × (List (Int × (Int × Int))) × Int)) (N := N) (fun m p => rshows_l1 N m p.1.1 p.1.2.2.1 p.2.1.1 p.2.1.2.1 p.2.1.2.2.1) (fun e => match e with | .inl x => .inl ((), ()) | .inr x => .inr (.inl ((x.1, (), ()), ((x.2.1, x.2.2.1, x.2.2.2, ()), ())))) (fun _ p k => bind_congr_ (rshows_l1 N N p.1.1 p.1.2.2.1 p.2.1.1 p.2.1.2.1 p.2.1.2.2.1) _ _ (fun e => by rcases e with x | x <;> rfl)) (fun _ => rfl) (fun m z E Xc hE hX hrec hx => leaf_of_ev (B := rshows_B) (loops := []) (leaves := [rshows_l1_h (rshows_l1 N m), rshows_l1_e0, rshows_l1_e1]) (rshows_all N) mixed trivial hE hX ⟨hrec, (fun p hp => by obtain rfl := Option.some.inj hp; exact hx), (fun p hp => by obtain rfl := Option.some.inj hp; exact hx), trivial⟩ RetOK.no (fun p => rshows_l1_eq N m p.1.1 p.1.2.2.1 p.2.1.1 p.2.1.2.1 p.2.1.2.2.1))
abbrev rshows_l3_at : List PI := [.c [1, 1, 1, 1, 1, 0, 1, 0, 0, 1, 0, 0, 1, 0, 0, 0, 0], .c [1, 1, 1, 1, 1, 0, 1, 0, 0, 1, 0, 0, 1, 0, 0, 0, 1], .c [1, 1, 1, 1, 1, 0, 1, 0, 0, 1, 0, 0, 1, 0, 0, 1], .l [1, 1, 1, 1, 1, 0, 1, 0, 0, 1, 0, 0, 1, 0, 0], .b 4, .b 3, .c [1, 1, 1, 1, 1, 0, 1, 0, 0, 1, 1], .l [1, 1, 1, 1, 1, 0, 1, 0, 0], .b 2, .c [1, 1, 1, 1, 1, 1]]
abbrev rshows_l3_st : Sta := ⟨[1, 2, 8, 9, 10], ⟨[.sl (.int .i64), .own 0 0, .b, .i .i64, .i .i64], [.segs [.sl (.pair (.int .i64) (.pair (.int .i64) .bool)), .sl (.pair (.int .i64) (.pair (.int .i64) (.int .i64))), .i .i64]]⟩⟩
abbrev rshows_l3_h (rec : (List Int) → Bool → Int → Int → (List (Int × (Int × Bool))) → (List (Int × (Int × Int))) → Int → Option (List Int × Bool × Int × (List (Int × (Int × Bool))) × (List (Int × (Int × Int))) × Int)) : Leaf (List Int × Bool × Int × (List (Int × (Int × Bool))) × (List (Int × (Int × Int))) × Int) := ⟨rshows_l3_at, rshows_l3_st, fun p => rec p.1.1 p.1.2.2.1 p.1.2.2.2.1 p.1.2.2.2.2.1 p.2.1.1 p.2.1.2.1 p.2.1.2.2.1⟩
abbrev rshows_l3_e0 : Leaf (List Int × Bool × Int × (List (Int × (Int × Bool))) × (List (Int × (Int × Int))) × Int) := ⟨[.c [1, 1, 1, 1, 1, 0, 1, 0, 0, 1, 1], .l [1, 1, 1, 1, 1, 0, 1, 0, 0], .b 2, .c [1, 1, 1, 1, 1, 1]], ⟨[1, 2, 8, 9], ⟨[.sl (.int .i64), .own 0 0, .b, .i .i64], [.segs [.sl (.pair (.int .i64) (.pair (.int .i64) .bool)), .sl (.pair (.int .i64) (.pair (.int .i64) (.int .i64))), .i .i64]]⟩⟩, fun p => some ((p.1.1, p.1.2.2.1, p.1.2.2.2.1, p.2.1.1, p.2.1.2.1, p.2.1.2.2.1))⟩
abbrev rshows_j1_at : List PI := [.c [1, 1, 1, 1, 1, 0, 1, 0, 0, 1, 0, 0, 1, 0, 0, 1, 1], .l [1, 1, 1, 1, 1, 0, 1, 0, 0, 1, 0, 0, 1, 0, 0], .b 4, .b 3, .c [1, 1, 1, 1, 1, 0, 1, 0, 0, 1, 1], .l [1, 1, 1, 1, 1, 0, 1, 0, 0], .b 2, .c [1, 1, 1, 1, 1, 1]]
abbrev rshows_j1_st : Sta := ⟨[1, 2, 8, 9, 10], ⟨[.sl (.int .i64), .own 0 0, .b, .i .i64, .i .i64], [.segs [.sl (.pair (.int .i64) (.pair (.int .i64) .bool)), .sl (.pair (.int .i64) (.pair (.int .i64) (.int .i64))), .i .i64]]⟩⟩
abbrev rshows_j1_k (N : Nat) (rec : (List Int) → Bool → Int → Int → (List (Int × (Int × Bool))) → (List (Int × (Int × Int))) → Int → Option (List Int × Bool × Int × (List (Int × (Int × Bool))) × (List (Int × (Int × Int))) × Int)) : Leaf (List Int × Bool × Int × (List (Int × (Int × Bool))) × (List (Int × (Int × Int))) × Int) := ⟨rshows_j1_at, rshows_j1_st, fun p => rshows_j1 N rec p.1.1 p.1.2.2.1 p.1.2.2.2.1 p.1.2.2.2.2.1 p.2.1.1 p.2.1.2.1 p.2.1.2.2.1⟩
theorem rshows_j1_eq (N : Nat) (rec : (List Int) → Bool → Int → Int → (List (Int × (Int × Bool))) → (List (Int × (Int × Int))) → Int → Option (List Int × Bool × Int × (List (Int × (Int × Bool))) × (List (Int × (Int × Int))) × Int)) (marks : List Int) (holds : Bool) (from_ : Int) (to : Int) (t : List (Int × (Int × Bool))) (t2 : List (Int × (Int × Int))) (t3 : Int) : ev (Z := List Int × Bool × Int × (List (Int × (Int × Bool))) × (List (Int × (Int × Int))) × Int) Try.prog (rshows_sp N) rshows_B [rshows_l1_L N] [rshows_l3_h rec, rshows_l3_e0] none 400 true rshows_j1_at (stL rshows_j1_st ((marks, (), holds, from_, to, ()), ((t, t2, t3, ()), ()))) (stH rshows_j1_st ((marks, (), holds, from_, to, ()), ((t, t2, t3, ()), ()))) = rshows_j1 N rec marks holds from_ to t t2 t3 := by kernel_rfl
theorem rshows_j1_lf (N : Nat) (rec : (List Int) → Bool → Int → Int → (List (Int × (Int × Bool))) → (List (Int × (Int × Int))) → Int → Option (List Int × Bool × Int × (List (Int × (Int × Bool))) × (List (Int × (Int × Int))) × Int)) {z : List Int × Bool × Int × (List (Int × (Int × Bool))) × (List (Int × (Int × Int))) × Int} {top : Bool} {E : EE} {Xc : Ctx} (hE : EOK rshows_B.m0 E) (hX : CxOK top Xc) (hrec : LeafOK Try.prog rshows_B.c rshows_B.n rshows_B.m0 E Xc z (rshows_l3_h rec)) (h0 : LeafOK Try.prog rshows_B.c rshows_B.n rshows_B.m0 E Xc z rshows_l3_e0) : LeafOK Try.prog rshows_B.c rshows_B.n rshows_B.m0 E Xc z (rshows_j1_k N rec) := leaf_of_ev (B := rshows_B) (loops := [rshows_l1_L N]) (leaves := [rshows_l3_h rec, rshows_l3_e0]) (rshows_all N) mixed ⟨rshows_l1_ok N, trivial⟩ hE hX ⟨hrec, h0, trivial⟩ RetOK.no (fun p => rshows_j1_eq N rec p.1.1 p.1.2.2.1 p.1.2.2.2.1 p.1.2.2.2.2.1 p.2.1.1 p.2.1.2.1 p.2.1.2.2.1)
noncomputable def rshows_l3_L (N : Nat) : LoopS := { at_ := rshows_l3_at, sta := rshows_l3_st, exits := [([.c [1, 1, 1, 1, 1, 0, 1, 0, 0, 1, 1], .l [1, 1, 1, 1, 1, 0, 1, 0, 0], .b 2, .c [1, 1, 1, 1, 1, 1]], ⟨[1, 2, 8, 9], ⟨[.sl (.int .i64), .own 0 0, .b, .i .i64], [.segs [.sl (.pair (.int .i64) (.pair (.int .i64) .bool)), .sl (.pair (.int .i64) (.pair (.int .i64) (.int .i64))), .i .i64]]⟩⟩)], run := fun p k => (rshows_l3 N N p.1.1 p.1.2.2.1 p.1.2.2.2.1 p.1.2.2.2.2.1 p.2.1.1 p.2.1.2.1 p.2.1.2.2.1).bind fun e => k (.inl ((e.1, (), e.2.1, e.2.2.1, ()), ((e.2.2.2.1, e.2.2.2.2.1, e.2.2.2.2.2, ()), ()))) }
theorem rshows_l3_eq (N n_ : Nat) (marks : List Int) (holds : Bool) (from_ : Int) (to : Int) (t : List (Int × (Int × Bool))) (t2 : List (Int × (Int × Int))) (t3 : Int) : ev (Z := List Int × Bool × Int × (List (Int × (Int × Bool))) × (List (Int × (Int × Int))) × Int) Try.prog (rshows_sp N) rshows_B [rshows_l1_L N] [rshows_l3_h (rshows_l3 N n_), rshows_l3_e0, rshows_j1_k N (rshows_l3 N n_)] none 400 true rshows_l3_at (stL rshows_l3_st ((marks, (), holds, from_, to, ()), ((t, t2, t3, ()), ()))) (stH rshows_l3_st ((marks, (), holds, from_, to, ()), ((t, t2, t3, ()), ()))) = rshows_l3 N (n_ + 1) marks holds from_ to t t2 t3 := by kernel_rfl
theorem rshows_l3_ok (N : Nat) {top : Bool} : LoopOK Try.prog rshows_B.c rshows_B.n rshows_B.m0 top (rshows_l3_L N) := loop_of_ev (Z := List Int × Bool × Int × (List (Int × (Int × Bool))) × (List (Int × (Int × Int))) × Int) (N := N) (fun m p => rshows_l3 N m p.1.1 p.1.2.2.1 p.1.2.2.2.1 p.1.2.2.2.2.1 p.2.1.1 p.2.1.2.1 p.2.1.2.2.1) (fun e => .inl ((e.1, (), e.2.1, e.2.2.1, ()), ((e.2.2.2.1, e.2.2.2.2.1, e.2.2.2.2.2, ()), ()))) (fun _ _ _ => rfl) (fun _ => rfl) (fun m z E Xc hE hX hrec hx => leaf_of_ev (B := rshows_B) (loops := [rshows_l1_L N]) (leaves := [rshows_l3_h (rshows_l3 N m), rshows_l3_e0, rshows_j1_k N (rshows_l3 N m)]) (rshows_all N) mixed ⟨rshows_l1_ok N, trivial⟩ hE hX ⟨hrec, (fun p hp => by obtain rfl := Option.some.inj hp; exact hx), rshows_j1_lf N _ hE hX hrec (fun p hp => by obtain rfl := Option.some.inj hp; exact hx), trivial⟩ RetOK.no (fun p => rshows_l3_eq N m p.1.1 p.1.2.2.1 p.1.2.2.2.1 p.1.2.2.2.2.1 p.2.1.1 p.2.1.2.1 p.2.1.2.2.1))
abbrev rshows_l2_at : List PI := [.c [1, 1, 1, 1, 1, 0, 1, 0, 0, 0, 0], .c [1, 1, 1, 1, 1, 0, 1, 0, 0, 0, 1], .c [1, 1, 1, 1, 1, 0, 1, 0, 0, 1], .l [1, 1, 1, 1, 1, 0, 1, 0, 0], .b 2, .c [1, 1, 1, 1, 1, 1]]
abbrev rshows_l2_st : Sta := ⟨[1, 2, 8, 9], ⟨[.sl (.int .i64), .own 0 0, .b, .i .i64], [.segs [.sl (.pair (.int .i64) (.pair (.int .i64) .bool)), .sl (.pair (.int .i64) (.pair (.int .i64) (.int .i64))), .i .i64]]⟩⟩
abbrev rshows_l2_h (rec : (List Int) → Bool → Int → (List (Int × (Int × Bool))) → (List (Int × (Int × Int))) → Int → Option (List Int × Bool × (List (Int × (Int × Bool))) × (List (Int × (Int × Int))) × Int)) : Leaf (List Int × Bool × (List (Int × (Int × Bool))) × (List (Int × (Int × Int))) × Int) := ⟨rshows_l2_at, rshows_l2_st, fun p => rec p.1.1 p.1.2.2.1 p.1.2.2.2.1 p.2.1.1 p.2.1.2.1 p.2.1.2.2.1⟩
abbrev rshows_l2_e0 : Leaf (List Int × Bool × (List (Int × (Int × Bool))) × (List (Int × (Int × Int))) × Int) := ⟨[.c [1, 1, 1, 1, 1, 1, 0, 0], .c [1, 1, 1, 1, 1, 1, 0, 1], .c [1, 1, 1, 1, 1, 1, 1]], ⟨[1, 2, 8], ⟨[.sl (.int .i64), .own 0 0, .b], [.segs [.sl (.pair (.int .i64) (.pair (.int .i64) .bool)), .sl (.pair (.int .i64) (.pair (.int .i64) (.int .i64))), .i .i64]]⟩⟩, fun p => some ((p.1.1, p.1.2.2.1, p.2.1.1, p.2.1.2.1, p.2.1.2.2.1))⟩
noncomputable def rshows_l2_L (N : Nat) : LoopS := { at_ := rshows_l2_at, sta := rshows_l2_st, exits := [([.c [1, 1, 1, 1, 1, 1, 0, 0], .c [1, 1, 1, 1, 1, 1, 0, 1], .c [1, 1, 1, 1, 1, 1, 1]], ⟨[1, 2, 8], ⟨[.sl (.int .i64), .own 0 0, .b], [.segs [.sl (.pair (.int .i64) (.pair (.int .i64) .bool)), .sl (.pair (.int .i64) (.pair (.int .i64) (.int .i64))), .i .i64]]⟩⟩)], run := fun p k => (rshows_l2 N N p.1.1 p.1.2.2.1 p.1.2.2.2.1 p.2.1.1 p.2.1.2.1 p.2.1.2.2.1).bind fun e => k (.inl ((e.1, (), e.2.1, ()), ((e.2.2.1, e.2.2.2.1, e.2.2.2.2, ()), ()))) }
theorem rshows_l2_eq (N n_ : Nat) (marks : List Int) (holds : Bool) (from_ : Int) (t : List (Int × (Int × Bool))) (t2 : List (Int × (Int × Int))) (t3 : Int) : ev (Z := List Int × Bool × (List (Int × (Int × Bool))) × (List (Int × (Int × Int))) × Int) Try.prog (rshows_sp N) rshows_B [rshows_l1_L N, rshows_l3_L N] [rshows_l2_h (rshows_l2 N n_), rshows_l2_e0] none 400 true rshows_l2_at (stL rshows_l2_st ((marks, (), holds, from_, ()), ((t, t2, t3, ()), ()))) (stH rshows_l2_st ((marks, (), holds, from_, ()), ((t, t2, t3, ()), ()))) = rshows_l2 N (n_ + 1) marks holds from_ t t2 t3 := by kernel_rfl
theorem rshows_l2_ok (N : Nat) {top : Bool} : LoopOK Try.prog rshows_B.c rshows_B.n rshows_B.m0 top (rshows_l2_L N) := loop_of_ev (Z := List Int × Bool × (List (Int × (Int × Bool))) × (List (Int × (Int × Int))) × Int) (N := N) (fun m p => rshows_l2 N m p.1.1 p.1.2.2.1 p.1.2.2.2.1 p.2.1.1 p.2.1.2.1 p.2.1.2.2.1) (fun e => .inl ((e.1, (), e.2.1, ()), ((e.2.2.1, e.2.2.2.1, e.2.2.2.2, ()), ()))) (fun _ _ _ => rfl) (fun _ => rfl) (fun m z E Xc hE hX hrec hx => leaf_of_ev (B := rshows_B) (loops := [rshows_l1_L N, rshows_l3_L N]) (leaves := [rshows_l2_h (rshows_l2 N m), rshows_l2_e0]) (rshows_all N) mixed ⟨rshows_l1_ok N, rshows_l3_ok N, trivial⟩ hE hX ⟨hrec, (fun p hp => by obtain rfl := Option.some.inj hp; exact hx), trivial⟩ RetOK.no (fun p => rshows_l2_eq N m p.1.1 p.1.2.2.1 p.1.2.2.2.1 p.2.1.1 p.2.1.2.1 p.2.1.2.2.1))
abbrev rshows_st : Sta := ⟨[0, 1], ⟨[.agg [.sl (.pair (.int .i64) (.pair (.int .i64) .bool)), .sl (.pair (.int .i64) (.pair (.int .i64) (.int .i64))), .i .i64], .sl (.int .i64)], []⟩⟩
theorem rshows_eq (N : Nat) (t : List (Int × (Int × Bool))) (t2 : List (Int × (Int × Int))) (t3 : Int) (marks : List Int) : ev (Z := Int × Int) Try.prog (rshows_sp N) rshows_B [rshows_l1_L N, rshows_l3_L N, rshows_l2_L N] [] (some rshows_rt) 400 false [.c [0], .c [1]] (stL rshows_st (((t, t2, t3, ()), marks, ()), ())) (stH rshows_st (((t, t2, t3, ()), marks, ()), ())) = rshows_S N t t2 t3 marks := by kernel_rfl
noncomputable def sp_rshows (N : Nat) : Spec := { f := 67, ins := ⟨[.agg [.sl (.pair (.int .i64) (.pair (.int .i64) .bool)), .sl (.pair (.int .i64) (.pair (.int .i64) (.int .i64))), .i .i64], .sl (.int .i64)], []⟩, outs := [⟨[.i .i64, .i .i64], []⟩], run := fun p k => (rshows_S N p.1.1.1 p.1.1.2.1 p.1.1.2.2.1 p.1.2.1).bind fun r => k ((r.1, r.2, ()), ()) }
theorem sp_rshows_ok (N : Nat) : SpecOK Try.prog (sp_rshows N) := fn_sound (B := rshows_B) (loops := [rshows_l1_L N, rshows_l3_L N, rshows_l2_L N]) (leaves := []) (fun p => rshows_S N p.1.1.1 p.1.1.2.1 p.1.1.2.2.1 p.1.2.1) (fun r => ((r.1, r.2, ()), ())) rshows_rt (fun _ _ _ => rfl) (fun r z h => by cases h; rfl) Try.func67 (by kernel_rfl) (by kernel_rfl) (by kernel_rfl) rfl rfl (by kernel_rfl) (fun args w => Sem.pv_run _ _ _ (by kernel_rfl) w) (rshows_all N) mixed ⟨rshows_l1_ok N, rshows_l3_ok N, rshows_l2_ok N, trivial⟩ (fun z E Xc hE hX hret => trivial) (fun p => rshows_eq N p.1.1.1 p.1.1.2.1 p.1.1.2.2.1 p.1.2.1)

def rlone_j1 (N : Nat) (rec : (List Int) → Int → (List Int) → Bool → Int → Int → Int → Int → (List (Int × (Int × Bool))) → (List (Int × (Int × Int))) → Int → Option (List Int × Int × List Int × Bool × Int × Int × Int × (List (Int × (Int × Bool))) × (List (Int × (Int × Int))) × Int)) (best : List Int) (n : Int) (l : List Int) (alone : Bool) (from_ : Int) (to : Int) (many : Int) (i : Int) (t : List (Int × (Int × Bool))) (t2 : List (Int × (Int × Int))) (t3 : Int) : Option (List Int × Int × List Int × Bool × Int × Int × Int × (List (Int × (Int × Bool))) × (List (Int × (Int × Int))) × Int) :=
  chk (i + 1) <|
  rec best n l alone from_ to many (i + 1) t t2 t3
def rlone_l4 (N : Nat) : Nat → (List Int) → Int → (List Int) → Bool → Int → Int → Int → Int → (List (Int × (Int × Bool))) → (List (Int × (Int × Int))) → Int → Option (List Int × Int × List Int × Bool × Int × Int × Int × (List (Int × (Int × Bool))) × (List (Int × (Int × Int))) × Int)
  | 0, _, _, _, _, _, _, _, _, _, _, _ => none
  | n_ + 1, best, n, l, alone, from_, to, many, i, t, t2, t3 =>
    br (decide (i < (l.length : Int)))
      (idx l i fun x_3 =>
      br (decide (from_ ≤ x_3))
        (idx l i fun x_4 =>
        br (decide (x_4 < to))
          (chk (many + 1) <|
          rlone_j1 N (rlone_l4 N n_) best n l alone from_ to (many + 1) i t t2 t3)
          (rlone_j1 N (rlone_l4 N n_) best n l alone from_ to many i t t2 t3))
        (rlone_j1 N (rlone_l4 N n_) best n l alone from_ to many i t t2 t3))
      (some ((best, n, l, alone, from_, to, many, t, t2, t3)))
def rlone_j2 (N : Nat) (rec : (List Int) → Int → (List Int) → Bool → Int → Int → (List (Int × (Int × Bool))) → (List (Int × (Int × Int))) → Int → Option (List Int × Int × List Int × Bool × Int × (List (Int × (Int × Bool))) × (List (Int × (Int × Int))) × Int)) (best : List Int) (n : Int) (l : List Int) (alone : Bool) (from_ : Int) (to : Int) (t : List (Int × (Int × Bool))) (t2 : List (Int × (Int × Int))) (t3 : Int) : Option (List Int × Int × List Int × Bool × Int × (List (Int × (Int × Bool))) × (List (Int × (Int × Int))) × Int) :=
  chk (to + 1) <|
  rec best n l alone from_ (to + 1) t t2 t3
def rlone_l3 (N : Nat) : Nat → (List Int) → Int → (List Int) → Bool → Int → Int → (List (Int × (Int × Bool))) → (List (Int × (Int × Int))) → Int → Option (List Int × Int × List Int × Bool × Int × (List (Int × (Int × Bool))) × (List (Int × (Int × Int))) × Int)
  | 0, _, _, _, _, _, _, _, _, _ => none
  | n_ + 1, best, n, l, alone, from_, to, t, t2, t3 =>
    br (decide (to ≤ (t.length : Int)))
      ((rlone_l4 N N best n l alone from_ to 0 0 t t2 t3).bind fun (best_5, n_6, l_7, alone_8, from__9, to_10, many_11, t_12, t2_13, t3_14) =>
      br (decide (1 < many_11))
        (br alone_8
          ((rfault_S N t_12 t2_13 t3_14 from__9 to_10).bind fun x_15 =>
          br (decide (x_15 < 0))
            (rlone_j2 N (rlone_l3 N n_) best_5 n_6 l_7 false from__9 to_10 t_12 t2_13 t3_14)
            (rlone_j2 N (rlone_l3 N n_) best_5 n_6 l_7 alone_8 from__9 to_10 t_12 t2_13 t3_14))
          (rlone_j2 N (rlone_l3 N n_) best_5 n_6 l_7 alone_8 from__9 to_10 t_12 t2_13 t3_14))
        (rlone_j2 N (rlone_l3 N n_) best_5 n_6 l_7 alone_8 from__9 to_10 t_12 t2_13 t3_14))
      (some ((best, n, l, alone, from_, t, t2, t3)))
def rlone_l2 (N : Nat) : Nat → (List Int) → Int → (List Int) → Bool → Int → (List (Int × (Int × Bool))) → (List (Int × (Int × Int))) → Int → Option (List Int × Int × List Int × Bool × (List (Int × (Int × Bool))) × (List (Int × (Int × Int))) × Int)
  | 0, _, _, _, _, _, _, _, _ => none
  | n_ + 1, best, n, l, alone, from_, t, t2, t3 =>
    br (decide (from_ < (t.length : Int)))
      (chk (from_ + 1) <|
      (rlone_l3 N N best n l alone from_ (from_ + 1) t t2 t3).bind fun (best_16, n_17, l_18, alone_19, from__20, t_21, t2_22, t3_23) =>
      chk (from__20 + 1) <|
      rlone_l2 N n_ best_16 n_17 l_18 alone_19 (from__20 + 1) t_21 t2_22 t3_23)
      (some ((best, n, l, alone, t, t2, t3)))
def rlone_j3 (N : Nat) (rec : (List Int) → Int → (List (Int × (Int × Bool))) → (List (Int × (Int × Int))) → Int → Option (List Int)) (best : List Int) (n : Int) (t : List (Int × (Int × Bool))) (t2 : List (Int × (Int × Int))) (t3 : Int) : Option (List Int) :=
  chk (n + 1) <|
  rec best (n + 1) t t2 t3
def rlone_l1 (N : Nat) : Nat → (List Int) → Int → (List (Int × (Int × Bool))) → (List (Int × (Int × Int))) → Int → Option (List Int)
  | 0, _, _, _, _, _ => none
  | n_ + 1, best, n, t, t2, t3 =>
    (lists_S N t t2 t3).bind fun x_1 =>
    br (decide (n < x_1))
      ((list__S N n).bind fun x_2 =>
      (rlone_l2 N N best n x_2 true 0 t t2 t3).bind fun (best_24, n_25, l_26, alone_27, t_28, t2_29, t3_30) =>
      br alone_27
        (br (decide ((best_24.length : Int) < (l_26.length : Int)))
          (rlone_j3 N (rlone_l1 N n_) l_26 n_25 t_28 t2_29 t3_30)
          (br (decide ((l_26.length : Int) = (best_24.length : Int)))
            ((before_S N l_26 best_24).bind fun x_31 =>
            br x_31
              (rlone_j3 N (rlone_l1 N n_) l_26 n_25 t_28 t2_29 t3_30)
              (rlone_j3 N (rlone_l1 N n_) best_24 n_25 t_28 t2_29 t3_30))
            (rlone_j3 N (rlone_l1 N n_) best_24 n_25 t_28 t2_29 t3_30)))
        (rlone_j3 N (rlone_l1 N n_) best_24 n_25 t_28 t2_29 t3_30))
      (some (best))
def rlone_S (N : Nat) (t : List (Int × (Int × Bool))) (t2 : List (Int × (Int × Int))) (t3 : Int) : Option (List Int) :=
  (rlone_l1 N N [] 0 t t2 t3).bind fun best_32 =>
  some best_32
noncomputable def rlone_sp (N : Nat) : List Spec := [sp_rfault N, sp_lists N, sp_list_ N, sp_before N]
theorem rlone_all (N : Nat) : AllP (SpecOK Try.prog) (rlone_sp N) := ⟨sp_rfault_ok N, sp_lists_ok N, sp_list__ok N, sp_before_ok N, trivial⟩
noncomputable def rlone_c : Code := (Try.f68.body).getD .skip
noncomputable abbrev rlone_B : Body := { c := rlone_c, n := 91, res := [.tmp 2], outs := [⟨[.sl (.int .i64)], []⟩], m0 := 0 }
abbrev rlone_rt : altD rlone_B.outs → Option (List Int) := fun r => some r.1.1
abbrev rlone_l4_at : List PI := [.c [1, 1, 0, 1, 0, 0, 1, 0, 0, 1, 1, 0, 1, 0, 0, 1, 0, 0, 1, 0, 0, 1, 0, 0, 1, 0, 1, 0, 0, 0, 0], .c [1, 1, 0, 1, 0, 0, 1, 0, 0, 1, 1, 0, 1, 0, 0, 1, 0, 0, 1, 0, 0, 1, 0, 0, 1, 0, 1, 0, 0, 0, 1], .c [1, 1, 0, 1, 0, 0, 1, 0, 0, 1, 1, 0, 1, 0, 0, 1, 0, 0, 1, 0, 0, 1, 0, 0, 1, 0, 1, 0, 0, 1], .l [1, 1, 0, 1, 0, 0, 1, 0, 0, 1, 1, 0, 1, 0, 0, 1, 0, 0, 1, 0, 0, 1, 0, 0, 1, 0, 1, 0, 0], .b 6, .c [1, 1, 0, 1, 0, 0, 1, 0, 0, 1, 1, 0, 1, 0, 0, 1, 0, 0, 1, 0, 0, 1, 0, 0, 1, 1], .b 5, .c [1, 1, 0, 1, 0, 0, 1, 0, 0, 1, 1, 0, 1, 0, 0, 1, 0, 0, 1, 0, 0, 1, 1], .l [1, 1, 0, 1, 0, 0, 1, 0, 0, 1, 1, 0, 1, 0, 0, 1, 0, 0, 1, 0, 0], .b 4, .b 3, .c [1, 1, 0, 1, 0, 0, 1, 0, 0, 1, 1, 0, 1, 0, 0, 1, 1], .l [1, 1, 0, 1, 0, 0, 1, 0, 0, 1, 1, 0, 1, 0, 0], .b 2, .c [1, 1, 0, 1, 0, 0, 1, 0, 0, 1, 1, 1], .b 1, .c [1, 1, 0, 1, 0, 0, 1, 1], .l [1, 1, 0, 1, 0, 0], .b 0, .c [1, 1, 1]]
abbrev rlone_l4_st : Sta := ⟨[1, 3, 4, 5, 6, 7, 8, 9, 10], ⟨[.own 0 0, .sl (.int .i64), .i .i64, .sl (.int .i64), .b, .i .i64, .i .i64, .i .i64, .i .i64], [.segs [.sl (.pair (.int .i64) (.pair (.int .i64) .bool)), .sl (.pair (.int .i64) (.pair (.int .i64) (.int .i64))), .i .i64]]⟩⟩
abbrev rlone_l4_h (rec : (List Int) → Int → (List Int) → Bool → Int → Int → Int → Int → (List (Int × (Int × Bool))) → (List (Int × (Int × Int))) → Int → Option (List Int × Int × List Int × Bool × Int × Int × Int × (List (Int × (Int × Bool))) × (List (Int × (Int × Int))) × Int)) : Leaf (List Int × Int × List Int × Bool × Int × Int × Int × (List (Int × (Int × Bool))) × (List (Int × (Int × Int))) × Int) := ⟨rlone_l4_at, rlone_l4_st, fun p => rec p.1.2.1 p.1.2.2.1 p.1.2.2.2.1 p.1.2.2.2.2.1 p.1.2.2.2.2.2.1 p.1.2.2.2.2.2.2.1 p.1.2.2.2.2.2.2.2.1 p.1.2.2.2.2.2.2.2.2.1 p.2.1.1 p.2.1.2.1 p.2.1.2.2.1⟩
abbrev rlone_l4_e0 : Leaf (List Int × Int × List Int × Bool × Int × Int × Int × (List (Int × (Int × Bool))) × (List (Int × (Int × Int))) × Int) := ⟨[.c [1, 1, 0, 1, 0, 0, 1, 0, 0, 1, 1, 0, 1, 0, 0, 1, 0, 0, 1, 0, 0, 1, 0, 0, 1, 1, 0], .c [1, 1, 0, 1, 0, 0, 1, 0, 0, 1, 1, 0, 1, 0, 0, 1, 0, 0, 1, 0, 0, 1, 0, 0, 1, 1, 1], .b 5, .c [1, 1, 0, 1, 0, 0, 1, 0, 0, 1, 1, 0, 1, 0, 0, 1, 0, 0, 1, 0, 0, 1, 1], .l [1, 1, 0, 1, 0, 0, 1, 0, 0, 1, 1, 0, 1, 0, 0, 1, 0, 0, 1, 0, 0], .b 4, .b 3, .c [1, 1, 0, 1, 0, 0, 1, 0, 0, 1, 1, 0, 1, 0, 0, 1, 1], .l [1, 1, 0, 1, 0, 0, 1, 0, 0, 1, 1, 0, 1, 0, 0], .b 2, .c [1, 1, 0, 1, 0, 0, 1, 0, 0, 1, 1, 1], .b 1, .c [1, 1, 0, 1, 0, 0, 1, 1], .l [1, 1, 0, 1, 0, 0], .b 0, .c [1, 1, 1]], ⟨[1, 3, 4, 5, 6, 7, 8, 9], ⟨[.own 0 0, .sl (.int .i64), .i .i64, .sl (.int .i64), .b, .i .i64, .i .i64, .i .i64], [.segs [.sl (.pair (.int .i64) (.pair (.int .i64) .bool)), .sl (.pair (.int .i64) (.pair (.int .i64) (.int .i64))), .i .i64]]⟩⟩, fun p => some ((p.1.2.1, p.1.2.2.1, p.1.2.2.2.1, p.1.2.2.2.2.1, p.1.2.2.2.2.2.1, p.1.2.2.2.2.2.2.1, p.1.2.2.2.2.2.2.2.1, p.2.1.1, p.2.1.2.1, p.2.1.2.2.1))⟩
abbrev rlone_j1_at : List PI := [.c [1, 1, 0, 1, 0, 0, 1, 0, 0, 1, 1, 0, 1, 0, 0, 1, 0, 0, 1, 0, 0, 1, 0, 0, 1, 0, 1, 0, 0, 1, 1], .l [1, 1, 0, 1, 0, 0, 1, 0, 0, 1, 1, 0, 1, 0, 0, 1, 0, 0, 1, 0, 0, 1, 0, 0, 1, 0, 1, 0, 0], .b 6, .c [1, 1, 0, 1, 0, 0, 1, 0, 0, 1, 1, 0, 1, 0, 0, 1, 0, 0, 1, 0, 0, 1, 0, 0, 1, 1], .b 5, .c [1, 1, 0, 1, 0, 0, 1, 0, 0, 1, 1, 0, 1, 0, 0, 1, 0, 0, 1, 0, 0, 1, 1], .l [1, 1, 0, 1, 0, 0, 1, 0, 0, 1, 1, 0, 1, 0, 0, 1, 0, 0, 1, 0, 0], .b 4, .b 3, .c [1, 1, 0, 1, 0, 0, 1, 0, 0, 1, 1, 0, 1, 0, 0, 1, 1], .l [1, 1, 0, 1, 0, 0, 1, 0, 0, 1, 1, 0, 1, 0, 0], .b 2, .c [1, 1, 0, 1, 0, 0, 1, 0, 0, 1, 1, 1], .b 1, .c [1, 1, 0, 1, 0, 0, 1, 1], .l [1, 1, 0, 1, 0, 0], .b 0, .c [1, 1, 1]]
abbrev rlone_j1_st : Sta := ⟨[1, 3, 4, 5, 6, 7, 8, 9, 10], ⟨[.own 0 0, .sl (.int .i64), .i .i64, .sl (.int .i64), .b, .i .i64, .i .i64, .i .i64, .i .i64], [.segs [.sl (.pair (.int .i64) (.pair (.int .i64) .bool)), .sl (.pair (.int .i64) (.pair (.int .i64) (.int .i64))), .i .i64]]⟩⟩
abbrev rlone_j1_k (N : Nat) (rec : (List Int) → Int → (List Int) → Bool → Int → Int → Int → Int → (List (Int × (Int × Bool))) → (List (Int × (Int × Int))) → Int → Option (List Int × Int × List Int × Bool × Int × Int × Int × (List (Int × (Int × Bool))) × (List (Int × (Int × Int))) × Int)) : Leaf (List Int × Int × List Int × Bool × Int × Int × Int × (List (Int × (Int × Bool))) × (List (Int × (Int × Int))) × Int) := ⟨rlone_j1_at, rlone_j1_st, fun p => rlone_j1 N rec p.1.2.1 p.1.2.2.1 p.1.2.2.2.1 p.1.2.2.2.2.1 p.1.2.2.2.2.2.1 p.1.2.2.2.2.2.2.1 p.1.2.2.2.2.2.2.2.1 p.1.2.2.2.2.2.2.2.2.1 p.2.1.1 p.2.1.2.1 p.2.1.2.2.1⟩
theorem rlone_j1_eq (N : Nat) (rec : (List Int) → Int → (List Int) → Bool → Int → Int → Int → Int → (List (Int × (Int × Bool))) → (List (Int × (Int × Int))) → Int → Option (List Int × Int × List Int × Bool × Int × Int × Int × (List (Int × (Int × Bool))) × (List (Int × (Int × Int))) × Int)) (best : List Int) (n : Int) (l : List Int) (alone : Bool) (from_ : Int) (to : Int) (many : Int) (i : Int) (t : List (Int × (Int × Bool))) (t2 : List (Int × (Int × Int))) (t3 : Int) : ev (Z := List Int × Int × List Int × Bool × Int × Int × Int × (List (Int × (Int × Bool))) × (List (Int × (Int × Int))) × Int) Try.prog (rlone_sp N) rlone_B [] [rlone_l4_h rec, rlone_l4_e0] none 400 true rlone_j1_at (stL rlone_j1_st (((), best, n, l, alone, from_, to, many, i, ()), ((t, t2, t3, ()), ()))) (stH rlone_j1_st (((), best, n, l, alone, from_, to, many, i, ()), ((t, t2, t3, ()), ()))) = rlone_j1 N rec best n l alone from_ to many i t t2 t3 := by kernel_rfl
theorem rlone_j1_lf (N : Nat) (rec : (List Int) → Int → (List Int) → Bool → Int → Int → Int → Int → (List (Int × (Int × Bool))) → (List (Int × (Int × Int))) → Int → Option (List Int × Int × List Int × Bool × Int × Int × Int × (List (Int × (Int × Bool))) × (List (Int × (Int × Int))) × Int)) {z : List Int × Int × List Int × Bool × Int × Int × Int × (List (Int × (Int × Bool))) × (List (Int × (Int × Int))) × Int} {top : Bool} {E : EE} {Xc : Ctx} (hE : EOK rlone_B.m0 E) (hX : CxOK top Xc) (hrec : LeafOK Try.prog rlone_B.c rlone_B.n rlone_B.m0 E Xc z (rlone_l4_h rec)) (h0 : LeafOK Try.prog rlone_B.c rlone_B.n rlone_B.m0 E Xc z rlone_l4_e0) : LeafOK Try.prog rlone_B.c rlone_B.n rlone_B.m0 E Xc z (rlone_j1_k N rec) := leaf_of_ev (B := rlone_B) (loops := []) (leaves := [rlone_l4_h rec, rlone_l4_e0]) (rlone_all N) mixed trivial hE hX ⟨hrec, h0, trivial⟩ RetOK.no (fun p => rlone_j1_eq N rec p.1.2.1 p.1.2.2.1 p.1.2.2.2.1 p.1.2.2.2.2.1 p.1.2.2.2.2.2.1 p.1.2.2.2.2.2.2.1 p.1.2.2.2.2.2.2.2.1 p.1.2.2.2.2.2.2.2.2.1 p.2.1.1 p.2.1.2.1 p.2.1.2.2.1)
noncomputable def rlone_l4_L (N : Nat) : LoopS := { at_ := rlone_l4_at, sta := rlone_l4_st, exits := [([.c [1, 1, 0, 1, 0, 0, 1, 0, 0, 1, 1, 0, 1, 0, 0, 1, 0, 0, 1, 0, 0, 1, 0, 0, 1, 1, 0], .c [1, 1, 0, 1, 0, 0, 1, 0, 0, 1, 1, 0, 1, 0, 0, 1, 0, 0, 1, 0, 0, 1, 0, 0, 1, 1, 1], .b 5, .c [1, 1, 0, 1, 0, 0, 1, 0, 0, 1, 1, 0, 1, 0, 0, 1, 0, 0, 1, 0, 0, 1, 1], .l [1, 1, 0, 1, 0, 0, 1, 0, 0, 1, 1, 0, 1, 0, 0, 1, 0, 0, 1, 0, 0], .b 4, .b 3, .c [1, 1, 0, 1, 0, 0, 1, 0, 0, 1, 1, 0, 1, 0, 0, 1, 1], .l [1, 1, 0, 1, 0, 0, 1, 0, 0, 1, 1, 0, 1, 0, 0], .b 2, .c [1, 1, 0, 1, 0, 0, 1, 0, 0, 1, 1, 1], .b 1, .c [1, 1, 0, 1, 0, 0, 1, 1], .l [1, 1, 0, 1, 0, 0], .b 0, .c [1, 1, 1]], ⟨[1, 3, 4, 5, 6, 7, 8, 9], ⟨[.own 0 0, .sl (.int .i64), .i .i64, .sl (.int .i64), .b, .i .i64, .i .i64, .i .i64], [.segs [.sl (.pair (.int .i64) (.pair (.int .i64) .bool)), .sl (.pair (.int .i64) (.pair (.int .i64) (.int .i64))), .i .i64]]⟩⟩)], run := fun p k => (rlone_l4 N N p.1.2.1 p.1.2.2.1 p.1.2.2.2.1 p.1.2.2.2.2.1 p.1.2.2.2.2.2.1 p.1.2.2.2.2.2.2.1 p.1.2.2.2.2.2.2.2.1 p.1.2.2.2.2.2.2.2.2.1 p.2.1.1 p.2.1.2.1 p.2.1.2.2.1).bind fun e => k (.inl (((), e.1, e.2.1, e.2.2.1, e.2.2.2.1, e.2.2.2.2.1, e.2.2.2.2.2.1, e.2.2.2.2.2.2.1, ()), ((e.2.2.2.2.2.2.2.1, e.2.2.2.2.2.2.2.2.1, e.2.2.2.2.2.2.2.2.2, ()), ()))) }
theorem rlone_l4_eq (N n_ : Nat) (best : List Int) (n : Int) (l : List Int) (alone : Bool) (from_ : Int) (to : Int) (many : Int) (i : Int) (t : List (Int × (Int × Bool))) (t2 : List (Int × (Int × Int))) (t3 : Int) : ev (Z := List Int × Int × List Int × Bool × Int × Int × Int × (List (Int × (Int × Bool))) × (List (Int × (Int × Int))) × Int) Try.prog (rlone_sp N) rlone_B [] [rlone_l4_h (rlone_l4 N n_), rlone_l4_e0, rlone_j1_k N (rlone_l4 N n_)] none 400 true rlone_l4_at (stL rlone_l4_st (((), best, n, l, alone, from_, to, many, i, ()), ((t, t2, t3, ()), ()))) (stH rlone_l4_st (((), best, n, l, alone, from_, to, many, i, ()), ((t, t2, t3, ()), ()))) = rlone_l4 N (n_ + 1) best n l alone from_ to many i t t2 t3 := by kernel_rfl
theorem rlone_l4_ok (N : Nat) {top : Bool} : LoopOK Try.prog rlone_B.c rlone_B.n rlone_B.m0 top (rlone_l4_L N) := loop_of_ev (Z := List Int × Int × List Int × Bool × Int × Int × Int × (List (Int × (Int × Bool))) × (List (Int × (Int × Int))) × Int) (N := N) (fun m p => rlone_l4 N m p.1.2.1 p.1.2.2.1 p.1.2.2.2.1 p.1.2.2.2.2.1 p.1.2.2.2.2.2.1 p.1.2.2.2.2.2.2.1 p.1.2.2.2.2.2.2.2.1 p.1.2.2.2.2.2.2.2.2.1 p.2.1.1 p.2.1.2.1 p.2.1.2.2.1) (fun e => .inl (((), e.1, e.2.1, e.2.2.1, e.2.2.2.1, e.2.2.2.2.1, e.2.2.2.2.2.1, e.2.2.2.2.2.2.1, ()), ((e.2.2.2.2.2.2.2.1, e.2.2.2.2.2.2.2.2.1, e.2.2.2.2.2.2.2.2.2, ()), ()))) (fun _ _ _ => rfl) (fun _ => rfl) (fun m z E Xc hE hX hrec hx => leaf_of_ev (B := rlone_B) (loops := []) (leaves := [rlone_l4_h (rlone_l4 N m), rlone_l4_e0, rlone_j1_k N (rlone_l4 N m)]) (rlone_all N) mixed trivial hE hX ⟨hrec, (fun p hp => by obtain rfl := Option.some.inj hp; exact hx), rlone_j1_lf N _ hE hX hrec (fun p hp => by obtain rfl := Option.some.inj hp; exact hx), trivial⟩ RetOK.no (fun p => rlone_l4_eq N m p.1.2.1 p.1.2.2.1 p.1.2.2.2.1 p.1.2.2.2.2.1 p.1.2.2.2.2.2.1 p.1.2.2.2.2.2.2.1 p.1.2.2.2.2.2.2.2.1 p.1.2.2.2.2.2.2.2.2.1 p.2.1.1 p.2.1.2.1 p.2.1.2.2.1))
abbrev rlone_l3_at : List PI := [.c [1, 1, 0, 1, 0, 0, 1, 0, 0, 1, 1, 0, 1, 0, 0, 1, 0, 0, 1, 0, 0, 0, 0], .c [1, 1, 0, 1, 0, 0, 1, 0, 0, 1, 1, 0, 1, 0, 0, 1, 0, 0, 1, 0, 0, 0, 1], .c [1, 1, 0, 1, 0, 0, 1, 0, 0, 1, 1, 0, 1, 0, 0, 1, 0, 0, 1, 0, 0, 1], .l [1, 1, 0, 1, 0, 0, 1, 0, 0, 1, 1, 0, 1, 0, 0, 1, 0, 0, 1, 0, 0], .b 4, .b 3, .c [1, 1, 0, 1, 0, 0, 1, 0, 0, 1, 1, 0, 1, 0, 0, 1, 1], .l [1, 1, 0, 1, 0, 0, 1, 0, 0, 1, 1, 0, 1, 0, 0], .b 2, .c [1, 1, 0, 1, 0, 0, 1, 0, 0, 1, 1, 1], .b 1, .c [1, 1, 0, 1, 0, 0, 1, 1], .l [1, 1, 0, 1, 0, 0], .b 0, .c [1, 1, 1]]
abbrev rlone_l3_st : Sta := ⟨[1, 3, 4, 5, 6, 7, 8], ⟨[.own 0 0, .sl (.int .i64), .i .i64, .sl (.int .i64), .b, .i .i64, .i .i64], [.segs [.sl (.pair (.int .i64) (.pair (.int .i64) .bool)), .sl (.pair (.int .i64) (.pair (.int .i64) (.int .i64))), .i .i64]]⟩⟩
abbrev rlone_l3_h (rec : (List Int) → Int → (List Int) → Bool → Int → Int → (List (Int × (Int × Bool))) → (List (Int × (Int × Int))) → Int → Option (List Int × Int × List Int × Bool × Int × (List (Int × (Int × Bool))) × (List (Int × (Int × Int))) × Int)) : Leaf (List Int × Int × List Int × Bool × Int × (List (Int × (Int × Bool))) × (List (Int × (Int × Int))) × Int) := ⟨rlone_l3_at, rlone_l3_st, fun p => rec p.1.2.1 p.1.2.2.1 p.1.2.2.2.1 p.1.2.2.2.2.1 p.1.2.2.2.2.2.1 p.1.2.2.2.2.2.2.1 p.2.1.1 p.2.1.2.1 p.2.1.2.2.1⟩
abbrev rlone_l3_e0 : Leaf (List Int × Int × List Int × Bool × Int × (List (Int × (Int × Bool))) × (List (Int × (Int × Int))) × Int) := ⟨[.c [1, 1, 0, 1, 0, 0, 1, 0, 0, 1, 1, 0, 1, 0, 0, 1, 1], .l [1, 1, 0, 1, 0, 0, 1, 0, 0, 1, 1, 0, 1, 0, 0], .b 2, .c [1, 1, 0, 1, 0, 0, 1, 0, 0, 1, 1, 1], .b 1, .c [1, 1, 0, 1, 0, 0, 1, 1], .l [1, 1, 0, 1, 0, 0], .b 0, .c [1, 1, 1]], ⟨[1, 3, 4, 5, 6, 7], ⟨[.own 0 0, .sl (.int .i64), .i .i64, .sl (.int .i64), .b, .i .i64], [.segs [.sl (.pair (.int .i64) (.pair (.int .i64) .bool)), .sl (.pair (.int .i64) (.pair (.int .i64) (.int .i64))), .i .i64]]⟩⟩, fun p => some ((p.1.2.1, p.1.2.2.1, p.1.2.2.2.1, p.1.2.2.2.2.1, p.1.2.2.2.2.2.1, p.2.1.1, p.2.1.2.1, p.2.1.2.2.1))⟩
abbrev rlone_j2_at : List PI := [.c [1, 1, 0, 1, 0, 0, 1, 0, 0, 1, 1, 0, 1, 0, 0, 1, 0, 0, 1, 0, 0, 1, 1], .l [1, 1, 0, 1, 0, 0, 1, 0, 0, 1, 1, 0, 1, 0, 0, 1, 0, 0, 1, 0, 0], .b 4, .b 3, .c [1, 1, 0, 1, 0, 0, 1, 0, 0, 1, 1, 0, 1, 0, 0, 1, 1], .l [1, 1, 0, 1, 0, 0, 1, 0, 0, 1, 1, 0, 1, 0, 0], .b 2, .c [1, 1, 0, 1, 0, 0, 1, 0, 0, 1, 1, 1], .b 1, .c [1, 1, 0, 1, 0, 0, 1, 1], .l [1, 1, 0, 1, 0, 0], .b 0, .c [1, 1, 1]]
abbrev rlone_j2_st : Sta := ⟨[1, 3, 4, 5, 6, 7, 8], ⟨[.own 0 0, .sl (.int .i64), .i .i64, .sl (.int .i64), .b, .i .i64, .i .i64], [.segs [.sl (.pair (.int .i64) (.pair (.int .i64) .bool)), .sl (.pair (.int .i64) (.pair (.int .i64) (.int .i64))), .i .i64]]⟩⟩
abbrev rlone_j2_k (N : Nat) (rec : (List Int) → Int → (List Int) → Bool → Int → Int → (List (Int × (Int × Bool))) → (List (Int × (Int × Int))) → Int → Option (List Int × Int × List Int × Bool × Int × (List (Int × (Int × Bool))) × (List (Int × (Int × Int))) × Int)) : Leaf (List Int × Int × List Int × Bool × Int × (List (Int × (Int × Bool))) × (List (Int × (Int × Int))) × Int) := ⟨rlone_j2_at, rlone_j2_st, fun p => rlone_j2 N rec p.1.2.1 p.1.2.2.1 p.1.2.2.2.1 p.1.2.2.2.2.1 p.1.2.2.2.2.2.1 p.1.2.2.2.2.2.2.1 p.2.1.1 p.2.1.2.1 p.2.1.2.2.1⟩
theorem rlone_j2_eq (N : Nat) (rec : (List Int) → Int → (List Int) → Bool → Int → Int → (List (Int × (Int × Bool))) → (List (Int × (Int × Int))) → Int → Option (List Int × Int × List Int × Bool × Int × (List (Int × (Int × Bool))) × (List (Int × (Int × Int))) × Int)) (best : List Int) (n : Int) (l : List Int) (alone : Bool) (from_ : Int) (to : Int) (t : List (Int × (Int × Bool))) (t2 : List (Int × (Int × Int))) (t3 : Int) : ev (Z := List Int × Int × List Int × Bool × Int × (List (Int × (Int × Bool))) × (List (Int × (Int × Int))) × Int) Try.prog (rlone_sp N) rlone_B [rlone_l4_L N] [rlone_l3_h rec, rlone_l3_e0] none 400 true rlone_j2_at (stL rlone_j2_st (((), best, n, l, alone, from_, to, ()), ((t, t2, t3, ()), ()))) (stH rlone_j2_st (((), best, n, l, alone, from_, to, ()), ((t, t2, t3, ()), ()))) = rlone_j2 N rec best n l alone from_ to t t2 t3 := by kernel_rfl
theorem rlone_j2_lf (N : Nat) (rec : (List Int) → Int → (List Int) → Bool → Int → Int → (List (Int × (Int × Bool))) → (List (Int × (Int × Int))) → Int → Option (List Int × Int × List Int × Bool × Int × (List (Int × (Int × Bool))) × (List (Int × (Int × Int))) × Int)) {z : List Int × Int × List Int × Bool × Int × (List (Int × (Int × Bool))) × (List (Int × (Int × Int))) × Int} {top : Bool} {E : EE} {Xc : Ctx} (hE : EOK rlone_B.m0 E) (hX : CxOK top Xc) (hrec : LeafOK Try.prog rlone_B.c rlone_B.n rlone_B.m0 E Xc z (rlone_l3_h rec)) (h0 : LeafOK Try.prog rlone_B.c rlone_B.n rlone_B.m0 E Xc z rlone_l3_e0) : LeafOK Try.prog rlone_B.c rlone_B.n rlone_B.m0 E Xc z (rlone_j2_k N rec) := leaf_of_ev (B := rlone_B) (loops := [rlone_l4_L N]) (leaves := [rlone_l3_h rec, rlone_l3_e0]) (rlone_all N) mixed ⟨rlone_l4_ok N, trivial⟩ hE hX ⟨hrec, h0, trivial⟩ RetOK.no (fun p => rlone_j2_eq N rec p.1.2.1 p.1.2.2.1 p.1.2.2.2.1 p.1.2.2.2.2.1 p.1.2.2.2.2.2.1 p.1.2.2.2.2.2.2.1 p.2.1.1 p.2.1.2.1 p.2.1.2.2.1)
noncomputable def rlone_l3_L (N : Nat) : LoopS := { at_ := rlone_l3_at, sta := rlone_l3_st, exits := [([.c [1, 1, 0, 1, 0, 0, 1, 0, 0, 1, 1, 0, 1, 0, 0, 1, 1], .l [1, 1, 0, 1, 0, 0, 1, 0, 0, 1, 1, 0, 1, 0, 0], .b 2, .c [1, 1, 0, 1, 0, 0, 1, 0, 0, 1, 1, 1], .b 1, .c [1, 1, 0, 1, 0, 0, 1, 1], .l [1, 1, 0, 1, 0, 0], .b 0, .c [1, 1, 1]], ⟨[1, 3, 4, 5, 6, 7], ⟨[.own 0 0, .sl (.int .i64), .i .i64, .sl (.int .i64), .b, .i .i64], [.segs [.sl (.pair (.int .i64) (.pair (.int .i64) .bool)), .sl (.pair (.int .i64) (.pair (.int .i64) (.int .i64))), .i .i64]]⟩⟩)], run := fun p k => (rlone_l3 N N p.1.2.1 p.1.2.2.1 p.1.2.2.2.1 p.1.2.2.2.2.1 p.1.2.2.2.2.2.1 p.1.2.2.2.2.2.2.1 p.2.1.1 p.2.1.2.1 p.2.1.2.2.1).bind fun e => k (.inl (((), e.1, e.2.1, e.2.2.1, e.2.2.2.1, e.2.2.2.2.1, ()), ((e.2.2.2.2.2.1, e.2.2.2.2.2.2.1, e.2.2.2.2.2.2.2, ()), ()))) }
theorem rlone_l3_eq (N n_ : Nat) (best : List Int) (n : Int) (l : List Int) (alone : Bool) (from_ : Int) (to : Int) (t : List (Int × (Int × Bool))) (t2 : List (Int × (Int × Int))) (t3 : Int) : ev (Z := List Int × Int × List Int × Bool × Int × (List (Int × (Int × Bool))) × (List (Int × (Int × Int))) × Int) Try.prog (rlone_sp N) rlone_B [rlone_l4_L N] [rlone_l3_h (rlone_l3 N n_), rlone_l3_e0, rlone_j2_k N (rlone_l3 N n_)] none 400 true rlone_l3_at (stL rlone_l3_st (((), best, n, l, alone, from_, to, ()), ((t, t2, t3, ()), ()))) (stH rlone_l3_st (((), best, n, l, alone, from_, to, ()), ((t, t2, t3, ()), ()))) = rlone_l3 N (n_ + 1) best n l alone from_ to t t2 t3 := by kernel_rfl
theorem rlone_l3_ok (N : Nat) {top : Bool} : LoopOK Try.prog rlone_B.c rlone_B.n rlone_B.m0 top (rlone_l3_L N) := loop_of_ev (Z := List Int × Int × List Int × Bool × Int × (List (Int × (Int × Bool))) × (List (Int × (Int × Int))) × Int) (N := N) (fun m p => rlone_l3 N m p.1.2.1 p.1.2.2.1 p.1.2.2.2.1 p.1.2.2.2.2.1 p.1.2.2.2.2.2.1 p.1.2.2.2.2.2.2.1 p.2.1.1 p.2.1.2.1 p.2.1.2.2.1) (fun e => .inl (((), e.1, e.2.1, e.2.2.1, e.2.2.2.1, e.2.2.2.2.1, ()), ((e.2.2.2.2.2.1, e.2.2.2.2.2.2.1, e.2.2.2.2.2.2.2, ()), ()))) (fun _ _ _ => rfl) (fun _ => rfl) (fun m z E Xc hE hX hrec hx => leaf_of_ev (B := rlone_B) (loops := [rlone_l4_L N]) (leaves := [rlone_l3_h (rlone_l3 N m), rlone_l3_e0, rlone_j2_k N (rlone_l3 N m)]) (rlone_all N) mixed ⟨rlone_l4_ok N, trivial⟩ hE hX ⟨hrec, (fun p hp => by obtain rfl := Option.some.inj hp; exact hx), rlone_j2_lf N _ hE hX hrec (fun p hp => by obtain rfl := Option.some.inj hp; exact hx), trivial⟩ RetOK.no (fun p => rlone_l3_eq N m p.1.2.1 p.1.2.2.1 p.1.2.2.2.1 p.1.2.2.2.2.1 p.1.2.2.2.2.2.1 p.1.2.2.2.2.2.2.1 p.2.1.1 p.2.1.2.1 p.2.1.2.2.1))
abbrev rlone_l2_at : List PI := [.c [1, 1, 0, 1, 0, 0, 1, 0, 0, 1, 1, 0, 1, 0, 0, 0, 0], .c [1, 1, 0, 1, 0, 0, 1, 0, 0, 1, 1, 0, 1, 0, 0, 0, 1], .c [1, 1, 0, 1, 0, 0, 1, 0, 0, 1, 1, 0, 1, 0, 0, 1], .l [1, 1, 0, 1, 0, 0, 1, 0, 0, 1, 1, 0, 1, 0, 0], .b 2, .c [1, 1, 0, 1, 0, 0, 1, 0, 0, 1, 1, 1], .b 1, .c [1, 1, 0, 1, 0, 0, 1, 1], .l [1, 1, 0, 1, 0, 0], .b 0, .c [1, 1, 1]]
abbrev rlone_l2_st : Sta := ⟨[1, 3, 4, 5, 6, 7], ⟨[.own 0 0, .sl (.int .i64), .i .i64, .sl (.int .i64), .b, .i .i64], [.segs [.sl (.pair (.int .i64) (.pair (.int .i64) .bool)), .sl (.pair (.int .i64) (.pair (.int .i64) (.int .i64))), .i .i64]]⟩⟩
abbrev rlone_l2_h (rec : (List Int) → Int → (List Int) → Bool → Int → (List (Int × (Int × Bool))) → (List (Int × (Int × Int))) → Int → Option (List Int × Int × List Int × Bool × (List (Int × (Int × Bool))) × (List (Int × (Int × Int))) × Int)) : Leaf (List Int × Int × List Int × Bool × (List (Int × (Int × Bool))) × (List (Int × (Int × Int))) × Int) := ⟨rlone_l2_at, rlone_l2_st, fun p => rec p.1.2.1 p.1.2.2.1 p.1.2.2.2.1 p.1.2.2.2.2.1 p.1.2.2.2.2.2.1 p.2.1.1 p.2.1.2.1 p.2.1.2.2.1⟩
abbrev rlone_l2_e0 : Leaf (List Int × Int × List Int × Bool × (List (Int × (Int × Bool))) × (List (Int × (Int × Int))) × Int) := ⟨[.c [1, 1, 0, 1, 0, 0, 1, 0, 0, 1, 1, 1, 0], .c [1, 1, 0, 1, 0, 0, 1, 0, 0, 1, 1, 1, 1], .b 1, .c [1, 1, 0, 1, 0, 0, 1, 1], .l [1, 1, 0, 1, 0, 0], .b 0, .c [1, 1, 1]], ⟨[1, 3, 4, 5, 6], ⟨[.own 0 0, .sl (.int .i64), .i .i64, .sl (.int .i64), .b], [.segs [.sl (.pair (.int .i64) (.pair (.int .i64) .bool)), .sl (.pair (.int .i64) (.pair (.int .i64) (.int .i64))), .i .i64]]⟩⟩, fun p => some ((p.1.2.1, p.1.2.2.1, p.1.2.2.2.1, p.1.2.2.2.2.1, p.2.1.1, p.2.1.2.1, p.2.1.2.2.1))⟩
noncomputable def rlone_l2_L (N : Nat) : LoopS := { at_ := rlone_l2_at, sta := rlone_l2_st, exits := [([.c [1, 1, 0, 1, 0, 0, 1, 0, 0, 1, 1, 1, 0], .c [1, 1, 0, 1, 0, 0, 1, 0, 0, 1, 1, 1, 1], .b 1, .c [1, 1, 0, 1, 0, 0, 1, 1], .l [1, 1, 0, 1, 0, 0], .b 0, .c [1, 1, 1]], ⟨[1, 3, 4, 5, 6], ⟨[.own 0 0, .sl (.int .i64), .i .i64, .sl (.int .i64), .b], [.segs [.sl (.pair (.int .i64) (.pair (.int .i64) .bool)), .sl (.pair (.int .i64) (.pair (.int .i64) (.int .i64))), .i .i64]]⟩⟩)], run := fun p k => (rlone_l2 N N p.1.2.1 p.1.2.2.1 p.1.2.2.2.1 p.1.2.2.2.2.1 p.1.2.2.2.2.2.1 p.2.1.1 p.2.1.2.1 p.2.1.2.2.1).bind fun e => k (.inl (((), e.1, e.2.1, e.2.2.1, e.2.2.2.1, ()), ((e.2.2.2.2.1, e.2.2.2.2.2.1, e.2.2.2.2.2.2, ()), ()))) }
theorem rlone_l2_eq (N n_ : Nat) (best : List Int) (n : Int) (l : List Int) (alone : Bool) (from_ : Int) (t : List (Int × (Int × Bool))) (t2 : List (Int × (Int × Int))) (t3 : Int) : ev (Z := List Int × Int × List Int × Bool × (List (Int × (Int × Bool))) × (List (Int × (Int × Int))) × Int) Try.prog (rlone_sp N) rlone_B [rlone_l4_L N, rlone_l3_L N] [rlone_l2_h (rlone_l2 N n_), rlone_l2_e0] none 400 true rlone_l2_at (stL rlone_l2_st (((), best, n, l, alone, from_, ()), ((t, t2, t3, ()), ()))) (stH rlone_l2_st (((), best, n, l, alone, from_, ()), ((t, t2, t3, ()), ()))) = rlone_l2 N (n_ + 1) best n l alone from_ t t2 t3 := by kernel_rfl
theorem rlone_l2_ok (N : Nat) {top : Bool} : LoopOK Try.prog rlone_B.c rlone_B.n rlone_B.m0 top (rlone_l2_L N) := loop_of_ev (Z := List Int × Int × List Int × Bool × (List (Int × (Int × Bool))) × (List (Int × (Int × Int))) × Int) (N := N) (fun m p => rlone_l2 N m p.1.2.1 p.1.2.2.1 p.1.2.2.2.1 p.1.2.2.2.2.1 p.1.2.2.2.2.2.1 p.2.1.1 p.2.1.2.1 p.2.1.2.2.1) (fun e => .inl (((), e.1, e.2.1, e.2.2.1, e.2.2.2.1, ()), ((e.2.2.2.2.1, e.2.2.2.2.2.1, e.2.2.2.2.2.2, ()), ()))) (fun _ _ _ => rfl) (fun _ => rfl) (fun m z E Xc hE hX hrec hx => leaf_of_ev (B := rlone_B) (loops := [rlone_l4_L N, rlone_l3_L N]) (leaves := [rlone_l2_h (rlone_l2 N m), rlone_l2_e0]) (rlone_all N) mixed ⟨rlone_l4_ok N, rlone_l3_ok N, trivial⟩ hE hX ⟨hrec, (fun p hp => by obtain rfl := Option.some.inj hp; exact hx), trivial⟩ RetOK.no (fun p => rlone_l2_eq N m p.1.2.1 p.1.2.2.1 p.1.2.2.2.1 p.1.2.2.2.2.1 p.1.2.2.2.2.2.1 p.2.1.1 p.2.1.2.1 p.2.1.2.2.1))
abbrev rlone_l1_at : List PI := [.c [1, 1, 0, 1, 0, 0, 0, 0], .c [1, 1, 0, 1, 0, 0, 0, 1], .c [1, 1, 0, 1, 0, 0, 1], .l [1, 1, 0, 1, 0, 0], .b 0, .c [1, 1, 1]]
abbrev rlone_l1_st : Sta := ⟨[1, 3, 4], ⟨[.own 0 0, .sl (.int .i64), .i .i64], [.segs [.sl (.pair (.int .i64) (.pair (.int .i64) .bool)), .sl (.pair (.int .i64) (.pair (.int .i64) (.int .i64))), .i .i64]]⟩⟩
abbrev rlone_l1_h (rec : (List Int) → Int → (List (Int × (Int × Bool))) → (List (Int × (Int × Int))) → Int → Option (List Int)) : Leaf (List Int) := ⟨rlone_l1_at, rlone_l1_st, fun p => rec p.1.2.1 p.1.2.2.1 p.2.1.1 p.2.1.2.1 p.2.1.2.2.1⟩
abbrev rlone_l1_e0 : Leaf (List Int) := ⟨[.c [1, 1, 1, 0], .c [1, 1, 1, 1]], ⟨[3], ⟨[.sl (.int .i64)], []⟩⟩, fun p => some (p.1.1)⟩
abbrev rlone_j3_at : List PI := [.c [1, 1, 0, 1, 0, 0, 1, 1], .l [1, 1, 0, 1, 0, 0], .b 0, .c [1, 1, 1]]
abbrev rlone_j3_st : Sta := ⟨[1, 3, 4], ⟨[.own 0 0, .sl (.int .i64), .i .i64], [.segs [.sl (.pair (.int .i64) (.pair (.int .i64) .bool)), .sl (.pair (.int .i64) (.pair (.int .i64) (.int .i64))), .i .i64]]⟩⟩
abbrev rlone_j3_k (N : Nat) (rec : (List Int) → Int → (List (Int × (Int × Bool))) → (List (Int × (Int × Int))) → Int → Option (List Int)) : Leaf (List Int) := ⟨rlone_j3_at, rlone_j3_st, fun p => rlone_j3 N rec p.1.2.1 p.1.2.2.1 p.2.1.1 p.2.1.2.1 p.2.1.2.2.1⟩
theorem rlone_j3_eq (N : Nat) (rec : (List Int) → Int → (List (Int × (Int × Bool))) → (List (Int × (Int × Int))) → Int → Option (List Int)) (best : List Int) (n : Int) (t : List (Int × (Int × Bool))) (t2 : List (Int × (Int × Int))) (t3 : Int) : ev (Z := List Int) Try.prog (rlone_sp N) rlone_B [rlone_l4_L N, rlone_l3_L N, rlone_l2_L N] [rlone_l1_h rec, rlone_l1_e0] none 400 true rlone_j3_at (stL rlone_j3_st (((), best, n, ()), ((t, t2, t3, ()), ()))) (stH rlone_j3_st (((), best, n, ()), ((t, t2, t3, ()), ()))) = rlone_j3 N rec best n t t2 t3 := by kernel_rfl
theorem rlone_j3_lf (N : Nat) (rec : (List Int) → Int → (List (Int × (Int × Bool))) → (List (Int × (Int × Int))) → Int → Option (List Int)) {z : List Int} {top : Bool} {E : EE} {Xc : Ctx} (hE : EOK rlone_B.m0 E) (hX : CxOK top Xc) (hrec : LeafOK Try.prog rlone_B.c rlone_B.n rlone_B.m0 E Xc z (rlone_l1_h rec)) (h0 : LeafOK Try.prog rlone_B.c rlone_B.n rlone_B.m0 E Xc z rlone_l1_e0) : LeafOK Try.prog rlone_B.c rlone_B.n rlone_B.m0 E Xc z (rlone_j3_k N rec) := leaf_of_ev (B := rlone_B) (loops := [rlone_l4_L N, rlone_l3_L N, rlone_l2_L N]) (leaves := [rlone_l1_h rec, rlone_l1_e0]) (rlone_all N) mixed ⟨rlone_l4_ok N, rlone_l3_ok N, rlone_l2_ok N, trivial⟩ hE hX ⟨hrec, h0, trivial⟩ RetOK.no (fun p => rlone_j3_eq N rec p.1.2.1 p.1.2.2.1 p.2.1.1 p.2.1.2.1 p.2.1.2.2.1)
noncomputable def rlone_l1_L (N : Nat) : LoopS := { at_ := rlone_l1_at, sta := rlone_l1_st, exits := [([.c [1, 1, 1, 0], .c [1, 1, 1, 1]], ⟨[3], ⟨[.sl (.int .i64)], []⟩⟩)], run := fun p k => (rlone_l1 N N p.1.2.1 p.1.2.2.1 p.2.1.1 p.2.1.2.1 p.2.1.2.2.1).bind fun e => k (.inl ((e, ()), ())) }
theorem rlone_l1_eq (N n_ : Nat) (best : List Int) (n : Int) (t : List (Int × (Int × Bool))) (t2 : List (Int × (Int × Int))) (t3 : Int) : ev (Z := List Int) Try.prog (rlone_sp N) rlone_B [rlone_l4_L N, rlone_l3_L N, rlone_l2_L N] [rlone_l1_h (rlone_l1 N n_), rlone_l1_e0, rlone_j3_k N (rlone_l1 N n_)] none 400 true rlone_l1_at (stL rlone_l1_st (((), best, n, ()), ((t, t2, t3, ()), ()))) (stH rlone_l1_st (((), best, n, ()), ((t, t2, t3, ()), ()))) = rlone_l1 N (n_ + 1) best n t t2 t3 := by kernel_rfl
theorem rlone_l1_ok (N : Nat) {top : Bool} : LoopOK Try.prog rlone_B.c rlone_B.n rlone_B.m0 top (rlone_l1_L N) := loop_of_ev (Z := List Int) (N := N) (fun m p => rlone_l1 N m p.1.2.1 p.1.2.2.1 p.2.1.1 p.2.1.2.1 p.2.1.2.2.1) (fun e => .inl ((e, ()), ())) (fun _ _ _ => rfl) (fun _ => rfl) (fun m z E Xc hE hX hrec hx => leaf_of_ev (B := rlone_B) (loops := [rlone_l4_L N, rlone_l3_L N, rlone_l2_L N]) (leaves := [rlone_l1_h (rlone_l1 N m), rlone_l1_e0, rlone_j3_k N (rlone_l1 N m)]) (rlone_all N) mixed ⟨rlone_l4_ok N, rlone_l3_ok N, rlone_l2_ok N, trivial⟩ hE hX ⟨hrec, (fun p hp => by obtain rfl := Option.some.inj hp; exact hx), rlone_j3_lf N _ hE hX hrec (fun p hp => by obtain rfl := Option.some.inj hp; exact hx), trivial⟩ RetOK.no (fun p => rlone_l1_eq N m p.1.2.1 p.1.2.2.1 p.2.1.1 p.2.1.2.1 p.2.1.2.2.1))
abbrev rlone_st : Sta := ⟨[0], ⟨[.agg [.sl (.pair (.int .i64) (.pair (.int .i64) .bool)), .sl (.pair (.int .i64) (.pair (.int .i64) (.int .i64))), .i .i64]], []⟩⟩
theorem rlone_eq (N : Nat) (t : List (Int × (Int × Bool))) (t2 : List (Int × (Int × Int))) (t3 : Int) : ev (Z := List Int) Try.prog (rlone_sp N) rlone_B [rlone_l4_L N, rlone_l3_L N, rlone_l2_L N, rlone_l1_L N] [] (some rlone_rt) 400 false [.c [0], .c [1]] (stL rlone_st (((t, t2, t3, ()), ()), ())) (stH rlone_st (((t, t2, t3, ()), ()), ())) = rlone_S N t t2 t3 := by kernel_rfl
noncomputable def sp_rlone (N : Nat) : Spec := { f := 68, ins := ⟨[.agg [.sl (.pair (.int .i64) (.pair (.int .i64) .bool)), .sl (.pair (.int .i64) (.pair (.int .i64) (.int .i64))), .i .i64]], []⟩, outs := [⟨[.sl (.int .i64)], []⟩], run := fun p k => (rlone_S N p.1.1.1 p.1.1.2.1 p.1.1.2.2.1).bind fun r => k ((r, ()), ()) }
theorem sp_rlone_ok (N : Nat) : SpecOK Try.prog (sp_rlone N) := fn_sound (B := rlone_B) (loops := [rlone_l4_L N, rlone_l3_L N, rlone_l2_L N, rlone_l1_L N]) (leaves := []) (fun p => rlone_S N p.1.1.1 p.1.1.2.1 p.1.1.2.2.1) (fun r => ((r, ()), ())) rlone_rt (fun _ _ _ => rfl) (fun r z h => by cases h; rfl) Try.func68 (by kernel_rfl) (by kernel_rfl) (by kernel_rfl) rfl rfl (by kernel_rfl) (fun args w => Sem.pv_run _ _ _ (by kernel_rfl) w) (rlone_all N) mixed ⟨rlone_l4_ok N, rlone_l3_ok N, rlone_l2_ok N, rlone_l1_ok N, trivial⟩ (fun z E Xc hE hX hret => trivial) (fun p => rlone_eq N p.1.1.1 p.1.1.2.1 p.1.1.2.2.1)

end Go.Proofs.Ytfamlpbdhhikdaa

namespace Go.Proofs.Ytfamlpbdhhikdaa
set_option linter.all false
open Go

/-- All lists of numbers that add up to a number. -/
def comps : Nat → Nat → List (List Int)
  | 0, n => if n = 0 then [[]] else []
  | f + 1, n => if n = 0 then [[]] else (List.range' 1 n).flatMap fun k => (comps f (n - k)).map fun l => (k : Int) :: l
theorem comps_fuel : ∀ (f g n : Nat), n ≤ f → n ≤ g → comps f n = comps g n
  | 0, 0, _, _, _ => rfl
  | 0, g + 1, n, h1, h2 => by obtain rfl : n = 0 := by omega
                              simp [comps]
  | f + 1, 0, n, h1, h2 => by obtain rfl : n = 0 := by omega
                              simp [comps]
  | f + 1, g + 1, n, h1, h2 => by
    unfold comps
    split
    · rfl
    · refine goods_fuel.flatMap_congr' fun k hk => ?_
      obtain ⟨a1, a2⟩ := List.mem_range'_1.1 hk
      rw [comps_fuel f g (n - k) (by omega) (by omega)]
theorem flat_shift {β : Type} (p : Nat → Bool) (a n : Nat) (G h : Nat → List β) (hG : ∀ s, 1 ≤ s → s ≤ n → G s = if p (a + s) = true then h (a + s) else []) : ∀ c s, 1 ≤ s → s + c ≤ n + 1 → (List.range' s c).flatMap G = ((List.range' (a + s) c).filter p).flatMap h
  | 0, s, _, _ => rfl
  | c + 1, s, hs, hn => by
    rw [List.range'_succ, List.range'_succ, List.flatMap_cons, List.filter_cons, hG s hs (by omega), flat_shift p a n G h hG c (s + 1) (by omega) (by omega), show a + (s + 1) = a + s + 1 by omega]
    cases p (a + s)
    · simp
    · simp
section
variable {R : Nat → Nat → Bool} {m : Nat}
theorem cons_shift {a k : Nat} : (fun l : List Int => (((a + k : Nat) : Int) - a) :: l) = fun l => (k : Int) :: l := by
  funext l; congr 1; omega
theorem comps_goods : ∀ (f a : Nat), m - a ≤ f → a ≤ m → (comps f (m - a)).filter (goodB R m a) = goods R m f a
  | 0, a, h, ha => by
    obtain rfl : a = m := by omega
    simp [comps, goods, goodB]
  | f + 1, a, h, ha => by
    unfold comps goods
    by_cases e : a = m
    · subst e; simp [goodB]
    · rw [if_neg (by omega), if_neg e, List.filter_flatMap]
      unfold toL
      rw [show m + 1 - (a + 1) = m - a by omega]
      refine flat_shift (R a) a (m - a) _ _ (fun s h1 h2 => ?_) (m - a) 1 (Nat.le_refl _) (by omega)
      have ih := comps_goods f (a + s) (by omega) (by omega)
      rw [List.filter_map, cons_shift]
      have hp : (goodB R m a ∘ fun l => (s : Int) :: l) = fun l => R a (a + s) && goodB R m (a + s) l := by
        funext l
        simp only [Function.comp, goodB, Int.toNat_natCast]
        rw [decide_eq_true (show 1 ≤ (s : Int) by omega), decide_eq_true (show a + s ≤ m by omega)]
        rfl
      rw [hp, show m - a - s = m - (a + s) by omega]
      cases hR : R a (a + s)
      · simp
      · simp only [Bool.true_and, if_true]
        rw [ih]
theorem comps_all : ∀ (f a : Nat), m - a ≤ f → a ≤ m → comps f (m - a) = goods (fun _ _ => true) m f a
  | 0, a, h, ha => by
    obtain rfl : a = m := by omega
    simp [comps, goods]
  | f + 1, a, h, ha => by
    unfold comps goods
    by_cases e : a = m
    · subst e; simp
    · rw [if_neg (by omega), if_neg e]
      unfold toL
      rw [show m + 1 - (a + 1) = m - a by omega]
      refine flat_shift (fun _ => true) a (m - a) _ _ (fun s h1 h2 => ?_) (m - a) 1 (Nat.le_refl _) (by omega)
      have ih := comps_all f (a + s) (by omega) (by omega)
      rw [cons_shift, show m - a - s = m - (a + s) by omega, ih]; rfl
end
/-- All readings of so many words. -/
def compsL (n : Nat) : List (List Int) := comps 13 n
theorem compsL_len {n : Nat} (h : n ≤ 12) : (compsL n).length ≤ 2 ^ n := by
  have e := comps_all (m := n) 13 0 (by omega) (by omega)
  unfold compsL
  rw [Nat.sub_zero] at e
  rw [e]
  exact goodsL_len (R := fun _ _ => true) h n 0 (by omega)
theorem compsL_step {n : Nat} (h : 1 ≤ n) (hn : n ≤ 12) : compsL n = (List.range' 1 n).flatMap fun k => (compsL (n - k)).map fun l => (k : Int) :: l := by
  unfold compsL
  rw [comps_fuel 13 14 n (by omega) (by omega), comps, if_neg (by omega)]
theorem compsL_zero : compsL 0 = [[]] := rfl
theorem compsL_mem : ∀ (n : Nat), n ≤ 12 → ∀ l ∈ compsL n, (∀ x ∈ l, 1 ≤ x ∧ x ≤ 12) ∧ l.sum = n ∧ l.length ≤ n := by
  intro n
  induction n using Nat.strongRecOn with
  | ind n ih =>
    intro hn l hl
    by_cases e : n = 0
    · subst e
      rw [compsL_zero, List.mem_singleton] at hl
      subst hl; simp
    · rw [compsL_step (by omega) hn] at hl
      simp only [List.mem_flatMap, List.mem_map] at hl
      obtain ⟨k, hk, l', hl', rfl⟩ := hl
      obtain ⟨a1, a2⟩ := List.mem_range'_1.1 hk
      obtain ⟨b1, b2, b3⟩ := ih (n - k) (by omega) (by omega) l' hl'
      refine ⟨fun x hx => ?_, ?_, ?_⟩
      · rcases List.mem_cons.1 hx with rfl | hx
        · omega
        · exact b1 x hx
      · rw [List.sum_cons, b2]; omega
      · rw [List.length_cons]; omega
theorem goodsL_comps {R : Nat → Nat → Bool} {m : Nat} (hm : m ≤ 12) : (compsL m).filter (goodB R m 0) = goodsL R m 0 := by
  have := comps_goods (R := R) (m := m) 13 0 (by omega) (by omega)
  rw [Nat.sub_zero] at this
  exact this
/-! ### The program of the reference -/
section
variable {N : Nat} (hN : 110 ≤ N)
theorem readings_l2_p {self : Int → Option (List (List Int))} {nn : Int} {k : Int} {rest : List (List Int)} (hrl : rest.length ≤ 100000) (hr : ∀ x ∈ rest, x.length ≤ 100) : ∀ (n i : Nat) (O : List (List Int)), rest.length < n + i → i ≤ rest.length → O.length + rest.length ≤ 100000 + i →
    readings_l2 N self n nn k i O rest = some (nn, k, O ++ (rest.drop i).map fun l => k :: l)
  | 0, i, O, h, _, _ => by omega
  | n + 1, i, O, h, hi, hO => by
    by_cases c : i < rest.length
    · have hx := hr _ (getD_mem (d := []) c)
      rw [readings_l2, br_dec (by omega), rng_eq (by omega), get_get [] (by omega), drop_cons c []]
      simp only [Int.toNat_natCast]
      generalize rest.getD i [] = x at *
      have ih := readings_l2_p (self := self) (nn := nn) (k := k) hrl hr n (i + 1) (O ++ [[k] ++ x]) (by omega) (by omega) (by simp; omega)
      rw [show ((i + 1 : Nat) : Int) = (i : Int) + 1 by omega] at ih
      rw [lim_eq (by simp; omega), lim_eq (by simp; omega), chk_eq (by omega), ih]
      simp
    · rw [readings_l2, br_ndec (by omega), List.drop_of_length_le (by omega)]; simp
theorem readings_l1_p {self : Int → Option (List (List Int))} {m : Nat} (hm : m ≤ 12) {C : Nat → List (List Int)} (hs : ∀ j, j < m → self j = some (C j)) (hC : ∀ j, (C j).length ≤ 4096 ∧ (C j).length < N) (hC2 : ∀ j, j < m → ∀ x ∈ C j, x.length ≤ 100) : ∀ (n k : Nat) (O : List (List Int)), m + 1 < n + k → 1 ≤ k → k ≤ m + 1 → O.length ≤ 4096 * k →
    readings_l1 N self n m k O = some (O ++ (List.range' k (m + 1 - k)).flatMap fun k => (C (m - k)).map fun l => (k : Int) :: l)
  | 0, k, O, h, _, _, _ => by omega
  | n + 1, k, O, h, h1, hk, hO => by
    by_cases c : k ≤ m
    · have hc := hC (m - k)
      have e2 := readings_l2_p (N := N) (self := self) (nn := (m : Int)) (k := (k : Int)) (rest := C (m - k)) (by omega) (hC2 _ (by omega)) N 0 O (by omega) (by omega) (by omega)
      simp only [Int.natCast_zero, List.drop_zero] at e2
      have ih := readings_l1_p hm hs hC hC2 n (k + 1) (O ++ (C (m - k)).map fun l => (k : Int) :: l) (by omega) (by omega) (by omega) (by simp; omega)
      rw [show ((k + 1 : Nat) : Int) = (k : Int) + 1 by omega] at ih
      rw [readings_l1, br_dec (by omega), chk_eq (by omega), show (m : Int) - k = ((m - k : Nat) : Int) by omega, hs _ (by omega)]
      simp only [Option.bind_some]
      rw [e2]
      simp only [Option.bind_some]
      rw [chk_eq (by omega), ih, show m + 1 - k = (m + 1 - (k + 1)) + 1 by omega, List.range'_succ, List.flatMap_cons, List.append_assoc]
    · rw [readings_l1, br_ndec (by omega), show m + 1 - k = 0 by omega]; simp
include hN
theorem readings_v (hN2 : 1030 ≤ N) : ∀ (f m : Nat), m < f → m ≤ 10 → readings_R N f m = some (compsL m)
  | 0, m, h, _ => by omega
  | f + 1, m, h, hm => by
    show readings_S N (readings_R N f) m = _
    unfold readings_S
    by_cases e : m = 0
    · subst e; rfl
    · have hb : ∀ j, (compsL (min j 10)).length ≤ 1024 := fun j => by
        refine Nat.le_trans (compsL_len (n := min j 10) (by omega)) ?_
        exact Nat.le_trans (Nat.pow_le_pow_right (by omega) (show min j 10 ≤ 10 by omega)) (by decide)
      have e1 := readings_l1_p (N := N) (self := readings_R N f) (m := m) (by omega) (C := fun j => compsL (min j 10)) (fun j hj => by
        rw [show min j 10 = j by omega]
        exact readings_v hN2 f j (by omega) (by omega)) (fun j => by have := hb j; omega) (fun j hj x hx => by
        have := compsL_mem (min j 10) (by omega) x hx; omega) N 1 [] (by omega) (by omega) (by omega) (by simp)
      rw [br_ndec (by omega)]
      simp only [Int.natCast_one] at e1
      rw [e1]
      simp only [Option.bind_some, List.nil_append]
      rw [compsL_step (by omega) (by omega), show m + 1 - 1 = m by omega]
      congr 1
      refine goods_fuel.flatMap_congr' fun k hk => ?_
      rw [show min (m - k) 10 = m - k by omega]
end
section
variable {ws : List Wd} {ts : List Tn} {br_ : Int}
theorem good_wrong : ∀ (l : List Int) (p : Nat) (i : Int), (∀ x ∈ l, 1 ≤ x ∧ x ≤ 12) → (p : Int) + l.sum = ws.length → (goodB (rightR ws ts br_) ws.length p l = true ↔ wrongF ws ts br_ l p i = none)
  | [], p, i, _, hs => by simp [goodB, wrongF]; simp at hs; omega
  | x :: l, p, i, h, hs => by
    have hx := h x (by simp)
    have hge := sum_ge (l := l) (fun y hy => h y (by simp [hy]))
    rw [List.sum_cons] at hs
    have ih := good_wrong l (p + x.toNat) (i + 1) (fun y hy => h y (by simp [hy])) (by omega)
    rw [good_cons, wrongF]
    unfold rightR
    cases (faultR ws ts br_ p (p + x.toNat)).2
    · rw [if_neg (by simp), ← ih]
      unfold rightR
      simp only [Bool.not_false, true_and]
      exact ⟨fun h => h.2, fun h => ⟨⟨by omega, by omega⟩, h⟩⟩
    · simp
theorem wrongR_iff (hF : checkT ws ts br_ = 0) {l : List Int} (h : ∀ x ∈ l, 1 ≤ x ∧ x ≤ 12) (hs : l.sum = ws.length) : (wrongR ws ts br_ l).2.2 = 6 ↔ goodB (rightR ws ts br_) ws.length 0 l = true := by
  rw [good_wrong l 0 0 h (by simpa using hs)]
  have hr : readE ws ts br_ l = 0 := by
    unfold readE
    rw [if_neg (by simpa using hF), if_neg (by simpa [in12] using h), if_neg (by simpa using hs)]
  unfold wrongR
  rw [if_neg (by simpa using hr)]
  cases wrongF ws ts br_ l 0 0 <;> simp
theorem good_read {l : List Int} (hm : ws.length ≤ 12) : ∀ {p : Nat}, goodB (rightR ws ts br_) ws.length p l = true → (∀ x ∈ l, 1 ≤ x ∧ x ≤ 12) ∧ (p : Int) + l.sum = ws.length := by
  induction l with
  | nil => intro p h; have := good_nil.1 h; simp; omega
  | cons x l ih =>
    intro p h
    obtain ⟨⟨b1, b2⟩, _, b4⟩ := good_cons.1 h
    obtain ⟨c1, c2⟩ := ih b4
    refine ⟨fun y hy => ?_, by rw [List.sum_cons]; omega⟩
    rcases List.mem_cons.1 hy with rfl | hy
    · omega
    · exact c1 y hy
variable {N : Nat} (hN : 1030 ≤ N)
include hN
theorem rright_l1_p (hw : ws.length ≤ 1000000) (ht : ts.length ≤ 1000000) {P : List Int → Bool} {all : List (List Int)} (ha : all.length ≤ 100000) (hl : ∀ l ∈ all, l.length ≤ 100 ∧ P l = decide ((wrongR ws ts br_ l).2.2 = 6)) : ∀ (n k : Nat), all.length < n + k → k ≤ all.length →
    rright_l1 N n k ws ts br_ ((all.take k).filter P) all = some (all.filter P)
  | 0, k, h, _ => by omega
  | n + 1, k, h, hk => by
    by_cases c : k < all.length
    · obtain ⟨hx1, hx2⟩ := hl _ (getD_mem (d := []) c)
      have ih := rright_l1_p hw ht ha hl n (k + 1) (by omega) (by omega)
      rw [take_succ' c [], List.filter_append] at ih
      have hlen : ((all.take k).filter P).length ≤ 100000 := Nat.le_trans (List.length_filter_le _ _) (by simp; omega)
      rw [rright_l1, br_dec (by omega), rng_eq (by omega), get_get [] (by omega)]
      simp only [Int.toNat_natCast]
      have g : all[k]? = some (all.getD k []) := by simp [List.getD, c]
      generalize all.getD k [] = x at *
      have hj : ∀ O, rright_j1 N (rright_l1 N n) k ws ts br_ O all = rright_l1 N n ((k + 1 : Nat) : Int) ws ts br_ O all := fun O => by
        unfold rright_j1
        rw [chk_eq (by omega)]; rfl
      rw [rwrong_v (by omega) hw ht hx1]
      simp only [Option.bind_some, hj]
      rw [List.filter_cons] at ih
      by_cases e : (wrongR ws ts br_ x).2.2 = 6
      · rw [decide_eq_true e] at hx2
        rw [br_dec e, rng_eq (by omega), get_eq g, lim_eq (by simp; omega)]
        rw [hx2] at ih
        exact ih
      · rw [decide_eq_false e] at hx2
        rw [br_ndec e]
        rw [hx2] at ih
        simpa using ih
    · rw [rright_l1, br_ndec (by omega), List.take_of_length_le (by omega)]
theorem rright_v (hF : checkT ws ts br_ = 0) (hm : ws.length ≤ 10) : rright_S N ws ts br_ = some (goodsT ws ts br_ 0) := by
  have hT := tfine_of hF
  have := hT.t
  unfold rright_S
  rw [readings_v (by omega) (by omega) N ws.length (by omega) hm]
  simp only [Option.bind_some]
  have hlen : (compsL ws.length).length ≤ 1024 := Nat.le_trans (compsL_len (by omega)) (Nat.le_trans (Nat.pow_le_pow_right (by omega) hm) (by decide))
  have e := rright_l1_p (ws := ws) (ts := ts) (br_ := br_) hN (by omega) (by omega) (P := goodB (rightR ws ts br_) ws.length 0) (all := compsL ws.length) (by omega) (fun l hl => by
    obtain ⟨a1, a2, a3⟩ := compsL_mem ws.length (by omega) l hl
    refine ⟨by omega, ?_⟩
    rw [Bool.eq_iff_iff, decide_eq_true_eq]
    exact (wrongR_iff hF a1 a2).symm) N 0 (by omega) (by omega)
  simp only [Int.natCast_zero, List.take_zero, List.filter_nil] at e
  rw [e, goodsL_comps (by omega)]; rfl
end
/-! ### The fewest breaths -/
section
variable {N : Nat} {l : List (List Int)} (hl : l.length ≤ 100000) (h1 : ∀ x ∈ l, 1 ≤ x.length)
include hl h1
theorem rfewest_l1_p : ∀ (n k : Nat) (b : Int), l.length < n + k → k ≤ l.length → (k = 0 ∧ b = 0 ∨ 0 < k ∧ (∃ x ∈ l, (x.length : Int) = b) ∧ ∀ x ∈ l.take k, b ≤ x.length) →
    ∃ z, rfewest_l1 N n l b k = some z ∧ (l = [] ∧ z = 0 ∨ (∃ x ∈ l, (x.length : Int) = z) ∧ ∀ x ∈ l, z ≤ x.length)
  | 0, k, b, h, _, _ => by omega
  | n + 1, k, b, h, hk, hb => by
    by_cases c : k < l.length
    · have hm := getD_mem (d := []) c
      have hx := h1 _ hm
      have tk := take_succ' c []
      have g := gets c ([] : List Int)
      have ih := rfewest_l1_p n (k + 1)
      rw [tk] at ih
      rw [rfewest_l1, br_dec (by omega)]
      generalize l.getD k [] = x at *
      have hj : ∀ b, rfewest_j1 N (rfewest_l1 N n) l b k = rfewest_l1 N n l b ((k + 1 : Nat) : Int) := fun b => by
        unfold rfewest_j1
        rw [chk_eq (by omega)]; rfl
      simp only [hj]
      rcases hb with ⟨rfl, rfl⟩ | ⟨h0, ⟨y, hy, rfl⟩, hb⟩
      · rw [br_dec rfl, idx_eq (by omega) g]
        exact ih x.length (by omega) (by omega) (.inr ⟨by omega, ⟨x, hm, rfl⟩, fun z hz => by simp at hz; subst hz; omega⟩)
      · have := h1 y hy
        rw [br_ndec (by omega), idx_eq (by omega) g]
        by_cases e : (x.length : Int) < y.length
        · rw [br_dec e, idx_eq (by omega) g]
          refine ih x.length (by omega) (by omega) (.inr ⟨by omega, ⟨x, hm, rfl⟩, fun z hz => ?_⟩)
          rcases List.mem_append.1 hz with hz | hz
          · have := hb z hz; omega
          · simp at hz; subst hz; omega
        · rw [br_ndec e]
          refine ih y.length (by omega) (by omega) (.inr ⟨by omega, ⟨y, hy, rfl⟩, fun z hz => ?_⟩)
          rcases List.mem_append.1 hz with hz | hz
          · exact hb z hz
          · simp at hz; subst hz; omega
    · rw [rfewest_l1, br_ndec (by omega)]
      refine ⟨b, rfl, ?_⟩
      rcases hb with ⟨rfl, rfl⟩ | ⟨h0, hb1, hb2⟩
      · exact .inl ⟨List.length_eq_zero_iff.1 (by omega), rfl⟩
      · rw [List.take_of_length_le (by omega)] at hb2
        exact .inr ⟨hb1, hb2⟩
theorem rfewest_v (hN : l.length < N) : (l = [] ∧ rfewest_S N l = some (0, 6)) ∨ ∃ z, rfewest_S N l = some (z, 0) ∧ (∃ x ∈ l, (x.length : Int) = z) ∧ ∀ x ∈ l, z ≤ x.length := by
  obtain ⟨z, e, hz⟩ := rfewest_l1_p (N := N) hl h1 N 0 0 (by omega) (by omega) (.inl ⟨rfl, rfl⟩)
  simp only [Int.natCast_zero] at e
  unfold rfewest_S
  rw [e]
  simp only [Option.bind_some]
  rcases hz with ⟨h, rfl⟩ | ⟨⟨x, hx, rfl⟩, h⟩
  · exact .inl ⟨h, rfl⟩
  · have := h1 x hx
    rw [br_ndec (by omega)]
    exact .inr ⟨_, rfl, ⟨x, hx, rfl⟩, h⟩
end
end Go.Proofs.Ytfamlpbdhhikdaa

namespace Go.Proofs.Ytfamlpbdhhikdaa
set_option linter.all false
open Go

section
variable {N : Nat} {l : List (List Int)} {ws : List Wd} {ts : List Tn} {br_ : Int} {O : List Int}
end
section
variable {R : Nat → Nat → Bool} {m : Nat}
end
section
variable {N : Nat} {ws : List Wd} {ts : List Tn} {br_ : Int} (hF : TFine ws ts br_) (hN : 1030 ≤ N) (hm : ws.length ≤ 10)
include hF hm hN
theorem goodsT_len : (goodsT ws ts br_ 0).length ≤ 1024 := by
  refine Nat.le_trans (goodsL_len hF.n ws.length 0 (by omega)) ?_
  exact Nat.le_trans (Nat.pow_le_pow_right (by omega) hm) (by decide)
theorem goodsT_mem {x : List Int} (hx : x ∈ goodsT ws ts br_ 0) : (∀ y ∈ x, 1 ≤ y ∧ y ≤ 12) ∧ x.length ≤ 12 ∧ 1 ≤ x.length ∧ x.sum = ws.length := by
  have hg := (mem_goodsL (by omega) hF.n).1 hx
  obtain ⟨h1, h2⟩ := good_read (by omega) hg
  have := sum_ge h1
  have := hF.n0
  refine ⟨h1, by omega, ?_, by simpa using h2⟩
  cases x with
  | nil => simp at h2; omega
  | cons a l => simp
end
end Go.Proofs.Ytfamlpbdhhikdaa

namespace Go.Proofs.Ytfamlpbdhhikdaa
set_option linter.all false
open Go

section
variable {ws : List Wd} {ts : List Tn} {br_ : Int}
variable {N : Nat} (hN : 110 ≤ N) (hF : TFine ws ts br_)
include hN hF
end
/-! ### Sure readings -/
section
variable {ws : List Wd} {ts : List Tn} {br_ : Int} {N : Nat} (hN : 110 ≤ N) (hF : TFine ws ts br_)
include hN hF
end
/-! ### No run of a sure reading says a turn otherwise -/
section
variable {ws : List Wd} {ts : List Tn} {br_ : Int}
end
end Go.Proofs.Ytfamlpbdhhikdaa

namespace Go.Proofs.Ytfamlpbdhhikdaa
set_option linter.all false
open Go

section
variable {N : Nat} {ws : List Wd} {ts : List Tn} {br_ : Int} (hN : 110 ≤ N) (hF : TFine ws ts br_)
include hN hF
end
section
variable {N : Nat} {ws : List Wd} {ts : List Tn} {br_ : Int} (hF : TFine ws ts br_) (hN : 1030 ≤ N) (hm : ws.length ≤ 10)
include hF hm hN
end
end Go.Proofs.Ytfamlpbdhhikdaa

namespace Go.Proofs.Ytfamlpbdhhikdaa
set_option linter.all false
open Go

/-! ### Bells -/
/-! ### Texts that are made -/
theorem checkT_of {ws : List Wd} {ts : List Tn} {br_ : Int} (h : TFine ws ts br_) : checkT ws ts br_ = 0 := by
  have h1 := h.n0; have h2 := h.n; have h3 := h.t; have h4 := h.b0; have h5 := h.b1
  have e1 : ws.all okw = true := by
    rw [List.all_eq_true]
    intro w hw
    have := h.w w hw
    simp [okw]; omega
  have e2 : ts.all (ok2 ws.length) = true := by
    rw [List.all_eq_true]
    intro x hx
    have := h.x x hx
    simp only [ok2, inT, Bool.and_eq_true, decide_eq_true_eq]; omega
  have e3 : ts.all ok3 = true := by
    rw [List.all_eq_true]
    intro x hx
    have := h.x x hx
    simp only [ok3, decide_eq_true_eq]; omega
  have e4 : ts.all ok4 = true := by
    rw [List.all_eq_true]
    intro x hx
    have := h.x x hx
    simp only [ok4, Bool.not_eq_true', decide_eq_false_iff_not]; omega
  unfold checkT
  rw [if_neg (by omega), if_neg (by omega), if_neg (by omega), if_neg (by simp [e1]), if_neg (by simp [e2]), if_neg (by simp [e3]), if_neg (by simp [e4])]
section
variable {N : Nat} {b : List Int}
/-! ### Readings that are tried -/
end
end Go.Proofs.Ytfamlpbdhhikdaa

namespace Go.Proofs.Ytfamlpbdhhikdaa
set_option linter.all false
open Go

section
variable {N : Nat} {ws : List Wd} {ts : List Tn} {br_ : Int}
variable (hN : 110 ≤ N) (hF : TFine ws ts br_)
include hN hF
omit hN hF
/-! ### Places -/
theorem sum_nonneg {l : List Int} (h : l.all (fun x => decide (1 ≤ x)) = true) : (l.length : Int) ≤ l.sum := by
  induction l with
  | nil => simp
  | cons a l ih =>
    simp only [List.all_cons, Bool.and_eq_true, decide_eq_true_eq] at h
    have := ih h.2
    rw [List.sum_cons, List.length_cons]; omega
/-! ### Right readings -/
include hN hF
end
end Go.Proofs.Ytfamlpbdhhikdaa

namespace Go.Proofs.Ytfamlpbdhhikdaa
set_option linter.all false
open Go

section
variable {N : Nat} {ws : List Wd} {ts : List Tn} {br_ : Int} (hN : 110 ≤ N) (hF : TFine ws ts br_)
include hN hF
end
end Go.Proofs.Ytfamlpbdhhikdaa

namespace Go.Proofs.Ytfamlpbdhhikdaa
set_option linter.all false
open Go

/-! ### Runs that no turn is said otherwise by -/
section
variable {N : Nat} {ws : List Wd} {ts : List Tn} {br_ : Int} (hN : 110 ≤ N) (ht : ts.length ≤ 100)
include hN ht
end
/-! ### Turns that are parted -/
section
variable {ws : List Wd} {ts : List Tn} {br_ : Int}
end
section
variable {N : Nat} {ws : List Wd} {ts : List Tn} {br_ : Int} (hN : 110 ≤ N) (hF : TFine ws ts br_)
include hN hF
end
end Go.Proofs.Ytfamlpbdhhikdaa

namespace Go.Proofs.Ytfamlpbdhhikdaa
set_option linter.all false
open Go

section
variable {N : Nat} {ws : List Wd} {ts : List Tn} {br_ : Int} (hN : 110 ≤ N) (hF : TFine ws ts br_)
include hN hF
end
end Go.Proofs.Ytfamlpbdhhikdaa

namespace Go.Proofs.Ytfamlpbdhhikdaa
set_option linter.all false
open Go

/-- Marks from others, lowered at the places of right breaths from places ahead of one. -/
structure Low (R : Nat → Nat → Bool) (m f : Nat) (A M : List Int) : Prop where
  len : M.length = 13
  le : ∀ q, M.getD q 0 ≤ A.getD q 0
  hold : ∀ p q, p < f → p < q → q ≤ m → R p q = true → M.getD q 0 ≤ M.getD p 0 + 1
  why : ∀ q, M.getD q 0 = A.getD q 0 ∨ ∃ p, p < f ∧ p < q ∧ q ≤ m ∧ R p q = true ∧ M.getD q 0 = M.getD p 0 + 1
structure Mk (A : List Int) : Prop where
  len : A.length = 13
  bd : ∀ q, 0 ≤ A.getD q 0 ∧ A.getD q 0 ≤ 99
section
variable {R : Nat → Nat → Bool} {m : Nat} {A M : List Int}
theorem Low.start (h : Mk A) : Low R m 0 A A := ⟨h.len, fun q => Int.le_refl _, fun p q h => by omega, fun q => .inl rfl⟩
theorem Low.bd (hA : Mk A) {f : Nat} (h : Low R m f A M) : ∀ q, 0 ≤ M.getD q 0 ∧ M.getD q 0 ≤ 99 := by
  intro q
  induction q using Nat.strongRecOn with
  | ind q ih =>
    have h1 := h.le q
    have h2 := hA.bd q
    rcases h.why q with e | ⟨p, _, hp, _, _, e⟩
    · omega
    · have := ih p hp; omega
theorem Low.next {f : Nat} {M' : List Int} (h : Low R m f A M) (hl : M'.length = 13) (hM : ∀ q, M'.getD q 0 = if (f < q ∧ q ≤ m ∧ R f q = true) then min (M.getD q 0) (M.getD f 0 + 1) else M.getD q 0) : Low R m (f + 1) A M' := by
  have hle : ∀ q, M'.getD q 0 ≤ M.getD q 0 := fun q => by
    rw [hM q]; split <;> omega
  have hsm : ∀ p, p ≤ f → M'.getD p 0 = M.getD p 0 := fun p hp => by rw [hM p, if_neg (by omega)]
  refine ⟨hl, fun q => Int.le_trans (hle q) (h.le q), fun p q h1 h2 h3 h4 => ?_, fun q => ?_⟩
  · rw [hsm p (by omega)]
    by_cases e : p = f
    · subst e
      rw [hM q, if_pos ⟨h2, h3, h4⟩]; omega
    · have := h.hold p q (by omega) h2 h3 h4
      have := hle q; omega
  · by_cases e : M'.getD q 0 = M.getD q 0
    · rw [e]
      rcases h.why q with h1 | ⟨p, h1, h2, h3, h4, h5⟩
      · exact .inl h1
      · exact .inr ⟨p, by omega, h2, h3, h4, by rw [hsm p (by omega)]; exact h5⟩
    · by_cases c : f < q ∧ q ≤ m ∧ R f q = true
      · have h1 := hM q
        rw [if_pos c] at h1
        exact .inr ⟨f, by omega, c.1, c.2.1, c.2.2, by rw [hsm f (Nat.le_refl _)]; omega⟩
      · exact absurd (by rw [hM q, if_neg c]) e
/-- Marks that hold stay. -/
theorem Low.fix (h : Low R m m A M) (hA : Mk A) (hh : ∀ p q, p < q → q ≤ m → R p q = true → A.getD q 0 ≤ A.getD p 0 + 1) : M = A := by
  have key : ∀ q, M.getD q 0 = A.getD q 0 := by
    intro q
    induction q using Nat.strongRecOn with
    | ind q ih =>
      rcases h.why q with e | ⟨p, h1, h2, h3, h4, h5⟩
      · exact e
      · have := hh p q h2 h3 h4
        have := ih p h2
        have := h.le q; omega
  refine List.ext_getElem (by rw [h.len, hA.len]) fun i h1 h2 => ?_
  have := key i
  simpa [List.getD, h1, h2] using this
theorem Low.holds (h : Low R m m A A) : ∀ p q, p < q → q ≤ m → R p q = true → A.getD q 0 ≤ A.getD p 0 + 1 := fun p q h1 h2 h3 => h.hold p q (by omega) h1 h2 h3
theorem good_snoc {k : Nat} : ∀ {l : List Int} {a : Nat}, goodB R k a l = true → l ≠ [] → ∃ p l1, p < k ∧ goodB R p a l1 = true ∧ R p k = true ∧ l.length = l1.length + 1
  | [], a, h, hn => absurd rfl hn
  | x :: l, a, h, _ => by
    obtain ⟨⟨b1, b2⟩, b3, b4⟩ := good_cons.1 h
    by_cases e : l = []
    · subst e
      have := good_nil.1 b4
      exact ⟨a, [], by omega, by simp [goodB], by rw [← this]; exact b3, rfl⟩
    · obtain ⟨p, l1, c1, c2, c3, c4⟩ := good_snoc b4 e
      exact ⟨p, x :: l1, c1, good_cons.2 ⟨⟨b1, good_le c2⟩, b3, c2⟩, c3, by simp [c4]⟩
theorem good_len {k : Nat} : ∀ {l : List Int} {a : Nat}, goodB R k a l = true → l.length + a ≤ k
  | [], a, h => by have := good_nil.1 h; simp; omega
  | x :: l, a, h => by
    obtain ⟨⟨b1, b2⟩, _, b4⟩ := good_cons.1 h
    have := good_len b4
    rw [List.length_cons]; omega
/-- The marks that are told: the fewest breaths to each place. -/
theorem Low.dist (h : Low R m m A M) (hm : m ≤ 12) (h0 : A.getD 0 0 = 0) (h1 : ∀ q, 1 ≤ q → q ≤ m → A.getD q 0 = 99) : ∀ q, q ≤ m → (M.getD q 0 = 99 ∧ ∀ l, goodB R q 0 l = false) ∨ IsMin R q 0 (M.getD q 0) := by
  intro q
  induction q using Nat.strongRecOn with
  | ind q ih =>
    intro hq
    by_cases e : q = 0
    · subst e
      have : M.getD 0 0 = 0 := by
        rcases h.why 0 with h2 | ⟨p, _, h2, _⟩
        · rw [h2, h0]
        · omega
      rw [this]
      exact .inr IsMin.end_
    · have hA := h1 q (by omega) hq
      -- no way is shorter
      have low : ∀ l, goodB R q 0 l = true → M.getD q 0 ≤ l.length := fun l hl => by
        have hne : l ≠ [] := fun e2 => by subst e2; have := good_nil.1 hl; omega
        obtain ⟨p, l1, c1, c2, c3, c4⟩ := good_snoc hl hne
        have h2 := h.hold p q (by omega) c1 hq c3
        rcases ih p c1 (by omega) with ⟨_, d⟩ | d
        · rw [d l1] at c2; cases c2
        · have := d.le l1 c2; omega
      rcases h.why q with h2 | ⟨p, c1, c2, c3, c4, c5⟩
      · refine .inl ⟨by omega, fun l => ?_⟩
        cases hg : goodB R q 0 l
        · rfl
        · have := low l hg; have := good_len hg; omega
      · rcases ih p c2 (by omega) with ⟨d, _⟩ | d
        · have := h.le q; omega
        · obtain ⟨l1, d1, d2⟩ := d.ex
          refine .inr ⟨⟨l1 ++ [((q : Int) - p)], good_app d1 (good_step c2 (Nat.le_refl _) c4 (by simp [goodB])), by rw [List.length_append, List.length_singleton]; omega⟩, low⟩
end
section
variable {N : Nat} {ws : List Wd} {ts : List Tn} {br_ : Int} (hN : 110 ≤ N) (hF : TFine ws ts br_)
include hF
theorem lowered_l2_p {u u2 u3 : Int} {d u4 : Tx} {G : List Int} {f : Nat} (hf : f < ws.length) : ∀ (es : List Nat) (M : List Int), M.length = 13 → (0 ≤ M.getD f 0 ∧ M.getD f 0 ≤ 1000) → (∀ q ∈ es, f < q ∧ q ≤ ws.length) →
    ∃ M', lowered_l2 N (es.map fun (j : Nat) => ((j : Int), ())) d u u2 u3 u4 M G f = some (d, u, u2, M', G) ∧ M'.length = 13 ∧ ∀ q, M'.getD q 0 = if q ∈ es then min (M.getD q 0) (M.getD f 0 + 1) else M.getD q 0
  | [], M, hM, _, _ => ⟨M, rfl, hM, fun q => by simp⟩
  | e :: es, M, hM, hb, he => by
    have := hF.n
    obtain ⟨h1, h2⟩ := he e (by simp)
    have hMf : (M.set e (min (M.getD e 0) (M.getD f 0 + 1))).getD f 0 = M.getD f 0 := by rw [getD_set' (by omega), if_neg (by omega)]
    obtain ⟨M', e1, e2, e3⟩ := lowered_l2_p hf es (M.set e (min (M.getD e 0) (M.getD f 0 + 1))) (by simpa using hM) (by rw [hMf]; exact hb) (fun q hq => he q (by simp [hq]))
    refine ⟨M', ?_, e2, fun q => ?_⟩
    · rw [List.map_cons, lowered_l2]
      unfold lowered_l2_b
      rw [rng_eq (by omega), get_get 0 (by omega), rng_eq (by omega), get_get 0 (by omega), chk_eq (by simp only [Int.toNat_natCast]; omega), rng_eq (by omega), get_get 0 (by omega)]
      exact e1
    · rw [e3 q, hMf, getD_set' (by omega)]
      by_cases h : e = q
      · subst h
        simp only [if_true, List.mem_cons, true_or]
        split <;> omega
      · simp [h, show ¬ q = e from fun h2 => h h2.symm]
theorem lowered_l1_p {A G : List Int} (hA : Mk A) : ∀ (n f : Nat) (M : List Int), ws.length < n + f → f ≤ ws.length → Low (rightR ws ts br_) ws.length f A M →
    ∃ M', lowered_l1 N n (ws, ts, br_) ws.length f M G = some (M', G) ∧ Low (rightR ws ts br_) ws.length ws.length A M'
  | 0, f, M, h, _, _ => by omega
  | n + 1, f, M, h, hf, hL => by
    have hn := hF.n
    by_cases c : f < ws.length
    · have hb := hL.bd hA f
      obtain ⟨M', e1, e2, e3⟩ := lowered_l2_p (N := N) hF (u := (ws.length : Int)) (u2 := (f : Int)) (u3 := (f : Int)) (d := (ws, ts, br_)) (u4 := (ws, ts, br_)) (G := G) c (endsL ws ts br_ f) M hL.len (by omega) (fun q hq => by
        obtain ⟨a1, a2, _⟩ := mem_toL.1 hq; omega)
      obtain ⟨M2, e4, hL2⟩ := lowered_l1_p hA n (f + 1) M' (by omega) (by omega) (hL.next e2 (fun q => by
        rw [e3 q]
        have : q ∈ endsL ws ts br_ f ↔ (f < q ∧ q ≤ ws.length ∧ rightR ws ts br_ f q = true) := mem_toL
        simp only [this]))
      refine ⟨M2, ?_, hL2⟩
      rw [lowered_l1, br_dec (by omega)]
      simp only [breaths_S, Option.bind_some]
      rw [breathsR_v hF (by omega)]
      simp only [Option.bind_some]
      rw [e1]
      simp only [Option.bind_some]
      rw [chk_eq (by omega)]
      exact e4
    · obtain rfl : f = ws.length := by omega
      exact ⟨M, by rw [lowered_l1, br_ndec (by omega)], hL⟩
include hN
theorem lowered_v {A : List Int} (hA : Mk A) : ∃ M, lowered_S N (ws, ts, br_) A = some M ∧ Low (rightR ws ts br_) ws.length ws.length A M := by
  have := hF.n
  obtain ⟨M, e, h⟩ := lowered_l1_p (N := N) hF hA (G := List.replicate 13 0) N 0 A (by omega) (by omega) (Low.start hA)
  simp only [Int.natCast_zero] at e
  refine ⟨M, ?_, h⟩
  unfold lowered_S
  simp only [end__S, Option.bind_some]
  rw [e]; rfl
theorem marks_l1_p : ∀ (n k : Nat) (A : List Int), ws.length + 1 < n + k → 1 ≤ k → k ≤ ws.length + 1 → Mk A → A.getD 0 0 = 0 → (∀ q, 1 ≤ q → q < k → A.getD q 0 = 99) →
    ∃ A', marks_l1 N n (ws, ts, br_) k A = some ((ws, ts, br_), A') ∧ Mk A' ∧ A'.getD 0 0 = 0 ∧ ∀ q, 1 ≤ q → q ≤ ws.length → A'.getD q 0 = 99
  | 0, k, A, h, _, _, _, _, _ => by omega
  | n + 1, k, A, h, h1, hk, hA, h0, h9 => by
    have hn := hF.n; have hl := hA.len
    by_cases c : k ≤ ws.length
    · obtain ⟨A', e, r⟩ := marks_l1_p n (k + 1) (A.set k 99) (by omega) (by omega) (by omega) ⟨by simpa using hl, fun q => by
        rw [getD_set' (by omega)]
        split
        · omega
        · exact hA.bd q⟩ (by rw [getD_set' (by omega), if_neg (by omega)]; exact h0) (fun q h2 h3 => by
        rw [getD_set' (by omega)]
        split
        · rfl
        · exact h9 q h2 (by omega))
      refine ⟨A', ?_, r⟩
      rw [marks_l1]
      simp only [end__S, Option.bind_some]
      rw [br_dec (by omega), rng_eq (by omega), get_get 0 (by omega), chk_eq (by omega)]
      exact e
    · refine ⟨A, ?_, hA, h0, fun q h2 h3 => h9 q h2 (by omega)⟩
      rw [marks_l1]
      simp only [end__S, Option.bind_some]
      rw [br_ndec (by omega)]
/-- The marks. -/
theorem marks_in : ∃ M, marks_S N ws ts br_ = (if M.getD ws.length 0 = 99 then some ([], 6) else some (M.take (ws.length + 1), 0)) ∧ Mk M ∧ M.getD 0 0 = 0 ∧ lowered_S N (ws, ts, br_) M = some M ∧ Low (rightR ws ts br_) ws.length ws.length M M ∧
    ∀ q, q ≤ ws.length → (M.getD q 0 = 99 ∧ ∀ l, goodB (rightR ws ts br_) q 0 l = false) ∨ IsMin (rightR ws ts br_) q 0 (M.getD q 0) := by
  have hn := hF.n; have ht := hF.t; have hn0 := hF.n0
  have c0 := checkT_of hF
  obtain ⟨A, e1, hA, h0, h9⟩ := marks_l1_p hN hF N 1 (List.replicate 13 0) (by omega) (by omega) (by omega) ⟨by simp, fun q => by
    simp only [List.getD, List.getElem?_replicate]
    split <;> simp⟩ (by simp) (fun q h1 h2 => by omega)
  simp only [Int.natCast_one] at e1
  obtain ⟨M, e2, hL⟩ := lowered_v hN hF hA
  have hM : Mk M := ⟨hL.len, hL.bd hA⟩
  have hd := hL.dist hn h0 h9
  have hM0 : M.getD 0 0 = 0 := by
    rcases hL.why 0 with h2 | ⟨p, _, h2, _⟩
    · rw [h2, h0]
    · omega
  obtain ⟨M2, e3, hL2⟩ := lowered_v hN hF hM
  have hfix : M2 = M := hL2.fix hM (fun p q h1 h2 h3 => hL.hold p q (by omega) h1 h2 h3)
  subst hfix
  refine ⟨M2, ?_, hM, hM0, e3, hL2, hd⟩
  obtain ⟨K, rfl⟩ : ∃ K, N = K + 2 := ⟨N - 2, by omega⟩
  have e4 : marks_l2 (K + 2) (K + 2) (ws, ts, br_) A M2 = some ((ws, ts, br_), M2) := by
    rw [marks_l2]
    by_cases c : M2 = A
    · rw [br_nd c, c]
    · rw [br_nnd c, e3]
      simp only [Option.bind_some]
      rw [marks_l2, br_nd rfl]
  have hlen := hM.len
  unfold marks_S
  rw [opened_v (by omega) (by omega) (by omega), if_pos c0]
  simp only [Option.bind_some]
  rw [br_nd (by first | trivial | rfl), e1]
  simp only [Option.bind_some]
  rw [e2]
  simp only [Option.bind_some]
  rw [e4]
  simp only [end__S, Option.bind_some]
  rw [rng_eq (by omega), get_get 0 (by omega)]
  simp only [Int.toNat_natCast]
  by_cases c : M2.getD ws.length 0 = 99
  · rw [br_dec c, if_pos c]
  · rw [br_ndec c, if_neg c]
    rw [chk_eq (by omega), grd_eq (decide_eq_true (by omega)), show ((ws.length : Int) + 1).toNat = ws.length + 1 by omega]
    unfold clone_S
    have : (M2.take (ws.length + 1)).isEmpty = false := by
      cases hq : M2.take (ws.length + 1) with
      | nil => have := congrArg List.length hq; rw [List.length_take, List.length_nil] at this; omega
      | cons a l => rfl
    rw [this, grd_eq (c := !false) rfl, lim_eq (by simp; omega)]; rfl
theorem shows_l1_p {l : List Int} (hl : l.length ≤ 13) : ∀ (n k : Nat) (M : List Int), l.length < n + k → k ≤ l.length → M.length = 13 →
    ∃ M', shows_l1 N n (ws, ts, br_) l l.length k M = some ((ws, ts, br_), M') ∧ M'.length = 13 ∧ ∀ q, M'.getD q 0 = if k ≤ q ∧ q < l.length then l.getD q 0 else M.getD q 0
  | 0, k, M, h, _, _ => by omega
  | n + 1, k, M, h, hk, hM => by
    by_cases c : k < l.length
    · obtain ⟨M', e, e2, e3⟩ := shows_l1_p hl n (k + 1) (M.set k (l.getD k 0)) (by omega) (by omega) (by simpa using hM)
      refine ⟨M', ?_, e2, fun q => ?_⟩
      · rw [shows_l1, br_dec (by omega), idx_eq (by omega) (gets c 0), rng_eq (by omega), get_get 0 (by omega), chk_eq (by omega)]
        exact e
      · rw [e3 q, getD_set' (by omega)]
        by_cases d : q = k
        · subst d
          rw [if_neg (by omega), if_pos rfl, if_pos (by omega)]
        · rw [if_neg (fun h2 : k = q => d h2.symm)]
          by_cases e4 : k + 1 ≤ q ∧ q < l.length
          · rw [if_pos e4, if_pos (by omega)]
          · rw [if_neg e4, if_neg (by omega)]
    · refine ⟨M, ?_, hM, fun q => by rw [if_neg (by omega)]⟩
      rw [shows_l1, br_ndec (by omega)]
end
theorem ixfi3_gen (N : Nat) : ∀ (n : Nat) (s : List Int) (u u2 : Int), ixfi3_l1 N n s u u2 = ixL (every1i3_S N) n s u u2
  | 0, _, _, _ => rfl
  | n + 1, s, u, u2 => by unfold ixfi3_l1 ixL; simp only [ixfi3_gen N n]
def in99 (x : Int) : Bool := decide (0 ≤ x ∧ x ≤ 99)
theorem everyi3_v {N : Nat} {l : List Int} (h : l.length ≤ 1000000) (hN : l.length < N) : everyi3_S N l = some (l.all in99) := by
  unfold everyi3_S cofi3_S ixfi3_S
  rw [← every_gen (f := shows1_S N) (p := in99) (s := l) (N := N) (fun x _ => ?_) h hN]
  · unfold ixS
    rw [ixfi3_gen]
    rfl
  · unfold shows1_S in99
    rw [in_v]; rfl
end Go.Proofs.Ytfamlpbdhhikdaa

namespace Go.Proofs.Ytfamlpbdhhikdaa
set_option linter.all false
open Go

/-- Marks that hold. -/
def holdB (R : Nat → Nat → Bool) (m : Nat) (l : List Int) : Bool := decide (l.getD 0 0 = 0) && (List.range m).all fun p => (toL (R p) m (p + 1)).all fun q => decide (l.getD q 0 ≤ l.getD p 0 + 1)
theorem holdB_iff {R : Nat → Nat → Bool} {m : Nat} {l : List Int} : holdB R m l = true ↔ l.getD 0 0 = 0 ∧ ∀ p q, p < q → q ≤ m → R p q = true → l.getD q 0 ≤ l.getD p 0 + 1 := by
  unfold holdB
  simp only [Bool.and_eq_true, decide_eq_true_eq, List.all_eq_true, List.mem_range, mem_toL]
  constructor
  · rintro ⟨h1, h2⟩
    exact ⟨h1, fun p q a b c => h2 p (by omega) q ⟨by omega, b, c⟩⟩
  · rintro ⟨h1, h2⟩
    exact ⟨h1, fun p hp q ⟨a, b, c⟩ => h2 p q (by omega) b c⟩
/-- What marks show. -/
def showsR (ws : List Wd) (ts : List Tn) (br_ : Int) (l : List Int) : Int × Int :=
  if checkT ws ts br_ ≠ 0 then (0, checkT ws ts br_) else if (l.length : Int) ≠ (ws.length : Int) + 1 then (0, 2) else if l.all in99 = false then (0, 3) else if holdB (rightR ws ts br_) ws.length l = true then (l.getD ws.length 0, 0) else (0, 8)
theorem shows_v {N : Nat} (hN : 110 ≤ N) {ws : List Wd} {ts : List Tn} {br_ : Int} (hw : ws.length ≤ 1000000) (ht : ts.length ≤ 1000000) (l : List Int) : shows_S N ws ts br_ l = some (showsR ws ts br_ l) := by
  unfold shows_S showsR
  rw [opened_v (by omega) hw ht]
  by_cases c : checkT ws ts br_ = 0
  rotate_left
  · rw [if_neg c, if_pos c]
    simp only [Option.bind_some]
    rw [br_nnd c]
  have hF := tfine_of c
  have hn := hF.n; have hn0 := hF.n0
  rw [if_pos c, if_neg (by simpa using c)]
  simp only [Option.bind_some]
  rw [br_nd (by first | trivial | rfl)]
  simp only [end__S, Option.bind_some]
  rw [chk_eq (by omega)]
  by_cases c2 : (l.length : Int) = (ws.length : Int) + 1
  rotate_left
  · rw [br_nnd c2, if_pos c2]
  rw [br_nd c2, if_neg (by simpa using c2), everyi3_v (by omega) (by omega)]
  simp only [Option.bind_some]
  cases h99 : l.all in99
  · rfl
  rw [Bool.not_true, br_false, if_neg (by simp)]
  obtain ⟨A, e1, hAl, hA⟩ := shows_l1_p (N := N) (br_ := br_) (ts := ts) hN hF (l := l) (by omega) N 0 (List.replicate 13 0) (by omega) (by omega) (by simp)
  simp only [Int.natCast_zero] at e1
  have rep : ∀ i, (List.replicate 13 (0 : Int)).getD i 0 = 0 := fun i => by
    simp only [List.getD, List.getElem?_replicate]
    split <;> rfl
  have hAq : ∀ q, q ≤ ws.length → A.getD q 0 = l.getD q 0 := fun q hq => by rw [hA q, if_pos (by omega)]
  have hMk : Mk A := ⟨hAl, fun q => by
    rw [hA q]
    split
    · rename_i h
      have := List.all_eq_true.1 h99 _ (getD_mem (d := 0) h.2)
      simpa [in99] using this
    · rw [rep]; omega⟩
  rw [e1]
  simp only [Option.bind_some]
  rw [get_get 0 (by omega), hAq 0 (by omega)]
  by_cases c3 : l.getD 0 0 = 0
  rotate_left
  · rw [br_nnd c3, if_neg]
    intro h
    exact c3 (holdB_iff.1 h).1
  obtain ⟨M, e2, hL⟩ := lowered_v hN hF hMk
  rw [br_nd c3, e2]
  simp only [Option.bind_some]
  by_cases c4 : M = A
  · subst c4
    have hh := hL.holds
    rw [br_nd rfl, if_pos, rng_eq (by omega), get_get 0 (by omega)]
    · simp only [Int.toNat_natCast]
      rw [hAq _ (Nat.le_refl _)]
    · refine holdB_iff.2 ⟨c3, fun p q a b r => ?_⟩
      have := hh p q a b r
      rwa [hAq q b, hAq p (by omega)] at this
  · rw [br_nnd c4, if_neg]
    intro h
    refine c4 (hL.fix hMk fun p q a b r => ?_)
    rw [hAq q b, hAq p (by omega)]
    exact (holdB_iff.1 h).2 p q a b r
section
variable {N : Nat} {ws : List Wd} {ts : List Tn} {br_ : Int} (hN : 110 ≤ N) (hF : TFine ws ts br_)
include hN hF
end
end Go.Proofs.Ytfamlpbdhhikdaa

namespace Go.Proofs.Ytfamlpbdhhikdaa
set_option linter.all false
open Go

section
variable {N : Nat} {ws : List Wd} {ts : List Tn} {br_ : Int}
variable (hN : 110 ≤ N) (hF : TFine ws ts br_)
include hN hF
omit hN hF
def inW (ws : List Wd) (l : List Int) : Prop := ∀ w ∈ l, 0 ≤ w ∧ w < ws.length
include hF
end
/-! ### Errors of kept words -/
def ascB : List Int → Bool
  | a :: b :: r => decide (a < b) && ascB (b :: r)
  | _ => true
section
variable {N : Nat} {ws : List Wd} {ts : List Tn} {br_ : Int}
end
/-! ### Prices -/
section
variable {N : Nat} {ws : List Wd} {ts : List Tn} {br_ : Int}
end
end Go.Proofs.Ytfamlpbdhhikdaa

namespace Go.Proofs.Ytfamlpbdhhikdaa
set_option linter.all false
open Go

/-! ### Ascending lists -/
theorem asc_step : ∀ {l : List Int} (_ : ascB l = true) (i : Nat), i + 1 < l.length → l.getD i 0 < l.getD (i + 1) 0
  | [], _, i, h => by simp at h
  | [a], _, i, h => by simp at h
  | a :: b :: r, hl, i, h => by
    simp only [ascB, Bool.and_eq_true, decide_eq_true_eq] at hl
    cases i with
    | zero => simpa using hl.1
    | succ i => simpa using asc_step hl.2 i (by simpa using h)
theorem asc_get {l : List Int} (h : ascB l = true) (i : Nat) : ∀ (d : Nat), i + d < l.length → l.getD i 0 + d ≤ l.getD (i + d) 0
  | 0, _ => by simp
  | d + 1, hd => by
    have h1 := asc_get h i d (by omega)
    have h2 := asc_step h (i + d) (by omega)
    rw [show i + (d + 1) = i + d + 1 by omega]
    omega
theorem asc_lt {l : List Int} (h : ascB l = true) {i j : Nat} (hij : i < j) (hj : j < l.length) : l.getD i 0 + ((j : Int) - i) ≤ l.getD j 0 := by
  have := asc_get h i (j - i) (by omega)
  rw [show i + (j - i) = j by omega] at this
  omega
/-- Where a number would lie. -/
def posI : List Int → Int → Nat
  | [], _ => 0
  | a :: l, v => if a < v then posI l v + 1 else 0
theorem posI_lt {v : Int} : ∀ {l : List Int} {i : Nat}, i < posI l v → i < l.length ∧ l.getD i 0 < v
  | [], i, h => by simp [posI] at h
  | a :: l, i, h => by
    unfold posI at h
    split at h
    · rename_i c
      cases i with
      | zero => exact ⟨by simp, by simpa using c⟩
      | succ i =>
        have := posI_lt (v := v) (l := l) (i := i) (by omega)
        exact ⟨by simpa using this.1, by simpa using this.2⟩
    · omega
theorem posI_le {v : Int} : ∀ (l : List Int), posI l v ≤ l.length
  | [] => by simp [posI]
  | a :: l => by
    have := posI_le (v := v) l
    unfold posI
    split <;> simp <;> omega
theorem posI_at {v : Int} : ∀ {l : List Int}, posI l v < l.length → v ≤ l.getD (posI l v) 0
  | [], h => by simp at h
  | a :: l, h => by
    unfold posI at h ⊢
    split at h
    · rename_i c
      have := posI_at (v := v) (l := l) (by simpa using h)
      rw [if_pos c]
      simpa using this
    · rename_i c
      rw [if_neg c]
      simp; omega
theorem posI_uniq {v : Int} {l : List Int} {k : Nat} (hk : k ≤ l.length) (h1 : ∀ i, i < k → l.getD i 0 < v) (h2 : k < l.length → v ≤ l.getD k 0) : posI l v = k := by
  rcases Nat.lt_trichotomy (posI l v) k with h | h | h
  · have := posI_at (v := v) (l := l) (by omega)
    have := h1 _ h
    omega
  · exact h
  · have := posI_lt h
    have := h2 this.1
    omega
theorem posI_of {l : List Int} (h : ascB l = true) {i : Nat} (hi : i < l.length) : posI l (l.getD i 0) = i :=
  posI_uniq (by omega) (fun j hj => by have := asc_lt h hj hi; omega) (fun _ => by omega)
theorem contains_iff {l : List Int} (h : ascB l = true) {v : Int} : l.contains v = true ↔ posI l v < l.length ∧ l.getD (posI l v) 0 = v := by
  rw [List.contains_iff_mem]
  constructor
  · intro hm
    obtain ⟨i, hi, rfl⟩ := List.getElem_of_mem hm
    have : l[i] = l.getD i 0 := by simp [List.getD, hi]
    rw [this, posI_of h hi]
    exact ⟨hi, rfl⟩
  · rintro ⟨h1, h2⟩
    rw [← h2]; exact getD_mem h1
theorem posI_succ {l : List Int} (h : ascB l = true) (v : Int) : posI l (v + 1) = if l.contains v = true then posI l v + 1 else posI l v := by
  split
  · rename_i c
    obtain ⟨c1, c2⟩ := (contains_iff h).1 c
    refine posI_uniq (by omega) (fun i hi => ?_) (fun hl => ?_)
    · rcases Nat.lt_or_ge i (posI l v) with c3 | c3
      · have := (posI_lt c3).2; omega
      · obtain rfl : i = posI l v := by omega
        omega
    · have := asc_step h (posI l v) hl
      omega
  · rename_i c
    refine posI_uniq (posI_le l) (fun i hi => by have := (posI_lt hi).2; omega) (fun hl => ?_)
    have := posI_at hl
    rcases Int.lt_or_le v (l.getD (posI l v) 0) with c3 | c3
    · omega
    · exact absurd ((contains_iff h).2 ⟨hl, by omega⟩) c
/-- A stretch of words is kept whole just if its ends lie as far apart among the kept ones. -/
theorem stretch {l : List Int} (h : ascB l = true) {lo hi : Int} (hle : lo ≤ hi) : (wordsL lo (hi + 1)).all (fun w => l.contains w) = (l.contains lo && (l.contains hi && decide ((posI l hi : Int) - posI l lo = hi - lo))) := by
  rw [Bool.eq_iff_iff]
  simp only [Bool.and_eq_true, decide_eq_true_eq, List.all_eq_true, mem_wordsL]
  constructor
  · intro ha
    have key : ∀ (d : Nat), lo + d ≤ hi → posI l (lo + d) = posI l lo + d := by
      intro d
      induction d with
      | zero => intro _; simp
      | succ d ih =>
        intro hd
        have e := posI_succ h (lo + d)
        rw [if_pos (ha _ (by omega)), ih (by omega), show lo + (d : Int) + 1 = lo + ((d + 1 : Nat) : Int) by omega] at e
        rw [e]; omega
    refine ⟨ha _ (by omega), ha _ (by omega), ?_⟩
    have := key (hi - lo).toNat (by omega)
    rw [show lo + ((hi - lo).toNat : Int) = hi by omega] at this
    omega
  · rintro ⟨h1, h2, h3⟩ w ⟨hw1, hw2⟩
    obtain ⟨a1, a2⟩ := (contains_iff h).1 h1
    obtain ⟨b1, b2⟩ := (contains_iff h).1 h2
    rw [List.contains_iff_mem]
    have hi' : posI l lo + (w - lo).toNat < l.length := by omega
    have := asc_get h (posI l lo) (w - lo).toNat hi'
    have hj := asc_get h (posI l lo + (w - lo).toNat) (hi - w).toNat (by omega)
    rw [show posI l lo + (w - lo).toNat + (hi - w).toNat = posI l hi by omega, b2] at hj
    rw [a2] at this
    rw [show w = l.getD (posI l lo + (w - lo).toNat) 0 by omega]
    exact getD_mem hi'
/-! ### The binary search -/
/-! ### Kept words -/
section
variable {N : Nat} {ws : List Wd} {ts : List Tn} {br_ : Int}
variable (hN : 110 ≤ N) (hF : TFine ws ts br_)
include hN hF
omit hN hF
include hN hF
omit hN hF
/-! ### The reference -/
include hN hF
omit hN hF
end
/-! ### The statement -/
section
variable {N : Nat}
end
end Go.Proofs.Ytfamlpbdhhikdaa

namespace Go.Proofs.Ytfamlpbdhhikdaa
set_option linter.all false
open Go

/-- Ascending words from one on. -/
def okC (m : Int) : Int → List Int → Prop
  | _, [] => True
  | lo, a :: r => (lo ≤ a ∧ a < m) ∧ okC m (a + 1) r
theorem okC_mono {m lo lo' : Int} (h : lo' ≤ lo) : ∀ {c : List Int}, okC m lo c → okC m lo' c
  | [], _ => trivial
  | a :: r, ⟨⟨h1, h2⟩, h3⟩ => ⟨⟨by omega, h2⟩, h3⟩
theorem okC_len {m : Int} : ∀ {c : List Int} {lo : Int}, okC m lo c → c ≠ [] → lo + c.length ≤ m
  | [], _, _, h => absurd rfl h
  | [a], lo, ⟨⟨h1, h2⟩, _⟩, _ => by simp; omega
  | a :: b :: r, lo, ⟨⟨h1, h2⟩, h3⟩, _ => by
    have := okC_len h3 (by simp)
    simp at this ⊢; omega
theorem okC_mem {m : Int} : ∀ {c : List Int} {lo : Int}, okC m lo c → ∀ x ∈ c, lo ≤ x ∧ x < m
  | a :: r, lo, ⟨⟨h1, h2⟩, h3⟩, x, hx => by
    rcases List.mem_cons.1 hx with rfl | hx
    · exact ⟨h1, h2⟩
    · have := okC_mem h3 x hx; omega
/-- Which of two lists comes ahead. -/
def bef : List Int → List Int → Bool
  | a :: l, b :: r => if a = b then bef l r else decide (a < b)
  | _, _ => false
/-- What a choice of words comes to. -/
def ChF (m : Int) (P : List Int → Bool) (l : List Int) (lo : Int) (k : Nat) : Option (List Int) → Prop
  | none => ∀ c, okC m lo c → c.length = k → P (l ++ c) = false
  | some x => ∃ c, okC m lo c ∧ c.length = k ∧ x = l ++ c ∧ P x = true ∧ ∀ c', okC m lo c' → c'.length = k → P (l ++ c') = true → bef c' c = false
theorem ChF.step {m : Int} {P : List Int → Bool} {l : List Int} {w : Int} {k : Nat} {r : Option (List Int)} (h1 : ∀ c, okC m (w + 1) c → c.length = k → P ((l ++ [w]) ++ c) = false) (h2 : ChF m P l (w + 1) (k + 1) r) : ChF m P l w (k + 1) r := by
  have key : ∀ c, okC m w c → c.length = k + 1 → P (l ++ c) = true → okC m (w + 1) c := by
    intro c hc hl hp
    cases c with
    | nil => simp at hl
    | cons a c =>
      obtain ⟨⟨a1, a2⟩, a3⟩ := hc
      by_cases e : a = w
      · subst e
        have := h1 c a3 (by simpa using hl)
        rw [List.append_assoc, List.singleton_append, hp] at this
        cases this
      · exact ⟨⟨by omega, a2⟩, a3⟩
  cases r with
  | none =>
    intro c hc hl
    cases hp : P (l ++ c)
    · rfl
    · rw [← hp]; exact h2 c (key c hc hl hp) hl
  | some x =>
    obtain ⟨c, c1, c2, c3, c4, c5⟩ := h2
    exact ⟨c, okC_mono (by omega) c1, c2, c3, c4, fun c' d1 d2 d3 => c5 c' (key c' d1 d2 d3) d2 d3⟩
theorem ChF.found {m : Int} {P : List Int → Bool} {l : List Int} {w : Int} {k : Nat} {x : List Int} (hw : w < m) (h : ChF m P (l ++ [w]) (w + 1) k (some x)) : ChF m P l w (k + 1) (some x) := by
  obtain ⟨c, c1, c2, c3, c4, c5⟩ := h
  refine ⟨w :: c, ⟨⟨by omega, hw⟩, c1⟩, by simp [c2], by simp [c3], c4, fun c' d1 d2 d3 => ?_⟩
  cases c' with
  | nil => rfl
  | cons a c' =>
    obtain ⟨⟨a1, a2⟩, a3⟩ := d1
    unfold bef
    by_cases e : a = w
    · subst e
      rw [if_pos rfl]
      exact c5 c' a3 (by simpa using d2) (by simpa using d3)
    · rw [if_neg e, decide_eq_false (by omega)]
section
variable {N : Nat} {ws : List Wd} {ts : List Tn} {br_ : Int}
theorem cloneo_v {l : List Int} (h : l ≠ []) (hl : l.length ≤ 1000) : cloneo_S N l = some l := by
  unfold cloneo_S
  rw [grd_eq (by cases l <;> simp_all), lim_eq (by simp; omega)]; rfl
variable (hN : 110 ≤ N) (hF : TFine ws ts br_)
include hN hF
/-- What is told as the fewest words. -/
def LeastW (m : Int) (P : List Int → Bool) (l : List Int) : Prop := okC m 0 l ∧ l ≠ [] ∧ P l = true ∧ ∀ c, okC m 0 c → c ≠ [] → P c = true → l.length < c.length ∨ l.length = c.length ∧ bef c l = false
omit hN hF
end
/-! ### Words that can be left out -/
section
variable {N : Nat} {ws : List Wd} {ts : List Tn} {br_ : Int} (hN : 110 ≤ N) (hF : TFine ws ts br_)
include hN hF
omit hN hF
include hN hF
omit hN hF
end
end Go.Proofs.Ytfamlpbdhhikdaa

namespace Go.Proofs.Ytfamlpbdhhikdaa
set_option linter.all false
open Go

/-! ### Which list comes ahead -/
theorem bef_self : ∀ l : List Int, bef l l = false
  | [] => rfl
  | a :: l => by unfold bef; rw [if_pos rfl, bef_self l]
theorem bef_total : ∀ {a b : List Int}, a.length = b.length → bef a b = false → bef b a = false → a = b
  | [], [], _, _, _ => rfl
  | [], _ :: _, h, _, _ => by simp at h
  | _ :: _, [], h, _, _ => by simp at h
  | x :: a, y :: b, h, h1, h2 => by
    unfold bef at h1 h2
    by_cases e : x = y
    · subst e
      rw [if_pos rfl] at h1 h2
      rw [bef_total (by simpa using h) h1 h2]
    · rw [if_neg e, decide_eq_false_iff_not] at h1
      rw [if_neg (Ne.symm e), decide_eq_false_iff_not] at h2
      omega
theorem bef_trans : ∀ {a b c : List Int}, bef a b = true → bef b c = true → bef a c = true
  | [], _, _, h, _ => by simp [bef] at h
  | _ :: _, [], _, h, _ => by simp [bef] at h
  | _ :: _, _ :: _, [], _, h => by simp [bef] at h
  | x :: a, y :: b, z :: c, h1, h2 => by
    unfold bef at h1 h2 ⊢
    by_cases e : x = y
    · subst e
      rw [if_pos rfl] at h1
      by_cases e2 : x = z
      · subst e2
        rw [if_pos rfl] at h2 ⊢
        exact bef_trans h1 h2
      · rw [if_neg e2] at h2 ⊢; exact h2
    · rw [if_neg e, decide_eq_true_eq] at h1
      by_cases e2 : y = z
      · subst e2
        rw [if_neg e, decide_eq_true_eq]; exact h1
      · rw [if_neg e2, decide_eq_true_eq] at h2
        rw [if_neg (by omega), decide_eq_true_eq]; omega
def prec (a b : List Int) : Prop := a.length < b.length ∨ a.length = b.length ∧ bef a b = true
theorem prec_trans {a b c : List Int} : prec a b → prec b c → prec a c := by
  rintro (h | ⟨h, h2⟩) (g | ⟨g, g2⟩)
  · exact .inl (by omega)
  · exact .inl (by omega)
  · exact .inl (by omega)
  · exact .inr ⟨by omega, bef_trans h2 g2⟩
theorem prec_self (l : List Int) : ¬ prec l l := by
  rintro (h | ⟨_, h⟩)
  · omega
  · rw [bef_self] at h; cases h
/-! ### Lists that numbers say -/
def lst : Nat → Int → Nat → List Int
  | 0, _, _ => []
  | k + 1, w, n => (if n % 2 = 1 then [w] else []) ++ lst k (w + 1) (n / 2)
theorem lst_zero : ∀ (k : Nat) (w : Int), lst k w 0 = []
  | 0, _ => rfl
  | k + 1, w => by unfold lst; rw [if_neg (by decide), List.nil_append, Nat.zero_div, lst_zero k]
theorem lst_len : ∀ (k : Nat) (w : Int) (n : Nat), (lst k w n).length ≤ k
  | 0, _, _ => by simp [lst]
  | k + 1, w, n => by
    have := lst_len k (w + 1) (n / 2)
    unfold lst
    rw [List.length_append]
    split <;> simp <;> omega
theorem lst_ok : ∀ (k : Nat) (w : Int) (n : Nat), okC (w + k) w (lst k w n)
  | 0, _, _ => trivial
  | k + 1, w, n => by
    have := lst_ok k (w + 1) (n / 2)
    rw [show w + 1 + (k : Int) = w + ((k + 1 : Nat) : Int) by omega] at this
    unfold lst
    split
    · exact ⟨by omega, this⟩
    · exact okC_mono (by omega) this
theorem lst_all : ∀ (k : Nat) (w : Int) (c : List Int), okC (w + k) w c → ∃ n, n < 2 ^ k ∧ lst k w n = c
  | 0, w, c, h => by
    cases c with
    | nil => exact ⟨0, by decide, rfl⟩
    | cons a r => have := h.1; omega
  | k + 1, w, c, h => by
    have hp : 2 ^ (k + 1) = 2 * 2 ^ k := by rw [Nat.pow_succ]; omega
    have e : w + ((k + 1 : Nat) : Int) = w + 1 + (k : Int) := by omega
    rw [e] at h
    by_cases d : ∃ r, c = w :: r
    · obtain ⟨r, rfl⟩ := d
      obtain ⟨n, h1, h2⟩ := lst_all k (w + 1) r h.2
      refine ⟨2 * n + 1, by omega, ?_⟩
      unfold lst
      rw [if_pos (by omega), show (2 * n + 1) / 2 = n by omega, h2]; rfl
    · have h' : okC (w + 1 + (k : Int)) (w + 1) c := by
        cases c with
        | nil => trivial
        | cons a r =>
          have : a ≠ w := fun ha => d ⟨r, by rw [ha]⟩
          obtain ⟨⟨h1, h2⟩, h3⟩ := h
          exact ⟨⟨by omega, h2⟩, h3⟩
      obtain ⟨n, h1, h2⟩ := lst_all k (w + 1) c h'
      refine ⟨2 * n, by omega, ?_⟩
      unfold lst
      rw [if_neg (by omega), show (2 * n) / 2 = n by omega, h2]; rfl
theorem lst_ne {k : Nat} {w : Int} {n : Nat} (h : n < 2 ^ k) (h0 : n ≠ 0) : lst k w n ≠ [] := by
  induction k generalizing w n with
  | zero => simp at h; omega
  | succ k ih =>
    have hp : 2 ^ (k + 1) = 2 * 2 ^ k := by rw [Nat.pow_succ]; omega
    unfold lst
    split
    · simp
    · rw [List.nil_append]
      exact ih (by omega) (by omega)
section
variable {N : Nat} {ws : List Wd} {ts : List Tn} {br_ : Int}
theorem list_l1_p : ∀ (k f n : Nat) (w : Int) (out : List Int), n < 2 ^ k → k < f → k ≤ 20 → 0 ≤ w ∧ w + k ≤ 1000 → out.length + k ≤ 1000 → list__l1 N f n w out = some (out ++ lst k w n)
  | _, 0, _, _, _, _, h, _, _, _ => by omega
  | 0, f + 1, n, w, out, h, _, _, _, _ => by
    have : n = 0 := by simpa using h
    subst this
    unfold list__l1
    rw [br_ndec (by simp)]; simp [lst]
  | k + 1, f + 1, n, w, out, h, h1, h2, h3, h4 => by
    have hp : 2 ^ (k + 1) = 2 * 2 ^ k := by rw [Nat.pow_succ]; omega
    have hp2 : 2 ^ k ≤ 2 ^ 20 := Nat.pow_le_pow_right (by decide) (by omega)
    unfold list__l1
    by_cases c : 0 < n
    · have hj : ∀ O : List Int, O.length + k ≤ 1000 → list__j1 N (list__l1 N f) n w O = some (O ++ lst k (w + 1) (n / 2)) := by
        intro O hO
        have ih := list_l1_p k f (n / 2) (w + 1) O (by omega) (by omega) (by omega) (by omega) hO
        unfold list__j1
        rw [chk_eq (by omega), Int.tdiv_eq_ediv_of_nonneg (by omega), IntWalk.i64_in _ (by omega)]
        rw [show (n : Int) / 2 = ((n / 2 : Nat) : Int) by omega, ih]
      rw [br_dec (by omega), Int.tmod_eq_emod_of_nonneg (by omega)]
      unfold lst
      by_cases d : n % 2 = 1
      · rw [br_dec (by omega), lim_eq (by simp; omega), hj _ (by simp; omega), if_pos d]; simp
      · rw [br_ndec (by omega), hj _ (by omega), if_neg d]; simp
    · obtain rfl : n = 0 := by omega
      rw [br_ndec (by simp), lst_zero]; simp
theorem list_v {k n : Nat} (h : n < 2 ^ k) (hk : k ≤ 20) (hN : k < N) : list__S N n = some (lst k 0 n) := by
  unfold list__S
  rw [list_l1_p k N n 0 [] h hN hk (by omega) (by simp; omega)]; rfl
theorem lists_l1_p (hw : ws.length ≤ 12) : ∀ (f i : Nat), ws.length < f + i → i ≤ ws.length → lists_l1 N f ((2 ^ i : Nat) : Int) i ws ts br_ = some ((2 ^ ws.length : Nat) : Int)
  | 0, i, h, _ => by omega
  | f + 1, i, h, hi => by
    unfold lists_l1
    by_cases c : i < ws.length
    · have ih := lists_l1_p hw f (i + 1) (by omega) (by omega)
      have hp : 2 ^ (i + 1) = 2 * 2 ^ i := by rw [Nat.pow_succ]; omega
      have hp2 : 2 ^ i ≤ 2 ^ 12 := Nat.pow_le_pow_right (by decide) (by omega)
      rw [show (2 : Int) * ((2 ^ i : Nat) : Int) = ((2 ^ (i + 1) : Nat) : Int) by rw [hp]; omega, br_dec (by omega), chk_eq (by omega), chk_eq (by omega)]
      rw [show ((i + 1 : Nat) : Int) = (i : Int) + 1 by omega] at ih
      exact ih
    · obtain rfl : i = ws.length := by omega
      rw [br_ndec (by omega)]
theorem lists_v (hw : ws.length ≤ 12) (hN : 110 ≤ N) : lists_S N ws ts br_ = some ((2 ^ ws.length : Nat) : Int) := by
  have e := lists_l1_p (N := N) (ts := ts) (br_ := br_) hw N 0 (by omega) (by omega)
  simp only [Int.natCast_zero, Nat.pow_zero, Int.natCast_one] at e
  unfold lists_S
  rw [e]; rfl
theorem before_l1_p {a b : List Int} (hab : a.length = b.length) (ha : a.length ≤ 1000) : ∀ (n k : Nat), a.length < n + k → k ≤ a.length → ∃ r, before_l1 N n a b k = some r ∧ match r with
    | .inl x => x.1 = a ∧ x.2.1 = b ∧ ∃ j : Nat, x.2.2 = j ∧ j < a.length ∧ bef (a.drop k) (b.drop k) = decide (a.getD j 0 < b.getD j 0)
    | .inr _ => bef (a.drop k) (b.drop k) = false
  | 0, k, h, _ => by omega
  | n + 1, k, h, hk => by
    unfold before_l1
    by_cases c : k < a.length
    · have g1 := gets c 0
      have g2 := gets (l := b) (k := k) (by omega) 0
      rw [br_dec (by omega), idx_eq (by omega) g1, idx_eq (by omega) g2, drop_cons c 0, drop_cons (l := b) (k := k) (by omega) 0]
      unfold bef
      by_cases d : a.getD k 0 = b.getD k 0
      · obtain ⟨r, e, hr⟩ := before_l1_p hab ha n (k + 1) (by omega) (by omega)
        rw [show ((k + 1 : Nat) : Int) = (k : Int) + 1 by omega] at e
        rw [br_nd d, chk_eq (by omega), e, if_pos d]
        exact ⟨r, rfl, hr⟩
      · rw [br_nnd d, if_neg d]
        exact ⟨_, rfl, rfl, rfl, k, rfl, c, rfl⟩
    · rw [br_ndec (by omega), List.drop_of_length_le (by omega)]
      exact ⟨_, rfl, rfl⟩
theorem before_v {a b : List Int} (hab : a.length = b.length) (ha : a.length ≤ 1000) (hN : a.length < N) : before_S N a b = some (bef a b) := by
  obtain ⟨r, e, hr⟩ := before_l1_p (N := N) hab ha N 0 (by omega) (by omega)
  simp only [Int.natCast_zero] at e
  unfold before_S
  rw [e]
  simp only [Option.bind_some]
  cases r with
  | inl x =>
    obtain ⟨x1, x2, x3⟩ := x
    obtain ⟨rfl, rfl, j, rfl, hj, e2⟩ := hr
    simp only [List.drop_zero] at e2
    simp only
    have hab' : x1.length = x2.length := hab
    have hj' : j < x1.length := hj
    have e2' : bef x1 x2 = decide (x1.getD j 0 < x2.getD j 0) := e2
    rw [idx_eq (by omega) (gets hj' 0), idx_eq (by omega) (gets (l := x2) (k := j) (by omega) 0), e2']
  | inr u =>
    simp only [List.drop_zero] at hr
    rw [hr]
/-- The best of the lists that were looked at. -/
def BestI (m : Nat) (P : List Int → Bool) (k : Nat) (best : List Int) : Prop :=
  best = [] ∧ (∀ i, 1 ≤ i → i < k → P (lst m 0 i) = false) ∨ (okC m 0 best ∧ best ≠ [] ∧ P best = true) ∧ ∀ i, 1 ≤ i → i < k → P (lst m 0 i) = true → ¬ prec (lst m 0 i) best
theorem BestI.skip {m : Nat} {P : List Int → Bool} {k : Nat} {best : List Int} (h : BestI m P k best) (hp : P (lst m 0 k) = false) : BestI m P (k + 1) best := by
  rcases h with ⟨h1, h2⟩ | ⟨h1, h2⟩
  · refine .inl ⟨h1, fun i a b => ?_⟩
    by_cases e : i = k
    · rw [e]; exact hp
    · exact h2 i a (by omega)
  · refine .inr ⟨h1, fun i a b c => ?_⟩
    by_cases e : i = k
    · rw [e, hp] at c; cases c
    · exact h2 i a (by omega) c
theorem BestI.keep {m : Nat} {P : List Int → Bool} {k : Nat} {best : List Int} (h : BestI m P k best) (hb : best ≠ []) (hp : ¬ prec (lst m 0 k) best) : BestI m P (k + 1) best := by
  rcases h with ⟨h1, h2⟩ | ⟨h1, h2⟩
  · exact absurd h1 hb
  · refine .inr ⟨h1, fun i a b c => ?_⟩
    by_cases e : i = k
    · rw [e]; exact hp
    · exact h2 i a (by omega) c
theorem BestI.take {m : Nat} {P : List Int → Bool} {k : Nat} {best : List Int} (h : BestI m P k best) (hk : 1 ≤ k ∧ k < 2 ^ m) (hp : P (lst m 0 k) = true) (hb : best = [] ∨ prec (lst m 0 k) best) : BestI m P (k + 1) (lst m 0 k) := by
  have ho := lst_ok m 0 k
  rw [Int.zero_add] at ho
  refine .inr ⟨⟨ho, lst_ne hk.2 (by omega), hp⟩, fun i a b c => ?_⟩
  by_cases e : i = k
  · rw [e]; exact prec_self _
  · rcases h with ⟨h1, h2⟩ | ⟨h1, h2⟩
    · rw [h2 i a (by omega)] at c; cases c
    · rcases hb with hb | hb
      · exact absurd hb h1.2.1
      · exact fun hpr => h2 i a (by omega) c (prec_trans hpr hb)
theorem BestI.done {m : Nat} {P : List Int → Bool} {best : List Int} (h : BestI m P (2 ^ m) best) : best ≠ [] ∧ LeastW m P best ∨ best = [] ∧ ∀ c, okC m 0 c → c ≠ [] → P c = false := by
  have key : ∀ c, okC (m : Int) 0 c → c ≠ [] → ∃ i, 1 ≤ i ∧ i < 2 ^ m ∧ lst m 0 i = c := by
    intro c hc hn
    obtain ⟨n, h1, h2⟩ := lst_all m 0 c (by rw [Int.zero_add]; exact hc)
    refine ⟨n, ?_, h1, h2⟩
    rcases Nat.eq_zero_or_pos n with e | e
    · subst e; rw [lst_zero] at h2; exact absurd h2.symm hn
    · exact e
  rcases h with ⟨h1, h2⟩ | ⟨⟨h1, h3, h4⟩, h2⟩
  · refine .inr ⟨h1, fun c hc hn => ?_⟩
    obtain ⟨i, a, b, rfl⟩ := key c hc hn
    exact h2 i a b
  · refine .inl ⟨h3, h1, h3, h4, fun c hc hn hp => ?_⟩
    obtain ⟨i, a, b, rfl⟩ := key c hc hn
    have := h2 i a b hp
    unfold prec at this
    rcases Nat.lt_trichotomy best.length (lst m 0 i).length with e | e | e
    · exact .inl e
    · refine .inr ⟨e, ?_⟩
      cases hb : bef (lst m 0 i) best
      · rfl
      · exact absurd (.inr ⟨e.symm, hb⟩) this
    · exact absurd (.inl e) this
variable (hN : 110 ≤ N) (hF : TFine ws ts br_)
include hN hF
omit hN hF
end
end Go.Proofs.Ytfamlpbdhhikdaa

namespace Go.Proofs.Ytfamlpbdhhikdaa
set_option linter.all false
open Go

/-! ### All words -/
/-! ### Words of words -/
def pick (l k : List Int) : List Int := k.map fun i => l.getD i.toNat 0
section
variable {ws : List Wd} {ts : List Tn} {br_ : Int} {l : List Int} (hl : ascB l = true) (hw : inW ws l)
include hl hw
omit hw
omit hl
include hl
omit hl
end
end Go.Proofs.Ytfamlpbdhhikdaa

namespace Go.Proofs.Ytfamlpbdhhikdaa
set_option linter.all false
open Go

end Go.Proofs.Ytfamlpbdhhikdaa

namespace Go.Proofs.Ytfamlpbdhhikdaa
set_option linter.all false
open Go

section
variable {N : Nat} {ws : List Wd} {ts : List Tn} {br_ : Int} (hN : 110 ≤ N) {b : List Int}
include hN
omit hN
end
end Go.Proofs.Ytfamlpbdhhikdaa

namespace Go.Proofs.Ytfamlpbdhhikdaa
set_option linter.all false
open Go Go.Proofs

shelf_lay Lays2.n23 Nm2 23 at Try as layDel

theorem Fn.ofCalls {P : Program} {f : FuncId} {args : Array Value} {w : World} {R : Ending → World → Prop} {R' : Value → World → Prop} (h : Calls P f args w R) (hr : ∀ e w', R e w' → ∃ v, e = .returned v ∧ R' v w') : Fn P f args w R' := by
  intro cs
  obtain ⟨e, w', fr, r, s, x⟩ := h cs
  obtain ⟨v, rfl, r'⟩ := hr e w' r
  exact ⟨v, w', fr, r', s, x⟩
theorem RepL_int {M : Nat → Option Obj} {k : IntKind} : ∀ (l : List Int) (vs : List Value), RepL M (.int k) l vs → vs = l.map (.int k) ∧ ∀ x ∈ l, inR k x
  | [], vs, h => ⟨h, fun _ h => by cases h⟩
  | x :: l, vs, h => by
    obtain ⟨v1, v2, rfl, ⟨rfl, h1⟩, h2⟩ := h
    obtain ⟨rfl, h3⟩ := RepL_int l v2 h2
    refine ⟨rfl, fun y hy => ?_⟩
    rcases List.mem_cons.1 hy with rfl | hy
    · exact h1
    · exact h3 y hy
theorem RepL_int_mk {M : Nat → Option Obj} {k : IntKind} : ∀ (l : List Int), (∀ x ∈ l, inR k x) → RepL M (.int k) l (l.map (.int k))
  | [], _ => rfl
  | x :: l, h => ⟨[.int k x], l.map (.int k), rfl, ⟨rfl, h x (by simp)⟩, RepL_int_mk l (fun y hy => h y (by simp [hy]))⟩
theorem putCells_lst (enc : Int → Value) (d : List Int) (vs rest : List Value) (h : vs.length = d.length) : «Sort».putCells enc 0 d.toArray (vs ++ rest).toArray = (d.map enc ++ rest).toArray := by
  apply Array.ext_getElem?
  intro k
  simp only [«Sort».putCells, Array.getElem?_mapIdx, List.getElem?_toArray]
  by_cases c : k < d.length
  · rw [List.getElem?_append_left (by omega), List.getElem?_append_left (by simpa using c), List.getElem?_eq_getElem (by omega), List.getElem?_map, List.getElem?_eq_getElem c]
    simp [c]
  · rw [List.getElem?_append_right (by omega), List.getElem?_append_right (by simp; omega), List.length_map, h]
    cases rest[k - d.length]? with
    | none => rfl
    | some v => simp [c]
def delete_S (_N : Nat) (i j : Int) (l : List Int) : Option (List Int) := if 0 ≤ i ∧ i ≤ j ∧ j ≤ l.length ∧ 0 < l.length then some (l.take i.toNat ++ l.drop j.toNat) else none
noncomputable def sp_delete (N : Nat) : Spec := { f := 73, ins := ⟨[.ols 0, .i .i64, .i .i64], [.lst (.int .i64)]⟩, outs := [⟨[.ols 1], [.dead, .lst (.int .i64)]⟩], run := fun p k => (delete_S N p.1.2.1 p.1.2.2.1 p.2.1).bind fun r => k (((), ()), ((), r, ())) }
/-- An own list is written in place. -/
theorem Sim.inPlace {g : Gh} {w w' : World} {l l' : List Int} {b c n : Nat} {vs rest rest' : List Value} {ty : TypeId} {h0 : Nat → Option Blk'} (hs : Sim g h0 w) (hh : ∀ i k, h0 i = some k → i = 0) (h00 : h0 0 = some (.lst (.int .i64) l)) (he : g.ρ 0 = some (some (b, c, n))) (h1 : g.ρ 1 = none) (hM : g.M b = none) (hb : w.heap[b]? = some (.cells (vs ++ rest).toArray ty (0, 0)))
    (hos : w'.os = w.os) (htp : w'.tape = w.tape) (hout : w'.output = w.output) (hsz : w.heap.size ≤ w'.heap.size) (hsame : ∀ i, i < w.heap.size → i ≠ b → w'.heap[i]? = w.heap[i]?) (hb' : w'.heap[b]? = some (.cells ((l'.map (Value.int .i64)) ++ rest').toArray ty (0, 0))) (hr : ∀ x ∈ l', inR .i64 x) (hl : l'.length ≤ 1000000) (hc : l'.length ≤ c ∧ c ≤ 9223372036854775807) (hrl : rest'.length = c - l'.length) :
    ∃ g', Stp (Sw g h0 (List.range 1)) (fun i => 1 ≤ i ∧ i < 2) g w g' w' ∧ Sim g' (fun i => ([.dead, .lst (.int .i64) l'] : List Blk')[i]?) w' ∧ RepV g' (.ols 1) (.slice (some ⟨b, 0, none⟩) l'.length c) := by
  have hSw : Sw g h0 (List.range 1) b := ⟨0, by simp, _, c, n, h00, rfl, he⟩
  refine ⟨newG g 1 (some (b, c, l'.length)), ⟨hos, htp, hout, hsz, fun i hi hn => ?_, newG_ge h1, fun i h2 h3 => ?_, fun i b' c' n' h2 h3 => ?_, fun b' o h2 => .inl h2⟩, ⟨fun b' o h2 => ?_, fun i k hk => ?_, fun i j ki kj b' ci ni cj nj hi hj mi mj ei ej => ?_⟩, .inr ⟨b, c, l'.length, newG_self _ _ _, rfl⟩⟩
  · exact hsame i hi (fun e => hn (e ▸ hSw))
  · by_cases e : i = 1
    · omega
    · simp only [newG, if_neg e] at h3
      exact absurd h2 h3
  · by_cases e : i = 1
    · subst e
      rw [newG_self] at h3
      simp only [Option.some.injEq, Prod.mk.injEq] at h3
      exact .inr (h3.1 ▸ hSw)
    · simp only [newG, if_neg e] at h3
      rw [h2] at h3; cases h3
  · have h2' : g.M b' = some o := h2
    have hbb := hs.mem b' o h2'
    rw [hsame b' (lt_of_blk hbb) (fun e => by rw [e, hM] at h2'; cases h2')]
    exact hbb
  · match i, hk with
    | 0, hk => simp at hk; subst hk; trivial
    | 1, hk =>
      simp at hk; subst hk
      refine ⟨hl, .inr ⟨b, c, l'.map (Value.int .i64), rest', ty, newG_self _ _ _, hb', RepL_int_mk l' hr, hc, ?_, hM⟩⟩
      simp [Ty.cells, hrl]
    | i + 2, hk => simp at hk
  · match i, j, hi, hj with
    | 0, _, hi, _ => simp at hi; subst hi; cases mi
    | _, 0, _, hj => simp at hj; subst hj; cases mj
    | 1, 1, _, _ => rfl
    | i + 2, _, hi, _ => simp at hi
    | _, j + 2, _, hj => simp at hj
theorem sp_delete_ok (N : Nat) : SpecOK Try.prog (sp_delete N) := by
  refine ⟨fun Z p κ => ?_, fun args w => Sem.pv_run _ _ _ (by kernel_rfl) w, fun p r hpr g w vs hv hs hρ => ?_⟩
  · show ((delete_S N _ _ _).bind _) = ((delete_S N _ _ _).bind _).bind κ
    cases delete_S N _ _ _ <;> rfl
  · obtain ⟨⟨⟨⟩, (i : Int), (j : Int), ⟨⟩⟩, (l : List Int), ⟨⟩⟩ := p
    have hpr' : ((delete_S N i j l).bind fun r => some (((), ()), ((), r, ()))) = some r := hpr
    unfold delete_S at hpr'
    split at hpr'
    rotate_left
    · cases hpr'
    rename_i hc
    simp only [Option.bind_some] at hpr'
    cases hpr'
    obtain ⟨hi0, hij, hjl, hl0⟩ := hc
    -- the arguments
    simp only [encs, enc, RepVs] at hv
    obtain ⟨v0, us, rfl, h0, v1, us1, rfl, h1, v2, us2, rfl, h2, rfl⟩ := hv
    simp only [RepV] at h0 h1 h2
    obtain ⟨rfl, hi1⟩ := h1
    obtain ⟨rfl, hj1⟩ := h2
    have hB := hs.blk 0 (.lst (.int .i64) l) rfl
    obtain ⟨hlen, hB⟩ := hB
    rcases hB with ⟨_, e⟩ | ⟨b, c, cs, rest, ty, e0, hb, hL, hcap, hrest, hM⟩
    · rw [e] at hl0; simp at hl0
    rcases h0 with ⟨e, _⟩ | ⟨b2, c2, n2, e, rfl⟩
    · simp only [id] at e; rw [e0] at e; cases e
    simp only [id] at e
    rw [e0] at e
    simp only [Option.some.injEq, Prod.mk.injEq] at e
    obtain ⟨rfl, rfl, rfl⟩ := e
    obtain ⟨rfl, hr⟩ := RepL_int l cs hL
    obtain ⟨i, rfl⟩ : ∃ k : Nat, i = k := ⟨i.toNat, by omega⟩
    obtain ⟨j, rfl⟩ : ∃ k : Nat, j = k := ⟨j.toNat, by omega⟩
    simp only [Int.toNat_natCast] at *
    have hholds : «Sort».Holds (Value.int .i64) w b 0 l.toArray := by
      intro k hk
      simp only [List.size_toArray] at hk
      have hcell : (l.map (Value.int .i64) ++ rest)[k]? = some (.int .i64 l[k]!) := by
        rw [List.getElem?_append_left (by simpa using hk), List.getElem?_map, List.getElem?_eq_getElem hk]
        simp [hk]
      refine ⟨?_, ?_⟩
      · unfold World.cell?
        rw [hb]
        simpa using hcell
      · unfold World.frozen?
        rw [hb]
        simp
    have hC := Any.slices_Delete_int layDel b 0 c i j l w hholds hcap.1 hcap.2 (by omega) (by omega)
    refine Fn.ofCalls hC (fun e w' he => ?_)
    obtain ⟨rfl, q, hw⟩ := he
    refine ⟨_, rfl, ?_⟩
    have hsz : (l.take i ++ l.drop j).length = l.length - (j - i) := by simp; omega
    have hheap : w'.heap = w.heap.modify b («Sort».onCells («Sort».putCells (Value.int .i64) 0 (l.take i ++ l.drop j ++ List.replicate (j - i) 0).toArray)) := by rw [hw]; rfl
    have hb' : w'.heap[b]? = some (.cells (((l.take i ++ l.drop j).map (Value.int .i64)) ++ ((List.replicate (j - i) (0 : Int)).map (Value.int .i64) ++ rest)).toArray ty (0, 0)) := by
      rw [hheap, Array.getElem?_modify, if_pos rfl, hb]
      simp only [Option.map_some, «Sort».onCells]
      rw [putCells_lst _ _ _ _ (by simp; omega), List.map_append, List.append_assoc]
    obtain ⟨g', st, hs', hv'⟩ := Sim.inPlace (l' := l.take i ++ l.drop j) (w' := w') hs (fun i k hk => by
      match i, hk with
      | 0, _ => rfl
      | i + 1, hk =>
        have hk' : ([.lst (.int .i64) l] : List Blk')[i + 1]? = some k := hk
        simp at hk') rfl e0 (hρ 1 (Nat.le_refl 1)) hM hb (by rw [hw]; rfl) (by rw [hw]; rfl) (by rw [hw]; rfl) (by rw [hheap]; simp) (fun k hk hne => by rw [hheap, Array.getElem?_modify, if_neg (fun h => hne h.symm)]) hb' (fun x hx => by
        rcases List.mem_append.1 hx with hx | hx
        · exact hr x (List.mem_of_mem_take hx)
        · exact hr x (List.mem_of_mem_drop hx)) (by omega) (by omega) (by simp [Ty.cells] at hrest ⊢; omega)
    refine ⟨g', st, hs', ?_⟩
    rw [hsz] at hv'
    exact hv'
end Go.Proofs.Ytfamlpbdhhikdaa

namespace Go.Proofs.Ytfamlpbdhhikdaa
set_option linter.all false
open Go

end Go.Proofs.Ytfamlpbdhhikdaa

namespace Go.Proofs.Ytfamlpbdhhikdaa
set_option linter.all false
open Go

section
variable {N : Nat}
variable {ws : List Wd} {ts : List Tn} {br_ : Int} {b : List Int}
/-! ### To leave out one word -/
/-! ### The rounds -/
end
end Go.Proofs.Ytfamlpbdhhikdaa

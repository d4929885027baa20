/-
  Parts of a proof, put together: X5, TD6, TD7, TD8, TD9.
  Conditions: none.
-/
import Derived.Test.YtfamlpbdhhikdaaZh
namespace Go.Proofs.Ytfamlpbdhhikdaa
set_option linter.all false
open Go

noncomputable abbrev readings_self (self : Int → Option (List (List Int))) : Spec := { f := 93, ins := ⟨[.i .i64], []⟩, outs := [⟨[.ols 0], [.lst (.sl (.int .i64))]⟩], run := fun p k => (self p.1.1).bind fun r => k (((), ()), (r, ())) }
def readings_l2 (N : Nat) (self : Int → Option (List (List Int))) : Nat → Int → Int → Int → (List (List Int)) → (List (List Int)) → Option (Int × Int × List (List Int))
  | 0, _, _, _, _, _ => none
  | n_ + 1, n, k, i, out, rest =>
    br (decide (i < (rest.length : Int)))
      (rng i rest.length <|
      get rest i.toNat fun x_2 =>
      lim ([k].length + x_2.length) <|
      lim (out.length + ([([k] ++ x_2)]).length) <|
      chk (i + 1) <|
      readings_l2 N self n_ n k (i + 1) (out ++ [([k] ++ x_2)]) rest)
      (some ((n, k, out)))
def readings_l1 (N : Nat) (self : Int → Option (List (List Int))) : Nat → Int → Int → (List (List Int)) → Option (List (List Int))
  | 0, _, _, _ => none
  | n_ + 1, n, k, out =>
    br (decide (k ≤ n))
      (chk (n - k) <|
      (self (n - k)).bind fun x_1 =>
      (readings_l2 N self N n k 0 out x_1).bind fun (n_3, k_4, out_5) =>
      chk (k_4 + 1) <|
      readings_l1 N self n_ n_3 (k_4 + 1) out_5)
      (some (out))
def readings_S (N : Nat) (self : Int → Option (List (List Int))) (n : Int) : Option (List (List Int)) :=
  br (decide (n = 0))
    (some ([[]]))
    ((readings_l1 N self N n 1 []).bind fun out_6 =>
    some out_6)
noncomputable def readings_sp (N : Nat) (self : Int → Option (List (List Int))) : List Spec := [readings_self self]
theorem readings_all (N : Nat) (self : Int → Option (List (List Int))) (hself : SpecOK Try.prog (readings_self self)) : AllP (SpecOK Try.prog) (readings_sp N self) := ⟨hself, trivial⟩
noncomputable def readings_c : Code := (Try.f93.body).getD .skip
noncomputable abbrev readings_B : Body := { c := readings_c, n := 36, res := [.tmp 2], outs := [⟨[.ols 0], [.lst (.sl (.int .i64))]⟩], m0 := 0 }
abbrev readings_rt : altD readings_B.outs → Option (List (List Int)) := fun r => some r.2.1
abbrev readings_l2_at : List PI := [.c [1, 1, 1, 0, 1, 0, 0, 1, 0, 0, 1, 1, 0, 0, 0, 0], .c [1, 1, 1, 0, 1, 0, 0, 1, 0, 0, 1, 1, 0, 0, 0, 1], .c [1, 1, 1, 0, 1, 0, 0, 1, 0, 0, 1, 1, 0, 0, 1], .l [1, 1, 1, 0, 1, 0, 0, 1, 0, 0, 1, 1, 0, 0], .b 2, .b 1, .c [1, 1, 1, 0, 1, 0, 0, 1, 1], .l [1, 1, 1, 0, 1, 0, 0], .b 0, .c [1, 1, 1, 1]]
abbrev readings_l2_st : Sta := ⟨[0, 3, 4, 5, 6], ⟨[.i .i64, .ols 0, .i .i64, .ols 1, .i .i64], [.lst (.sl (.int .i64)), .lst (.sl (.int .i64))]⟩⟩
abbrev readings_l2_h (rec : Int → Int → Int → (List (List Int)) → (List (List Int)) → Option (Int × Int × List (List Int))) : Leaf (Int × Int × List (List Int)) := ⟨readings_l2_at, readings_l2_st, fun p => rec p.1.1 p.1.2.2.1 p.1.2.2.2.2.1 p.2.1 p.2.2.1⟩
abbrev readings_l2_e0 : Leaf (Int × Int × List (List Int)) := ⟨[.c [1, 1, 1, 0, 1, 0, 0, 1, 1], .l [1, 1, 1, 0, 1, 0, 0], .b 0, .c [1, 1, 1, 1]], ⟨[0, 3, 4], ⟨[.i .i64, .ols 0, .i .i64], [.lst (.sl (.int .i64))]⟩⟩, fun p => some ((p.1.1, p.1.2.2.1, p.2.1))⟩
noncomputable def readings_l2_L (N : Nat) (self : Int → Option (List (List Int))) : LoopS := { at_ := readings_l2_at, sta := readings_l2_st, exits := [([.c [1, 1, 1, 0, 1, 0, 0, 1, 1], .l [1, 1, 1, 0, 1, 0, 0], .b 0, .c [1, 1, 1, 1]], ⟨[0, 3, 4], ⟨[.i .i64, .ols 0, .i .i64], [.lst (.sl (.int .i64))]⟩⟩)], run := fun p k => (readings_l2 N self N p.1.1 p.1.2.2.1 p.1.2.2.2.2.1 p.2.1 p.2.2.1).bind fun e => k (.inl ((e.1, (), e.2.1, ()), (e.2.2, ()))) }
theorem readings_l2_eq (N : Nat) (self : Int → Option (List (List Int))) (n_ : Nat) (n : Int) (k : Int) (i : Int) (out : List (List Int)) (rest : List (List Int)) : ev (Z := Int × Int × List (List Int)) Try.prog (readings_sp N self) readings_B [] [readings_l2_h (readings_l2 N self n_), readings_l2_e0] none 400 true readings_l2_at (stL readings_l2_st ((n, (), k, (), i, ()), (out, rest, ()))) (stH readings_l2_st ((n, (), k, (), i, ()), (out, rest, ()))) = readings_l2 N self (n_ + 1) n k i out rest := by kernel_rfl
theorem readings_l2_ok (N : Nat) (self : Int → Option (List (List Int))) (hself : SpecOK Try.prog (readings_self self)) {top : Bool} : LoopOK Try.prog readings_B.c readings_B.n readings_B.m0 top (readings_l2_L N self) := loop_of_ev (Z := Int × Int × List (List Int)) (N := N) (fun m p => readings_l2 N self m p.1.1 p.1.2.2.1 p.1.2.2.2.2.1 p.2.1 p.2.2.1) (fun e => .inl ((e.1, (), e.2.1, ()), (e.2.2, ()))) (fun _ _ _ => rfl) (fun _ => rfl) (fun m z E Xc hE hX hrec hx => leaf_of_ev (B := readings_B) (loops := []) (leaves := [readings_l2_h (readings_l2 N self m), readings_l2_e0]) (readings_all N self hself) mixed trivial hE hX ⟨hrec, (fun p hp => by obtain rfl := Option.some.inj hp; exact hx), trivial⟩ RetOK.no (fun p => readings_l2_eq N self m p.1.1 p.1.2.2.1 p.1.2.2.2.2.1 p.2.1 p.2.2.1))
abbrev readings_l1_at : List PI := [.c [1, 1, 1, 0, 1, 0, 0, 0, 0], .c [1, 1, 1, 0, 1, 0, 0, 0, 1], .c [1, 1, 1, 0, 1, 0, 0, 1], .l [1, 1, 1, 0, 1, 0, 0], .b 0, .c [1, 1, 1, 1]]
abbrev readings_l1_st : Sta := ⟨[0, 3, 4], ⟨[.i .i64, .ols 0, .i .i64], [.lst (.sl (.int .i64))]⟩⟩
abbrev readings_l1_h (rec : Int → Int → (List (List Int)) → Option (List (List Int))) : Leaf (List (List Int)) := ⟨readings_l1_at, readings_l1_st, fun p => rec p.1.1 p.1.2.2.1 p.2.1⟩
abbrev readings_l1_e0 : Leaf (List (List Int)) := ⟨[.c [1, 1, 1, 1, 0], .c [1, 1, 1, 1, 1]], ⟨[3], ⟨[.ols 0], [.lst (.sl (.int .i64))]⟩⟩, fun p => some (p.2.1)⟩
noncomputable def readings_l1_L (N : Nat) (self : Int → Option (List (List Int))) : LoopS := { at_ := readings_l1_at, sta := readings_l1_st, exits := [([.c [1, 1, 1, 1, 0], .c [1, 1, 1, 1, 1]], ⟨[3], ⟨[.ols 0], [.lst (.sl (.int .i64))]⟩⟩)], run := fun p k => (readings_l1 N self N p.1.1 p.1.2.2.1 p.2.1).bind fun e => k (.inl (((), ()), (e, ()))) }
theorem readings_l1_eq (N : Nat) (self : Int → Option (List (List Int))) (n_ : Nat) (n : Int) (k : Int) (out : List (List Int)) : ev (Z := List (List Int)) Try.prog (readings_sp N self) readings_B [readings_l2_L N self] [readings_l1_h (readings_l1 N self n_), readings_l1_e0] none 400 true readings_l1_at (stL readings_l1_st ((n, (), k, ()), (out, ()))) (stH readings_l1_st ((n, (), k, ()), (out, ()))) = readings_l1 N self (n_ + 1) n k out := by kernel_rfl
theorem readings_l1_ok (N : Nat) (self : Int → Option (List (List Int))) (hself : SpecOK Try.prog (readings_self self)) {top : Bool} : LoopOK Try.prog readings_B.c readings_B.n readings_B.m0 top (readings_l1_L N self) := loop_of_ev (Z := List (List Int)) (N := N) (fun m p => readings_l1 N self m p.1.1 p.1.2.2.1 p.2.1) (fun e => .inl (((), ()), (e, ()))) (fun _ _ _ => rfl) (fun _ => rfl) (fun m z E Xc hE hX hrec hx => leaf_of_ev (B := readings_B) (loops := [readings_l2_L N self]) (leaves := [readings_l1_h (readings_l1 N self m), readings_l1_e0]) (readings_all N self hself) mixed ⟨readings_l2_ok N self hself, trivial⟩ hE hX ⟨hrec, (fun p hp => by obtain rfl := Option.some.inj hp; exact hx), trivial⟩ RetOK.no (fun p => readings_l1_eq N self m p.1.1 p.1.2.2.1 p.2.1))
abbrev readings_st : Sta := ⟨[0], ⟨[.i .i64], []⟩⟩
theorem readings_eq (N : Nat) (self : Int → Option (List (List Int))) (n : Int) : ev (Z := List (List Int)) Try.prog (readings_sp N self) readings_B [readings_l2_L N self, readings_l1_L N self] [] (some readings_rt) 400 false [.c [0], .c [1]] (stL readings_st ((n, ()), ())) (stH readings_st ((n, ()), ())) = readings_S N self n := by kernel_rfl
theorem readings_self_ok (N : Nat) (self : Int → Option (List (List Int))) (hself : SpecOK Try.prog (readings_self self)) : SpecOK Try.prog (readings_self (readings_S N self)) := fn_sound (B := readings_B) (loops := [readings_l2_L N self, readings_l1_L N self]) (leaves := []) (fun p => readings_S N self p.1.1) (fun r => (((), ()), (r, ()))) readings_rt (fun _ _ _ => rfl) (fun r z h => by cases h; rfl) Try.func93 (by kernel_rfl) (by kernel_rfl) (by kernel_rfl) rfl rfl (by kernel_rfl) (fun args w => Sem.pv_run _ _ _ (by kernel_rfl) w) (readings_all N self hself) mixed ⟨readings_l2_ok N self hself, readings_l1_ok N self hself, trivial⟩ (fun z E Xc hE hX hret => trivial) (fun p => readings_eq N self p.1.1)
def readings_R (N : Nat) : Nat → Int → Option (List (List Int))
  | 0 => fun _ => none
  | n + 1 => readings_S N (readings_R N n)
theorem readings_R_ok (N : Nat) : ∀ n, SpecOK Try.prog (readings_self (readings_R N n))
  | 0 => SpecOK.none (fun _ _ _ => rfl) (fun args w => Sem.pv_run _ _ _ (by kernel_rfl) w)
  | n + 1 => readings_self_ok N (readings_R N n) (readings_R_ok N n)
noncomputable abbrev sp_readings (N : Nat) : Spec := readings_self (readings_R N N)
theorem sp_readings_ok (N : Nat) : SpecOK Try.prog (sp_readings N) := readings_R_ok N N

def rright_j1 (N : Nat) (rec : Int → (List (Int × (Int × Bool))) → (List (Int × (Int × Int))) → Int → (List (List Int)) → (List (List Int)) → Option (List (List Int))) (i : Int) (t : List (Int × (Int × Bool))) (t2 : List (Int × (Int × Int))) (t3 : Int) (out : List (List Int)) (all : List (List Int)) : Option (List (List Int)) :=
  chk (i + 1) <|
  rec (i + 1) t t2 t3 out all
def rright_l1 (N : Nat) : Nat → Int → (List (Int × (Int × Bool))) → (List (Int × (Int × Int))) → Int → (List (List Int)) → (List (List Int)) → Option (List (List Int))
  | 0, _, _, _, _, _, _ => none
  | n_ + 1, i, t, t2, t3, out, all =>
    br (decide (i < (all.length : Int)))
      (rng i all.length <|
      get all i.toNat fun x_2 =>
      (rwrong_S N t t2 t3 x_2).bind fun (x_3, y_4, y_5) =>
      br (decide (y_5 = 6))
        (rng i all.length <|
        get all i.toNat fun x_6 =>
        lim (out.length + [x_6].length) <|
        rright_j1 N (rright_l1 N n_) i t t2 t3 (out ++ [x_6]) all)
        (rright_j1 N (rright_l1 N n_) i t t2 t3 out all))
      (some (out))
def rright_S (N : Nat) (t : List (Int × (Int × Bool))) (t2 : List (Int × (Int × Int))) (t3 : Int) : Option (List (List Int)) :=
  (readings_R N N (t.length : Int)).bind fun x_1 =>
  (rright_l1 N N 0 t t2 t3 [] x_1).bind fun out_7 =>
  some out_7
noncomputable def rright_sp (N : Nat) : List Spec := [sp_rwrong N, sp_readings N]
theorem rright_all (N : Nat) : AllP (SpecOK Try.prog) (rright_sp N) := ⟨sp_rwrong_ok N, sp_readings_ok N, trivial⟩
noncomputable def rright_c : Code := (Try.f26.body).getD .skip
noncomputable abbrev rright_B : Body := { c := rright_c, n := 39, res := [.tmp 2], outs := [⟨[.sl (.sl (.int .i64))], []⟩], m0 := 0 }
abbrev rright_rt : altD rright_B.outs → Option (List (List Int)) := fun r => some r.1.1
abbrev rright_l1_at : List PI := [.c [1, 1, 1, 0, 1, 0, 0, 0, 0], .c [1, 1, 1, 0, 1, 0, 0, 0, 1], .c [1, 1, 1, 0, 1, 0, 0, 1], .l [1, 1, 1, 0, 1, 0, 0], .b 0, .c [1, 1, 1, 1]]
abbrev rright_l1_st : Sta := ⟨[1, 3, 4, 5], ⟨[.own 0 0, .ols 1, .ols 2, .i .i64], [.segs [.sl (.pair (.int .i64) (.pair (.int .i64) .bool)), .sl (.pair (.int .i64) (.pair (.int .i64) (.int .i64))), .i .i64], .lst (.sl (.int .i64)), .lst (.sl (.int .i64))]⟩⟩
abbrev rright_l1_h (rec : Int → (List (Int × (Int × Bool))) → (List (Int × (Int × Int))) → Int → (List (List Int)) → (List (List Int)) → Option (List (List Int))) : Leaf (List (List Int)) := ⟨rright_l1_at, rright_l1_st, fun p => rec p.1.2.2.2.1 p.2.1.1 p.2.1.2.1 p.2.1.2.2.1 p.2.2.1 p.2.2.2.1⟩
abbrev rright_l1_e0 : Leaf (List (List Int)) := ⟨[.c [1, 1, 1, 1, 0], .c [1, 1, 1, 1, 1]], ⟨[3], ⟨[.ols 0], [.lst (.sl (.int .i64))]⟩⟩, fun p => some (p.2.1)⟩
abbrev rright_j1_at : List PI := [.c [1, 1, 1, 0, 1, 0, 0, 1, 1], .l [1, 1, 1, 0, 1, 0, 0], .b 0, .c [1, 1, 1, 1]]
abbrev rright_j1_st : Sta := ⟨[1, 3, 4, 5], ⟨[.own 0 0, .ols 1, .ols 2, .i .i64], [.segs [.sl (.pair (.int .i64) (.pair (.int .i64) .bool)), .sl (.pair (.int .i64) (.pair (.int .i64) (.int .i64))), .i .i64], .lst (.sl (.int .i64)), .lst (.sl (.int .i64))]⟩⟩
abbrev rright_j1_k (N : Nat) (rec : Int → (List (Int × (Int × Bool))) → (List (Int × (Int × Int))) → Int → (List (List Int)) → (List (List Int)) → Option (List (List Int))) : Leaf (List (List Int)) := ⟨rright_j1_at, rright_j1_st, fun p => rright_j1 N rec p.1.2.2.2.1 p.2.1.1 p.2.1.2.1 p.2.1.2.2.1 p.2.2.1 p.2.2.2.1⟩
theorem rright_j1_eq (N : Nat) (rec : Int → (List (Int × (Int × Bool))) → (List (Int × (Int × Int))) → Int → (List (List Int)) → (List (List Int)) → Option (List (List Int))) (i : Int) (t : List (Int × (Int × Bool))) (t2 : List (Int × (Int × Int))) (t3 : Int) (out : List (List Int)) (all : List (List Int)) : ev (Z := List (List Int)) Try.prog (rright_sp N) rright_B [] [rright_l1_h rec, rright_l1_e0] none 400 true rright_j1_at (stL rright_j1_st (((), (), (), i, ()), ((t, t2, t3, ()), out, all, ()))) (stH rright_j1_st (((), (), (), i, ()), ((t, t2, t3, ()), out, all, ()))) = rright_j1 N rec i t t2 t3 out all := by kernel_rfl
theorem rright_j1_lf (N : Nat) (rec : Int → (List (Int × (Int × Bool))) → (List (Int × (Int × Int))) → Int → (List (List Int)) → (List (List Int)) → Option (List (List Int))) {z : List (List Int)} {top : Bool} {E : EE} {Xc : Ctx} (hE : EOK rright_B.m0 E) (hX : CxOK top Xc) (hrec : LeafOK Try.prog rright_B.c rright_B.n rright_B.m0 E Xc z (rright_l1_h rec)) (h0 : LeafOK Try.prog rright_B.c rright_B.n rright_B.m0 E Xc z rright_l1_e0) : LeafOK Try.prog rright_B.c rright_B.n rright_B.m0 E Xc z (rright_j1_k N rec) := leaf_of_ev (B := rright_B) (loops := []) (leaves := [rright_l1_h rec, rright_l1_e0]) (rright_all N) mixed trivial hE hX ⟨hrec, h0, trivial⟩ RetOK.no (fun p => rright_j1_eq N rec p.1.2.2.2.1 p.2.1.1 p.2.1.2.1 p.2.1.2.2.1 p.2.2.1 p.2.2.2.1)
noncomputable def rright_l1_L (N : Nat) : LoopS := { at_ := rright_l1_at, sta := rright_l1_st, exits := [([.c [1, 1, 1, 1, 0], .c [1, 1, 1, 1, 1]], ⟨[3], ⟨[.ols 0], [.lst (.sl (.int .i64))]⟩⟩)], run := fun p k => (rright_l1 N N p.1.2.2.2.1 p.2.1.1 p.2.1.2.1 p.2.1.2.2.1 p.2.2.1 p.2.2.2.1).bind fun e => k (.inl (((), ()), (e, ()))) }
theorem rright_l1_eq (N n_ : Nat) (i : Int) (t : List (Int × (Int × Bool))) (t2 : List (Int × (Int × Int))) (t3 : Int) (out : List (List Int)) (all : List (List Int)) : ev (Z := List (List Int)) Try.prog (rright_sp N) rright_B [] [rright_l1_h (rright_l1 N n_), rright_l1_e0, rright_j1_k N (rright_l1 N n_)] none 400 true rright_l1_at (stL rright_l1_st (((), (), (), i, ()), ((t, t2, t3, ()), out, all, ()))) (stH rright_l1_st (((), (), (), i, ()), ((t, t2, t3, ()), out, all, ()))) = rright_l1 N (n_ + 1) i t t2 t3 out all := by kernel_rfl
theorem rright_l1_ok (N : Nat) {top : Bool} : LoopOK Try.prog rright_B.c rright_B.n rright_B.m0 top (rright_l1_L N) := loop_of_ev (Z := List (List Int)) (N := N) (fun m p => rright_l1 N m p.1.2.2.2.1 p.2.1.1 p.2.1.2.1 p.2.1.2.2.1 p.2.2.1 p.2.2.2.1) (fun e => .inl (((), ()), (e, ()))) (fun _ _ _ => rfl) (fun _ => rfl) (fun m z E Xc hE hX hrec hx => leaf_of_ev (B := rright_B) (loops := []) (leaves := [rright_l1_h (rright_l1 N m), rright_l1_e0, rright_j1_k N (rright_l1 N m)]) (rright_all N) mixed trivial hE hX ⟨hrec, (fun p hp => by obtain rfl := Option.some.inj hp; exact hx), rright_j1_lf N _ hE hX hrec (fun p hp => by obtain rfl := Option.some.inj hp; exact hx), trivial⟩ RetOK.no (fun p => rright_l1_eq N m p.1.2.2.2.1 p.2.1.1 p.2.1.2.1 p.2.1.2.2.1 p.2.2.1 p.2.2.2.1))
abbrev rright_st : Sta := ⟨[0], ⟨[.agg [.sl (.pair (.int .i64) (.pair (.int .i64) .bool)), .sl (.pair (.int .i64) (.pair (.int .i64) (.int .i64))), .i .i64]], []⟩⟩
theorem rright_eq (N : Nat) (t : List (Int × (Int × Bool))) (t2 : List (Int × (Int × Int))) (t3 : Int) : ev (Z := List (List Int)) Try.prog (rright_sp N) rright_B [rright_l1_L N] [] (some rright_rt) 400 false [.c [0], .c [1]] (stL rright_st (((t, t2, t3, ()), ()), ())) (stH rright_st (((t, t2, t3, ()), ()), ())) = rright_S N t t2 t3 := by kernel_rfl
noncomputable def sp_rright (N : Nat) : Spec := { f := 26, ins := ⟨[.agg [.sl (.pair (.int .i64) (.pair (.int .i64) .bool)), .sl (.pair (.int .i64) (.pair (.int .i64) (.int .i64))), .i .i64]], []⟩, outs := [⟨[.sl (.sl (.int .i64))], []⟩], run := fun p k => (rright_S N p.1.1.1 p.1.1.2.1 p.1.1.2.2.1).bind fun r => k ((r, ()), ()) }
theorem sp_rright_ok (N : Nat) : SpecOK Try.prog (sp_rright N) := fn_sound (B := rright_B) (loops := [rright_l1_L N]) (leaves := []) (fun p => rright_S N p.1.1.1 p.1.1.2.1 p.1.1.2.2.1) (fun r => ((r, ()), ())) rright_rt (fun _ _ _ => rfl) (fun r z h => by cases h; rfl) Try.func26 (by kernel_rfl) (by kernel_rfl) (by kernel_rfl) rfl rfl (by kernel_rfl) (fun args w => Sem.pv_run _ _ _ (by kernel_rfl) w) (rright_all N) mixed ⟨rright_l1_ok N, trivial⟩ (fun z E Xc hE hX hret => trivial) (fun p => rright_eq N p.1.1.1 p.1.1.2.1 p.1.1.2.2.1)

def rfewest_j1 (N : Nat) (rec : (List (List Int)) → Int → Int → Option Int) (l : List (List Int)) (best : Int) (i : Int) : Option Int :=
  chk (i + 1) <|
  rec l best (i + 1)
def rfewest_l1 (N : Nat) : Nat → (List (List Int)) → Int → Int → Option Int
  | 0, _, _, _ => none
  | n_ + 1, l, best, i =>
    br (decide (i < (l.length : Int)))
      (br (decide (best = 0))
        (idx l i fun x_1 =>
        rfewest_j1 N (rfewest_l1 N n_) l (x_1.length : Int) i)
        (idx l i fun x_2 =>
        br (decide ((x_2.length : Int) < best))
          (idx l i fun x_3 =>
          rfewest_j1 N (rfewest_l1 N n_) l (x_3.length : Int) i)
          (rfewest_j1 N (rfewest_l1 N n_) l best i)))
      (some (best))
def rfewest_S (N : Nat) (l : List (List Int)) : Option (Int × Int) :=
  (rfewest_l1 N N l 0 0).bind fun best_4 =>
  br (decide (best_4 = 0))
    (some (0, 6))
    (some (best_4, 0))
noncomputable def rfewest_sp (N : Nat) : List Spec := []
theorem rfewest_all (N : Nat) : AllP (SpecOK Try.prog) (rfewest_sp N) := trivial
noncomputable def rfewest_c : Code := (Try.f27.body).getD .skip
noncomputable abbrev rfewest_B : Body := { c := rfewest_c, n := 31, res := [.tmp 2, .tmp 3], outs := [⟨[.i .i64, .i .i64], []⟩], m0 := 0 }
abbrev rfewest_rt : altD rfewest_B.outs → Option (Int × Int) := fun r => some (r.1.1, r.1.2.1)
abbrev rfewest_l1_at : List PI := [.c [1, 1, 0, 1, 0, 0, 0, 0], .c [1, 1, 0, 1, 0, 0, 0, 1], .c [1, 1, 0, 1, 0, 0, 1], .l [1, 1, 0, 1, 0, 0], .b 0, .c [1, 1, 1]]
abbrev rfewest_l1_st : Sta := ⟨[0, 4, 5], ⟨[.sl (.sl (.int .i64)), .i .i64, .i .i64], []⟩⟩
abbrev rfewest_l1_h (rec : (List (List Int)) → Int → Int → Option Int) : Leaf Int := ⟨rfewest_l1_at, rfewest_l1_st, fun p => rec p.1.1 p.1.2.1 p.1.2.2.1⟩
abbrev rfewest_l1_e0 : Leaf Int := ⟨[.c [1, 1, 1, 0, 0], .c [1, 1, 1, 0, 1], .c [1, 1, 1, 1]], ⟨[4], ⟨[.i .i64], []⟩⟩, fun p => some (p.1.1)⟩
abbrev rfewest_j1_at : List PI := [.c [1, 1, 0, 1, 0, 0, 1, 1], .l [1, 1, 0, 1, 0, 0], .b 0, .c [1, 1, 1]]
abbrev rfewest_j1_st : Sta := ⟨[0, 4, 5], ⟨[.sl (.sl (.int .i64)), .i .i64, .i .i64], []⟩⟩
abbrev rfewest_j1_k (N : Nat) (rec : (List (List Int)) → Int → Int → Option Int) : Leaf Int := ⟨rfewest_j1_at, rfewest_j1_st, fun p => rfewest_j1 N rec p.1.1 p.1.2.1 p.1.2.2.1⟩
theorem rfewest_j1_eq (N : Nat) (rec : (List (List Int)) → Int → Int → Option Int) (l : List (List Int)) (best : Int) (i : Int) : ev (Z := Int) Try.prog (rfewest_sp N) rfewest_B [] [rfewest_l1_h rec, rfewest_l1_e0] none 400 true rfewest_j1_at (stL rfewest_j1_st ((l, best, i, ()), ())) (stH rfewest_j1_st ((l, best, i, ()), ())) = rfewest_j1 N rec l best i := by kernel_rfl
theorem rfewest_j1_lf (N : Nat) (rec : (List (List Int)) → Int → Int → Option Int) {z : Int} {top : Bool} {E : EE} {Xc : Ctx} (hE : EOK rfewest_B.m0 E) (hX : CxOK top Xc) (hrec : LeafOK Try.prog rfewest_B.c rfewest_B.n rfewest_B.m0 E Xc z (rfewest_l1_h rec)) (h0 : LeafOK Try.prog rfewest_B.c rfewest_B.n rfewest_B.m0 E Xc z rfewest_l1_e0) : LeafOK Try.prog rfewest_B.c rfewest_B.n rfewest_B.m0 E Xc z (rfewest_j1_k N rec) := leaf_of_ev (B := rfewest_B) (loops := []) (leaves := [rfewest_l1_h rec, rfewest_l1_e0]) (rfewest_all N) mixed trivial hE hX ⟨hrec, h0, trivial⟩ RetOK.no (fun p => rfewest_j1_eq N rec p.1.1 p.1.2.1 p.1.2.2.1)
noncomputable def rfewest_l1_L (N : Nat) : LoopS := { at_ := rfewest_l1_at, sta := rfewest_l1_st, exits := [([.c [1, 1, 1, 0, 0], .c [1, 1, 1, 0, 1], .c [1, 1, 1, 1]], ⟨[4], ⟨[.i .i64], []⟩⟩)], run := fun p k => (rfewest_l1 N N p.1.1 p.1.2.1 p.1.2.2.1).bind fun e => k (.inl ((e, ()), ())) }
theorem rfewest_l1_eq (N n_ : Nat) (l : List (List Int)) (best : Int) (i : Int) : ev (Z := Int) Try.prog (rfewest_sp N) rfewest_B [] [rfewest_l1_h (rfewest_l1 N n_), rfewest_l1_e0, rfewest_j1_k N (rfewest_l1 N n_)] none 400 true rfewest_l1_at (stL rfewest_l1_st ((l, best, i, ()), ())) (stH rfewest_l1_st ((l, best, i, ()), ())) = rfewest_l1 N (n_ + 1) l best i := by kernel_rfl
theorem rfewest_l1_ok (N : Nat) {top : Bool} : LoopOK Try.prog rfewest_B.c rfewest_B.n rfewest_B.m0 top (rfewest_l1_L N) := loop_of_ev (Z := Int) (N := N) (fun m p => rfewest_l1 N m p.1.1 p.1.2.1 p.1.2.2.1) (fun e => .inl ((e, ()), ())) (fun _ _ _ => rfl) (fun _ => rfl) (fun m z E Xc hE hX hrec hx => leaf_of_ev (B := rfewest_B) (loops := []) (leaves := [rfewest_l1_h (rfewest_l1 N m), rfewest_l1_e0, rfewest_j1_k N (rfewest_l1 N m)]) (rfewest_all N) mixed trivial hE hX ⟨hrec, (fun p hp => by obtain rfl := Option.some.inj hp; exact hx), rfewest_j1_lf N _ hE hX hrec (fun p hp => by obtain rfl := Option.some.inj hp; exact hx), trivial⟩ RetOK.no (fun p => rfewest_l1_eq N m p.1.1 p.1.2.1 p.1.2.2.1))
abbrev rfewest_st : Sta := ⟨[0], ⟨[.sl (.sl (.int .i64))], []⟩⟩
theorem rfewest_eq (N : Nat) (l : List (List Int)) : ev (Z := Int × Int) Try.prog (rfewest_sp N) rfewest_B [rfewest_l1_L N] [] (some rfewest_rt) 400 false [.c [0], .c [1]] (stL rfewest_st ((l, ()), ())) (stH rfewest_st ((l, ()), ())) = rfewest_S N l := by kernel_rfl
noncomputable def sp_rfewest (N : Nat) : Spec := { f := 27, ins := ⟨[.sl (.sl (.int .i64))], []⟩, outs := [⟨[.i .i64, .i .i64], []⟩], run := fun p k => (rfewest_S N p.1.1).bind fun r => k ((r.1, r.2, ()), ()) }
theorem sp_rfewest_ok (N : Nat) : SpecOK Try.prog (sp_rfewest N) := fn_sound (B := rfewest_B) (loops := [rfewest_l1_L N]) (leaves := []) (fun p => rfewest_S N p.1.1) (fun r => ((r.1, r.2, ()), ())) rfewest_rt (fun _ _ _ => rfl) (fun r z h => by cases h; rfl) Try.func27 (by kernel_rfl) (by kernel_rfl) (by kernel_rfl) rfl rfl (by kernel_rfl) (fun args w => Sem.pv_run _ _ _ (by kernel_rfl) w) (rfewest_all N) mixed ⟨rfewest_l1_ok N, trivial⟩ (fun z E Xc hE hX hret => trivial) (fun p => rfewest_eq N p.1.1)

def rlongest_l2 (N : Nat) : Nat → (List Int) → Int → Int → Int → Int → Int → (List (Int × (Int × Bool))) → (List (Int × (Int × Int))) → Int → Option (List Int × Int × Int × Int × Int × (List (Int × (Int × Bool))) × (List (Int × (Int × Int))) × Int)
  | 0, _, _, _, _, _, _, _, _, _ => none
  | n_ + 1, l, most, at_, i, n, w, t, t2, t3 =>
    idx l i fun x_1 =>
    chk (at_ + x_1) <|
    br (decide (w < (at_ + x_1)))
      (idx t w fun x_2 =>
      chk (n + x_2.1) <|
      chk (w + 1) <|
      rlongest_l2 N n_ l most at_ i (n + x_2.1) (w + 1) t t2 t3)
      (some ((l, most, at_, i, n, t, t2, t3)))
def rlongest_l1 (N : Nat) : Nat → (List Int) → Int → Int → Int → (List (Int × (Int × Bool))) → (List (Int × (Int × Int))) → Int → Option Int
  | 0, _, _, _, _, _, _, _ => none
  | n_ + 1, l, most, at_, i, t, t2, t3 =>
    br (decide (i < (l.length : Int)))
      ((rlongest_l2 N N l most at_ i 0 at_ t t2 t3).bind fun (l_3, most_4, at__5, i_6, n_7, t_8, t2_9, t3_10) =>
      idx l_3 i_6 fun x_11 =>
      chk (at__5 + x_11) <|
      chk (i_6 + 1) <|
      rlongest_l1 N n_ l_3 (max most_4 n_7) (at__5 + x_11) (i_6 + 1) t_8 t2_9 t3_10)
      (some (most))
def rlongest_S (N : Nat) (t : List (Int × (Int × Bool))) (t2 : List (Int × (Int × Int))) (t3 : Int) (l : List Int) : Option Int :=
  (rlongest_l1 N N l 0 0 0 t t2 t3).bind fun most_12 =>
  some most_12
noncomputable def rlongest_sp (N : Nat) : List Spec := []
theorem rlongest_all (N : Nat) : AllP (SpecOK Try.prog) (rlongest_sp N) := trivial
noncomputable def rlongest_c : Code := (Try.f60.body).getD .skip
noncomputable abbrev rlongest_B : Body := { c := rlongest_c, n := 45, res := [.tmp 4], outs := [⟨[.i .i64], []⟩], m0 := 0 }
abbrev rlongest_rt : altD rlongest_B.outs → Option Int := fun r => some r.1.1
abbrev rlongest_l2_at : List PI := [.c [1, 1, 0, 1, 0, 0, 1, 0, 0, 1, 0, 1, 0, 0, 0, 0], .c [1, 1, 0, 1, 0, 0, 1, 0, 0, 1, 0, 1, 0, 0, 0, 1], .c [1, 1, 0, 1, 0, 0, 1, 0, 0, 1, 0, 1, 0, 0, 1], .l [1, 1, 0, 1, 0, 0, 1, 0, 0, 1, 0, 1, 0, 0], .b 2, .c [1, 1, 0, 1, 0, 0, 1, 0, 0, 1, 1], .b 1, .c [1, 1, 0, 1, 0, 0, 1, 1], .l [1, 1, 0, 1, 0, 0], .b 0, .c [1, 1, 1]]
abbrev rlongest_l2_st : Sta := ⟨[1, 2, 5, 6, 7, 8, 9], ⟨[.sl (.int .i64), .own 0 0, .i .i64, .i .i64, .i .i64, .i .i64, .i .i64], [.segs [.sl (.pair (.int .i64) (.pair (.int .i64) .bool)), .sl (.pair (.int .i64) (.pair (.int .i64) (.int .i64))), .i .i64]]⟩⟩
abbrev rlongest_l2_h (rec : (List Int) → Int → Int → Int → Int → Int → (List (Int × (Int × Bool))) → (List (Int × (Int × Int))) → Int → Option (List Int × Int × Int × Int × Int × (List (Int × (Int × Bool))) × (List (Int × (Int × Int))) × Int)) : Leaf (List Int × Int × Int × Int × Int × (List (Int × (Int × Bool))) × (List (Int × (Int × Int))) × Int) := ⟨rlongest_l2_at, rlongest_l2_st, fun p => rec p.1.1 p.1.2.2.1 p.1.2.2.2.1 p.1.2.2.2.2.1 p.1.2.2.2.2.2.1 p.1.2.2.2.2.2.2.1 p.2.1.1 p.2.1.2.1 p.2.1.2.2.1⟩
abbrev rlongest_l2_e0 : Leaf (List Int × Int × Int × Int × Int × (List (Int × (Int × Bool))) × (List (Int × (Int × Int))) × Int) := ⟨[.c [1, 1, 0, 1, 0, 0, 1, 0, 0, 1, 1, 0], .c [1, 1, 0, 1, 0, 0, 1, 0, 0, 1, 1, 1], .b 1, .c [1, 1, 0, 1, 0, 0, 1, 1], .l [1, 1, 0, 1, 0, 0], .b 0, .c [1, 1, 1]], ⟨[1, 2, 5, 6, 7, 8], ⟨[.sl (.int .i64), .own 0 0, .i .i64, .i .i64, .i .i64, .i .i64], [.segs [.sl (.pair (.int .i64) (.pair (.int .i64) .bool)), .sl (.pair (.int .i64) (.pair (.int .i64) (.int .i64))), .i .i64]]⟩⟩, fun p => some ((p.1.1, p.1.2.2.1, p.1.2.2.2.1, p.1.2.2.2.2.1, p.1.2.2.2.2.2.1, p.2.1.1, p.2.1.2.1, p.2.1.2.2.1))⟩
noncomputable def rlongest_l2_L (N : Nat) : LoopS := { at_ := rlongest_l2_at, sta := rlongest_l2_st, exits := [([.c [1, 1, 0, 1, 0, 0, 1, 0, 0, 1, 1, 0], .c [1, 1, 0, 1, 0, 0, 1, 0, 0, 1, 1, 1], .b 1, .c [1, 1, 0, 1, 0, 0, 1, 1], .l [1, 1, 0, 1, 0, 0], .b 0, .c [1, 1, 1]], ⟨[1, 2, 5, 6, 7, 8], ⟨[.sl (.int .i64), .own 0 0, .i .i64, .i .i64, .i .i64, .i .i64], [.segs [.sl (.pair (.int .i64) (.pair (.int .i64) .bool)), .sl (.pair (.int .i64) (.pair (.int .i64) (.int .i64))), .i .i64]]⟩⟩)], run := fun p k => (rlongest_l2 N N p.1.1 p.1.2.2.1 p.1.2.2.2.1 p.1.2.2.2.2.1 p.1.2.2.2.2.2.1 p.1.2.2.2.2.2.2.1 p.2.1.1 p.2.1.2.1 p.2.1.2.2.1).bind fun e => k (.inl ((e.1, (), e.2.1, e.2.2.1, e.2.2.2.1, e.2.2.2.2.1, ()), ((e.2.2.2.2.2.1, e.2.2.2.2.2.2.1, e.2.2.2.2.2.2.2, ()), ()))) }
theorem rlongest_l2_eq (N n_ : Nat) (l : List Int) (most : Int) (at_ : Int) (i : Int) (n : Int) (w : Int) (t : List (Int × (Int × Bool))) (t2 : List (Int × (Int × Int))) (t3 : Int) : ev (Z := List Int × Int × Int × Int × Int × (List (Int × (Int × Bool))) × (List (Int × (Int × Int))) × Int) Try.prog (rlongest_sp N) rlongest_B [] [rlongest_l2_h (rlongest_l2 N n_), rlongest_l2_e0] none 400 true rlongest_l2_at (stL rlongest_l2_st ((l, (), most, at_, i, n, w, ()), ((t, t2, t3, ()), ()))) (stH rlongest_l2_st ((l, (), most, at_, i, n, w, ()), ((t, t2, t3, ()), ()))) = rlongest_l2 N (n_ + 1) l most at_ i n w t t2 t3 := by kernel_rfl
theorem rlongest_l2_ok (N : Nat) {top : Bool} : LoopOK Try.prog rlongest_B.c rlongest_B.n rlongest_B.m0 top (rlongest_l2_L N) := loop_of_ev (Z := List Int × Int × Int × Int × Int × (List (Int × (Int × Bool))) × (List (Int × (Int × Int))) × Int) (N := N) (fun m p => rlongest_l2 N m p.1.1 p.1.2.2.1 p.1.2.2.2.1 p.1.2.2.2.2.1 p.1.2.2.2.2.2.1 p.1.2.2.2.2.2.2.1 p.2.1.1 p.2.1.2.1 p.2.1.2.2.1) (fun e => .inl ((e.1, (), e.2.1, e.2.2.1, e.2.2.2.1, e.2.2.2.2.1, ()), ((e.2.2.2.2.2.1, e.2.2.2.2.2.2.1, e.2.2.2.2.2.2.2, ()), ()))) (fun _ _ _ => rfl) (fun _ => rfl) (fun m z E Xc hE hX hrec hx => leaf_of_ev (B := rlongest_B) (loops := []) (leaves := [rlongest_l2_h (rlongest_l2 N m), rlongest_l2_e0]) (rlongest_all N) mixed trivial hE hX ⟨hrec, (fun p hp => by obtain rfl := Option.some.inj hp; exact hx), trivial⟩ RetOK.no (fun p => rlongest_l2_eq N m p.1.1 p.1.2.2.1 p.1.2.2.2.1 p.1.2.2.2.2.1 p.1.2.2.2.2.2.1 p.1.2.2.2.2.2.2.1 p.2.1.1 p.2.1.2.1 p.2.1.2.2.1))
abbrev rlongest_l1_at : List PI := [.c [1, 1, 0, 1, 0, 0, 0, 0], .c [1, 1, 0, 1, 0, 0, 0, 1], .c [1, 1, 0, 1, 0, 0, 1], .l [1, 1, 0, 1, 0, 0], .b 0, .c [1, 1, 1]]
abbrev rlongest_l1_st : Sta := ⟨[1, 2, 5, 6, 7], ⟨[.sl (.int .i64), .own 0 0, .i .i64, .i .i64, .i .i64], [.segs [.sl (.pair (.int .i64) (.pair (.int .i64) .bool)), .sl (.pair (.int .i64) (.pair (.int .i64) (.int .i64))), .i .i64]]⟩⟩
abbrev rlongest_l1_h (rec : (List Int) → Int → Int → Int → (List (Int × (Int × Bool))) → (List (Int × (Int × Int))) → Int → Option Int) : Leaf Int := ⟨rlongest_l1_at, rlongest_l1_st, fun p => rec p.1.1 p.1.2.2.1 p.1.2.2.2.1 p.1.2.2.2.2.1 p.2.1.1 p.2.1.2.1 p.2.1.2.2.1⟩
abbrev rlongest_l1_e0 : Leaf Int := ⟨[.c [1, 1, 1, 0], .c [1, 1, 1, 1]], ⟨[5], ⟨[.i .i64], []⟩⟩, fun p => some (p.1.1)⟩
noncomputable def rlongest_l1_L (N : Nat) : LoopS := { at_ := rlongest_l1_at, sta := rlongest_l1_st, exits := [([.c [1, 1, 1, 0], .c [1, 1, 1, 1]], ⟨[5], ⟨[.i .i64], []⟩⟩)], run := fun p k => (rlongest_l1 N N p.1.1 p.1.2.2.1 p.1.2.2.2.1 p.1.2.2.2.2.1 p.2.1.1 p.2.1.2.1 p.2.1.2.2.1).bind fun e => k (.inl ((e, ()), ())) }
theorem rlongest_l1_eq (N n_ : Nat) (l : List Int) (most : Int) (at_ : Int) (i : Int) (t : List (Int × (Int × Bool))) (t2 : List (Int × (Int × Int))) (t3 : Int) : ev (Z := Int) Try.prog (rlongest_sp N) rlongest_B [rlongest_l2_L N] [rlongest_l1_h (rlongest_l1 N n_), rlongest_l1_e0] none 400 true rlongest_l1_at (stL rlongest_l1_st ((l, (), most, at_, i, ()), ((t, t2, t3, ()), ()))) (stH rlongest_l1_st ((l, (), most, at_, i, ()), ((t, t2, t3, ()), ()))) = rlongest_l1 N (n_ + 1) l most at_ i t t2 t3 := by kernel_rfl
theorem rlongest_l1_ok (N : Nat) {top : Bool} : LoopOK Try.prog rlongest_B.c rlongest_B.n rlongest_B.m0 top (rlongest_l1_L N) := loop_of_ev (Z := Int) (N := N) (fun m p => rlongest_l1 N m p.1.1 p.1.2.2.1 p.1.2.2.2.1 p.1.2.2.2.2.1 p.2.1.1 p.2.1.2.1 p.2.1.2.2.1) (fun e => .inl ((e, ()), ())) (fun _ _ _ => rfl) (fun _ => rfl) (fun m z E Xc hE hX hrec hx => leaf_of_ev (B := rlongest_B) (loops := [rlongest_l2_L N]) (leaves := [rlongest_l1_h (rlongest_l1 N m), rlongest_l1_e0]) (rlongest_all N) mixed ⟨rlongest_l2_ok N, trivial⟩ hE hX ⟨hrec, (fun p hp => by obtain rfl := Option.some.inj hp; exact hx), trivial⟩ RetOK.no (fun p => rlongest_l1_eq N m p.1.1 p.1.2.2.1 p.1.2.2.2.1 p.1.2.2.2.2.1 p.2.1.1 p.2.1.2.1 p.2.1.2.2.1))
abbrev rlongest_st : Sta := ⟨[0, 1], ⟨[.agg [.sl (.pair (.int .i64) (.pair (.int .i64) .bool)), .sl (.pair (.int .i64) (.pair (.int .i64) (.int .i64))), .i .i64], .sl (.int .i64)], []⟩⟩
theorem rlongest_eq (N : Nat) (t : List (Int × (Int × Bool))) (t2 : List (Int × (Int × Int))) (t3 : Int) (l : List Int) : ev (Z := Int) Try.prog (rlongest_sp N) rlongest_B [rlongest_l2_L N, rlongest_l1_L N] [] (some rlongest_rt) 400 false [.c [0], .c [1]] (stL rlongest_st (((t, t2, t3, ()), l, ()), ())) (stH rlongest_st (((t, t2, t3, ()), l, ()), ())) = rlongest_S N t t2 t3 l := by kernel_rfl
noncomputable def sp_rlongest (N : Nat) : Spec := { f := 60, ins := ⟨[.agg [.sl (.pair (.int .i64) (.pair (.int .i64) .bool)), .sl (.pair (.int .i64) (.pair (.int .i64) (.int .i64))), .i .i64], .sl (.int .i64)], []⟩, outs := [⟨[.i .i64], []⟩], run := fun p k => (rlongest_S N p.1.1.1 p.1.1.2.1 p.1.1.2.2.1 p.1.2.1).bind fun r => k ((r, ()), ()) }
theorem sp_rlongest_ok (N : Nat) : SpecOK Try.prog (sp_rlongest N) := fn_sound (B := rlongest_B) (loops := [rlongest_l2_L N, rlongest_l1_L N]) (leaves := []) (fun p => rlongest_S N p.1.1.1 p.1.1.2.1 p.1.1.2.2.1 p.1.2.1) (fun r => ((r, ()), ())) rlongest_rt (fun _ _ _ => rfl) (fun r z h => by cases h; rfl) Try.func60 (by kernel_rfl) (by kernel_rfl) (by kernel_rfl) rfl rfl (by kernel_rfl) (fun args w => Sem.pv_run _ _ _ (by kernel_rfl) w) (rlongest_all N) mixed ⟨rlongest_l2_ok N, rlongest_l1_ok N, trivial⟩ (fun z E Xc hE hX hret => trivial) (fun p => rlongest_eq N p.1.1.1 p.1.1.2.1 p.1.1.2.2.1 p.1.2.1)

def reven_j1 (N : Nat) (rec : (List (List Int)) → Int → Int → Int → (List (Int × (Int × Bool))) → (List (Int × (Int × Int))) → Int → Option (Int × Int)) (l : List (List Int)) (many : Int) (most : Int) (i : Int) (t : List (Int × (Int × Bool))) (t2 : List (Int × (Int × Int))) (t3 : Int) : Option (Int × Int) :=
  chk (i + 1) <|
  rec l many most (i + 1) t t2 t3
def reven_l1 (N : Nat) : Nat → (List (List Int)) → Int → Int → Int → (List (Int × (Int × Bool))) → (List (Int × (Int × Int))) → Int → Option (Int × Int)
  | 0, _, _, _, _, _, _, _ => none
  | n_ + 1, l, many, most, i, t, t2, t3 =>
    br (decide (i < (l.length : Int)))
      (idx l i fun x_1 =>
      (rlongest_S N t t2 t3 x_1).bind fun x_2 =>
      br (decide (i = 0))
        (idx l i fun x_3 =>
        reven_j1 N (reven_l1 N n_) l (x_3.length : Int) x_2 i t t2 t3)
        (br (decide (x_2 < most))
          (idx l i fun x_4 =>
          reven_j1 N (reven_l1 N n_) l (x_4.length : Int) x_2 i t t2 t3)
          (br (decide (x_2 = most))
            (idx l i fun x_5 =>
            br (decide ((x_5.length : Int) < many))
              (idx l i fun x_6 =>
              reven_j1 N (reven_l1 N n_) l (x_6.length : Int) x_2 i t t2 t3)
              (reven_j1 N (reven_l1 N n_) l many most i t t2 t3))
            (reven_j1 N (reven_l1 N n_) l many most i t t2 t3))))
      (some ((many, most)))
def reven_S (N : Nat) (t : List (Int × (Int × Bool))) (t2 : List (Int × (Int × Int))) (t3 : Int) (l : List (List Int)) : Option (Int × Int) :=
  (reven_l1 N N l 0 0 0 t t2 t3).bind fun (many_7, most_8) =>
  some (many_7, most_8)
noncomputable def reven_sp (N : Nat) : List Spec := [sp_rlongest N]
theorem reven_all (N : Nat) : AllP (SpecOK Try.prog) (reven_sp N) := ⟨sp_rlongest_ok N, trivial⟩
noncomputable def reven_c : Code := (Try.f59.body).getD .skip
noncomputable abbrev reven_B : Body := { c := reven_c, n := 51, res := [.tmp 4, .tmp 5], outs := [⟨[.i .i64, .i .i64], []⟩], m0 := 0 }
abbrev reven_rt : altD reven_B.outs → Option (Int × Int) := fun r => some (r.1.1, r.1.2.1)
abbrev reven_l1_at : List PI := [.c [1, 1, 0, 1, 0, 0, 0, 0], .c [1, 1, 0, 1, 0, 0, 0, 1], .c [1, 1, 0, 1, 0, 0, 1], .l [1, 1, 0, 1, 0, 0], .b 0, .c [1, 1, 1]]
abbrev reven_l1_st : Sta := ⟨[1, 2, 6, 7, 8], ⟨[.sl (.sl (.int .i64)), .own 0 0, .i .i64, .i .i64, .i .i64], [.segs [.sl (.pair (.int .i64) (.pair (.int .i64) .bool)), .sl (.pair (.int .i64) (.pair (.int .i64) (.int .i64))), .i .i64]]⟩⟩
abbrev reven_l1_h (rec : (List (List Int)) → Int → Int → Int → (List (Int × (Int × Bool))) → (List (Int × (Int × Int))) → Int → Option (Int × Int)) : Leaf (Int × Int) := ⟨reven_l1_at, reven_l1_st, fun p => rec p.1.1 p.1.2.2.1 p.1.2.2.2.1 p.1.2.2.2.2.1 p.2.1.1 p.2.1.2.1 p.2.1.2.2.1⟩
abbrev reven_l1_e0 : Leaf (Int × Int) := ⟨[.c [1, 1, 1, 0], .c [1, 1, 1, 1]], ⟨[6, 7], ⟨[.i .i64, .i .i64], []⟩⟩, fun p => some ((p.1.1, p.1.2.1))⟩
abbrev reven_j1_at : List PI := [.c [1, 1, 0, 1, 0, 0, 1, 1], .l [1, 1, 0, 1, 0, 0], .b 0, .c [1, 1, 1]]
abbrev reven_j1_st : Sta := ⟨[1, 2, 6, 7, 8], ⟨[.sl (.sl (.int .i64)), .own 0 0, .i .i64, .i .i64, .i .i64], [.segs [.sl (.pair (.int .i64) (.pair (.int .i64) .bool)), .sl (.pair (.int .i64) (.pair (.int .i64) (.int .i64))), .i .i64]]⟩⟩
abbrev reven_j1_k (N : Nat) (rec : (List (List Int)) → Int → Int → Int → (List (Int × (Int × Bool))) → (List (Int × (Int × Int))) → Int → Option (Int × Int)) : Leaf (Int × Int) := ⟨reven_j1_at, reven_j1_st, fun p => reven_j1 N rec p.1.1 p.1.2.2.1 p.1.2.2.2.1 p.1.2.2.2.2.1 p.2.1.1 p.2.1.2.1 p.2.1.2.2.1⟩
theorem reven_j1_eq (N : Nat) (rec : (List (List Int)) → Int → Int → Int → (List (Int × (Int × Bool))) → (List (Int × (Int × Int))) → Int → Option (Int × Int)) (l : List (List Int)) (many : Int) (most : Int) (i : Int) (t : List (Int × (Int × Bool))) (t2 : List (Int × (Int × Int))) (t3 : Int) : ev (Z := Int × Int) Try.prog (reven_sp N) reven_B [] [reven_l1_h rec, reven_l1_e0] none 400 true reven_j1_at (stL reven_j1_st ((l, (), many, most, i, ()), ((t, t2, t3, ()), ()))) (stH reven_j1_st ((l, (), many, most, i, ()), ((t, t2, t3, ()), ()))) = reven_j1 N rec l many most i t t2 t3 := by kernel_rfl
theorem reven_j1_lf (N : Nat) (rec : (List (List Int)) → Int → Int → Int → (List (Int × (Int × Bool))) → (List (Int × (Int × Int))) → Int → Option (Int × Int)) {z : Int × Int} {top : Bool} {E : EE} {Xc : Ctx} (hE : EOK reven_B.m0 E) (hX : CxOK top Xc) (hrec : LeafOK Try.prog reven_B.c reven_B.n reven_B.m0 E Xc z (reven_l1_h rec)) (h0 : LeafOK Try.prog reven_B.c reven_B.n reven_B.m0 E Xc z reven_l1_e0) : LeafOK Try.prog reven_B.c reven_B.n reven_B.m0 E Xc z (reven_j1_k N rec) := leaf_of_ev (B := reven_B) (loops := []) (leaves := [reven_l1_h rec, reven_l1_e0]) (reven_all N) mixed trivial hE hX ⟨hrec, h0, trivial⟩ RetOK.no (fun p => reven_j1_eq N rec p.1.1 p.1.2.2.1 p.1.2.2.2.1 p.1.2.2.2.2.1 p.2.1.1 p.2.1.2.1 p.2.1.2.2.1)
noncomputable def reven_l1_L (N : Nat) : LoopS := { at_ := reven_l1_at, sta := reven_l1_st, exits := [([.c [1, 1, 1, 0], .c [1, 1, 1, 1]], ⟨[6, 7], ⟨[.i .i64, .i .i64], []⟩⟩)], run := fun p k => (reven_l1 N N p.1.1 p.1.2.2.1 p.1.2.2.2.1 p.1.2.2.2.2.1 p.2.1.1 p.2.1.2.1 p.2.1.2.2.1).bind fun e => k (.inl ((e.1, e.2, ()), ())) }
theorem reven_l1_eq (N n_ : Nat) (l : List (List Int)) (many : Int) (most : Int) (i : Int) (t : List (Int × (Int × Bool))) (t2 : List (Int × (Int × Int))) (t3 : Int) : ev (Z := Int × Int) Try.prog (reven_sp N) reven_B [] [reven_l1_h (reven_l1 N n_), reven_l1_e0, reven_j1_k N (reven_l1 N n_)] none 400 true reven_l1_at (stL reven_l1_st ((l, (), many, most, i, ()), ((t, t2, t3, ()), ()))) (stH reven_l1_st ((l, (), many, most, i, ()), ((t, t2, t3, ()), ()))) = reven_l1 N (n_ + 1) l many most i t t2 t3 := by kernel_rfl
theorem reven_l1_ok (N : Nat) {top : Bool} : LoopOK Try.prog reven_B.c reven_B.n reven_B.m0 top (reven_l1_L N) := loop_of_ev (Z := Int × Int) (N := N) (fun m p => reven_l1 N m p.1.1 p.1.2.2.1 p.1.2.2.2.1 p.1.2.2.2.2.1 p.2.1.1 p.2.1.2.1 p.2.1.2.2.1) (fun e => .inl ((e.1, e.2, ()), ())) (fun _ _ _ => rfl) (fun _ => rfl) (fun m z E Xc hE hX hrec hx => leaf_of_ev (B := reven_B) (loops := []) (leaves := [reven_l1_h (reven_l1 N m), reven_l1_e0, reven_j1_k N (reven_l1 N m)]) (reven_all N) mixed trivial hE hX ⟨hrec, (fun p hp => by obtain rfl := Option.some.inj hp; exact hx), reven_j1_lf N _ hE hX hrec (fun p hp => by obtain rfl := Option.some.inj hp; exact hx), trivial⟩ RetOK.no (fun p => reven_l1_eq N m p.1.1 p.1.2.2.1 p.1.2.2.2.1 p.1.2.2.2.2.1 p.2.1.1 p.2.1.2.1 p.2.1.2.2.1))
abbrev reven_st : Sta := ⟨[0, 1], ⟨[.agg [.sl (.pair (.int .i64) (.pair (.int .i64) .bool)), .sl (.pair (.int .i64) (.pair (.int .i64) (.int .i64))), .i .i64], .sl (.sl (.int .i64))], []⟩⟩
theorem reven_eq (N : Nat) (t : List (Int × (Int × Bool))) (t2 : List (Int × (Int × Int))) (t3 : Int) (l : List (List Int)) : ev (Z := Int × Int) Try.prog (reven_sp N) reven_B [reven_l1_L N] [] (some reven_rt) 400 false [.c [0], .c [1]] (stL reven_st (((t, t2, t3, ()), l, ()), ())) (stH reven_st (((t, t2, t3, ()), l, ()), ())) = reven_S N t t2 t3 l := by kernel_rfl
noncomputable def sp_reven (N : Nat) : Spec := { f := 59, ins := ⟨[.agg [.sl (.pair (.int .i64) (.pair (.int .i64) .bool)), .sl (.pair (.int .i64) (.pair (.int .i64) (.int .i64))), .i .i64], .sl (.sl (.int .i64))], []⟩, outs := [⟨[.i .i64, .i .i64], []⟩], run := fun p k => (reven_S N p.1.1.1 p.1.1.2.1 p.1.1.2.2.1 p.1.2.1).bind fun r => k ((r.1, r.2, ()), ()) }
theorem sp_reven_ok (N : Nat) : SpecOK Try.prog (sp_reven N) := fn_sound (B := reven_B) (loops := [reven_l1_L N]) (leaves := []) (fun p => reven_S N p.1.1.1 p.1.1.2.1 p.1.1.2.2.1 p.1.2.1) (fun r => ((r.1, r.2, ()), ())) reven_rt (fun _ _ _ => rfl) (fun r z h => by cases h; rfl) Try.func59 (by kernel_rfl) (by kernel_rfl) (by kernel_rfl) rfl rfl (by kernel_rfl) (fun args w => Sem.pv_run _ _ _ (by kernel_rfl) w) (reven_all N) mixed ⟨reven_l1_ok N, trivial⟩ (fun z E Xc hE hX hret => trivial) (fun p => reven_eq N p.1.1.1 p.1.1.2.1 p.1.1.2.2.1 p.1.2.1)

def rsure_j1 (N : Nat) (rec : (List (List Int)) → Int → (List (Int × (Int × Bool))) → (List (Int × (Int × Int))) → Int → (List (List Int)) → Option (List (List Int))) (l : List (List Int)) (i : Int) (t : List (Int × (Int × Bool))) (t2 : List (Int × (Int × Int))) (t3 : Int) (out : List (List Int)) : Option (List (List Int)) :=
  chk (i + 1) <|
  rec l (i + 1) t t2 t3 out
def rsure_l1 (N : Nat) : Nat → (List (List Int)) → Int → (List (Int × (Int × Bool))) → (List (Int × (Int × Int))) → Int → (List (List Int)) → Option (List (List Int))
  | 0, _, _, _, _, _, _ => none
  | n_ + 1, l, i, t, t2, t3, out =>
    br (decide (i < (l.length : Int)))
      (idx l i fun x_1 =>
      (rastray_S N t t2 t3 x_1).bind fun (x_2, y_3, y_4, y_5) =>
      br (!y_5)
        (idx l i fun x_6 =>
        lim (out.length + [x_6].length) <|
        rsure_j1 N (rsure_l1 N n_) l i t t2 t3 (out ++ [x_6]))
        (rsure_j1 N (rsure_l1 N n_) l i t t2 t3 out))
      (some (out))
def rsure_S (N : Nat) (t : List (Int × (Int × Bool))) (t2 : List (Int × (Int × Int))) (t3 : Int) (l : List (List Int)) : Option (List (List Int)) :=
  (rsure_l1 N N l 0 t t2 t3 []).bind fun out_7 =>
  some out_7
noncomputable def rsure_sp (N : Nat) : List Spec := [sp_rastray N]
theorem rsure_all (N : Nat) : AllP (SpecOK Try.prog) (rsure_sp N) := ⟨sp_rastray_ok N, trivial⟩
noncomputable def rsure_c : Code := (Try.f58.body).getD .skip
noncomputable abbrev rsure_B : Body := { c := rsure_c, n := 36, res := [.tmp 4], outs := [⟨[.sl (.sl (.int .i64))], []⟩], m0 := 0 }
abbrev rsure_rt : altD rsure_B.outs → Option (List (List Int)) := fun r => some r.1.1
abbrev rsure_l1_at : List PI := [.c [1, 1, 0, 1, 0, 0, 0, 0], .c [1, 1, 0, 1, 0, 0, 0, 1], .c [1, 1, 0, 1, 0, 0, 1], .l [1, 1, 0, 1, 0, 0], .b 0, .c [1, 1, 1]]
abbrev rsure_l1_st : Sta := ⟨[1, 2, 5, 6], ⟨[.sl (.sl (.int .i64)), .own 0 0, .ols 1, .i .i64], [.segs [.sl (.pair (.int .i64) (.pair (.int .i64) .bool)), .sl (.pair (.int .i64) (.pair (.int .i64) (.int .i64))), .i .i64], .lst (.sl (.int .i64))]⟩⟩
abbrev rsure_l1_h (rec : (List (List Int)) → Int → (List (Int × (Int × Bool))) → (List (Int × (Int × Int))) → Int → (List (List Int)) → Option (List (List Int))) : Leaf (List (List Int)) := ⟨rsure_l1_at, rsure_l1_st, fun p => rec p.1.1 p.1.2.2.2.1 p.2.1.1 p.2.1.2.1 p.2.1.2.2.1 p.2.2.1⟩
abbrev rsure_l1_e0 : Leaf (List (List Int)) := ⟨[.c [1, 1, 1, 0], .c [1, 1, 1, 1]], ⟨[5], ⟨[.ols 0], [.lst (.sl (.int .i64))]⟩⟩, fun p => some (p.2.1)⟩
abbrev rsure_j1_at : List PI := [.c [1, 1, 0, 1, 0, 0, 1, 1], .l [1, 1, 0, 1, 0, 0], .b 0, .c [1, 1, 1]]
abbrev rsure_j1_st : Sta := ⟨[1, 2, 5, 6], ⟨[.sl (.sl (.int .i64)), .own 0 0, .ols 1, .i .i64], [.segs [.sl (.pair (.int .i64) (.pair (.int .i64) .bool)), .sl (.pair (.int .i64) (.pair (.int .i64) (.int .i64))), .i .i64], .lst (.sl (.int .i64))]⟩⟩
abbrev rsure_j1_k (N : Nat) (rec : (List (List Int)) → Int → (List (Int × (Int × Bool))) → (List (Int × (Int × Int))) → Int → (List (List Int)) → Option (List (List Int))) : Leaf (List (List Int)) := ⟨rsure_j1_at, rsure_j1_st, fun p => rsure_j1 N rec p.1.1 p.1.2.2.2.1 p.2.1.1 p.2.1.2.1 p.2.1.2.2.1 p.2.2.1⟩
theorem rsure_j1_eq (N : Nat) (rec : (List (List Int)) → Int → (List (Int × (Int × Bool))) → (List (Int × (Int × Int))) → Int → (List (List Int)) → Option (List (List Int))) (l : List (List Int)) (i : Int) (t : List (Int × (Int × Bool))) (t2 : List (Int × (Int × Int))) (t3 : Int) (out : List (List Int)) : ev (Z := List (List Int)) Try.prog (rsure_sp N) rsure_B [] [rsure_l1_h rec, rsure_l1_e0] none 400 true rsure_j1_at (stL rsure_j1_st ((l, (), (), i, ()), ((t, t2, t3, ()), out, ()))) (stH rsure_j1_st ((l, (), (), i, ()), ((t, t2, t3, ()), out, ()))) = rsure_j1 N rec l i t t2 t3 out := by kernel_rfl
theorem rsure_j1_lf (N : Nat) (rec : (List (List Int)) → Int → (List (Int × (Int × Bool))) → (List (Int × (Int × Int))) → Int → (List (List Int)) → Option (List (List Int))) {z : List (List Int)} {top : Bool} {E : EE} {Xc : Ctx} (hE : EOK rsure_B.m0 E) (hX : CxOK top Xc) (hrec : LeafOK Try.prog rsure_B.c rsure_B.n rsure_B.m0 E Xc z (rsure_l1_h rec)) (h0 : LeafOK Try.prog rsure_B.c rsure_B.n rsure_B.m0 E Xc z rsure_l1_e0) : LeafOK Try.prog rsure_B.c rsure_B.n rsure_B.m0 E Xc z (rsure_j1_k N rec) := leaf_of_ev (B := rsure_B) (loops := []) (leaves := [rsure_l1_h rec, rsure_l1_e0]) (rsure_all N) mixed trivial hE hX ⟨hrec, h0, trivial⟩ RetOK.no (fun p => rsure_j1_eq N rec p.1.1 p.1.2.2.2.1 p.2.1.1 p.2.1.2.1 p.2.1.2.2.1 p.2.2.1)
noncomputable def rsure_l1_L (N : Nat) : LoopS := { at_ := rsure_l1_at, sta := rsure_l1_st, exits := [([.c [1, 1, 1, 0], .c [1, 1, 1, 1]], ⟨[5], ⟨[.ols 0], [.lst (.sl (.int .i64))]⟩⟩)], run := fun p k => (rsure_l1 N N p.1.1 p.1.2.2.2.1 p.2.1.1 p.2.1.2.1 p.2.1.2.2.1 p.2.2.1).bind fun e => k (.inl (((), ()), (e, ()))) }
theorem rsure_l1_eq (N n_ : Nat) (l : List (List Int)) (i : Int) (t : List (Int × (Int × Bool))) (t2 : List (Int × (Int × Int))) (t3 : Int) (out : List (List Int)) : ev (Z := List (List Int)) Try.prog (rsure_sp N) rsure_B [] [rsure_l1_h (rsure_l1 N n_), rsure_l1_e0, rsure_j1_k N (rsure_l1 N n_)] none 400 true rsure_l1_at (stL rsure_l1_st ((l, (), (), i, ()), ((t, t2, t3, ()), out, ()))) (stH rsure_l1_st ((l, (), (), i, ()), ((t, t2, t3, ()), out, ()))) = rsure_l1 N (n_ + 1) l i t t2 t3 out := by kernel_rfl
theorem rsure_l1_ok (N : Nat) {top : Bool} : LoopOK Try.prog rsure_B.c rsure_B.n rsure_B.m0 top (rsure_l1_L N) := loop_of_ev (Z := List (List Int)) (N := N) (fun m p => rsure_l1 N m p.1.1 p.1.2.2.2.1 p.2.1.1 p.2.1.2.1 p.2.1.2.2.1 p.2.2.1) (fun e => .inl (((), ()), (e, ()))) (fun _ _ _ => rfl) (fun _ => rfl) (fun m z E Xc hE hX hrec hx => leaf_of_ev (B := rsure_B) (loops := []) (leaves := [rsure_l1_h (rsure_l1 N m), rsure_l1_e0, rsure_j1_k N (rsure_l1 N m)]) (rsure_all N) mixed trivial hE hX ⟨hrec, (fun p hp => by obtain rfl := Option.some.inj hp; exact hx), rsure_j1_lf N _ hE hX hrec (fun p hp => by obtain rfl := Option.some.inj hp; exact hx), trivial⟩ RetOK.no (fun p => rsure_l1_eq N m p.1.1 p.1.2.2.2.1 p.2.1.1 p.2.1.2.1 p.2.1.2.2.1 p.2.2.1))
abbrev rsure_st : Sta := ⟨[0, 1], ⟨[.agg [.sl (.pair (.int .i64) (.pair (.int .i64) .bool)), .sl (.pair (.int .i64) (.pair (.int .i64) (.int .i64))), .i .i64], .sl (.sl (.int .i64))], []⟩⟩
theorem rsure_eq (N : Nat) (t : List (Int × (Int × Bool))) (t2 : List (Int × (Int × Int))) (t3 : Int) (l : List (List Int)) : ev (Z := List (List Int)) Try.prog (rsure_sp N) rsure_B [rsure_l1_L N] [] (some rsure_rt) 400 false [.c [0], .c [1]] (stL rsure_st (((t, t2, t3, ()), l, ()), ())) (stH rsure_st (((t, t2, t3, ()), l, ()), ())) = rsure_S N t t2 t3 l := by kernel_rfl
noncomputable def sp_rsure (N : Nat) : Spec := { f := 58, ins := ⟨[.agg [.sl (.pair (.int .i64) (.pair (.int .i64) .bool)), .sl (.pair (.int .i64) (.pair (.int .i64) (.int .i64))), .i .i64], .sl (.sl (.int .i64))], []⟩, outs := [⟨[.sl (.sl (.int .i64))], []⟩], run := fun p k => (rsure_S N p.1.1.1 p.1.1.2.1 p.1.1.2.2.1 p.1.2.1).bind fun r => k ((r, ()), ()) }
theorem sp_rsure_ok (N : Nat) : SpecOK Try.prog (sp_rsure N) := fn_sound (B := rsure_B) (loops := [rsure_l1_L N]) (leaves := []) (fun p => rsure_S N p.1.1.1 p.1.1.2.1 p.1.1.2.2.1 p.1.2.1) (fun r => ((r, ()), ())) rsure_rt (fun _ _ _ => rfl) (fun r z h => by cases h; rfl) Try.func58 (by kernel_rfl) (by kernel_rfl) (by kernel_rfl) rfl rfl (by kernel_rfl) (fun args w => Sem.pv_run _ _ _ (by kernel_rfl) w) (rsure_all N) mixed ⟨rsure_l1_ok N, trivial⟩ (fun z E Xc hE hX hret => trivial) (fun p => rsure_eq N p.1.1.1 p.1.1.2.1 p.1.1.2.2.1 p.1.2.1)

def teven1_S (N : Nat) (k : List Int) (u : (List Int)) : Option Bool :=
  (likei_S N k u).bind fun x_1 =>
  some x_1
noncomputable def teven1_sp (N : Nat) : List Spec := [sp_likei N]
theorem teven1_all (N : Nat) : AllP (SpecOK Try.prog) (teven1_sp N) := ⟨sp_likei_ok N, trivial⟩
noncomputable def teven1_c : Code := (Try.f62.body).getD .skip
noncomputable abbrev teven1_B : Body := { c := teven1_c, n := 7, res := [.tmp 3], outs := [⟨[.b], []⟩], m0 := 0 }
abbrev teven1_rt : altD teven1_B.outs → Option Bool := fun r => some r.1.1
abbrev teven1_st : Sta := ⟨[0, 1], ⟨[.sl (.int .i64), .fe (.sl (.int .i64))], []⟩⟩
theorem teven1_eq (N : Nat) (k : List Int) (u : (List Int)) : ev (Z := Bool) Try.prog (teven1_sp N) teven1_B [] [] (some teven1_rt) 400 false [.c [0], .c [1]] (stL teven1_st ((k, u, ()), ())) (stH teven1_st ((k, u, ()), ())) = teven1_S N k u := by kernel_rfl
noncomputable def sp_teven1 (N : Nat) : Spec := { f := 62, ins := ⟨[.sl (.int .i64), .fe (.sl (.int .i64))], []⟩, outs := [⟨[.b], []⟩], run := fun p k => (teven1_S N p.1.1 p.1.2.1).bind fun r => k ((r, ()), ()) }
theorem sp_teven1_ok (N : Nat) : SpecOK Try.prog (sp_teven1 N) := fn_sound (B := teven1_B) (loops := []) (leaves := []) (fun p => teven1_S N p.1.1 p.1.2.1) (fun r => ((r, ()), ())) teven1_rt (fun _ _ _ => rfl) (fun r z h => by cases h; rfl) Try.func62 (by kernel_rfl) (by kernel_rfl) (by kernel_rfl) rfl rfl (by kernel_rfl) (fun args w => Sem.pv_run _ _ _ (by kernel_rfl) w) (teven1_all N) mixed trivial (fun z E Xc hE hX hret => trivial) (fun p => teven1_eq N p.1.1 p.1.2.1)

def ixfte_l1 (N : Nat) : Nat → (List (List Int)) → ((List Int)) → Int → Int → Option ((Int) ⊕ (Unit))
  | 0, _, _, _, _ => none
  | n_ + 1, s, f, u, u2 =>
    br (decide (u2 < u))
      (idx s u2 fun x_1 =>
      (teven1_S N x_1 f).bind fun x_2 =>
      br x_2
        (some (.inl u2))
        (chk (u2 + 1) <|
        ixfte_l1 N n_ s f u (u2 + 1)))
      (some (.inr ()))
def ixfte_S (N : Nat) (s : List (List Int)) (f : (List Int)) : Option Int :=
  (ixfte_l1 N N s f (s.length : Int) 0).bind fun e => match e with
  | .inl i_3 =>
    some i_3
  | .inr _ =>
    some (-1)
noncomputable def ixfte_sp (N : Nat) : List Spec := [sp_teven1 N]
theorem ixfte_all (N : Nat) : AllP (SpecOK Try.prog) (ixfte_sp N) := ⟨sp_teven1_ok N, trivial⟩
noncomputable def ixfte_c : Code := (Try.f126.body).getD .skip
noncomputable abbrev ixfte_B : Body := { c := ixfte_c, n := 19, res := [.tmp 4], outs := [⟨[.i .i64], []⟩], m0 := 0 }
abbrev ixfte_rt : altD ixfte_B.outs → Option Int := fun r => some r.1.1
abbrev ixfte_l1_at : List PI := [.c [1, 0, 1, 0, 0, 0], .c [1, 0, 1, 0, 0, 1], .l [1, 0, 1, 0, 0], .b 0, .c [1, 1]]
abbrev ixfte_l1_st : Sta := ⟨[0, 1, 7, 8], ⟨[.sl (.sl (.int .i64)), .fn 62 [] [.fe (.sl (.int .i64))], .i .i64, .i .i64], []⟩⟩
abbrev ixfte_l1_h (rec : (List (List Int)) → ((List Int)) → Int → Int → Option ((Int) ⊕ (Unit))) : Leaf ((Int) ⊕ (Unit)) := ⟨ixfte_l1_at, ixfte_l1_st, fun p => rec p.1.1 p.1.2.1.2.1 p.1.2.2.1 p.1.2.2.2.1⟩
abbrev ixfte_l1_e0 : Leaf ((Int) ⊕ (Unit)) := ⟨[.c [1, 0, 1, 0, 0, 1, 1, 0, 0, 1, 1, 0, 0], .c [1, 0, 1, 0, 0, 1, 1, 0, 0, 1, 1, 0, 1], .b 1, .c [1, 0, 1, 0, 0, 1, 1, 1], .l [1, 0, 1, 0, 0], .b 0, .c [1, 1]], ⟨[5], ⟨[.i .i64], []⟩⟩, fun p => some (.inl p.1.1)⟩
abbrev ixfte_l1_e1 : Leaf ((Int) ⊕ (Unit)) := ⟨[.c [1, 1, 0], .c [1, 1, 1]], ⟨[], ⟨[], []⟩⟩, fun p => some (.inr ())⟩
noncomputable def ixfte_l1_L (N : Nat) : LoopS := { at_ := ixfte_l1_at, sta := ixfte_l1_st, exits := [([.c [1, 0, 1, 0, 0, 1, 1, 0, 0, 1, 1, 0, 0], .c [1, 0, 1, 0, 0, 1, 1, 0, 0, 1, 1, 0, 1], .b 1, .c [1, 0, 1, 0, 0, 1, 1, 1], .l [1, 0, 1, 0, 0], .b 0, .c [1, 1]], ⟨[5], ⟨[.i .i64], []⟩⟩), ([.c [1, 1, 0], .c [1, 1, 1]], ⟨[], ⟨[], []⟩⟩)], run := fun p k => (ixfte_l1 N N p.1.1 p.1.2.1.2.1 p.1.2.2.1 p.1.2.2.2.1).bind fun e => match e with | .inl x => k (.inl ((x, ()), ())) | .inr x => k (.inr (.inl ((), ()))) }
theorem ixfte_l1_eq (N n_ : Nat) (s : List (List Int)) (f : (List Int)) (u : Int) (u2 : Int) : ev (Z := (Int) ⊕ (Unit)) Try.prog (ixfte_sp N) ixfte_B [] [ixfte_l1_h (ixfte_l1 N n_), ixfte_l1_e0, ixfte_l1_e1] none 400 true ixfte_l1_at (stL ixfte_l1_st ((s, ((), (f, ())), u, u2, ()), ())) (stH ixfte_l1_st ((s, ((), (f, ())), u, u2, ()), ())) = ixfte_l1 N (n_ + 1) s f u u2 := by kernel_rfl
theorem ixfte_l1_ok (N : Nat) {top : Bool} : LoopOK Try.prog ixfte_B.c ixfte_B.n ixfte_B.m0 top (ixfte_l1_L N) := loop_of_ev (Z := (Int) ⊕ (Unit)) (N := N) (fun m p => ixfte_l1 N m p.1.1 p.1.2.1.2.1 p.1.2.2.1 p.1.2.2.2.1) (fun e => match e with | .inl x => .inl ((x, ()), ()) | .inr x => .inr (.inl ((), ()))) (fun _ p k => bind_congr_ (ixfte_l1 N N p.1.1 p.1.2.1.2.1 p.1.2.2.1 p.1.2.2.2.1) _ _ (fun e => by rcases e with x | x <;> rfl)) (fun _ => rfl) (fun m z E Xc hE hX hrec hx => leaf_of_ev (B := ixfte_B) (loops := []) (leaves := [ixfte_l1_h (ixfte_l1 N m), ixfte_l1_e0, ixfte_l1_e1]) (ixfte_all N) mixed trivial hE hX ⟨hrec, (fun p hp => by obtain rfl := Option.some.inj hp; exact hx), (fun p hp => by obtain rfl := Option.some.inj hp; exact hx), trivial⟩ RetOK.no (fun p => ixfte_l1_eq N m p.1.1 p.1.2.1.2.1 p.1.2.2.1 p.1.2.2.2.1))
abbrev ixfte_st : Sta := ⟨[0, 1], ⟨[.sl (.sl (.int .i64)), .fn 62 [] [.fe (.sl (.int .i64))]], []⟩⟩
theorem ixfte_eq (N : Nat) (s : List (List Int)) (f : (List Int)) : ev (Z := Int) Try.prog (ixfte_sp N) ixfte_B [ixfte_l1_L N] [] (some ixfte_rt) 400 false [.c [0], .c [1]] (stL ixfte_st ((s, ((), (f, ())), ()), ())) (stH ixfte_st ((s, ((), (f, ())), ()), ())) = ixfte_S N s f := by kernel_rfl
noncomputable def sp_ixfte (N : Nat) : Spec := { f := 126, ins := ⟨[.sl (.sl (.int .i64)), .fn 62 [] [.fe (.sl (.int .i64))]], []⟩, outs := [⟨[.i .i64], []⟩], run := fun p k => (ixfte_S N p.1.1 p.1.2.1.2.1).bind fun r => k ((r, ()), ()) }
theorem sp_ixfte_ok (N : Nat) : SpecOK Try.prog (sp_ixfte N) := fn_sound (B := ixfte_B) (loops := [ixfte_l1_L N]) (leaves := []) (fun p => ixfte_S N p.1.1 p.1.2.1.2.1) (fun r => ((r, ()), ())) ixfte_rt (fun _ _ _ => rfl) (fun r z h => by cases h; rfl) Try.func126 (by kernel_rfl) (by kernel_rfl) (by kernel_rfl) rfl rfl (by kernel_rfl) (fun args w => Sem.pv_run _ _ _ (by kernel_rfl) w) (ixfte_all N) mixed ⟨ixfte_l1_ok N, trivial⟩ (fun z E Xc hE hX hret => trivial) (fun p => ixfte_eq N p.1.1 p.1.2.1.2.1)

def cofte_S (N : Nat) (s : List (List Int)) (f : (List Int)) : Option Bool :=
  (ixfte_S N s f).bind fun x_1 =>
  some (decide (0 ≤ x_1))
noncomputable def cofte_sp (N : Nat) : List Spec := [sp_ixfte N]
theorem cofte_all (N : Nat) : AllP (SpecOK Try.prog) (cofte_sp N) := ⟨sp_ixfte_ok N, trivial⟩
noncomputable def cofte_c : Code := (Try.f61.body).getD .skip
noncomputable abbrev cofte_B : Body := { c := cofte_c, n := 9, res := [.tmp 4], outs := [⟨[.b], []⟩], m0 := 0 }
abbrev cofte_rt : altD cofte_B.outs → Option Bool := fun r => some r.1.1
abbrev cofte_st : Sta := ⟨[0, 1], ⟨[.sl (.sl (.int .i64)), .fn 62 [] [.fe (.sl (.int .i64))]], []⟩⟩
theorem cofte_eq (N : Nat) (s : List (List Int)) (f : (List Int)) : ev (Z := Bool) Try.prog (cofte_sp N) cofte_B [] [] (some cofte_rt) 400 false [.c [0], .c [1]] (stL cofte_st ((s, ((), (f, ())), ()), ())) (stH cofte_st ((s, ((), (f, ())), ()), ())) = cofte_S N s f := by kernel_rfl
noncomputable def sp_cofte (N : Nat) : Spec := { f := 61, ins := ⟨[.sl (.sl (.int .i64)), .fn 62 [] [.fe (.sl (.int .i64))]], []⟩, outs := [⟨[.b], []⟩], run := fun p k => (cofte_S N p.1.1 p.1.2.1.2.1).bind fun r => k ((r, ()), ()) }
theorem sp_cofte_ok (N : Nat) : SpecOK Try.prog (sp_cofte N) := fn_sound (B := cofte_B) (loops := []) (leaves := []) (fun p => cofte_S N p.1.1 p.1.2.1.2.1) (fun r => ((r, ()), ())) cofte_rt (fun _ _ _ => rfl) (fun r z h => by cases h; rfl) Try.func61 (by kernel_rfl) (by kernel_rfl) (by kernel_rfl) rfl rfl (by kernel_rfl) (fun args w => Sem.pv_run _ _ _ (by kernel_rfl) w) (cofte_all N) mixed trivial (fun z E Xc hE hX hret => trivial) (fun p => cofte_eq N p.1.1 p.1.2.1.2.1)

def teven_j1 (N : Nat) (f : Int) (sure : List (List Int)) (t : List (Int × (Int × Bool))) (t2 : List (Int × (Int × Int))) (t3 : Int) (own : List (Int × (Int × Bool))) (own2 : List (Int × (Int × Int))) (own3 : Int) (s : List Int) : Option Bool :=
  br (decide (f = 0))
    ((cofte_S N sure s).bind fun x_28 =>
    br (!x_28)
      (some false)
      ((same_S N own own2 own3 t t2 t3).bind fun x_29 =>
      br x_29
        ((awake_S N).bind fun x_30 =>
        some x_30)
        (some false)))
    ((same_S N own own2 own3 t t2 t3).bind fun x_31 =>
    br x_31
      ((awake_S N).bind fun x_32 =>
      some x_32)
      (some false))
def teven_S (N : Nat) (t : List (Int × (Int × Bool))) (t2 : List (Int × (Int × Int))) (t3 : Int) : Option Bool :=
  (great_S N t t2 t3 9).bind fun x_1 =>
  br x_1
    ((awake_S N).bind fun x_2 =>
    some x_2)
    ((copyx_S N t t2 t3).bind fun (x_3, y_4, y_5) =>
    (theirs_S N t t2 t3).bind fun (x_6, y_7, y_8) =>
    (even_S N x_3 y_4 y_5).bind fun (x_9, y_10, y_11) =>
    (surest_S N x_3 y_4 y_5).bind fun (x_12, y_13) =>
    (rcheck_S N x_6 y_7 y_8).bind fun x_14 =>
    br (!decide (x_14 = 0))
      (br (decide (y_11 = x_14))
        (br (decide (y_13 = x_14))
          (chk ((x_9.length : Int) + y_10) <|
          chk (((x_9.length : Int) + y_10) + (x_12.length : Int)) <|
          br (decide ((((x_9.length : Int) + y_10) + (x_12.length : Int)) = 0))
            ((awake_S N).bind fun x_15 =>
            some x_15)
            (some false))
          (some false))
        (some false))
      ((rright_S N x_6 y_7 y_8).bind fun x_16 =>
      (rsure_S N x_6 y_7 y_8 x_16).bind fun x_17 =>
      (rfewest_S N x_16).bind fun (x_18, y_19) =>
      (reven_S N x_6 y_7 y_8 x_16).bind fun (x_20, y_21) =>
      (rfewest_S N x_17).bind fun (x_22, y_23) =>
      br (!decide (y_11 = y_19))
        (some false)
        (br (!decide (y_13 = y_23))
          (some false)
          (br (!decide (y_10 = y_21))
            (some false)
            (br (!decide ((x_9.length : Int) = x_20))
              (some false)
              (br (!decide ((x_12.length : Int) = x_22))
                (some false)
                (br (decide (y_11 = 0))
                  ((rwrong_S N x_6 y_7 y_8 x_9).bind fun (x_24, y_25, y_26) =>
                  br (!decide (y_26 = 6))
                    (some false)
                    ((rlongest_S N x_6 y_7 y_8 x_9).bind fun x_27 =>
                    br (!decide (x_27 = y_21))
                      (some false)
                      (teven_j1 N y_13 x_17 t t2 t3 x_3 y_4 y_5 x_12)))
                  (teven_j1 N y_13 x_17 t t2 t3 x_3 y_4 y_5 x_12))))))))
noncomputable def teven_sp (N : Nat) : List Spec := [sp_even N, sp_surest N, sp_awake N, sp_copyx N, sp_same N, sp_theirs N, sp_great N, sp_rcheck N, sp_rwrong N, sp_rright N, sp_rfewest N, sp_rlongest N, sp_reven N, sp_rsure N, sp_cofte N]
theorem teven_all (N : Nat) : AllP (SpecOK Try.prog) (teven_sp N) := ⟨sp_even_ok N, sp_surest_ok N, sp_awake_ok N, sp_copyx_ok N, sp_same_ok N, sp_theirs_ok N, sp_great_ok N, sp_rcheck_ok N, sp_rwrong_ok N, sp_rright_ok N, sp_rfewest_ok N, sp_rlongest_ok N, sp_reven_ok N, sp_rsure_ok N, sp_cofte_ok N, trivial⟩
noncomputable def teven_c : Code := (Try.f11.body).getD .skip
noncomputable abbrev teven_B : Body := { c := teven_c, n := 141, res := [.tmp 2], outs := [⟨[.b], []⟩], m0 := 0 }
abbrev teven_rt : altD teven_B.outs → Option Bool := fun r => some r.1.1
abbrev teven_j1_at : List PI := [.c [1, 1, 1, 1, 1, 1, 1, 1, 1, 1, 1, 1, 1, 0, 0], .c [1, 1, 1, 1, 1, 1, 1, 1, 1, 1, 1, 1, 1, 0, 1], .c [1, 1, 1, 1, 1, 1, 1, 1, 1, 1, 1, 1, 1, 1]]
abbrev teven_j1_st : Sta := ⟨[1, 3, 8, 9, 12], ⟨[.own 0 0, .own 1 0, .own 2 0, .i .i64, .sl (.sl (.int .i64))], [.segs [.sl (.pair (.int .i64) (.pair (.int .i64) .bool)), .sl (.pair (.int .i64) (.pair (.int .i64) (.int .i64))), .i .i64], .segs [.sl (.pair (.int .i64) (.pair (.int .i64) .bool)), .sl (.pair (.int .i64) (.pair (.int .i64) (.int .i64))), .i .i64], .segs [.sl (.int .i64)]]⟩⟩
abbrev teven_j1_k (N : Nat) : Leaf Bool := ⟨teven_j1_at, teven_j1_st, fun p => teven_j1 N p.1.2.2.2.1 p.1.2.2.2.2.1 p.2.1.1 p.2.1.2.1 p.2.1.2.2.1 p.2.2.1.1 p.2.2.1.2.1 p.2.2.1.2.2.1 p.2.2.2.1.1⟩
theorem teven_j1_eq (N : Nat) (f : Int) (sure : List (List Int)) (t : List (Int × (Int × Bool))) (t2 : List (Int × (Int × Int))) (t3 : Int) (own : List (Int × (Int × Bool))) (own2 : List (Int × (Int × Int))) (own3 : Int) (s : List Int) : ev (Z := Bool) Try.prog (teven_sp N) teven_B [] [] (some teven_rt) 400 true teven_j1_at (stL teven_j1_st (((), (), (), f, sure, ()), ((t, t2, t3, ()), (own, own2, own3, ()), (s, ()), ()))) (stH teven_j1_st (((), (), (), f, sure, ()), ((t, t2, t3, ()), (own, own2, own3, ()), (s, ()), ()))) = teven_j1 N f sure t t2 t3 own own2 own3 s := by kernel_rfl
theorem teven_j1_lf (N : Nat) {z : Bool} {E : EE} {Xc : Ctx} (hE : EOK teven_B.m0 E) (hX : CxOK true Xc) (hret : RetOK Try.prog teven_B E Xc z (some teven_rt)) : LeafOK Try.prog teven_B.c teven_B.n teven_B.m0 E Xc z (teven_j1_k N) := leaf_of_ev (B := teven_B) (loops := []) (leaves := []) (teven_all N) mixed trivial hE hX trivial hret (fun p => teven_j1_eq N p.1.2.2.2.1 p.1.2.2.2.2.1 p.2.1.1 p.2.1.2.1 p.2.1.2.2.1 p.2.2.1.1 p.2.2.1.2.1 p.2.2.1.2.2.1 p.2.2.2.1.1)
abbrev teven_st : Sta := ⟨[0], ⟨[.agg [.sl (.pair (.int .i64) (.pair (.int .i64) .bool)), .sl (.pair (.int .i64) (.pair (.int .i64) (.int .i64))), .i .i64]], []⟩⟩
theorem teven_eq (N : Nat) (t : List (Int × (Int × Bool))) (t2 : List (Int × (Int × Int))) (t3 : Int) : ev (Z := Bool) Try.prog (teven_sp N) teven_B [] [teven_j1_k N] (some teven_rt) 400 false [.c [0], .c [1]] (stL teven_st (((t, t2, t3, ()), ()), ())) (stH teven_st (((t, t2, t3, ()), ()), ())) = teven_S N t t2 t3 := by kernel_rfl
noncomputable def sp_teven (N : Nat) : Spec := { f := 11, ins := ⟨[.agg [.sl (.pair (.int .i64) (.pair (.int .i64) .bool)), .sl (.pair (.int .i64) (.pair (.int .i64) (.int .i64))), .i .i64]], []⟩, outs := [⟨[.b], []⟩], run := fun p k => (teven_S N p.1.1.1 p.1.1.2.1 p.1.1.2.2.1).bind fun r => k ((r, ()), ()) }
theorem sp_teven_ok (N : Nat) : SpecOK Try.prog (sp_teven N) := fn_sound (B := teven_B) (loops := []) (leaves := [teven_j1_k N]) (fun p => teven_S N p.1.1.1 p.1.1.2.1 p.1.1.2.2.1) (fun r => ((r, ()), ())) teven_rt (fun _ _ _ => rfl) (fun r z h => by cases h; rfl) Try.func11 (by kernel_rfl) (by kernel_rfl) (by kernel_rfl) rfl rfl (by kernel_rfl) (fun args w => Sem.pv_run _ _ _ (by kernel_rfl) w) (teven_all N) mixed trivial (fun z E Xc hE hX hret => ⟨teven_j1_lf N hE hX hret, trivial⟩) (fun p => teven_eq N p.1.1.1 p.1.1.2.1 p.1.1.2.2.1)

end Go.Proofs.Ytfamlpbdhhikdaa

namespace Go.Proofs.Ytfamlpbdhhikdaa
set_option linter.all false
open Go

/-- All lists of numbers that add up to a number. -/
def comps : Nat → Nat → List (List Int)
  | 0, n => if n = 0 then [[]] else []
  | f + 1, n => if n = 0 then [[]] else (List.range' 1 n).flatMap fun k => (comps f (n - k)).map fun l => (k : Int) :: l
theorem comps_fuel : ∀ (f g n : Nat), n ≤ f → n ≤ g → comps f n = comps g n
  | 0, 0, _, _, _ => rfl
  | 0, g + 1, n, h1, h2 => by obtain rfl : n = 0 := by omega
                              simp [comps]
  | f + 1, 0, n, h1, h2 => by obtain rfl : n = 0 := by omega
                              simp [comps]
  | f + 1, g + 1, n, h1, h2 => by
    unfold comps
    split
    · rfl
    · refine goods_fuel.flatMap_congr' fun k hk => ?_
      obtain ⟨a1, a2⟩ := List.mem_range'_1.1 hk
      rw [comps_fuel f g (n - k) (by omega) (by omega)]
theorem flat_shift {β : Type} (p : Nat → Bool) (a n : Nat) (G h : Nat → List β) (hG : ∀ s, 1 ≤ s → s ≤ n → G s = if p (a + s) = true then h (a + s) else []) : ∀ c s, 1 ≤ s → s + c ≤ n + 1 → (List.range' s c).flatMap G = ((List.range' (a + s) c).filter p).flatMap h
  | 0, s, _, _ => rfl
  | c + 1, s, hs, hn => by
    rw [List.range'_succ, List.range'_succ, List.flatMap_cons, List.filter_cons, hG s hs (by omega), flat_shift p a n G h hG c (s + 1) (by omega) (by omega), show a + (s + 1) = a + s + 1 by omega]
    cases p (a + s)
    · simp
    · simp
section
variable {R : Nat → Nat → Bool} {m : Nat}
theorem cons_shift {a k : Nat} : (fun l : List Int => (((a + k : Nat) : Int) - a) :: l) = fun l => (k : Int) :: l := by
  funext l; congr 1; omega
theorem comps_goods : ∀ (f a : Nat), m - a ≤ f → a ≤ m → (comps f (m - a)).filter (goodB R m a) = goods R m f a
  | 0, a, h, ha => by
    obtain rfl : a = m := by omega
    simp [comps, goods, goodB]
  | f + 1, a, h, ha => by
    unfold comps goods
    by_cases e : a = m
    · subst e; simp [goodB]
    · rw [if_neg (by omega), if_neg e, List.filter_flatMap]
      unfold toL
      rw [show m + 1 - (a + 1) = m - a by omega]
      refine flat_shift (R a) a (m - a) _ _ (fun s h1 h2 => ?_) (m - a) 1 (Nat.le_refl _) (by omega)
      have ih := comps_goods f (a + s) (by omega) (by omega)
      rw [List.filter_map, cons_shift]
      have hp : (goodB R m a ∘ fun l => (s : Int) :: l) = fun l => R a (a + s) && goodB R m (a + s) l := by
        funext l
        simp only [Function.comp, goodB, Int.toNat_natCast]
        rw [decide_eq_true (show 1 ≤ (s : Int) by omega), decide_eq_true (show a + s ≤ m by omega)]
        rfl
      rw [hp, show m - a - s = m - (a + s) by omega]
      cases hR : R a (a + s)
      · simp
      · simp only [Bool.true_and, if_true]
        rw [ih]
theorem comps_all : ∀ (f a : Nat), m - a ≤ f → a ≤ m → comps f (m - a) = goods (fun _ _ => true) m f a
  | 0, a, h, ha => by
    obtain rfl : a = m := by omega
    simp [comps, goods]
  | f + 1, a, h, ha => by
    unfold comps goods
    by_cases e : a = m
    · subst e; simp
    · rw [if_neg (by omega), if_neg e]
      unfold toL
      rw [show m + 1 - (a + 1) = m - a by omega]
      refine flat_shift (fun _ => true) a (m - a) _ _ (fun s h1 h2 => ?_) (m - a) 1 (Nat.le_refl _) (by omega)
      have ih := comps_all f (a + s) (by omega) (by omega)
      rw [cons_shift, show m - a - s = m - (a + s) by omega, ih]; rfl
end
/-- All readings of so many words. -/
def compsL (n : Nat) : List (List Int) := comps 13 n
theorem compsL_len {n : Nat} (h : n ≤ 12) : (compsL n).length ≤ 2 ^ n := by
  have e := comps_all (m := n) 13 0 (by omega) (by omega)
  unfold compsL
  rw [Nat.sub_zero] at e
  rw [e]
  exact goodsL_len (R := fun _ _ => true) h n 0 (by omega)
theorem compsL_step {n : Nat} (h : 1 ≤ n) (hn : n ≤ 12) : compsL n = (List.range' 1 n).flatMap fun k => (compsL (n - k)).map fun l => (k : Int) :: l := by
  unfold compsL
  rw [comps_fuel 13 14 n (by omega) (by omega), comps, if_neg (by omega)]
theorem compsL_zero : compsL 0 = [[]] := rfl
theorem compsL_mem : ∀ (n : Nat), n ≤ 12 → ∀ l ∈ compsL n, (∀ x ∈ l, 1 ≤ x ∧ x ≤ 12) ∧ l.sum = n ∧ l.length ≤ n := by
  intro n
  induction n using Nat.strongRecOn with
  | ind n ih =>
    intro hn l hl
    by_cases e : n = 0
    · subst e
      rw [compsL_zero, List.mem_singleton] at hl
      subst hl; simp
    · rw [compsL_step (by omega) hn] at hl
      simp only [List.mem_flatMap, List.mem_map] at hl
      obtain ⟨k, hk, l', hl', rfl⟩ := hl
      obtain ⟨a1, a2⟩ := List.mem_range'_1.1 hk
      obtain ⟨b1, b2, b3⟩ := ih (n - k) (by omega) (by omega) l' hl'
      refine ⟨fun x hx => ?_, ?_, ?_⟩
      · rcases List.mem_cons.1 hx with rfl | hx
        · omega
        · exact b1 x hx
      · rw [List.sum_cons, b2]; omega
      · rw [List.length_cons]; omega
theorem goodsL_comps {R : Nat → Nat → Bool} {m : Nat} (hm : m ≤ 12) : (compsL m).filter (goodB R m 0) = goodsL R m 0 := by
  have := comps_goods (R := R) (m := m) 13 0 (by omega) (by omega)
  rw [Nat.sub_zero] at this
  exact this
/-! ### The program of the reference -/
section
variable {N : Nat} (hN : 110 ≤ N)
theorem readings_l2_p {self : Int → Option (List (List Int))} {nn : Int} {k : Int} {rest : List (List Int)} (hrl : rest.length ≤ 100000) (hr : ∀ x ∈ rest, x.length ≤ 100) : ∀ (n i : Nat) (O : List (List Int)), rest.length < n + i → i ≤ rest.length → O.length + rest.length ≤ 100000 + i →
    readings_l2 N self n nn k i O rest = some (nn, k, O ++ (rest.drop i).map fun l => k :: l)
  | 0, i, O, h, _, _ => by omega
  | n + 1, i, O, h, hi, hO => by
    by_cases c : i < rest.length
    · have hx := hr _ (getD_mem (d := []) c)
      rw [readings_l2, br_dec (by omega), rng_eq (by omega), get_get [] (by omega), drop_cons c []]
      simp only [Int.toNat_natCast]
      generalize rest.getD i [] = x at *
      have ih := readings_l2_p (self := self) (nn := nn) (k := k) hrl hr n (i + 1) (O ++ [[k] ++ x]) (by omega) (by omega) (by simp; omega)
      rw [show ((i + 1 : Nat) : Int) = (i : Int) + 1 by omega] at ih
      rw [lim_eq (by simp; omega), lim_eq (by simp; omega), chk_eq (by omega), ih]
      simp
    · rw [readings_l2, br_ndec (by omega), List.drop_of_length_le (by omega)]; simp
theorem readings_l1_p {self : Int → Option (List (List Int))} {m : Nat} (hm : m ≤ 12) {C : Nat → List (List Int)} (hs : ∀ j, j < m → self j = some (C j)) (hC : ∀ j, (C j).length ≤ 4096 ∧ (C j).length < N) (hC2 : ∀ j, j < m → ∀ x ∈ C j, x.length ≤ 100) : ∀ (n k : Nat) (O : List (List Int)), m + 1 < n + k → 1 ≤ k → k ≤ m + 1 → O.length ≤ 4096 * k →
    readings_l1 N self n m k O = some (O ++ (List.range' k (m + 1 - k)).flatMap fun k => (C (m - k)).map fun l => (k : Int) :: l)
  | 0, k, O, h, _, _, _ => by omega
  | n + 1, k, O, h, h1, hk, hO => by
    by_cases c : k ≤ m
    · have hc := hC (m - k)
      have e2 := readings_l2_p (N := N) (self := self) (nn := (m : Int)) (k := (k : Int)) (rest := C (m - k)) (by omega) (hC2 _ (by omega)) N 0 O (by omega) (by omega) (by omega)
      simp only [Int.natCast_zero, List.drop_zero] at e2
      have ih := readings_l1_p hm hs hC hC2 n (k + 1) (O ++ (C (m - k)).map fun l => (k : Int) :: l) (by omega) (by omega) (by omega) (by simp; omega)
      rw [show ((k + 1 : Nat) : Int) = (k : Int) + 1 by omega] at ih
      rw [readings_l1, br_dec (by omega), chk_eq (by omega), show (m : Int) - k = ((m - k : Nat) : Int) by omega, hs _ (by omega)]
      simp only [Option.bind_some]
      rw [e2]
      simp only [Option.bind_some]
      rw [chk_eq (by omega), ih, show m + 1 - k = (m + 1 - (k + 1)) + 1 by omega, List.range'_succ, List.flatMap_cons, List.append_assoc]
    · rw [readings_l1, br_ndec (by omega), show m + 1 - k = 0 by omega]; simp
include hN
theorem readings_v (hN2 : 1030 ≤ N) : ∀ (f m : Nat), m < f → m ≤ 10 → readings_R N f m = some (compsL m)
  | 0, m, h, _ => by omega
  | f + 1, m, h, hm => by
    show readings_S N (readings_R N f) m = _
    unfold readings_S
    by_cases e : m = 0
    · subst e; rfl
    · have hb : ∀ j, (compsL (min j 10)).length ≤ 1024 := fun j => by
        refine Nat.le_trans (compsL_len (n := min j 10) (by omega)) ?_
        exact Nat.le_trans (Nat.pow_le_pow_right (by omega) (show min j 10 ≤ 10 by omega)) (by decide)
      have e1 := readings_l1_p (N := N) (self := readings_R N f) (m := m) (by omega) (C := fun j => compsL (min j 10)) (fun j hj => by
        rw [show min j 10 = j by omega]
        exact readings_v hN2 f j (by omega) (by omega)) (fun j => by have := hb j; omega) (fun j hj x hx => by
        have := compsL_mem (min j 10) (by omega) x hx; omega) N 1 [] (by omega) (by omega) (by omega) (by simp)
      rw [br_ndec (by omega)]
      simp only [Int.natCast_one] at e1
      rw [e1]
      simp only [Option.bind_some, List.nil_append]
      rw [compsL_step (by omega) (by omega), show m + 1 - 1 = m by omega]
      congr 1
      refine goods_fuel.flatMap_congr' fun k hk => ?_
      rw [show min (m - k) 10 = m - k by omega]
end
section
variable {ws : List Wd} {ts : List Tn} {br_ : Int}
theorem good_wrong : ∀ (l : List Int) (p : Nat) (i : Int), (∀ x ∈ l, 1 ≤ x ∧ x ≤ 12) → (p : Int) + l.sum = ws.length → (goodB (rightR ws ts br_) ws.length p l = true ↔ wrongF ws ts br_ l p i = none)
  | [], p, i, _, hs => by simp [goodB, wrongF]; simp at hs; omega
  | x :: l, p, i, h, hs => by
    have hx := h x (by simp)
    have hge := sum_ge (l := l) (fun y hy => h y (by simp [hy]))
    rw [List.sum_cons] at hs
    have ih := good_wrong l (p + x.toNat) (i + 1) (fun y hy => h y (by simp [hy])) (by omega)
    rw [good_cons, wrongF]
    unfold rightR
    cases (faultR ws ts br_ p (p + x.toNat)).2
    · rw [if_neg (by simp), ← ih]
      unfold rightR
      simp only [Bool.not_false, true_and]
      exact ⟨fun h => h.2, fun h => ⟨⟨by omega, by omega⟩, h⟩⟩
    · simp
theorem wrongR_iff (hF : checkT ws ts br_ = 0) {l : List Int} (h : ∀ x ∈ l, 1 ≤ x ∧ x ≤ 12) (hs : l.sum = ws.length) : (wrongR ws ts br_ l).2.2 = 6 ↔ goodB (rightR ws ts br_) ws.length 0 l = true := by
  rw [good_wrong l 0 0 h (by simpa using hs)]
  have hr : readE ws ts br_ l = 0 := by
    unfold readE
    rw [if_neg (by simpa using hF), if_neg (by simpa [in12] using h), if_neg (by simpa using hs)]
  unfold wrongR
  rw [if_neg (by simpa using hr)]
  cases wrongF ws ts br_ l 0 0 <;> simp
theorem good_read {l : List Int} (hm : ws.length ≤ 12) : ∀ {p : Nat}, goodB (rightR ws ts br_) ws.length p l = true → (∀ x ∈ l, 1 ≤ x ∧ x ≤ 12) ∧ (p : Int) + l.sum = ws.length := by
  induction l with
  | nil => intro p h; have := good_nil.1 h; simp; omega
  | cons x l ih =>
    intro p h
    obtain ⟨⟨b1, b2⟩, _, b4⟩ := good_cons.1 h
    obtain ⟨c1, c2⟩ := ih b4
    refine ⟨fun y hy => ?_, by rw [List.sum_cons]; omega⟩
    rcases List.mem_cons.1 hy with rfl | hy
    · omega
    · exact c1 y hy
variable {N : Nat} (hN : 1030 ≤ N)
include hN
theorem rright_l1_p (hw : ws.length ≤ 1000000) (ht : ts.length ≤ 1000000) {P : List Int → Bool} {all : List (List Int)} (ha : all.length ≤ 100000) (hl : ∀ l ∈ all, l.length ≤ 100 ∧ P l = decide ((wrongR ws ts br_ l).2.2 = 6)) : ∀ (n k : Nat), all.length < n + k → k ≤ all.length →
    rright_l1 N n k ws ts br_ ((all.take k).filter P) all = some (all.filter P)
  | 0, k, h, _ => by omega
  | n + 1, k, h, hk => by
    by_cases c : k < all.length
    · obtain ⟨hx1, hx2⟩ := hl _ (getD_mem (d := []) c)
      have ih := rright_l1_p hw ht ha hl n (k + 1) (by omega) (by omega)
      rw [take_succ' c [], List.filter_append] at ih
      have hlen : ((all.take k).filter P).length ≤ 100000 := Nat.le_trans (List.length_filter_le _ _) (by simp; omega)
      rw [rright_l1, br_dec (by omega), rng_eq (by omega), get_get [] (by omega)]
      simp only [Int.toNat_natCast]
      have g : all[k]? = some (all.getD k []) := by simp [List.getD, c]
      generalize all.getD k [] = x at *
      have hj : ∀ O, rright_j1 N (rright_l1 N n) k ws ts br_ O all = rright_l1 N n ((k + 1 : Nat) : Int) ws ts br_ O all := fun O => by
        unfold rright_j1
        rw [chk_eq (by omega)]; rfl
      rw [rwrong_v (by omega) hw ht hx1]
      simp only [Option.bind_some, hj]
      rw [List.filter_cons] at ih
      by_cases e : (wrongR ws ts br_ x).2.2 = 6
      · rw [decide_eq_true e] at hx2
        rw [br_dec e, rng_eq (by omega), get_eq g, lim_eq (by simp; omega)]
        rw [hx2] at ih
        exact ih
      · rw [decide_eq_false e] at hx2
        rw [br_ndec e]
        rw [hx2] at ih
        simpa using ih
    · rw [rright_l1, br_ndec (by omega), List.take_of_length_le (by omega)]
theorem rright_v (hF : checkT ws ts br_ = 0) (hm : ws.length ≤ 10) : rright_S N ws ts br_ = some (goodsT ws ts br_ 0) := by
  have hT := tfine_of hF
  have := hT.t
  unfold rright_S
  rw [readings_v (by omega) (by omega) N ws.length (by omega) hm]
  simp only [Option.bind_some]
  have hlen : (compsL ws.length).length ≤ 1024 := Nat.le_trans (compsL_len (by omega)) (Nat.le_trans (Nat.pow_le_pow_right (by omega) hm) (by decide))
  have e := rright_l1_p (ws := ws) (ts := ts) (br_ := br_) hN (by omega) (by omega) (P := goodB (rightR ws ts br_) ws.length 0) (all := compsL ws.length) (by omega) (fun l hl => by
    obtain ⟨a1, a2, a3⟩ := compsL_mem ws.length (by omega) l hl
    refine ⟨by omega, ?_⟩
    rw [Bool.eq_iff_iff, decide_eq_true_eq]
    exact (wrongR_iff hF a1 a2).symm) N 0 (by omega) (by omega)
  simp only [Int.natCast_zero, List.take_zero, List.filter_nil] at e
  rw [e, goodsL_comps (by omega)]; rfl
end
/-! ### The fewest breaths -/
section
variable {N : Nat} {l : List (List Int)} (hl : l.length ≤ 100000) (h1 : ∀ x ∈ l, 1 ≤ x.length)
include hl h1
theorem rfewest_l1_p : ∀ (n k : Nat) (b : Int), l.length < n + k → k ≤ l.length → (k = 0 ∧ b = 0 ∨ 0 < k ∧ (∃ x ∈ l, (x.length : Int) = b) ∧ ∀ x ∈ l.take k, b ≤ x.length) →
    ∃ z, rfewest_l1 N n l b k = some z ∧ (l = [] ∧ z = 0 ∨ (∃ x ∈ l, (x.length : Int) = z) ∧ ∀ x ∈ l, z ≤ x.length)
  | 0, k, b, h, _, _ => by omega
  | n + 1, k, b, h, hk, hb => by
    by_cases c : k < l.length
    · have hm := getD_mem (d := []) c
      have hx := h1 _ hm
      have tk := take_succ' c []
      have g := gets c ([] : List Int)
      have ih := rfewest_l1_p n (k + 1)
      rw [tk] at ih
      rw [rfewest_l1, br_dec (by omega)]
      generalize l.getD k [] = x at *
      have hj : ∀ b, rfewest_j1 N (rfewest_l1 N n) l b k = rfewest_l1 N n l b ((k + 1 : Nat) : Int) := fun b => by
        unfold rfewest_j1
        rw [chk_eq (by omega)]; rfl
      simp only [hj]
      rcases hb with ⟨rfl, rfl⟩ | ⟨h0, ⟨y, hy, rfl⟩, hb⟩
      · rw [br_dec rfl, idx_eq (by omega) g]
        exact ih x.length (by omega) (by omega) (.inr ⟨by omega, ⟨x, hm, rfl⟩, fun z hz => by simp at hz; subst hz; omega⟩)
      · have := h1 y hy
        rw [br_ndec (by omega), idx_eq (by omega) g]
        by_cases e : (x.length : Int) < y.length
        · rw [br_dec e, idx_eq (by omega) g]
          refine ih x.length (by omega) (by omega) (.inr ⟨by omega, ⟨x, hm, rfl⟩, fun z hz => ?_⟩)
          rcases List.mem_append.1 hz with hz | hz
          · have := hb z hz; omega
          · simp at hz; subst hz; omega
        · rw [br_ndec e]
          refine ih y.length (by omega) (by omega) (.inr ⟨by omega, ⟨y, hy, rfl⟩, fun z hz => ?_⟩)
          rcases List.mem_append.1 hz with hz | hz
          · exact hb z hz
          · simp at hz; subst hz; omega
    · rw [rfewest_l1, br_ndec (by omega)]
      refine ⟨b, rfl, ?_⟩
      rcases hb with ⟨rfl, rfl⟩ | ⟨h0, hb1, hb2⟩
      · exact .inl ⟨List.length_eq_zero_iff.1 (by omega), rfl⟩
      · rw [List.take_of_length_le (by omega)] at hb2
        exact .inr ⟨hb1, hb2⟩
theorem rfewest_v (hN : l.length < N) : (l = [] ∧ rfewest_S N l = some (0, 6)) ∨ ∃ z, rfewest_S N l = some (z, 0) ∧ (∃ x ∈ l, (x.length : Int) = z) ∧ ∀ x ∈ l, z ≤ x.length := by
  obtain ⟨z, e, hz⟩ := rfewest_l1_p (N := N) hl h1 N 0 0 (by omega) (by omega) (.inl ⟨rfl, rfl⟩)
  simp only [Int.natCast_zero] at e
  unfold rfewest_S
  rw [e]
  simp only [Option.bind_some]
  rcases hz with ⟨h, rfl⟩ | ⟨⟨x, hx, rfl⟩, h⟩
  · exact .inl ⟨h, rfl⟩
  · have := h1 x hx
    rw [br_ndec (by omega)]
    exact .inr ⟨_, rfl, ⟨x, hx, rfl⟩, h⟩
end
end Go.Proofs.Ytfamlpbdhhikdaa

namespace Go.Proofs.Ytfamlpbdhhikdaa
set_option linter.all false
open Go

section
variable {N : Nat} {l : List (List Int)} {ws : List Wd} {ts : List Tn} {br_ : Int} {O : List Int}
end
section
variable {R : Nat → Nat → Bool} {m : Nat}
end
section
variable {N : Nat} {ws : List Wd} {ts : List Tn} {br_ : Int} (hF : TFine ws ts br_) (hN : 1030 ≤ N) (hm : ws.length ≤ 10)
include hF hm hN
theorem goodsT_len : (goodsT ws ts br_ 0).length ≤ 1024 := by
  refine Nat.le_trans (goodsL_len hF.n ws.length 0 (by omega)) ?_
  exact Nat.le_trans (Nat.pow_le_pow_right (by omega) hm) (by decide)
theorem goodsT_mem {x : List Int} (hx : x ∈ goodsT ws ts br_ 0) : (∀ y ∈ x, 1 ≤ y ∧ y ≤ 12) ∧ x.length ≤ 12 ∧ 1 ≤ x.length ∧ x.sum = ws.length := by
  have hg := (mem_goodsL (by omega) hF.n).1 hx
  obtain ⟨h1, h2⟩ := good_read (by omega) hg
  have := sum_ge h1
  have := hF.n0
  refine ⟨h1, by omega, ?_, by simpa using h2⟩
  cases x with
  | nil => simp at h2; omega
  | cons a l => simp
end
end Go.Proofs.Ytfamlpbdhhikdaa

namespace Go.Proofs.Ytfamlpbdhhikdaa
set_option linter.all false
open Go

theorem likei_gen {N : Nat} {a b : List Int} (h : a.length ≤ 1000) (hN : a.length < N) : likei_S N a b = some (decide (a = b)) := by
  have e : ∀ (n k : Nat), a.length = b.length → a.length < n + k → k ≤ a.length → equali_l1 N n a b a.length k = some (if a.drop k = b.drop k then .inr () else .inl ()) := by
    intro n
    induction n with
    | zero => intro k _ h _; omega
    | succ n ih =>
      intro k hab h2 hk
      unfold equali_l1
      by_cases c : k < a.length
      · have := ih (k + 1) hab (by omega) (by omega)
        rw [show ((k + 1 : Nat) : Int) = (k : Int) + 1 by omega] at this
        have c2 : k < b.length := by omega
        rw [br_dec (by omega), idx_eq (by omega) (gets c 0), idx_eq (by omega) (gets c2 0), chk_eq (by omega), this, drop_cons c 0, drop_cons c2 0]
        by_cases d : a.getD k 0 = b.getD k 0
        · rw [br_nd d, d]; simp
        · rw [br_nnd d, if_neg]
          simp only [List.cons.injEq, not_and]
          exact fun e => absurd e d
      · rw [br_ndec (by omega), List.drop_of_length_le (by omega), List.drop_of_length_le (by omega)]; rfl
  unfold likei_S equali_S
  by_cases c : a.length = b.length
  · have e0 := e N 0 c (by omega) (by omega)
    simp only [Int.natCast_zero, List.drop_zero] at e0
    rw [br_nd (by omega), e0]
    by_cases d : a = b
    · rw [if_pos d]; simp [d]
    · rw [if_neg d]; simp [d]
  · rw [br_nnd (by omega)]
    have : ¬ a = b := fun e => c (by rw [e])
    simp [this]
/-- How many syllables the longest breath of a reading has. -/
def longF (ws : List Wd) : List Int → Nat → Int
  | [], _ => 0
  | x :: l, p => max (sylR ws p (p + x.toNat)) (longF ws l (p + x.toNat))
/-- Right breaths of so many syllables at most. -/
def evR (ws : List Wd) (ts : List Tn) (br_ : Int) (k : Int) (a b : Nat) : Bool := decide (sylR ws a b ≤ k) && rightR ws ts br_ a b
/-- Right breaths that end at no place that a turn parts. -/
def partP (s : Int) (x : Tn) : Bool := (decide (x.1 < s) && decide (s ≤ x.2.1)) || (decide (x.2.2 < s) && decide (s ≤ x.1))
def suR (ws : List Wd) (ts : List Tn) (br_ : Int) (a b : Nat) : Bool := rightR ws ts br_ a b && (decide (b = ws.length) || !(ts.any (partP b)))
section
variable {ws : List Wd} {ts : List Tn} {br_ : Int}
theorem good_even {k : Int} (hk : 0 ≤ k) : ∀ {l : List Int} {p : Nat}, goodB (evR ws ts br_ k) ws.length p l = true ↔ goodB (rightR ws ts br_) ws.length p l = true ∧ longF ws l p ≤ k
  | [], p => by simp [goodB, longF]; exact fun _ => hk
  | x :: l, p => by
    rw [good_cons, good_cons, good_even hk, longF]
    unfold evR
    simp only [Bool.and_eq_true, decide_eq_true_eq]
    constructor
    · rintro ⟨h1, ⟨h2, h3⟩, h4, h5⟩
      exact ⟨⟨h1, h3, h4⟩, by omega⟩
    · rintro ⟨⟨h1, h2, h3⟩, h4⟩
      exact ⟨h1, ⟨by omega, h2⟩, h3, by omega⟩
theorem right_syl {a b : Nat} (h : rightR ws ts br_ a b = true) : sylR ws a b ≤ br_ := by
  unfold rightR faultR at h
  by_cases c : br_ < sylR ws a b
  · rw [if_pos c] at h; cases h
  · omega
theorem long_le (hb : 0 ≤ br_) : ∀ {l : List Int} {p : Nat}, goodB (rightR ws ts br_) ws.length p l = true → longF ws l p ≤ br_
  | [], p, _ => hb
  | x :: l, p, h => by
    obtain ⟨_, h2, h3⟩ := good_cons.1 h
    have := right_syl h2
    have := long_le hb h3
    rw [longF]; omega
theorem long_pos (hF : TFine ws ts br_) {l : List Int} (h : goodB (rightR ws ts br_) ws.length 0 l = true) : 1 ≤ longF ws l 0 := by
  cases l with
  | nil => have := good_nil.1 h; have := hF.n0; omega
  | cons x l =>
    obtain ⟨⟨h1, h2⟩, _, _⟩ := good_cons.1 h
    have h3 := sylR_step (ws := ws) (a := 0) (b := 0 + x.toNat) (by omega) h2
    have h4 := (hF.w _ (getD_mem (d := (0, 0, false)) (show 0 < ws.length by have := hF.n0; omega))).1
    have h5 := sylR_bound hF.okW (0 + 1) (0 + x.toNat)
    rw [longF]; omega
variable {N : Nat} (hN : 110 ≤ N) (hF : TFine ws ts br_)
include hN hF
theorem even1_v {k : Int} (hk : 0 ≤ k ∧ k ≤ 1000) {a b : Nat} (hab : a < b) (hb : b ≤ ws.length) : even1_S N a b (ws, ts, br_) k (ws, ts, br_) = some (evR ws ts br_ (k + 1) a b) := by
  have := hF.t
  unfold even1_S evR
  rw [syllables_v hN hF.okW (by omega) (by omega) (by omega)]
  simp only [Option.bind_some, Int.toNat_natCast]
  rw [chk_eq (by omega)]
  by_cases c : sylR ws a b ≤ k + 1
  · rw [br_dec c, right_v hN hF.okW (by omega) (by omega) hb]; simp [c]
  · rw [br_ndec c]; simp [c]
theorem even_l1_p : ∀ (n k : Nat), br_ < n + k → (k : Int) ≤ br_ → (∀ l, goodB (rightR ws ts br_) ws.length 0 l = true → (k : Int) < longF ws l 0) →
    (∃ (q : Nat) (l : List Int), even_l1 N n (ws, ts, br_) (ws, ts, br_) br_ k = some (.inl ((q : Int), l)) ∧ (q : Int) < br_ ∧ goodB (rightR ws ts br_) ws.length 0 l = true ∧ longF ws l 0 = q + 1 ∧
      ∀ l', goodB (rightR ws ts br_) ws.length 0 l' = true → (q : Int) + 1 ≤ longF ws l' 0 ∧ (longF ws l' 0 = q + 1 → (l.length : Int) ≤ l'.length)) ∨
    (even_l1 N n (ws, ts, br_) (ws, ts, br_) br_ k = some (.inr ()) ∧ ∀ l, goodB (rightR ws ts br_) ws.length 0 l = false)
  | 0, k, h, hk, _ => by omega
  | n + 1, k, h, hk, hno => by
    have hb := hF.b1; have hb0 := hF.b0
    unfold even_l1
    by_cases c : (k : Int) < br_
    · rw [br_dec c]
      rcases feweste_v (N := N) hN (d := (ws, ts, br_)) (r := ((ws, ts, br_), (k : Int), (ws, ts, br_))) (R := evR ws ts br_ ((k : Int) + 1)) (m := ws.length) rfl ⟨hF.n0, hF.n⟩ (fun a b h1 h2 => (show even1_S N a b (ws, ts, br_) (k : Int) (ws, ts, br_) = _ from even1_v hN hF (k := (k : Int)) (by omega) h1 h2)) with ⟨l, e, h1, h2⟩ | ⟨e, h1⟩
      · dsimp only at e
        rw [e]
        obtain ⟨g1, g2⟩ := (good_even (by omega)).1 h1
        have g3 := hno l g1
        refine .inl ⟨k, l, rfl, c, g1, by omega, fun l' hl' => ?_⟩
        have g4 := hno l' hl'
        exact ⟨by omega, fun e2 => h2.le l' ((good_even (by omega)).2 ⟨hl', by omega⟩)⟩
      · dsimp only at e
        rw [e]
        simp only [Option.bind_some]
        rw [br_false, chk_eq (by omega)]
        have ih := even_l1_p n (k + 1) (by omega) (by omega) (fun l hl => by
          have g := hno l hl
          have g2 : ¬ longF ws l 0 ≤ (k : Int) + 1 := fun g3 => by
            have := (good_even (by omega)).2 ⟨hl, g3⟩
            rw [h1 l] at this; cases this
          omega)
        rw [show ((k + 1 : Nat) : Int) = (k : Int) + 1 by omega] at ih
        exact ih
    · rw [br_ndec c]
      refine .inr ⟨rfl, fun l => ?_⟩
      cases hg : goodB (rightR ws ts br_) ws.length 0 l
      · rfl
      · have := hno l hg; have := long_le (by omega) hg; omega
end
/-- The most even reading: what is told. -/
theorem even_v {N : Nat} (hN : 110 ≤ N) {ws : List Wd} {ts : List Tn} {br_ : Int} (hw : ws.length ≤ 1000000) (ht : ts.length ≤ 1000000) :
    (checkT ws ts br_ ≠ 0 ∧ even_S N ws ts br_ = some ([], 0, checkT ws ts br_)) ∨ (checkT ws ts br_ = 0 ∧
      ((∃ l k, even_S N ws ts br_ = some (l, k, 0) ∧ k ≤ br_ ∧ goodB (rightR ws ts br_) ws.length 0 l = true ∧ longF ws l 0 = k ∧
        ∀ l', goodB (rightR ws ts br_) ws.length 0 l' = true → k ≤ longF ws l' 0 ∧ (longF ws l' 0 = k → (l.length : Int) ≤ l'.length)) ∨
       (even_S N ws ts br_ = some ([], 0, 6) ∧ ∀ l, goodB (rightR ws ts br_) ws.length 0 l = false))) := by
  unfold even_S
  rw [opened_v (by omega) hw ht]
  by_cases c : checkT ws ts br_ = 0
  · refine .inr ⟨c, ?_⟩
    have hF := tfine_of c
    have hb := hF.b1; have hb0 := hF.b0
    rw [if_pos c]
    simp only [Option.bind_some]
    rw [br_nd trivial]
    rcases even_l1_p hN hF N 0 (by omega) (by omega) (fun l hl => by have := long_pos hF hl; omega) with ⟨q, l, e, h1, h2, h3, h4⟩ | ⟨e, h1⟩
    · simp only [Int.natCast_zero] at e
      rw [e]
      simp only [Option.bind_some]
      rw [chk_eq (by omega)]
      exact .inl ⟨l, (q : Int) + 1, rfl, by omega, h2, h3, h4⟩
    · simp only [Int.natCast_zero] at e
      rw [e]; exact .inr ⟨rfl, h1⟩
  · refine .inl ⟨c, ?_⟩
    rw [if_neg c]
    simp only [Option.bind_some]
    rw [br_nnd c]
/-! ### Sure readings -/
theorem ixfpa_gen (N : Nat) (s : Int) : ∀ (n : Nat) (l : List Tn) (u u2 : Int), ixfpa_l1 N n l s u u2 = ixL (fun x => parted1_S N x.1 x.2.1 x.2.2 s) n l u u2
  | 0, _, _, _ => rfl
  | n + 1, l, u, u2 => by unfold ixfpa_l1 ixL; simp only [ixfpa_gen N s n]
theorem parted_v {N : Nat} {ws : List Wd} {ts : List Tn} {br_ : Int} (ht : ts.length ≤ 1000) (hN : ts.length < N) (s : Int) : parted_S N (ws, ts, br_) s = some (ts.any (partP s)) := by
  have h := ixS_any (f := fun x : Tn => parted1_S N x.1 x.2.1 x.2.2 s) (p := partP s) (s := ts) (N := N) (fun x _ => by
    unfold parted1_S partP
    by_cases h1 : x.1 < s <;> by_cases h2 : s ≤ x.2.1 <;> by_cases h3 : x.2.2 < s <;> by_cases h4 : s ≤ x.1 <;> simp [br, h1, h2, h3, h4]) (by omega) hN
  unfold parted_S cofpa_S ixfpa_S
  unfold ixS at h
  simp only [ixfpa_gen]
  rw [show ∀ (o : Option Bool), (o.bind fun x => some x) = o from fun o => by cases o <;> rfl]
  exact h
section
variable {ws : List Wd} {ts : List Tn} {br_ : Int} {N : Nat} (hN : 110 ≤ N) (hF : TFine ws ts br_)
include hN hF
theorem surest1_v {a b : Nat} (hab : a < b) (hb : b ≤ ws.length) : surest1_S N a b (ws, ts, br_) = some (suR ws ts br_ a b) := by
  have := hF.t; have := hF.n
  unfold surest1_S suR
  rw [right_v hN hF.okW (by omega) (by omega) hb]
  simp only [Option.bind_some, end__S]
  cases rightR ws ts br_ a b
  · rfl
  · rw [br_true]
    by_cases c : b = ws.length
    · rw [br_dec (by omega)]; simp [c]
    · rw [br_ndec (by omega), parted_v (by omega) (by omega)]
      simp [c]
end
/-- The surest reading: what is told. -/
theorem surest_v {N : Nat} (hN : 110 ≤ N) {ws : List Wd} {ts : List Tn} {br_ : Int} (hw : ws.length ≤ 1000000) (ht : ts.length ≤ 1000000) :
    (checkT ws ts br_ ≠ 0 ∧ surest_S N ws ts br_ = some ([], checkT ws ts br_)) ∨ (checkT ws ts br_ = 0 ∧
      ((∃ l, surest_S N ws ts br_ = some (l, 0) ∧ goodB (suR ws ts br_) ws.length 0 l = true ∧ IsMin (suR ws ts br_) ws.length 0 l.length) ∨
       (surest_S N ws ts br_ = some ([], 6) ∧ ∀ l, goodB (suR ws ts br_) ws.length 0 l = false))) := by
  unfold surest_S
  rw [opened_v (by omega) hw ht]
  by_cases c : checkT ws ts br_ = 0
  · refine .inr ⟨c, ?_⟩
    have hF := tfine_of c
    rw [if_pos c]
    simp only [Option.bind_some]
    rw [br_nd trivial]
    rcases fewests_v (N := N) hN (d := (ws, ts, br_)) (r := (ws, ts, br_)) (R := suR ws ts br_) (m := ws.length) rfl ⟨hF.n0, hF.n⟩ (fun a b h1 h2 => surest1_v hN hF h1 h2) with ⟨l, e, h1, h2⟩ | ⟨e, h1⟩
    · rw [e]; exact .inl ⟨l, rfl, h1, h2⟩
    · rw [e]; exact .inr ⟨rfl, h1⟩
  · refine .inl ⟨c, ?_⟩
    rw [if_neg c]
    simp only [Option.bind_some]
    rw [br_nnd c]
/-! ### No run of a sure reading says a turn otherwise -/
def runsOK (p : Int → Int → Bool) : Int → List Int → Prop
  | _, [] => True
  | f, x :: r => (∀ s ∈ psums f (x :: r), p f s = false) ∧ runsOK p (f + x) r
theorem inF_none {q : Int → Bool} : ∀ (r : List Int) (to b : Int), inF q r to b = none ↔ ∀ s ∈ psums to r, q s = false
  | [], to, b => by simp [inF, psums]
  | x :: r, to, b => by
    have ih := inF_none (q := q) r (to + x) (b + 1)
    simp only [inF, psums, List.mem_cons, forall_eq_or_imp]
    cases q (to + x)
    · rw [if_neg (by simp), ih]; simp
    · simp
theorem outF_none {p : Int → Int → Bool} : ∀ (r : List Int) (f a : Int), outF p r f a = none ↔ runsOK p f r
  | [], f, a => by simp [outF, runsOK]
  | x :: r, f, a => by
    have ih := outF_none (p := p) r (f + x) (a + 1)
    rw [outF, runsOK, ← inF_none (x :: r) f a, ← ih]
    cases inF (p f) (x :: r) f a <;> simp
theorem trnF_none {l : List Int} : ∀ (ts : List Tn) (k : Int), trnF l ts k = none ↔ ∀ x ∈ ts, runsOK (fun a b => turnP a b x) 0 l
  | [], k => by simp [trnF]
  | x :: r, k => by
    have ih := trnF_none (l := l) r (k + 1)
    rw [trnF]
    simp only [List.mem_cons, forall_eq_or_imp]
    rw [← ih, ← outF_none l 0 0]
    cases outF (fun a b => turnP a b x) l 0 0 <;> simp
theorem psums_last {R : Nat → Nat → Bool} {m : Nat} : ∀ {l : List Int} {a : Nat}, goodB R m a l = true → l ≠ [] → (m : Int) ∈ psums a l
  | [], a, _, hn => absurd rfl hn
  | x :: l, a, h, _ => by
    obtain ⟨⟨b1, b2⟩, b3, b4⟩ := good_cons.1 h
    have e : (a : Int) + x = ((a + x.toNat : Nat) : Int) := by omega
    rw [psums, e, List.mem_cons]
    by_cases c : l = []
    · subst c; have := good_nil.1 b4; exact .inl (by omega)
    · exact .inr (psums_last b4 c)
theorem psums_le {R : Nat → Nat → Bool} {m : Nat} : ∀ {l : List Int} {a : Nat}, goodB R m a l = true → ∀ s ∈ psums a l, (a : Int) < s ∧ s ≤ m
  | [], a, _, s, hs => by simp [psums] at hs
  | x :: l, a, h, s, hs => by
    obtain ⟨⟨b1, b2⟩, b3, b4⟩ := good_cons.1 h
    have e : (a : Int) + x = ((a + x.toNat : Nat) : Int) := by omega
    rw [psums, e, List.mem_cons] at hs
    rcases hs with rfl | hs
    · omega
    · have := psums_le b4 s hs; omega
theorem runs_end {R : Nat → Nat → Bool} {m : Nat} {p : Int → Int → Bool} : ∀ {l : List Int} {a : Nat}, goodB R m a l = true → runsOK p a l → ∀ s ∈ psums a l, s < m → p s m = false
  | [], a, _, _, s, hs, _ => by simp [psums] at hs
  | x :: l, a, h, hr, s, hs, hm => by
    obtain ⟨⟨b1, b2⟩, b3, b4⟩ := good_cons.1 h
    have e : (a : Int) + x = ((a + x.toNat : Nat) : Int) := by omega
    rw [runsOK, e] at hr
    rw [psums, e, List.mem_cons] at hs
    rcases hs with rfl | hs
    · cases l with
      | nil => have := good_nil.1 b4; omega
      | cons y l =>
        rw [runsOK] at hr
        exact hr.2.1 _ (psums_last b4 (by simp))
    · exact runs_end b4 hr.2 s hs hm
section
variable {ws : List Wd} {ts : List Tn} {br_ : Int}
theorem runs_ok {R : Nat → Nat → Bool} {x : Tn} (hx : (0 ≤ x.1 ∧ x.1 < ws.length) ∧ (0 ≤ x.2.1 ∧ x.2.1 < ws.length) ∧ (0 ≤ x.2.2 ∧ x.2.2 < ws.length) ∧ x.2.1 ≤ x.2.2 ∧ ¬ (x.2.1 ≤ x.1 ∧ x.1 ≤ x.2.2)) : ∀ {l : List Int} {a : Nat}, goodB R ws.length a l = true → (a = 0 ∨ partP a x = false) → (∀ s ∈ psums a l, s < ws.length → partP s x = false) → runsOK (fun a b => turnP a b x) a l
  | [], a, _, _, _ => trivial
  | y :: l, a, h, ha, hs => by
    obtain ⟨⟨b1, b2⟩, b3, b4⟩ := good_cons.1 h
    have e : (a : Int) + y = ((a + y.toNat : Nat) : Int) := by omega
    refine ⟨fun s h1 => ?_, ?_⟩
    · have hb := psums_le h s h1
      have h2 := hs s h1
      show turnP a s x = false
      cases ht : turnP a s x
      · rfl
      · exfalso
        simp only [turnP, Bool.and_eq_true, decide_eq_true_eq, Bool.not_eq_true', decide_eq_false_iff_not] at ht
        obtain ⟨⟨t1, t2⟩, t3⟩ := ht
        by_cases c : x.1 < a
        · rcases ha with rfl | ha
          · omega
          · simp [partP] at ha; omega
        · have h3 := h2 (by omega)
          simp [partP] at h3; omega
    · rw [e]
      by_cases c : a + y.toNat = ws.length
      · cases l with
        | nil => trivial
        | cons z l => have := (good_cons.1 b4).1; omega
      · refine runs_ok hx b4 (.inr ?_) (fun s h1 => hs s ?_)
        · rw [← e]
          exact hs _ (by rw [psums]; simp) (by omega)
        · rw [psums, e, List.mem_cons]; exact .inr h1
theorem good_sure : ∀ {l : List Int} {a : Nat}, goodB (suR ws ts br_) ws.length a l = true ↔ goodB (rightR ws ts br_) ws.length a l = true ∧ ∀ s ∈ psums a l, s < ws.length → ts.any (partP s) = false
  | [], a => by simp [goodB, psums]
  | x :: l, a => by
    rw [good_cons, good_cons, good_sure]
    constructor
    · rintro ⟨h1, h2, h3, h4⟩
      have e : (a : Int) + x = ((a + x.toNat : Nat) : Int) := by omega
      simp only [suR, Bool.and_eq_true, Bool.or_eq_true, decide_eq_true_eq, Bool.not_eq_true'] at h2
      refine ⟨⟨h1, h2.1, h3⟩, fun s hs hl => ?_⟩
      rw [psums, e, List.mem_cons] at hs
      rcases hs with rfl | hs
      · rcases h2.2 with h5 | h5
        · omega
        · exact h5
      · exact h4 s hs hl
    · rintro ⟨⟨h1, h2, h3⟩, h4⟩
      have e : (a : Int) + x = ((a + x.toNat : Nat) : Int) := by omega
      rw [psums, e] at h4
      refine ⟨h1, ?_, h3, fun s hs hl => h4 s (List.mem_cons_of_mem _ hs) hl⟩
      simp only [suR, Bool.and_eq_true, Bool.or_eq_true, decide_eq_true_eq, Bool.not_eq_true']
      refine ⟨h2, ?_⟩
      by_cases c : a + x.toNat = ws.length
      · exact .inl c
      · exact .inr (h4 _ (by simp) (by have := h1.2; omega))
/-- A right reading is sure just if it breaks at no place that a turn parts. -/
theorem sure_iff (hF : TFine ws ts br_) {R : Nat → Nat → Bool} {l : List Int} (h : goodB R ws.length 0 l = true) : trnF l ts 0 = none ↔ ∀ s ∈ psums 0 l, s < ws.length → ts.any (partP s) = false := by
  rw [trnF_none]
  constructor
  · intro hr s hs hl
    rw [List.any_eq_false]
    intro x hx
    have h1 := hF.x x hx
    have h2 := hr x hx
    rw [Bool.not_eq_true]
    have hb := psums_le h s hs
    have e1 := runs_end h h2 s hs hl
    cases l with
    | nil => simp [psums] at hs
    | cons y l =>
      have e2 := h2.1 s hs
      cases hp : partP s x
      · rfl
      · exfalso
        simp only [partP, Bool.or_eq_true, Bool.and_eq_true, decide_eq_true_eq] at hp
        simp only [turnP] at e1 e2
        simp at e1 e2
        omega
  · intro hs x hx
    refine runs_ok (hF.x x hx) h (.inl rfl) (fun s h1 h2 => ?_)
    have := List.any_eq_false.1 (hs s h1 h2) x hx
    simpa using this
theorem sure_good (hF : TFine ws ts br_) {l : List Int} : goodB (suR ws ts br_) ws.length 0 l = true ↔ goodB (rightR ws ts br_) ws.length 0 l = true ∧ trnF l ts 0 = none := by
  rw [good_sure]
  constructor
  · rintro ⟨h1, h2⟩; exact ⟨h1, (sure_iff hF h1).2 h2⟩
  · rintro ⟨h1, h2⟩; exact ⟨h1, (sure_iff hF h1).1 h2⟩
end
end Go.Proofs.Ytfamlpbdhhikdaa

namespace Go.Proofs.Ytfamlpbdhhikdaa
set_option linter.all false
open Go

section
variable {N : Nat} {ws : List Wd} {ts : List Tn} {br_ : Int} (hN : 110 ≤ N) (hF : TFine ws ts br_)
include hN hF
theorem rlongest_l2_p {l : List Int} {i : Nat} {x : Nat} (hx : l[i]? = some (x : Int)) {most : Int} {a : Nat} (ha : a + x ≤ ws.length) : ∀ (n w : Nat) (s : Int), a + x < n + w → a ≤ w → w ≤ a + x → (0 ≤ s ∧ s ≤ 1000 * w) →
    rlongest_l2 N n l most a i s w ws ts br_ = some (l, most, (a : Int), (i : Int), s + sylR ws w (a + x), ws, ts, br_)
  | 0, w, s, h, _, _, _ => by omega
  | n + 1, w, s, h, h1, hw, hs => by
    have := hF.n
    have gi : l[((i : Nat) : Int).toNat]? = some (x : Int) := by simpa using hx
    by_cases c : w < a + x
    · have g := gets (l := ws) (k := w) (by omega) (0, 0, false)
      have hy := (hF.w _ (getD_mem (d := (0, 0, false)) (show w < ws.length by omega))).1
      rw [sylR_step c ha]
      generalize ws.getD w (0, 0, false) = y at *
      have ih := rlongest_l2_p hx (most := most) ha n (w + 1) (s + y.1) (by omega) (by omega) (by omega) (by omega)
      rw [show ((w + 1 : Nat) : Int) = (w : Int) + 1 by omega] at ih
      rw [rlongest_l2, idx_eq (by omega) gi, chk_eq (by omega), br_dec (by omega), idx_eq (by omega) g, chk_eq (by omega), chk_eq (by omega), ih, Int.add_assoc]
    · rw [rlongest_l2, idx_eq (by omega) gi, chk_eq (by omega), br_ndec (by omega), sylR_end (by omega)]; simp
theorem rlongest_l1_p {l : List Int} (hl : l.length ≤ 100) (h12 : ∀ x ∈ l, 1 ≤ x ∧ x ≤ 12) : ∀ (n k a : Nat) (most : Int), l.length < n + k → k ≤ l.length → (a : Int) + (l.drop k).sum ≤ ws.length →
    rlongest_l1 N n l most a k ws ts br_ = some (if k < l.length then max most (longF ws (l.drop k) a) else most)
  | 0, k, a, most, h, _, _ => by omega
  | n + 1, k, a, most, h, hk, hs => by
    have hn := hF.n
    by_cases c : k < l.length
    · have hx := h12 _ (getD_mem (d := 0) c)
      have g := gets c 0
      have hd := drop_cons c 0
      rw [hd, List.sum_cons] at hs
      have hge := sum_ge (l := l.drop (k + 1)) (fun y hy => h12 y (List.mem_of_mem_drop hy))
      have g2 : l[k]? = some (l.getD k 0) := by simp [List.getD, c]
      rw [hd, if_pos c]
      generalize l.getD k 0 = x at *
      obtain ⟨y, rfl⟩ : ∃ y : Nat, x = y := ⟨x.toNat, (Int.toNat_of_nonneg (by omega)).symm⟩
      have e2 := rlongest_l2_p hN hF g2 (most := most) (a := a) (by omega) N a 0 (by omega) (by omega) (by omega) (by omega)
      have ih := rlongest_l1_p hl h12 n (k + 1) (a + y) (max most (0 + sylR ws a (a + y))) (by omega) (by omega) (by omega)
      rw [show ((k + 1 : Nat) : Int) = (k : Int) + 1 by omega, show ((a + y : Nat) : Int) = (a : Int) + y by omega] at ih
      rw [rlongest_l1, br_dec (by omega), e2]
      simp only [Option.bind_some]
      rw [idx_eq (by omega) g, chk_eq (by omega), chk_eq (by omega), ih, longF]
      simp only [Int.toNat_natCast, Int.zero_add]
      by_cases d : k + 1 < l.length
      · rw [if_pos d]; congr 1; omega
      · rw [if_neg d, List.drop_of_length_le (by omega)]
        have := sylR_bound hF.okW a (a + y)
        simp only [longF]; congr 1; omega
    · rw [rlongest_l1, br_ndec (by omega), if_neg c]
theorem longF_pos : ∀ (l : List Int) (a : Nat), 0 ≤ longF ws l a
  | [], a => Int.le_refl 0
  | x :: l, a => by have := longF_pos l (a + x.toNat); rw [longF]; omega
theorem rlongest_v {l : List Int} (hl : l.length ≤ 100) (h12 : ∀ x ∈ l, 1 ≤ x ∧ x ≤ 12) (hs : l.sum = ws.length) : rlongest_S N ws ts br_ l = some (longF ws l 0) := by
  have e := rlongest_l1_p hN hF hl h12 N 0 0 0 (by omega) (by omega) (by simp; omega)
  simp only [Int.natCast_zero, List.drop_zero] at e
  unfold rlongest_S
  rw [e]
  have := longF_pos hN hF l 0
  cases l with
  | nil => rfl
  | cons a l => simp; omega
end
section
variable {N : Nat} {ws : List Wd} {ts : List Tn} {br_ : Int} (hF : TFine ws ts br_) (hN : 1030 ≤ N) (hm : ws.length ≤ 10)
include hF hm hN
theorem goodsT_iff {l : List Int} : l ∈ goodsT ws ts br_ 0 ↔ goodB (rightR ws ts br_) ws.length 0 l = true := mem_goodsL (by omega) hF.n
theorem reven_l1_p {L : List (List Int)} (hL : L.length ≤ 10000) (hg : ∀ x ∈ L, goodB (rightR ws ts br_) ws.length 0 x = true) : ∀ (n k : Nat) (a b : Int), L.length < n + k → k ≤ L.length →
    (k = 0 ∨ 0 < k ∧ (∃ x ∈ L, (x.length : Int) = a ∧ longF ws x 0 = b) ∧ ∀ x ∈ L.take k, b ≤ longF ws x 0 ∧ (longF ws x 0 = b → a ≤ x.length)) → (k = 0 → a = 0 ∧ b = 0) →
    ∃ u v, reven_l1 N n L a b k ws ts br_ = some (u, v) ∧ (L = [] ∧ u = 0 ∧ v = 0 ∨ (∃ x ∈ L, (x.length : Int) = u ∧ longF ws x 0 = v) ∧ ∀ x ∈ L, v ≤ longF ws x 0 ∧ (longF ws x 0 = v → u ≤ x.length))
  | 0, k, a, b, h, _, _, _ => by omega
  | n + 1, k, a, b, h, hk, hb, h0 => by
    by_cases c : k < L.length
    · have hmm := getD_mem (d := []) c
      have g := gets c ([] : List Int)
      have tk := take_succ' c []
      have ih := reven_l1_p hL hg n (k + 1)
      rw [tk] at ih
      obtain ⟨r1, r2⟩ := good_read (by omega) (hg _ hmm)
      have := sum_ge r1
      rw [reven_l1, br_dec (by omega)]
      generalize L.getD k [] = x at *
      have hj : ∀ a b, reven_j1 N (reven_l1 N n) L a b k ws ts br_ = reven_l1 N n L a b ((k + 1 : Nat) : Int) ws ts br_ := fun a b => by
        unfold reven_j1
        rw [chk_eq (by omega)]; rfl
      rw [idx_eq (by omega) g, rlongest_v (by omega) hF (by omega) r1 (by simpa using r2)]
      simp only [Option.bind_some, hj]
      by_cases d : k = 0
      · subst d
        rw [br_dec (by omega), idx_eq (by omega) g]
        refine ih _ _ (by omega) (by omega) (.inr ⟨by omega, ⟨x, hmm, rfl, rfl⟩, fun z hz => ?_⟩) (by omega)
        simp at hz; subst hz; omega
      · rw [br_ndec (by omega)]
        rcases hb with hb | ⟨_, ⟨y, hy, hy1, hy2⟩, hb⟩
        · omega
        by_cases e1 : longF ws x 0 < b
        · rw [br_dec e1, idx_eq (by omega) g]
          refine ih _ _ (by omega) (by omega) (.inr ⟨by omega, ⟨x, hmm, rfl, rfl⟩, fun z hz => ?_⟩) (by omega)
          rcases List.mem_append.1 hz with hz | hz
          · have := hb z hz; omega
          · simp at hz; subst hz; omega
        · rw [br_ndec e1]
          by_cases e2 : longF ws x 0 = b
          · rw [br_dec e2, idx_eq (by omega) g]
            by_cases e3 : (x.length : Int) < a
            · rw [br_dec e3, idx_eq (by omega) g]
              refine ih _ _ (by omega) (by omega) (.inr ⟨by omega, ⟨x, hmm, rfl, rfl⟩, fun z hz => ?_⟩) (by omega)
              rcases List.mem_append.1 hz with hz | hz
              · have := hb z hz; omega
              · simp at hz; subst hz; omega
            · rw [br_ndec e3]
              refine ih _ _ (by omega) (by omega) (.inr ⟨by omega, ⟨y, hy, hy1, hy2⟩, fun z hz => ?_⟩) (by omega)
              rcases List.mem_append.1 hz with hz | hz
              · exact hb z hz
              · simp at hz; subst hz; omega
          · rw [br_ndec e2]
            refine ih _ _ (by omega) (by omega) (.inr ⟨by omega, ⟨y, hy, hy1, hy2⟩, fun z hz => ?_⟩) (by omega)
            rcases List.mem_append.1 hz with hz | hz
            · exact hb z hz
            · simp at hz; subst hz; omega
    · rw [reven_l1, br_ndec (by omega)]
      refine ⟨a, b, rfl, ?_⟩
      rcases hb with hb | ⟨_, hb1, hb2⟩
      · exact .inl ⟨List.length_eq_zero_iff.1 (by omega), h0 hb⟩
      · rw [List.take_of_length_le (by omega)] at hb2
        exact .inr ⟨hb1, hb2⟩
theorem reven_v : ∃ u v, reven_S N ws ts br_ (goodsT ws ts br_ 0) = some (u, v) ∧ (goodsT ws ts br_ 0 = [] ∧ u = 0 ∧ v = 0 ∨ (∃ x ∈ goodsT ws ts br_ 0, (x.length : Int) = u ∧ longF ws x 0 = v) ∧ ∀ x ∈ goodsT ws ts br_ 0, v ≤ longF ws x 0 ∧ (longF ws x 0 = v → u ≤ x.length)) := by
  have hlen := goodsT_len hF hN hm
  obtain ⟨u, v, e, h⟩ := reven_l1_p hF hN hm (L := goodsT ws ts br_ 0) (by omega) (fun x hx => (goodsT_iff hF hN hm).1 hx) N 0 0 0 (by omega) (by omega) (.inl rfl) (fun _ => ⟨rfl, rfl⟩)
  simp only [Int.natCast_zero] at e
  refine ⟨u, v, ?_, h⟩
  unfold reven_S
  rw [e]; rfl
/-- The sure ones of some readings. -/
def sureP (ts : List Tn) (l : List Int) : Bool := (trnF l ts 0).isNone
theorem rsure_l1_p {L : List (List Int)} (hL : L.length ≤ 10000) (hg : ∀ x ∈ L, goodB (rightR ws ts br_) ws.length 0 x = true) : ∀ (n k : Nat), L.length < n + k → k ≤ L.length → rsure_l1 N n L k ws ts br_ ((L.take k).filter (sureP ts)) = some (L.filter (sureP ts))
  | 0, k, h, _ => by omega
  | n + 1, k, h, hk => by
    have := hF.n
    by_cases c : k < L.length
    · have g := gets c ([] : List Int)
      have ih := rsure_l1_p hL hg n (k + 1) (by omega) (by omega)
      rw [take_succ' c [], List.filter_append, List.filter_cons] at ih
      have hlen : ((L.take k).filter (sureP ts)).length ≤ 10000 := Nat.le_trans (List.length_filter_le _ _) (by simp; omega)
      obtain ⟨r1, r2⟩ := good_read (by omega) (hg _ (getD_mem (d := []) c))
      have := sum_ge r1
      rw [rsure_l1, br_dec (by omega)]
      generalize L.getD k [] = x at *
      have hj : ∀ O, rsure_j1 N (rsure_l1 N n) L k ws ts br_ O = rsure_l1 N n L ((k + 1 : Nat) : Int) ws ts br_ O := fun O => by
        unfold rsure_j1
        rw [chk_eq (by omega)]; rfl
      rw [idx_eq (by omega) g, rastray_v (by omega) hF (by omega) r1 (by simpa using r2)]
      simp only [Option.bind_some, hj]
      unfold sureP at ih ⊢
      cases hq : trnF x ts 0 with
      | none =>
        rw [hq] at ih
        dsimp only
        rw [Bool.not_false, br_true, idx_eq (by omega) g, lim_eq (by simp; unfold sureP at hlen; omega)]
        simpa using ih
      | some q =>
        rw [hq] at ih
        dsimp only
        rw [Bool.not_true, br_false]
        simpa using ih
    · rw [rsure_l1, br_ndec (by omega), List.take_of_length_le (by omega)]
theorem rsure_v : rsure_S N ws ts br_ (goodsT ws ts br_ 0) = some ((goodsT ws ts br_ 0).filter (sureP ts)) := by
  have hlen := goodsT_len hF hN hm
  have e := rsure_l1_p hF hN hm (L := goodsT ws ts br_ 0) (by omega) (fun x hx => (goodsT_iff hF hN hm).1 hx) N 0 (by omega) (by omega)
  simp only [Int.natCast_zero, List.take_zero, List.filter_nil] at e
  unfold rsure_S
  rw [e]; rfl
theorem mem_sure {l : List Int} : l ∈ (goodsT ws ts br_ 0).filter (sureP ts) ↔ goodB (suR ws ts br_) ws.length 0 l = true := by
  rw [List.mem_filter, goodsT_iff hF hN hm, sure_good hF]
  unfold sureP
  rw [Option.isNone_iff_eq_none]
end
theorem ixfte_gen (N : Nat) (s : List Int) : ∀ (n : Nat) (l : List (List Int)) (u u2 : Int), ixfte_l1 N n l s u u2 = ixL (fun x => teven1_S N x s) n l u u2
  | 0, _, _, _ => rfl
  | n + 1, l, u, u2 => by unfold ixfte_l1 ixL; simp only [ixfte_gen N s n]
theorem cofte_v {N : Nat} {l : List (List Int)} {s : List Int} (hl : l.length ≤ 10000) (hN : l.length < N) (hx : ∀ x ∈ l, x.length ≤ 1000 ∧ x.length < N) : cofte_S N l s = some (l.any fun x => decide (x = s)) := by
  have h := ixS_any (f := fun x => teven1_S N x s) (p := fun x => decide (x = s)) (s := l) (N := N) (fun x hm => by
    unfold teven1_S
    obtain ⟨a, b⟩ := hx x hm
    rw [likei_gen a b]; rfl) (by omega) hN
  unfold cofte_S ixfte_S
  unfold ixS at h
  rw [ixfte_gen]
  exact h
theorem teven_true {ws : List Wd} {ts : List Tn} {br_ : Int} (h0 : Ty.inB TextT (ws, ts, br_)) : teven_S 1100 ws ts br_ = some true := by
  unfold teven_S
  have aw : ((awake_S 1100).bind fun x => some x) = some true := by rw [awake_v]; rfl
  rcases great_v (N := 1100) (ws := ws) (ts := ts) (br_ := br_) 9 with e | ⟨e, hw, ht, hg⟩ <;> rw [e] <;> simp only [Option.bind_some]
  · rw [br_true]; exact aw
  rw [br_false, copyx_v (by omega) (by omega)]
  simp only [Option.bind_some]
  rw [theirs_v (by omega) (by omega) (by omega) (by omega)]
  simp only [Option.bind_some]
  have sm : same_S 1100 ws ts br_ ws ts br_ = some true := same_v (by omega) (by omega) (by omega) (by omega)
  rw [rcheck_v (by omega) (by omega) (by omega)]
  rcases even_v (N := 1100) (by omega) (ws := ws) (ts := ts) (br_ := br_) (by omega) (by omega) with ⟨c, ef⟩ | ⟨c, hf⟩
  · rcases surest_v (N := 1100) (by omega) (ws := ws) (ts := ts) (br_ := br_) (by omega) (by omega) with ⟨_, es⟩ | ⟨c', _⟩
    rotate_left
    · exact absurd c' c
    rw [ef, es]
    simp only [Option.bind_some]
    rw [br_nnd c, br_dec (by first | trivial | rfl), br_dec (by first | trivial | rfl)]
    simp only [List.length_nil, Int.natCast_zero, Int.add_zero]
    rw [chk_eq (by omega), br_dec (by first | trivial | rfl)]
    exact aw
  · rcases surest_v (N := 1100) (by omega) (ws := ws) (ts := ts) (br_ := br_) (by omega) (by omega) with ⟨c', _⟩ | ⟨_, hs⟩
    · exact absurd c c'
    have hF := tfine_of c
    have hb := hF.b1
    have hm : ws.length ≤ 10 := by have := hF.n; omega
    have hlen := goodsT_len (N := 1100) hF (by omega) hm
    have hmem := @goodsT_mem 1100 ws ts br_ hF (by omega) hm
    have hiff := @goodsT_iff 1100 ws ts br_ hF (by omega) hm
    have hsu := @mem_sure 1100 ws ts br_ hF (by omega) hm
    have hlen2 : ((goodsT ws ts br_ 0).filter (sureP ts)).length ≤ 1024 := Nat.le_trans (List.length_filter_le _ _) hlen
    obtain ⟨u, v, ev, huv⟩ := reven_v (N := 1100) hF (by omega) hm
    have tail : ∀ {e : Int} {s : List Int}, ((e = 0 ∧ s ∈ (goodsT ws ts br_ 0).filter (sureP ts)) ∨ e ≠ 0) → teven_j1 1100 e ((goodsT ws ts br_ 0).filter (sureP ts)) ws ts br_ ws ts br_ s = some true := fun {e s} h => by
      unfold teven_j1
      rcases h with ⟨he, hs⟩ | he
      · rw [br_dec he, cofte_v (by omega) (by omega) (fun x hx => by have := hmem (List.mem_filter.1 hx).1; omega)]
        simp only [Option.bind_some]
        rw [List.any_eq_true.2 ⟨s, hs, by simp⟩, Bool.not_true, br_false, sm]
        simp only [Option.bind_some]
        rw [br_true]; exact aw
      · rw [br_ndec he, sm]
        simp only [Option.bind_some]
        rw [br_true]; exact aw
    -- the sure one
    have hsur : ∃ s e z, surest_S 1100 ws ts br_ = some (s, e) ∧ rfewest_S 1100 ((goodsT ws ts br_ 0).filter (sureP ts)) = some (z, e) ∧ (s.length : Int) = z ∧ ((e = 0 ∧ s ∈ (goodsT ws ts br_ 0).filter (sureP ts)) ∨ e ≠ 0) := by
      rcases rfewest_v (N := 1100) (l := (goodsT ws ts br_ 0).filter (sureP ts)) (by omega) (fun x hx => (hmem (List.mem_filter.1 hx).1).2.2.1) (by omega) with ⟨g0, er⟩ | ⟨z, er, ⟨x, hx, rfl⟩, hz⟩
      · rcases hs with ⟨l, es, hl, _⟩ | ⟨es, hno⟩
        · have := hsu.2 hl
          rw [g0] at this; cases this
        · exact ⟨[], 6, 0, es, er, rfl, .inr (by omega)⟩
      · rcases hs with ⟨l, es, hl, hmin⟩ | ⟨es, hno⟩
        · have h1 := hmin.le x (hsu.1 hx)
          have h2 := hz l (hsu.2 hl)
          exact ⟨l, 0, _, es, er, by omega, .inl ⟨rfl, hsu.2 hl⟩⟩
        · have := hsu.1 hx
          rw [hno x] at this; cases this
    obtain ⟨s, es, z, e1, e2, e3, e4⟩ := hsur
    rw [e1]
    rcases rfewest_v (N := 1100) (l := goodsT ws ts br_ 0) (by omega) (fun x hx => (hmem hx).2.2.1) (by omega) with ⟨g0, er⟩ | ⟨y, er, ⟨x, hx, rfl⟩, hy⟩
    · rcases hf with ⟨l, k, ef, _, hl, _⟩ | ⟨ef, hno⟩
      · have := hiff.2 hl
        rw [g0] at this; cases this
      · rw [ef]
        simp only [Option.bind_some]
        rw [br_nd c, rright_v (by omega) c hm]
        simp only [Option.bind_some]
        rw [rsure_v hF (by omega) hm]
        simp only [Option.bind_some]
        rw [er, ev, e2]
        simp only [Option.bind_some]
        rcases huv with ⟨_, rfl, rfl⟩ | ⟨⟨x, hx, _⟩, _⟩
        · rw [br_nd (by first | trivial | rfl), br_nd (by first | trivial | rfl), br_nd (by first | trivial | rfl), br_nd (by first | trivial | rfl), br_nd e3, br_ndec (by omega)]
          exact tail e4
        · rw [g0] at hx; cases hx
    · rcases hf with ⟨l, k, ef, hk, hl, hl1, hl2⟩ | ⟨ef, hno⟩
      rotate_left
      · have := hiff.1 hx
        rw [hno x] at this; cases this
      · rcases huv with ⟨g0, _⟩ | ⟨⟨w, hw1, hw2, hw3⟩, hw4⟩
        · rw [g0] at hx; cases hx
        have a1 := hl2 w (hiff.1 hw1)
        have a2 := hw4 l (hiff.2 hl)
        have hkv : k = v := by omega
        have hlu : (l.length : Int) = u := by
          have := a1.2 (by omega); have := a2.2 (by omega); omega
        obtain ⟨r1, r2⟩ := good_read (by omega) hl
        have := sum_ge r1
        have hwr := (wrongR_iff c r1 (by simpa using r2)).2 hl
        rw [ef]
        simp only [Option.bind_some]
        rw [br_nd c, rright_v (by omega) c hm]
        simp only [Option.bind_some]
        rw [rsure_v hF (by omega) hm]
        simp only [Option.bind_some]
        rw [er, ev, e2]
        simp only [Option.bind_some]
        rw [br_nd (by first | trivial | rfl), br_nd (by first | trivial | rfl), br_nd hkv, br_nd hlu, br_nd e3, br_dec (by first | trivial | rfl), rwrong_v (by omega) (by omega) (by omega) (by omega)]
        simp only [Option.bind_some]
        rw [br_nd hwr, rlongest_v (by omega) hF (by omega) r1 (by simpa using r2)]
        simp only [Option.bind_some]
        rw [br_nd (by omega)]
        exact tail e4
end Go.Proofs.Ytfamlpbdhhikdaa

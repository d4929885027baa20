/-
  Parts of a proof, put together: SX1, SPt.
  Conditions: none.
-/
import Derived.Test.YtbjmmfjfmjdadaaZe
namespace Go.Proofs.Ytbjmmfjfmjdadaa.Tx
set_option linter.all false
open Go

def in__S (N : Nat) (n : Int) (lo : Int) (hi : Int) : Option Bool :=
  br (decide (lo ≤ n))
    (some (decide (n ≤ hi)))
    (some false)
noncomputable def in__sp (N : Nat) : List Spec := []
theorem in__all (N : Nat) : AllP (SpecOK Try.prog) (in__sp N) := trivial
noncomputable def in__c : Code := (Try.f48.body).getD .skip
noncomputable abbrev in__B : Body := { c := in__c, n := 15, res := [.tmp 6], outs := [⟨[.b], []⟩], m0 := 0 }
abbrev in__rt : altD in__B.outs → Option Bool := fun r => some r.1.1
abbrev in__st : Sta := ⟨[0, 1, 2], ⟨[.i .i64, .i .i64, .i .i64], []⟩⟩
theorem in__eq (N : Nat) (n : Int) (lo : Int) (hi : Int) : ev (Z := Bool) Try.prog (in__sp N) in__B [] [] (some in__rt) 400 false [.c [0], .c [1]] (stL in__st ((n, lo, hi, ()), ())) (stH in__st ((n, lo, hi, ()), ())) = in__S N n lo hi := by kernel_rfl
noncomputable def sp_in_ (N : Nat) : Spec := { f := 48, ins := ⟨[.i .i64, .i .i64, .i .i64], []⟩, outs := [⟨[.b], []⟩], run := fun p k => (in__S N p.1.1 p.1.2.1 p.1.2.2.1).bind fun r => k ((r, ()), ()) }
theorem sp_in__ok (N : Nat) : SpecOK Try.prog (sp_in_ N) := fn_sound (B := in__B) (loops := []) (leaves := []) (fun p => in__S N p.1.1 p.1.2.1 p.1.2.2.1) (fun r => ((r, ()), ())) in__rt (fun _ _ _ => rfl) (fun r z h => by cases h; rfl) Try.func48 (by kernel_rfl) (by kernel_rfl) (by kernel_rfl) rfl rfl (by kernel_rfl) (fun args w => Sem.pv_run _ _ _ (by kernel_rfl) w) (in__all N) mixed trivial (fun z E Xc hE hX hret => trivial) (fun p => in__eq N p.1.1 p.1.2.1 p.1.2.2.1)

def sum_l1 (N : Nat) : Nat → Int → (List Int) → Int → Int → Option Int
  | 0, _, _, _, _ => none
  | n_ + 1, n, u, u2, u3 =>
    br (decide (u3 < u2))
      (idx u u3 fun x_1 =>
      chk (n + x_1) <|
      chk (u3 + 1) <|
      sum_l1 N n_ (n + x_1) u u2 (u3 + 1))
      (some (n))
def sum_S (N : Nat) (l : List Int) : Option Int :=
  (sum_l1 N N 0 l (l.length : Int) 0).bind fun n_2 =>
  some n_2
noncomputable def sum_sp (N : Nat) : List Spec := []
theorem sum_all (N : Nat) : AllP (SpecOK Try.prog) (sum_sp N) := trivial
noncomputable def sum_c : Code := (Try.f36.body).getD .skip
noncomputable abbrev sum_B : Body := { c := sum_c, n := 17, res := [.tmp 2], outs := [⟨[.i .i64], []⟩], m0 := 0 }
abbrev sum_rt : altD sum_B.outs → Option Int := fun r => some r.1.1
abbrev sum_l1_at : List PI := [.c [1, 1, 0, 1, 0, 0, 0], .c [1, 1, 0, 1, 0, 0, 1], .l [1, 1, 0, 1, 0, 0], .b 0, .c [1, 1, 1]]
abbrev sum_l1_st : Sta := ⟨[3, 6, 7, 8], ⟨[.i .i64, .sl (.int .i64), .i .i64, .i .i64], []⟩⟩
abbrev sum_l1_h (rec : Int → (List Int) → Int → Int → Option Int) : Leaf Int := ⟨sum_l1_at, sum_l1_st, fun p => rec p.1.1 p.1.2.1 p.1.2.2.1 p.1.2.2.2.1⟩
abbrev sum_l1_e0 : Leaf Int := ⟨[.c [1, 1, 1, 0], .c [1, 1, 1, 1]], ⟨[3], ⟨[.i .i64], []⟩⟩, fun p => some (p.1.1)⟩
noncomputable def sum_l1_L (N : Nat) : LoopS := { at_ := sum_l1_at, sta := sum_l1_st, exits := [([.c [1, 1, 1, 0], .c [1, 1, 1, 1]], ⟨[3], ⟨[.i .i64], []⟩⟩)], run := fun p k => (sum_l1 N N p.1.1 p.1.2.1 p.1.2.2.1 p.1.2.2.2.1).bind fun e => k (.inl ((e, ()), ())) }
theorem sum_l1_eq (N n_ : Nat) (n : Int) (u : List Int) (u2 : Int) (u3 : Int) : ev (Z := Int) Try.prog (sum_sp N) sum_B [] [sum_l1_h (sum_l1 N n_), sum_l1_e0] none 400 true sum_l1_at (stL sum_l1_st ((n, u, u2, u3, ()), ())) (stH sum_l1_st ((n, u, u2, u3, ()), ())) = sum_l1 N (n_ + 1) n u u2 u3 := by kernel_rfl
theorem sum_l1_ok (N : Nat) {top : Bool} : LoopOK Try.prog sum_B.c sum_B.n sum_B.m0 top (sum_l1_L N) := loop_of_ev (Z := Int) (N := N) (fun m p => sum_l1 N m p.1.1 p.1.2.1 p.1.2.2.1 p.1.2.2.2.1) (fun e => .inl ((e, ()), ())) (fun _ _ _ => rfl) (fun _ => rfl) (fun m z E Xc hE hX hrec hx => leaf_of_ev (B := sum_B) (loops := []) (leaves := [sum_l1_h (sum_l1 N m), sum_l1_e0]) (sum_all N) mixed trivial hE hX ⟨hrec, (fun p hp => by obtain rfl := Option.some.inj hp; exact hx), trivial⟩ RetOK.no (fun p => sum_l1_eq N m p.1.1 p.1.2.1 p.1.2.2.1 p.1.2.2.2.1))
abbrev sum_st : Sta := ⟨[0], ⟨[.sl (.int .i64)], []⟩⟩
theorem sum_eq (N : Nat) (l : List Int) : ev (Z := Int) Try.prog (sum_sp N) sum_B [sum_l1_L N] [] (some sum_rt) 400 false [.c [0], .c [1]] (stL sum_st ((l, ()), ())) (stH sum_st ((l, ()), ())) = sum_S N l := by kernel_rfl
noncomputable def sp_sum (N : Nat) : Spec := { f := 36, ins := ⟨[.sl (.int .i64)], []⟩, outs := [⟨[.i .i64], []⟩], run := fun p k => (sum_S N p.1.1).bind fun r => k ((r, ()), ()) }
theorem sp_sum_ok (N : Nat) : SpecOK Try.prog (sp_sum N) := fn_sound (B := sum_B) (loops := [sum_l1_L N]) (leaves := []) (fun p => sum_S N p.1.1) (fun r => ((r, ()), ())) sum_rt (fun _ _ _ => rfl) (fun r z h => by cases h; rfl) Try.func36 (by kernel_rfl) (by kernel_rfl) (by kernel_rfl) rfl rfl (by kernel_rfl) (fun args w => Sem.pv_run _ _ _ (by kernel_rfl) w) (sum_all N) mixed ⟨sum_l1_ok N, trivial⟩ (fun z E Xc hE hX hret => trivial) (fun p => sum_eq N p.1.1)

def word_S (N : Nat) (t : List (Int × (Int × Bool))) (t2 : List (Int × (Int × Int))) (t3 : Int) (n : Int) : Option Bool :=
  chk ((t.length : Int) - 1) <|
  (in__S N n 0 ((t.length : Int) - 1)).bind fun x_1 =>
  some x_1
noncomputable def word_sp (N : Nat) : List Spec := [sp_in_ N]
theorem word_all (N : Nat) : AllP (SpecOK Try.prog) (word_sp N) := ⟨sp_in__ok N, trivial⟩
noncomputable def word_c : Code := (Try.f52.body).getD .skip
noncomputable abbrev word_B : Body := { c := word_c, n := 11, res := [.tmp 4], outs := [⟨[.b], []⟩], m0 := 0 }
abbrev word_rt : altD word_B.outs → Option Bool := fun r => some r.1.1
abbrev word_st : Sta := ⟨[0, 1], ⟨[.agg [.sl (.pair (.int .i64) (.pair (.int .i64) .bool)), .sl (.pair (.int .i64) (.pair (.int .i64) (.int .i64))), .i .i64], .i .i64], []⟩⟩
theorem word_eq (N : Nat) (t : List (Int × (Int × Bool))) (t2 : List (Int × (Int × Int))) (t3 : Int) (n : Int) : ev (Z := Bool) Try.prog (word_sp N) word_B [] [] (some word_rt) 400 false [.c [0], .c [1]] (stL word_st (((t, t2, t3, ()), n, ()), ())) (stH word_st (((t, t2, t3, ()), n, ()), ())) = word_S N t t2 t3 n := by kernel_rfl
noncomputable def sp_word (N : Nat) : Spec := { f := 52, ins := ⟨[.agg [.sl (.pair (.int .i64) (.pair (.int .i64) .bool)), .sl (.pair (.int .i64) (.pair (.int .i64) (.int .i64))), .i .i64], .i .i64], []⟩, outs := [⟨[.b], []⟩], run := fun p k => (word_S N p.1.1.1 p.1.1.2.1 p.1.1.2.2.1 p.1.2.1).bind fun r => k ((r, ()), ()) }
theorem sp_word_ok (N : Nat) : SpecOK Try.prog (sp_word N) := fn_sound (B := word_B) (loops := []) (leaves := []) (fun p => word_S N p.1.1.1 p.1.1.2.1 p.1.1.2.2.1 p.1.2.1) (fun r => ((r, ()), ())) word_rt (fun _ _ _ => rfl) (fun r z h => by cases h; rfl) Try.func52 (by kernel_rfl) (by kernel_rfl) (by kernel_rfl) rfl rfl (by kernel_rfl) (fun args w => Sem.pv_run _ _ _ (by kernel_rfl) w) (word_all N) mixed trivial (fun z E Xc hE hX hret => trivial) (fun p => word_eq N p.1.1.1 p.1.1.2.1 p.1.1.2.2.1 p.1.2.1)

def check1_S (N : Nat) (w : Int) (w2 : Int) (w3 : Bool) : Option Bool :=
  (in__S N w 1 9).bind fun x_1 =>
  br x_1
    ((in__S N w2 0 20).bind fun x_2 =>
    some x_2)
    (some false)
noncomputable def check1_sp (N : Nat) : List Spec := [sp_in_ N]
theorem check1_all (N : Nat) : AllP (SpecOK Try.prog) (check1_sp N) := ⟨sp_in__ok N, trivial⟩
noncomputable def check1_c : Code := (Try.f50.body).getD .skip
noncomputable abbrev check1_B : Body := { c := check1_c, n := 11, res := [.tmp 2], outs := [⟨[.b], []⟩], m0 := 0 }
abbrev check1_rt : altD check1_B.outs → Option Bool := fun r => some r.1.1
abbrev check1_st : Sta := ⟨[0], ⟨[.agg [.i .i64, .i .i64, .b]], []⟩⟩
theorem check1_eq (N : Nat) (w : Int) (w2 : Int) (w3 : Bool) : ev (Z := Bool) Try.prog (check1_sp N) check1_B [] [] (some check1_rt) 400 false [.c [0], .c [1]] (stL check1_st (((w, w2, w3, ()), ()), ())) (stH check1_st (((w, w2, w3, ()), ()), ())) = check1_S N w w2 w3 := by kernel_rfl
noncomputable def sp_check1 (N : Nat) : Spec := { f := 50, ins := ⟨[.agg [.i .i64, .i .i64, .b]], []⟩, outs := [⟨[.b], []⟩], run := fun p k => (check1_S N p.1.1.1 p.1.1.2.1 p.1.1.2.2.1).bind fun r => k ((r, ()), ()) }
theorem sp_check1_ok (N : Nat) : SpecOK Try.prog (sp_check1 N) := fn_sound (B := check1_B) (loops := []) (leaves := []) (fun p => check1_S N p.1.1.1 p.1.1.2.1 p.1.1.2.2.1) (fun r => ((r, ()), ())) check1_rt (fun _ _ _ => rfl) (fun r z h => by cases h; rfl) Try.func50 (by kernel_rfl) (by kernel_rfl) (by kernel_rfl) rfl rfl (by kernel_rfl) (fun args w => Sem.pv_run _ _ _ (by kernel_rfl) w) (check1_all N) mixed trivial (fun z E Xc hE hX hret => trivial) (fun p => check1_eq N p.1.1.1 p.1.1.2.1 p.1.1.2.2.1)

def check2_S (N : Nat) (x : Int) (x2 : Int) (x3 : Int) (u : ((List (Int × (Int × Bool))) × ((List (Int × (Int × Int))) × Int))) : Option Bool :=
  (word_S N u.1 u.2.1 u.2.2 x).bind fun x_1 =>
  br x_1
    ((word_S N u.1 u.2.1 u.2.2 x2).bind fun x_2 =>
    br x_2
      ((word_S N u.1 u.2.1 u.2.2 x3).bind fun x_3 =>
      some x_3)
      (some false))
    (some false)
noncomputable def check2_sp (N : Nat) : List Spec := [sp_word N]
theorem check2_all (N : Nat) : AllP (SpecOK Try.prog) (check2_sp N) := ⟨sp_word_ok N, trivial⟩
noncomputable def check2_c : Code := (Try.f51.body).getD .skip
noncomputable abbrev check2_B : Body := { c := check2_c, n := 22, res := [.tmp 3], outs := [⟨[.b], []⟩], m0 := 0 }
abbrev check2_rt : altD check2_B.outs → Option Bool := fun r => some r.1.1
abbrev check2_st : Sta := ⟨[0, 1], ⟨[.agg [.i .i64, .i .i64, .i .i64], .fe (.pair (.sl (.pair (.int .i64) (.pair (.int .i64) .bool))) (.pair (.sl (.pair (.int .i64) (.pair (.int .i64) (.int .i64)))) (.int .i64)))], []⟩⟩
theorem check2_eq (N : Nat) (x : Int) (x2 : Int) (x3 : Int) (u : ((List (Int × (Int × Bool))) × ((List (Int × (Int × Int))) × Int))) : ev (Z := Bool) Try.prog (check2_sp N) check2_B [] [] (some check2_rt) 400 false [.c [0], .c [1]] (stL check2_st (((x, x2, x3, ()), u, ()), ())) (stH check2_st (((x, x2, x3, ()), u, ()), ())) = check2_S N x x2 x3 u := by kernel_rfl
noncomputable def sp_check2 (N : Nat) : Spec := { f := 51, ins := ⟨[.agg [.i .i64, .i .i64, .i .i64], .fe (.pair (.sl (.pair (.int .i64) (.pair (.int .i64) .bool))) (.pair (.sl (.pair (.int .i64) (.pair (.int .i64) (.int .i64)))) (.int .i64)))], []⟩, outs := [⟨[.b], []⟩], run := fun p k => (check2_S N p.1.1.1 p.1.1.2.1 p.1.1.2.2.1 p.1.2.1).bind fun r => k ((r, ()), ()) }
theorem sp_check2_ok (N : Nat) : SpecOK Try.prog (sp_check2 N) := fn_sound (B := check2_B) (loops := []) (leaves := []) (fun p => check2_S N p.1.1.1 p.1.1.2.1 p.1.1.2.2.1 p.1.2.1) (fun r => ((r, ()), ())) check2_rt (fun _ _ _ => rfl) (fun r z h => by cases h; rfl) Try.func51 (by kernel_rfl) (by kernel_rfl) (by kernel_rfl) rfl rfl (by kernel_rfl) (fun args w => Sem.pv_run _ _ _ (by kernel_rfl) w) (check2_all N) mixed trivial (fun z E Xc hE hX hret => trivial) (fun p => check2_eq N p.1.1.1 p.1.1.2.1 p.1.1.2.2.1 p.1.2.1)

def check3_S (N : Nat) (x : Int) (x2 : Int) (x3 : Int) : Option Bool :=
  some (decide (x2 ≤ x3))
noncomputable def check3_sp (N : Nat) : List Spec := []
theorem check3_all (N : Nat) : AllP (SpecOK Try.prog) (check3_sp N) := trivial
noncomputable def check3_c : Code := (Try.f53.body).getD .skip
noncomputable abbrev check3_B : Body := { c := check3_c, n := 10, res := [.tmp 2], outs := [⟨[.b], []⟩], m0 := 0 }
abbrev check3_rt : altD check3_B.outs → Option Bool := fun r => some r.1.1
abbrev check3_st : Sta := ⟨[0], ⟨[.agg [.i .i64, .i .i64, .i .i64]], []⟩⟩
theorem check3_eq (N : Nat) (x : Int) (x2 : Int) (x3 : Int) : ev (Z := Bool) Try.prog (check3_sp N) check3_B [] [] (some check3_rt) 400 false [.c [0], .c [1]] (stL check3_st (((x, x2, x3, ()), ()), ())) (stH check3_st (((x, x2, x3, ()), ()), ())) = check3_S N x x2 x3 := by kernel_rfl
noncomputable def sp_check3 (N : Nat) : Spec := { f := 53, ins := ⟨[.agg [.i .i64, .i .i64, .i .i64]], []⟩, outs := [⟨[.b], []⟩], run := fun p k => (check3_S N p.1.1.1 p.1.1.2.1 p.1.1.2.2.1).bind fun r => k ((r, ()), ()) }
theorem sp_check3_ok (N : Nat) : SpecOK Try.prog (sp_check3 N) := fn_sound (B := check3_B) (loops := []) (leaves := []) (fun p => check3_S N p.1.1.1 p.1.1.2.1 p.1.1.2.2.1) (fun r => ((r, ()), ())) check3_rt (fun _ _ _ => rfl) (fun r z h => by cases h; rfl) Try.func53 (by kernel_rfl) (by kernel_rfl) (by kernel_rfl) rfl rfl (by kernel_rfl) (fun args w => Sem.pv_run _ _ _ (by kernel_rfl) w) (check3_all N) mixed trivial (fun z E Xc hE hX hret => trivial) (fun p => check3_eq N p.1.1.1 p.1.1.2.1 p.1.1.2.2.1)

def check4_S (N : Nat) (x : Int) (x2 : Int) (x3 : Int) : Option Bool :=
  (in__S N x x2 x3).bind fun x_1 =>
  some (!x_1)
noncomputable def check4_sp (N : Nat) : List Spec := [sp_in_ N]
theorem check4_all (N : Nat) : AllP (SpecOK Try.prog) (check4_sp N) := ⟨sp_in__ok N, trivial⟩
noncomputable def check4_c : Code := (Try.f54.body).getD .skip
noncomputable abbrev check4_B : Body := { c := check4_c, n := 13, res := [.tmp 2], outs := [⟨[.b], []⟩], m0 := 0 }
abbrev check4_rt : altD check4_B.outs → Option Bool := fun r => some r.1.1
abbrev check4_st : Sta := ⟨[0], ⟨[.agg [.i .i64, .i .i64, .i .i64]], []⟩⟩
theorem check4_eq (N : Nat) (x : Int) (x2 : Int) (x3 : Int) : ev (Z := Bool) Try.prog (check4_sp N) check4_B [] [] (some check4_rt) 400 false [.c [0], .c [1]] (stL check4_st (((x, x2, x3, ()), ()), ())) (stH check4_st (((x, x2, x3, ()), ()), ())) = check4_S N x x2 x3 := by kernel_rfl
noncomputable def sp_check4 (N : Nat) : Spec := { f := 54, ins := ⟨[.agg [.i .i64, .i .i64, .i .i64]], []⟩, outs := [⟨[.b], []⟩], run := fun p k => (check4_S N p.1.1.1 p.1.1.2.1 p.1.1.2.2.1).bind fun r => k ((r, ()), ()) }
theorem sp_check4_ok (N : Nat) : SpecOK Try.prog (sp_check4 N) := fn_sound (B := check4_B) (loops := []) (leaves := []) (fun p => check4_S N p.1.1.1 p.1.1.2.1 p.1.1.2.2.1) (fun r => ((r, ()), ())) check4_rt (fun _ _ _ => rfl) (fun r z h => by cases h; rfl) Try.func54 (by kernel_rfl) (by kernel_rfl) (by kernel_rfl) rfl rfl (by kernel_rfl) (fun args w => Sem.pv_run _ _ _ (by kernel_rfl) w) (check4_all N) mixed trivial (fun z E Xc hE hX hret => trivial) (fun p => check4_eq N p.1.1.1 p.1.1.2.1 p.1.1.2.2.1)

def every1w_S (N : Nat) (x : Int) (x2 : Int) (x3 : Bool) : Option Bool :=
  (check1_S N x x2 x3).bind fun x_1 =>
  some (!x_1)
noncomputable def every1w_sp (N : Nat) : List Spec := [sp_check1 N]
theorem every1w_all (N : Nat) : AllP (SpecOK Try.prog) (every1w_sp N) := ⟨sp_check1_ok N, trivial⟩
noncomputable def every1w_c : Code := (Try.f69.body).getD .skip
noncomputable abbrev every1w_B : Body := { c := every1w_c, n := 8, res := [.tmp 3], outs := [⟨[.b], [.segs [.fn 50 [] []]]⟩], m0 := 1 }
abbrev every1w_rt : altD every1w_B.outs → Option Bool := fun r => some r.1.1
abbrev every1w_st : Sta := ⟨[0, 1], ⟨[.agg [.i .i64, .i .i64, .b], .own 0 0], [.segs [.fn 50 [] []]]⟩⟩
theorem every1w_eq (N : Nat) (x : Int) (x2 : Int) (x3 : Bool) : ev (Z := Bool) Try.prog (every1w_sp N) every1w_B [] [] (some every1w_rt) 400 false [.c [0], .c [1]] (stL every1w_st (((x, x2, x3, ()), (), ()), ((((), ()), ()), ()))) (stH every1w_st (((x, x2, x3, ()), (), ()), ((((), ()), ()), ()))) = every1w_S N x x2 x3 := by kernel_rfl
noncomputable def sp_every1w (N : Nat) : Spec := { f := 69, ins := ⟨[.agg [.i .i64, .i .i64, .b], .own 0 0], [.segs [.fn 50 [] []]]⟩, outs := [⟨[.b], [.segs [.fn 50 [] []]]⟩], run := fun p k => (every1w_S N p.1.1.1 p.1.1.2.1 p.1.1.2.2.1).bind fun r => k ((r, ()), ((((), ()), ()), ())) }
theorem sp_every1w_ok (N : Nat) : SpecOK Try.prog (sp_every1w N) := fn_sound (B := every1w_B) (loops := []) (leaves := []) (fun p => every1w_S N p.1.1.1 p.1.1.2.1 p.1.1.2.2.1) (fun r => ((r, ()), ((((), ()), ()), ()))) every1w_rt (fun _ _ _ => rfl) (fun r z h => by cases h; rfl) Try.func69 (by kernel_rfl) (by kernel_rfl) (by kernel_rfl) rfl rfl (by kernel_rfl) (fun args w => Sem.pv_run _ _ _ (by kernel_rfl) w) (every1w_all N) mixed trivial (fun z E Xc hE hX hret => trivial) (fun p => every1w_eq N p.1.1.1 p.1.1.2.1 p.1.1.2.2.1)

def ixfw_l1 (N : Nat) : Nat → (List (Int × (Int × Bool))) → Int → Int → Option ((Int) ⊕ (Unit))
  | 0, _, _, _ => none
  | n_ + 1, s, u, u2 =>
    br (decide (u2 < u))
      (idx s u2 fun x_1 =>
      (every1w_S N x_1.1 x_1.2.1 x_1.2.2).bind fun x_2 =>
      br x_2
        (some (.inl u2))
        (chk (u2 + 1) <|
        ixfw_l1 N n_ s u (u2 + 1)))
      (some (.inr ()))
def ixfw_S (N : Nat) (s : List (Int × (Int × Bool))) : Option Int :=
  (ixfw_l1 N N s (s.length : Int) 0).bind fun e => match e with
  | .inl i_3 =>
    some i_3
  | .inr _ =>
    some (-1)
noncomputable def ixfw_sp (N : Nat) : List Spec := [sp_every1w N]
theorem ixfw_all (N : Nat) : AllP (SpecOK Try.prog) (ixfw_sp N) := ⟨sp_every1w_ok N, trivial⟩
noncomputable def ixfw_c : Code := (Try.f77.body).getD .skip
noncomputable abbrev ixfw_B : Body := { c := ixfw_c, n := 19, res := [.tmp 4], outs := [⟨[.i .i64], [.segs [.fn 50 [] []]]⟩], m0 := 1 }
abbrev ixfw_rt : altD ixfw_B.outs → Option Int := fun r => some r.1.1
abbrev ixfw_l1_at : List PI := [.c [1, 0, 1, 0, 0, 0], .c [1, 0, 1, 0, 0, 1], .l [1, 0, 1, 0, 0], .b 0, .c [1, 1]]
abbrev ixfw_l1_st : Sta := ⟨[0, 1, 7, 8], ⟨[.sl (.pair (.int .i64) (.pair (.int .i64) .bool)), .fn 69 [] [.own 0 0], .i .i64, .i .i64], [.segs [.fn 50 [] []]]⟩⟩
abbrev ixfw_l1_h (rec : (List (Int × (Int × Bool))) → Int → Int → Option ((Int) ⊕ (Unit))) : Leaf ((Int) ⊕ (Unit)) := ⟨ixfw_l1_at, ixfw_l1_st, fun p => rec p.1.1 p.1.2.2.1 p.1.2.2.2.1⟩
abbrev ixfw_l1_e0 : Leaf ((Int) ⊕ (Unit)) := ⟨[.c [1, 0, 1, 0, 0, 1, 1, 0, 0, 1, 1, 0, 0], .c [1, 0, 1, 0, 0, 1, 1, 0, 0, 1, 1, 0, 1], .b 1, .c [1, 0, 1, 0, 0, 1, 1, 1], .l [1, 0, 1, 0, 0], .b 0, .c [1, 1]], ⟨[5], ⟨[.i .i64], [.segs [.fn 50 [] []]]⟩⟩, fun p => some (.inl p.1.1)⟩
abbrev ixfw_l1_e1 : Leaf ((Int) ⊕ (Unit)) := ⟨[.c [1, 1, 0], .c [1, 1, 1]], ⟨[], ⟨[], [.segs [.fn 50 [] []]]⟩⟩, fun p => some (.inr ())⟩
noncomputable def ixfw_l1_L (N : Nat) : LoopS := { at_ := ixfw_l1_at, sta := ixfw_l1_st, exits := [([.c [1, 0, 1, 0, 0, 1, 1, 0, 0, 1, 1, 0, 0], .c [1, 0, 1, 0, 0, 1, 1, 0, 0, 1, 1, 0, 1], .b 1, .c [1, 0, 1, 0, 0, 1, 1, 1], .l [1, 0, 1, 0, 0], .b 0, .c [1, 1]], ⟨[5], ⟨[.i .i64], [.segs [.fn 50 [] []]]⟩⟩), ([.c [1, 1, 0], .c [1, 1, 1]], ⟨[], ⟨[], [.segs [.fn 50 [] []]]⟩⟩)], run := fun p k => (ixfw_l1 N N p.1.1 p.1.2.2.1 p.1.2.2.2.1).bind fun e => match e with | .inl x => k (.inl ((x, ()), ((((), ()), ()), ()))) | .inr x => k (.inr (.inl ((), ((((), ()), ()), ())))) }
theorem ixfw_l1_eq (N n_ : Nat) (s : List (Int × (Int × Bool))) (u : Int) (u2 : Int) : ev (Z := (Int) ⊕ (Unit)) Try.prog (ixfw_sp N) ixfw_B [] [ixfw_l1_h (ixfw_l1 N n_), ixfw_l1_e0, ixfw_l1_e1] none 400 true ixfw_l1_at (stL ixfw_l1_st ((s, ((), ((), ())), u, u2, ()), ((((), ()), ()), ()))) (stH ixfw_l1_st ((s, ((), ((), ())), u, u2, ()), ((((), ()), ()), ()))) = ixfw_l1 N (n_ + 1) s u u2 := by kernel_rfl
theorem ixfw_l1_ok (N : Nat) {top : Bool} : LoopOK Try.prog ixfw_B.c ixfw_B.n ixfw_B.m0 top (ixfw_l1_L N) := loop_of_ev (Z := (Int) ⊕ (Unit)) (N := N) (fun m p => ixfw_l1 N m p.1.1 p.1.2.2.1 p.1.2.2.2.1) (fun e => match e with | .inl x => .inl ((x, ()), ((((), ()), ()), ())) | .inr x => .inr (.inl ((), ((((), ()), ()), ())))) (fun _ p k => bind_congr_ (ixfw_l1 N N p.1.1 p.1.2.2.1 p.1.2.2.2.1) _ _ (fun e => by rcases e with x | x <;> rfl)) (fun _ => rfl) (fun m z E Xc hE hX hrec hx => leaf_of_ev (B := ixfw_B) (loops := []) (leaves := [ixfw_l1_h (ixfw_l1 N m), ixfw_l1_e0, ixfw_l1_e1]) (ixfw_all N) mixed trivial hE hX ⟨hrec, (fun p hp => by obtain rfl := Option.some.inj hp; exact hx), (fun p hp => by obtain rfl := Option.some.inj hp; exact hx), trivial⟩ RetOK.no (fun p => ixfw_l1_eq N m p.1.1 p.1.2.2.1 p.1.2.2.2.1))
abbrev ixfw_st : Sta := ⟨[0, 1], ⟨[.sl (.pair (.int .i64) (.pair (.int .i64) .bool)), .fn 69 [] [.own 0 0]], [.segs [.fn 50 [] []]]⟩⟩
theorem ixfw_eq (N : Nat) (s : List (Int × (Int × Bool))) : ev (Z := Int) Try.prog (ixfw_sp N) ixfw_B [ixfw_l1_L N] [] (some ixfw_rt) 400 false [.c [0], .c [1]] (stL ixfw_st ((s, ((), ((), ())), ()), ((((), ()), ()), ()))) (stH ixfw_st ((s, ((), ((), ())), ()), ((((), ()), ()), ()))) = ixfw_S N s := by kernel_rfl
noncomputable def sp_ixfw (N : Nat) : Spec := { f := 77, ins := ⟨[.sl (.pair (.int .i64) (.pair (.int .i64) .bool)), .fn 69 [] [.own 0 0]], [.segs [.fn 50 [] []]]⟩, outs := [⟨[.i .i64], [.segs [.fn 50 [] []]]⟩], run := fun p k => (ixfw_S N p.1.1).bind fun r => k ((r, ()), ((((), ()), ()), ())) }
theorem sp_ixfw_ok (N : Nat) : SpecOK Try.prog (sp_ixfw N) := fn_sound (B := ixfw_B) (loops := [ixfw_l1_L N]) (leaves := []) (fun p => ixfw_S N p.1.1) (fun r => ((r, ()), ((((), ()), ()), ()))) ixfw_rt (fun _ _ _ => rfl) (fun r z h => by cases h; rfl) Try.func77 (by kernel_rfl) (by kernel_rfl) (by kernel_rfl) rfl rfl (by kernel_rfl) (fun args w => Sem.pv_run _ _ _ (by kernel_rfl) w) (ixfw_all N) mixed ⟨ixfw_l1_ok N, trivial⟩ (fun z E Xc hE hX hret => trivial) (fun p => ixfw_eq N p.1.1)

def cofw_S (N : Nat) (s : List (Int × (Int × Bool))) : Option Bool :=
  (ixfw_S N s).bind fun x_1 =>
  some (decide (0 ≤ x_1))
noncomputable def cofw_sp (N : Nat) : List Spec := [sp_ixfw N]
theorem cofw_all (N : Nat) : AllP (SpecOK Try.prog) (cofw_sp N) := ⟨sp_ixfw_ok N, trivial⟩
noncomputable def cofw_c : Code := (Try.f68.body).getD .skip
noncomputable abbrev cofw_B : Body := { c := cofw_c, n := 9, res := [.tmp 4], outs := [⟨[.b], [.segs [.fn 50 [] []]]⟩], m0 := 1 }
abbrev cofw_rt : altD cofw_B.outs → Option Bool := fun r => some r.1.1
abbrev cofw_st : Sta := ⟨[0, 1], ⟨[.sl (.pair (.int .i64) (.pair (.int .i64) .bool)), .fn 69 [] [.own 0 0]], [.segs [.fn 50 [] []]]⟩⟩
theorem cofw_eq (N : Nat) (s : List (Int × (Int × Bool))) : ev (Z := Bool) Try.prog (cofw_sp N) cofw_B [] [] (some cofw_rt) 400 false [.c [0], .c [1]] (stL cofw_st ((s, ((), ((), ())), ()), ((((), ()), ()), ()))) (stH cofw_st ((s, ((), ((), ())), ()), ((((), ()), ()), ()))) = cofw_S N s := by kernel_rfl
noncomputable def sp_cofw (N : Nat) : Spec := { f := 68, ins := ⟨[.sl (.pair (.int .i64) (.pair (.int .i64) .bool)), .fn 69 [] [.own 0 0]], [.segs [.fn 50 [] []]]⟩, outs := [⟨[.b], [.segs [.fn 50 [] []]]⟩], run := fun p k => (cofw_S N p.1.1).bind fun r => k ((r, ()), ((((), ()), ()), ())) }
theorem sp_cofw_ok (N : Nat) : SpecOK Try.prog (sp_cofw N) := fn_sound (B := cofw_B) (loops := []) (leaves := []) (fun p => cofw_S N p.1.1) (fun r => ((r, ()), ((((), ()), ()), ()))) cofw_rt (fun _ _ _ => rfl) (fun r z h => by cases h; rfl) Try.func68 (by kernel_rfl) (by kernel_rfl) (by kernel_rfl) rfl rfl (by kernel_rfl) (fun args w => Sem.pv_run _ _ _ (by kernel_rfl) w) (cofw_all N) mixed trivial (fun z E Xc hE hX hret => trivial) (fun p => cofw_eq N p.1.1)

def everyw_S (N : Nat) (l : List (Int × (Int × Bool))) : Option Bool :=
  (cofw_S N l).bind fun x_1 =>
  some (!x_1)
noncomputable def everyw_sp (N : Nat) : List Spec := [sp_cofw N]
theorem everyw_all (N : Nat) : AllP (SpecOK Try.prog) (everyw_sp N) := ⟨sp_cofw_ok N, trivial⟩
noncomputable def everyw_c : Code := (Try.f49.body).getD .skip
noncomputable abbrev everyw_B : Body := { c := everyw_c, n := 9, res := [.tmp 4], outs := [⟨[.b], []⟩], m0 := 0 }
abbrev everyw_rt : altD everyw_B.outs → Option Bool := fun r => some r.1.1
abbrev everyw_st : Sta := ⟨[0, 1], ⟨[.sl (.pair (.int .i64) (.pair (.int .i64) .bool)), .fn 50 [] []], []⟩⟩
theorem everyw_eq (N : Nat) (l : List (Int × (Int × Bool))) : ev (Z := Bool) Try.prog (everyw_sp N) everyw_B [] [] (some everyw_rt) 400 false [.c [0], .c [1]] (stL everyw_st ((l, ((), ()), ()), ())) (stH everyw_st ((l, ((), ()), ()), ())) = everyw_S N l := by kernel_rfl
noncomputable def sp_everyw (N : Nat) : Spec := { f := 49, ins := ⟨[.sl (.pair (.int .i64) (.pair (.int .i64) .bool)), .fn 50 [] []], []⟩, outs := [⟨[.b], []⟩], run := fun p k => (everyw_S N p.1.1).bind fun r => k ((r, ()), ()) }
theorem sp_everyw_ok (N : Nat) : SpecOK Try.prog (sp_everyw N) := fn_sound (B := everyw_B) (loops := []) (leaves := []) (fun p => everyw_S N p.1.1) (fun r => ((r, ()), ())) everyw_rt (fun _ _ _ => rfl) (fun r z h => by cases h; rfl) Try.func49 (by kernel_rfl) (by kernel_rfl) (by kernel_rfl) rfl rfl (by kernel_rfl) (fun args w => Sem.pv_run _ _ _ (by kernel_rfl) w) (everyw_all N) mixed trivial (fun z E Xc hE hX hret => trivial) (fun p => everyw_eq N p.1.1)

def every1t2_S (N : Nat) (x : Int) (x2 : Int) (x3 : Int) (g : ((List (Int × (Int × Bool))) × ((List (Int × (Int × Int))) × Int))) : Option (Bool × ((List (Int × (Int × Bool))) × ((List (Int × (Int × Int))) × Int))) :=
  (check2_S N x x2 x3 g).bind fun x_1 =>
  some ((!x_1), g)
noncomputable def every1t2_sp (N : Nat) : List Spec := [sp_check2 N]
theorem every1t2_all (N : Nat) : AllP (SpecOK Try.prog) (every1t2_sp N) := ⟨sp_check2_ok N, trivial⟩
noncomputable def every1t2_c : Code := (Try.f56.body).getD .skip
noncomputable abbrev every1t2_B : Body := { c := every1t2_c, n := 8, res := [.tmp 3], outs := [⟨[.b], [.segs [.fn 51 [] [.fe (.pair (.sl (.pair (.int .i64) (.pair (.int .i64) .bool))) (.pair (.sl (.pair (.int .i64) (.pair (.int .i64) (.int .i64)))) (.int .i64)))]]]⟩], m0 := 1 }
abbrev every1t2_rt : altD every1t2_B.outs → Option (Bool × ((List (Int × (Int × Bool))) × ((List (Int × (Int × Int))) × Int))) := fun r => some (r.1.1, r.2.1.1.2.1)
abbrev every1t2_st : Sta := ⟨[0, 1], ⟨[.agg [.i .i64, .i .i64, .i .i64], .own 0 0], [.segs [.fn 51 [] [.fe (.pair (.sl (.pair (.int .i64) (.pair (.int .i64) .bool))) (.pair (.sl (.pair (.int .i64) (.pair (.int .i64) (.int .i64)))) (.int .i64)))]]]⟩⟩
theorem every1t2_eq (N : Nat) (x : Int) (x2 : Int) (x3 : Int) (g : ((List (Int × (Int × Bool))) × ((List (Int × (Int × Int))) × Int))) : ev (Z := Bool × ((List (Int × (Int × Bool))) × ((List (Int × (Int × Int))) × Int))) Try.prog (every1t2_sp N) every1t2_B [] [] (some every1t2_rt) 400 false [.c [0], .c [1]] (stL every1t2_st (((x, x2, x3, ()), (), ()), ((((), (g, ())), ()), ()))) (stH every1t2_st (((x, x2, x3, ()), (), ()), ((((), (g, ())), ()), ()))) = every1t2_S N x x2 x3 g := by kernel_rfl
noncomputable def sp_every1t2 (N : Nat) : Spec := { f := 56, ins := ⟨[.agg [.i .i64, .i .i64, .i .i64], .own 0 0], [.segs [.fn 51 [] [.fe (.pair (.sl (.pair (.int .i64) (.pair (.int .i64) .bool))) (.pair (.sl (.pair (.int .i64) (.pair (.int .i64) (.int .i64)))) (.int .i64)))]]]⟩, outs := [⟨[.b], [.segs [.fn 51 [] [.fe (.pair (.sl (.pair (.int .i64) (.pair (.int .i64) .bool))) (.pair (.sl (.pair (.int .i64) (.pair (.int .i64) (.int .i64)))) (.int .i64)))]]]⟩], run := fun p k => (every1t2_S N p.1.1.1 p.1.1.2.1 p.1.1.2.2.1 p.2.1.1.2.1).bind fun r => k ((r.1, ()), ((((), (r.2, ())), ()), ())) }
theorem sp_every1t2_ok (N : Nat) : SpecOK Try.prog (sp_every1t2 N) := fn_sound (B := every1t2_B) (loops := []) (leaves := []) (fun p => every1t2_S N p.1.1.1 p.1.1.2.1 p.1.1.2.2.1 p.2.1.1.2.1) (fun r => ((r.1, ()), ((((), (r.2, ())), ()), ()))) every1t2_rt (fun _ _ _ => rfl) (fun r z h => by cases h; rfl) Try.func56 (by kernel_rfl) (by kernel_rfl) (by kernel_rfl) rfl rfl (by kernel_rfl) (fun args w => Sem.pv_run _ _ _ (by kernel_rfl) w) (every1t2_all N) mixed trivial (fun z E Xc hE hX hret => trivial) (fun p => every1t2_eq N p.1.1.1 p.1.1.2.1 p.1.1.2.2.1 p.2.1.1.2.1)

def ixft2_l1 (N : Nat) : Nat → (List (Int × (Int × Int))) → Int → Int → (((List (Int × (Int × Bool))) × ((List (Int × (Int × Int))) × Int))) → Option ((Int × ((List (Int × (Int × Bool))) × ((List (Int × (Int × Int))) × Int))) ⊕ (((List (Int × (Int × Bool))) × ((List (Int × (Int × Int))) × Int))))
  | 0, _, _, _, _ => none
  | n_ + 1, s, u, u2, f =>
    br (decide (u2 < u))
      (idx s u2 fun x_1 =>
      (every1t2_S N x_1.1 x_1.2.1 x_1.2.2 f).bind fun (x_2, y_3) =>
      br x_2
        (some (.inl (u2, y_3)))
        (chk (u2 + 1) <|
        ixft2_l1 N n_ s u (u2 + 1) y_3))
      (some (.inr f))
def ixft2_S (N : Nat) (s : List (Int × (Int × Int))) (f : ((List (Int × (Int × Bool))) × ((List (Int × (Int × Int))) × Int))) : Option (Int × ((List (Int × (Int × Bool))) × ((List (Int × (Int × Int))) × Int))) :=
  (ixft2_l1 N N s (s.length : Int) 0 f).bind fun e => match e with
  | .inl (i_4, g_5) =>
    some (i_4, g_5)
  | .inr g_6 =>
    some (-1, g_6)
noncomputable def ixft2_sp (N : Nat) : List Spec := [sp_every1t2 N]
theorem ixft2_all (N : Nat) : AllP (SpecOK Try.prog) (ixft2_sp N) := ⟨sp_every1t2_ok N, trivial⟩
noncomputable def ixft2_c : Code := (Try.f70.body).getD .skip
noncomputable abbrev ixft2_B : Body := { c := ixft2_c, n := 19, res := [.tmp 4], outs := [⟨[.i .i64], [.segs [.fn 51 [] [.fe (.pair (.sl (.pair (.int .i64) (.pair (.int .i64) .bool))) (.pair (.sl (.pair (.int .i64) (.pair (.int .i64) (.int .i64)))) (.int .i64)))]]]⟩], m0 := 1 }
abbrev ixft2_rt : altD ixft2_B.outs → Option (Int × ((List (Int × (Int × Bool))) × ((List (Int × (Int × Int))) × Int))) := fun r => some (r.1.1, r.2.1.1.2.1)
abbrev ixft2_l1_at : List PI := [.c [1, 0, 1, 0, 0, 0], .c [1, 0, 1, 0, 0, 1], .l [1, 0, 1, 0, 0], .b 0, .c [1, 1]]
abbrev ixft2_l1_st : Sta := ⟨[0, 1, 7, 8], ⟨[.sl (.pair (.int .i64) (.pair (.int .i64) (.int .i64))), .fn 56 [] [.own 0 0], .i .i64, .i .i64], [.segs [.fn 51 [] [.fe (.pair (.sl (.pair (.int .i64) (.pair (.int .i64) .bool))) (.pair (.sl (.pair (.int .i64) (.pair (.int .i64) (.int .i64)))) (.int .i64)))]]]⟩⟩
abbrev ixft2_l1_h (rec : (List (Int × (Int × Int))) → Int → Int → (((List (Int × (Int × Bool))) × ((List (Int × (Int × Int))) × Int))) → Option ((Int × ((List (Int × (Int × Bool))) × ((List (Int × (Int × Int))) × Int))) ⊕ (((List (Int × (Int × Bool))) × ((List (Int × (Int × Int))) × Int))))) : Leaf ((Int × ((List (Int × (Int × Bool))) × ((List (Int × (Int × Int))) × Int))) ⊕ (((List (Int × (Int × Bool))) × ((List (Int × (Int × Int))) × Int)))) := ⟨ixft2_l1_at, ixft2_l1_st, fun p => rec p.1.1 p.1.2.2.1 p.1.2.2.2.1 p.2.1.1.2.1⟩
abbrev ixft2_l1_e0 : Leaf ((Int × ((List (Int × (Int × Bool))) × ((List (Int × (Int × Int))) × Int))) ⊕ (((List (Int × (Int × Bool))) × ((List (Int × (Int × Int))) × Int)))) := ⟨[.c [1, 0, 1, 0, 0, 1, 1, 0, 0, 1, 1, 0, 0], .c [1, 0, 1, 0, 0, 1, 1, 0, 0, 1, 1, 0, 1], .b 1, .c [1, 0, 1, 0, 0, 1, 1, 1], .l [1, 0, 1, 0, 0], .b 0, .c [1, 1]], ⟨[5], ⟨[.i .i64], [.segs [.fn 51 [] [.fe (.pair (.sl (.pair (.int .i64) (.pair (.int .i64) .bool))) (.pair (.sl (.pair (.int .i64) (.pair (.int .i64) (.int .i64)))) (.int .i64)))]]]⟩⟩, fun p => some (.inl (p.1.1, p.2.1.1.2.1))⟩
abbrev ixft2_l1_e1 : Leaf ((Int × ((List (Int × (Int × Bool))) × ((List (Int × (Int × Int))) × Int))) ⊕ (((List (Int × (Int × Bool))) × ((List (Int × (Int × Int))) × Int)))) := ⟨[.c [1, 1, 0], .c [1, 1, 1]], ⟨[], ⟨[], [.segs [.fn 51 [] [.fe (.pair (.sl (.pair (.int .i64) (.pair (.int .i64) .bool))) (.pair (.sl (.pair (.int .i64) (.pair (.int .i64) (.int .i64)))) (.int .i64)))]]]⟩⟩, fun p => some (.inr p.2.1.1.2.1)⟩
noncomputable def ixft2_l1_L (N : Nat) : LoopS := { at_ := ixft2_l1_at, sta := ixft2_l1_st, exits := [([.c [1, 0, 1, 0, 0, 1, 1, 0, 0, 1, 1, 0, 0], .c [1, 0, 1, 0, 0, 1, 1, 0, 0, 1, 1, 0, 1], .b 1, .c [1, 0, 1, 0, 0, 1, 1, 1], .l [1, 0, 1, 0, 0], .b 0, .c [1, 1]], ⟨[5], ⟨[.i .i64], [.segs [.fn 51 [] [.fe (.pair (.sl (.pair (.int .i64) (.pair (.int .i64) .bool))) (.pair (.sl (.pair (.int .i64) (.pair (.int .i64) (.int .i64)))) (.int .i64)))]]]⟩⟩), ([.c [1, 1, 0], .c [1, 1, 1]], ⟨[], ⟨[], [.segs [.fn 51 [] [.fe (.pair (.sl (.pair (.int .i64) (.pair (.int .i64) .bool))) (.pair (.sl (.pair (.int .i64) (.pair (.int .i64) (.int .i64)))) (.int .i64)))]]]⟩⟩)], run := fun p k => (ixft2_l1 N N p.1.1 p.1.2.2.1 p.1.2.2.2.1 p.2.1.1.2.1).bind fun e => match e with | .inl x => k (.inl ((x.1, ()), ((((), (x.2, ())), ()), ()))) | .inr x => k (.inr (.inl ((), ((((), (x, ())), ()), ())))) }
theorem ixft2_l1_eq (N n_ : Nat) (s : List (Int × (Int × Int))) (u : Int) (u2 : Int) (f : ((List (Int × (Int × Bool))) × ((List (Int × (Int × Int))) × Int))) : ev (Z := (Int × ((List (Int × (Int × Bool))) × ((List (Int × (Int × Int))) × Int))) ⊕ (((List (Int × (Int × Bool))) × ((List (Int × (Int × Int))) × Int)))) Try.prog (ixft2_sp N) ixft2_B [] [ixft2_l1_h (ixft2_l1 N n_), ixft2_l1_e0, ixft2_l1_e1] none 400 true ixft2_l1_at (stL ixft2_l1_st ((s, ((), ((), ())), u, u2, ()), ((((), (f, ())), ()), ()))) (stH ixft2_l1_st ((s, ((), ((), ())), u, u2, ()), ((((), (f, ())), ()), ()))) = ixft2_l1 N (n_ + 1) s u u2 f := by kernel_rfl
theorem ixft2_l1_ok (N : Nat) {top : Bool} : LoopOK Try.prog ixft2_B.c ixft2_B.n ixft2_B.m0 top (ixft2_l1_L N) := loop_of_ev (Z := (Int × ((List (Int × (Int × Bool))) × ((List (Int × (Int × Int))) × Int))) ⊕ (((List (Int × (Int × Bool))) × ((List (Int × (Int × Int))) × Int)))) (N := N) (fun m p => ixft2_l1 N m p.1.1 p.1.2.2.1 p.1.2.2.2.1 p.2.1.1.2.1) (fun e => match e with | .inl x => .inl ((x.1, ()), ((((), (x.2, ())), ()), ())) | .inr x => .inr (.inl ((), ((((), (x, ())), ()), ())))) (fun _ p k => bind_congr_ (ixft2_l1 N N p.1.1 p.1.2.2.1 p.1.2.2.2.1 p.2.1.1.2.1) _ _ (fun e => by rcases e with x | x <;> rfl)) (fun _ => rfl) (fun m z E Xc hE hX hrec hx => leaf_of_ev (B := ixft2_B) (loops := []) (leaves := [ixft2_l1_h (ixft2_l1 N m), ixft2_l1_e0, ixft2_l1_e1]) (ixft2_all N) mixed trivial hE hX ⟨hrec, (fun p hp => by obtain rfl := Option.some.inj hp; exact hx), (fun p hp => by obtain rfl := Option.some.inj hp; exact hx), trivial⟩ RetOK.no (fun p => ixft2_l1_eq N m p.1.1 p.1.2.2.1 p.1.2.2.2.1 p.2.1.1.2.1))
abbrev ixft2_st : Sta := ⟨[0, 1], ⟨[.sl (.pair (.int .i64) (.pair (.int .i64) (.int .i64))), .fn 56 [] [.own 0 0]], [.segs [.fn 51 [] [.fe (.pair (.sl (.pair (.int .i64) (.pair (.int .i64) .bool))) (.pair (.sl (.pair (.int .i64) (.pair (.int .i64) (.int .i64)))) (.int .i64)))]]]⟩⟩
theorem ixft2_eq (N : Nat) (s : List (Int × (Int × Int))) (f : ((List (Int × (Int × Bool))) × ((List (Int × (Int × Int))) × Int))) : ev (Z := Int × ((List (Int × (Int × Bool))) × ((List (Int × (Int × Int))) × Int))) Try.prog (ixft2_sp N) ixft2_B [ixft2_l1_L N] [] (some ixft2_rt) 400 false [.c [0], .c [1]] (stL ixft2_st ((s, ((), ((), ())), ()), ((((), (f, ())), ()), ()))) (stH ixft2_st ((s, ((), ((), ())), ()), ((((), (f, ())), ()), ()))) = ixft2_S N s f := by kernel_rfl
noncomputable def sp_ixft2 (N : Nat) : Spec := { f := 70, ins := ⟨[.sl (.pair (.int .i64) (.pair (.int .i64) (.int .i64))), .fn 56 [] [.own 0 0]], [.segs [.fn 51 [] [.fe (.pair (.sl (.pair (.int .i64) (.pair (.int .i64) .bool))) (.pair (.sl (.pair (.int .i64) (.pair (.int .i64) (.int .i64)))) (.int .i64)))]]]⟩, outs := [⟨[.i .i64], [.segs [.fn 51 [] [.fe (.pair (.sl (.pair (.int .i64) (.pair (.int .i64) .bool))) (.pair (.sl (.pair (.int .i64) (.pair (.int .i64) (.int .i64)))) (.int .i64)))]]]⟩], run := fun p k => (ixft2_S N p.1.1 p.2.1.1.2.1).bind fun r => k ((r.1, ()), ((((), (r.2, ())), ()), ())) }
theorem sp_ixft2_ok (N : Nat) : SpecOK Try.prog (sp_ixft2 N) := fn_sound (B := ixft2_B) (loops := [ixft2_l1_L N]) (leaves := []) (fun p => ixft2_S N p.1.1 p.2.1.1.2.1) (fun r => ((r.1, ()), ((((), (r.2, ())), ()), ()))) ixft2_rt (fun _ _ _ => rfl) (fun r z h => by cases h; rfl) Try.func70 (by kernel_rfl) (by kernel_rfl) (by kernel_rfl) rfl rfl (by kernel_rfl) (fun args w => Sem.pv_run _ _ _ (by kernel_rfl) w) (ixft2_all N) mixed ⟨ixft2_l1_ok N, trivial⟩ (fun z E Xc hE hX hret => trivial) (fun p => ixft2_eq N p.1.1 p.2.1.1.2.1)

def coft2_S (N : Nat) (s : List (Int × (Int × Int))) (f : ((List (Int × (Int × Bool))) × ((List (Int × (Int × Int))) × Int))) : Option (Bool × ((List (Int × (Int × Bool))) × ((List (Int × (Int × Int))) × Int))) :=
  (ixft2_S N s f).bind fun (x_1, y_2) =>
  some ((decide (0 ≤ x_1)), y_2)
noncomputable def coft2_sp (N : Nat) : List Spec := [sp_ixft2 N]
theorem coft2_all (N : Nat) : AllP (SpecOK Try.prog) (coft2_sp N) := ⟨sp_ixft2_ok N, trivial⟩
noncomputable def coft2_c : Code := (Try.f55.body).getD .skip
noncomputable abbrev coft2_B : Body := { c := coft2_c, n := 9, res := [.tmp 4], outs := [⟨[.b], [.segs [.fn 51 [] [.fe (.pair (.sl (.pair (.int .i64) (.pair (.int .i64) .bool))) (.pair (.sl (.pair (.int .i64) (.pair (.int .i64) (.int .i64)))) (.int .i64)))]]]⟩], m0 := 1 }
abbrev coft2_rt : altD coft2_B.outs → Option (Bool × ((List (Int × (Int × Bool))) × ((List (Int × (Int × Int))) × Int))) := fun r => some (r.1.1, r.2.1.1.2.1)
abbrev coft2_st : Sta := ⟨[0, 1], ⟨[.sl (.pair (.int .i64) (.pair (.int .i64) (.int .i64))), .fn 56 [] [.own 0 0]], [.segs [.fn 51 [] [.fe (.pair (.sl (.pair (.int .i64) (.pair (.int .i64) .bool))) (.pair (.sl (.pair (.int .i64) (.pair (.int .i64) (.int .i64)))) (.int .i64)))]]]⟩⟩
theorem coft2_eq (N : Nat) (s : List (Int × (Int × Int))) (f : ((List (Int × (Int × Bool))) × ((List (Int × (Int × Int))) × Int))) : ev (Z := Bool × ((List (Int × (Int × Bool))) × ((List (Int × (Int × Int))) × Int))) Try.prog (coft2_sp N) coft2_B [] [] (some coft2_rt) 400 false [.c [0], .c [1]] (stL coft2_st ((s, ((), ((), ())), ()), ((((), (f, ())), ()), ()))) (stH coft2_st ((s, ((), ((), ())), ()), ((((), (f, ())), ()), ()))) = coft2_S N s f := by kernel_rfl
noncomputable def sp_coft2 (N : Nat) : Spec := { f := 55, ins := ⟨[.sl (.pair (.int .i64) (.pair (.int .i64) (.int .i64))), .fn 56 [] [.own 0 0]], [.segs [.fn 51 [] [.fe (.pair (.sl (.pair (.int .i64) (.pair (.int .i64) .bool))) (.pair (.sl (.pair (.int .i64) (.pair (.int .i64) (.int .i64)))) (.int .i64)))]]]⟩, outs := [⟨[.b], [.segs [.fn 51 [] [.fe (.pair (.sl (.pair (.int .i64) (.pair (.int .i64) .bool))) (.pair (.sl (.pair (.int .i64) (.pair (.int .i64) (.int .i64)))) (.int .i64)))]]]⟩], run := fun p k => (coft2_S N p.1.1 p.2.1.1.2.1).bind fun r => k ((r.1, ()), ((((), (r.2, ())), ()), ())) }
theorem sp_coft2_ok (N : Nat) : SpecOK Try.prog (sp_coft2 N) := fn_sound (B := coft2_B) (loops := []) (leaves := []) (fun p => coft2_S N p.1.1 p.2.1.1.2.1) (fun r => ((r.1, ()), ((((), (r.2, ())), ()), ()))) coft2_rt (fun _ _ _ => rfl) (fun r z h => by cases h; rfl) Try.func55 (by kernel_rfl) (by kernel_rfl) (by kernel_rfl) rfl rfl (by kernel_rfl) (fun args w => Sem.pv_run _ _ _ (by kernel_rfl) w) (coft2_all N) mixed trivial (fun z E Xc hE hX hret => trivial) (fun p => coft2_eq N p.1.1 p.2.1.1.2.1)

def everyt2_S (N : Nat) (l : List (Int × (Int × Int))) (holds : ((List (Int × (Int × Bool))) × ((List (Int × (Int × Int))) × Int))) : Option Bool :=
  (coft2_S N l holds).bind fun (x_1, y_2) =>
  some (!x_1)
noncomputable def everyt2_sp (N : Nat) : List Spec := [sp_coft2 N]
theorem everyt2_all (N : Nat) : AllP (SpecOK Try.prog) (everyt2_sp N) := ⟨sp_coft2_ok N, trivial⟩
noncomputable def everyt2_c : Code := (Try.f37.body).getD .skip
noncomputable abbrev everyt2_B : Body := { c := everyt2_c, n := 9, res := [.tmp 4], outs := [⟨[.b], []⟩], m0 := 0 }
abbrev everyt2_rt : altD everyt2_B.outs → Option Bool := fun r => some r.1.1
abbrev everyt2_st : Sta := ⟨[0, 1], ⟨[.sl (.pair (.int .i64) (.pair (.int .i64) (.int .i64))), .fn 51 [] [.fe (.pair (.sl (.pair (.int .i64) (.pair (.int .i64) .bool))) (.pair (.sl (.pair (.int .i64) (.pair (.int .i64) (.int .i64)))) (.int .i64)))]], []⟩⟩
theorem everyt2_eq (N : Nat) (l : List (Int × (Int × Int))) (holds : ((List (Int × (Int × Bool))) × ((List (Int × (Int × Int))) × Int))) : ev (Z := Bool) Try.prog (everyt2_sp N) everyt2_B [] [] (some everyt2_rt) 400 false [.c [0], .c [1]] (stL everyt2_st ((l, ((), (holds, ())), ()), ())) (stH everyt2_st ((l, ((), (holds, ())), ()), ())) = everyt2_S N l holds := by kernel_rfl
noncomputable def sp_everyt2 (N : Nat) : Spec := { f := 37, ins := ⟨[.sl (.pair (.int .i64) (.pair (.int .i64) (.int .i64))), .fn 51 [] [.fe (.pair (.sl (.pair (.int .i64) (.pair (.int .i64) .bool))) (.pair (.sl (.pair (.int .i64) (.pair (.int .i64) (.int .i64)))) (.int .i64)))]], []⟩, outs := [⟨[.b], []⟩], run := fun p k => (everyt2_S N p.1.1 p.1.2.1.2.1).bind fun r => k ((r, ()), ()) }
theorem sp_everyt2_ok (N : Nat) : SpecOK Try.prog (sp_everyt2 N) := fn_sound (B := everyt2_B) (loops := []) (leaves := []) (fun p => everyt2_S N p.1.1 p.1.2.1.2.1) (fun r => ((r, ()), ())) everyt2_rt (fun _ _ _ => rfl) (fun r z h => by cases h; rfl) Try.func37 (by kernel_rfl) (by kernel_rfl) (by kernel_rfl) rfl rfl (by kernel_rfl) (fun args w => Sem.pv_run _ _ _ (by kernel_rfl) w) (everyt2_all N) mixed trivial (fun z E Xc hE hX hret => trivial) (fun p => everyt2_eq N p.1.1 p.1.2.1.2.1)

def every1t3_S (N : Nat) (x : Int) (x2 : Int) (x3 : Int) : Option Bool :=
  (check3_S N x x2 x3).bind fun x_1 =>
  some (!x_1)
noncomputable def every1t3_sp (N : Nat) : List Spec := [sp_check3 N]
theorem every1t3_all (N : Nat) : AllP (SpecOK Try.prog) (every1t3_sp N) := ⟨sp_check3_ok N, trivial⟩
noncomputable def every1t3_c : Code := (Try.f56.body).getD .skip
noncomputable abbrev every1t3_B : Body := { c := every1t3_c, n := 8, res := [.tmp 3], outs := [⟨[.b], [.segs [.fn 53 [] []]]⟩], m0 := 1 }
abbrev every1t3_rt : altD every1t3_B.outs → Option Bool := fun r => some r.1.1
abbrev every1t3_st : Sta := ⟨[0, 1], ⟨[.agg [.i .i64, .i .i64, .i .i64], .own 0 0], [.segs [.fn 53 [] []]]⟩⟩
theorem every1t3_eq (N : Nat) (x : Int) (x2 : Int) (x3 : Int) : ev (Z := Bool) Try.prog (every1t3_sp N) every1t3_B [] [] (some every1t3_rt) 400 false [.c [0], .c [1]] (stL every1t3_st (((x, x2, x3, ()), (), ()), ((((), ()), ()), ()))) (stH every1t3_st (((x, x2, x3, ()), (), ()), ((((), ()), ()), ()))) = every1t3_S N x x2 x3 := by kernel_rfl
noncomputable def sp_every1t3 (N : Nat) : Spec := { f := 56, ins := ⟨[.agg [.i .i64, .i .i64, .i .i64], .own 0 0], [.segs [.fn 53 [] []]]⟩, outs := [⟨[.b], [.segs [.fn 53 [] []]]⟩], run := fun p k => (every1t3_S N p.1.1.1 p.1.1.2.1 p.1.1.2.2.1).bind fun r => k ((r, ()), ((((), ()), ()), ())) }
theorem sp_every1t3_ok (N : Nat) : SpecOK Try.prog (sp_every1t3 N) := fn_sound (B := every1t3_B) (loops := []) (leaves := []) (fun p => every1t3_S N p.1.1.1 p.1.1.2.1 p.1.1.2.2.1) (fun r => ((r, ()), ((((), ()), ()), ()))) every1t3_rt (fun _ _ _ => rfl) (fun r z h => by cases h; rfl) Try.func56 (by kernel_rfl) (by kernel_rfl) (by kernel_rfl) rfl rfl (by kernel_rfl) (fun args w => Sem.pv_run _ _ _ (by kernel_rfl) w) (every1t3_all N) mixed trivial (fun z E Xc hE hX hret => trivial) (fun p => every1t3_eq N p.1.1.1 p.1.1.2.1 p.1.1.2.2.1)

def ixft3_l1 (N : Nat) : Nat → (List (Int × (Int × Int))) → Int → Int → Option ((Int) ⊕ (Unit))
  | 0, _, _, _ => none
  | n_ + 1, s, u, u2 =>
    br (decide (u2 < u))
      (idx s u2 fun x_1 =>
      (every1t3_S N x_1.1 x_1.2.1 x_1.2.2).bind fun x_2 =>
      br x_2
        (some (.inl u2))
        (chk (u2 + 1) <|
        ixft3_l1 N n_ s u (u2 + 1)))
      (some (.inr ()))
def ixft3_S (N : Nat) (s : List (Int × (Int × Int))) : Option Int :=
  (ixft3_l1 N N s (s.length : Int) 0).bind fun e => match e with
  | .inl i_3 =>
    some i_3
  | .inr _ =>
    some (-1)
noncomputable def ixft3_sp (N : Nat) : List Spec := [sp_every1t3 N]
theorem ixft3_all (N : Nat) : AllP (SpecOK Try.prog) (ixft3_sp N) := ⟨sp_every1t3_ok N, trivial⟩
noncomputable def ixft3_c : Code := (Try.f70.body).getD .skip
noncomputable abbrev ixft3_B : Body := { c := ixft3_c, n := 19, res := [.tmp 4], outs := [⟨[.i .i64], [.segs [.fn 53 [] []]]⟩], m0 := 1 }
abbrev ixft3_rt : altD ixft3_B.outs → Option Int := fun r => some r.1.1
abbrev ixft3_l1_at : List PI := [.c [1, 0, 1, 0, 0, 0], .c [1, 0, 1, 0, 0, 1], .l [1, 0, 1, 0, 0], .b 0, .c [1, 1]]
abbrev ixft3_l1_st : Sta := ⟨[0, 1, 7, 8], ⟨[.sl (.pair (.int .i64) (.pair (.int .i64) (.int .i64))), .fn 56 [] [.own 0 0], .i .i64, .i .i64], [.segs [.fn 53 [] []]]⟩⟩
abbrev ixft3_l1_h (rec : (List (Int × (Int × Int))) → Int → Int → Option ((Int) ⊕ (Unit))) : Leaf ((Int) ⊕ (Unit)) := ⟨ixft3_l1_at, ixft3_l1_st, fun p => rec p.1.1 p.1.2.2.1 p.1.2.2.2.1⟩
abbrev ixft3_l1_e0 : Leaf ((Int) ⊕ (Unit)) := ⟨[.c [1, 0, 1, 0, 0, 1, 1, 0, 0, 1, 1, 0, 0], .c [1, 0, 1, 0, 0, 1, 1, 0, 0, 1, 1, 0, 1], .b 1, .c [1, 0, 1, 0, 0, 1, 1, 1], .l [1, 0, 1, 0, 0], .b 0, .c [1, 1]], ⟨[5], ⟨[.i .i64], [.segs [.fn 53 [] []]]⟩⟩, fun p => some (.inl p.1.1)⟩
abbrev ixft3_l1_e1 : Leaf ((Int) ⊕ (Unit)) := ⟨[.c [1, 1, 0], .c [1, 1, 1]], ⟨[], ⟨[], [.segs [.fn 53 [] []]]⟩⟩, fun p => some (.inr ())⟩
noncomputable def ixft3_l1_L (N : Nat) : LoopS := { at_ := ixft3_l1_at, sta := ixft3_l1_st, exits := [([.c [1, 0, 1, 0, 0, 1, 1, 0, 0, 1, 1, 0, 0], .c [1, 0, 1, 0, 0, 1, 1, 0, 0, 1, 1, 0, 1], .b 1, .c [1, 0, 1, 0, 0, 1, 1, 1], .l [1, 0, 1, 0, 0], .b 0, .c [1, 1]], ⟨[5], ⟨[.i .i64], [.segs [.fn 53 [] []]]⟩⟩), ([.c [1, 1, 0], .c [1, 1, 1]], ⟨[], ⟨[], [.segs [.fn 53 [] []]]⟩⟩)], run := fun p k => (ixft3_l1 N N p.1.1 p.1.2.2.1 p.1.2.2.2.1).bind fun e => match e with | .inl x => k (.inl ((x, ()), ((((), ()), ()), ()))) | .inr x => k (.inr (.inl ((), ((((), ()), ()), ())))) }
theorem ixft3_l1_eq (N n_ : Nat) (s : List (Int × (Int × Int))) (u : Int) (u2 : Int) : ev (Z := (Int) ⊕ (Unit)) Try.prog (ixft3_sp N) ixft3_B [] [ixft3_l1_h (ixft3_l1 N n_), ixft3_l1_e0, ixft3_l1_e1] none 400 true ixft3_l1_at (stL ixft3_l1_st ((s, ((), ((), ())), u, u2, ()), ((((), ()), ()), ()))) (stH ixft3_l1_st ((s, ((), ((), ())), u, u2, ()), ((((), ()), ()), ()))) = ixft3_l1 N (n_ + 1) s u u2 := by kernel_rfl
theorem ixft3_l1_ok (N : Nat) {top : Bool} : LoopOK Try.prog ixft3_B.c ixft3_B.n ixft3_B.m0 top (ixft3_l1_L N) := loop_of_ev (Z := (Int) ⊕ (Unit)) (N := N) (fun m p => ixft3_l1 N m p.1.1 p.1.2.2.1 p.1.2.2.2.1) (fun e => match e with | .inl x => .inl ((x, ()), ((((), ()), ()), ())) | .inr x => .inr (.inl ((), ((((), ()), ()), ())))) (fun _ p k => bind_congr_ (ixft3_l1 N N p.1.1 p.1.2.2.1 p.1.2.2.2.1) _ _ (fun e => by rcases e with x | x <;> rfl)) (fun _ => rfl) (fun m z E Xc hE hX hrec hx => leaf_of_ev (B := ixft3_B) (loops := []) (leaves := [ixft3_l1_h (ixft3_l1 N m), ixft3_l1_e0, ixft3_l1_e1]) (ixft3_all N) mixed trivial hE hX ⟨hrec, (fun p hp => by obtain rfl := Option.some.inj hp; exact hx), (fun p hp => by obtain rfl := Option.some.inj hp; exact hx), trivial⟩ RetOK.no (fun p => ixft3_l1_eq N m p.1.1 p.1.2.2.1 p.1.2.2.2.1))
abbrev ixft3_st : Sta := ⟨[0, 1], ⟨[.sl (.pair (.int .i64) (.pair (.int .i64) (.int .i64))), .fn 56 [] [.own 0 0]], [.segs [.fn 53 [] []]]⟩⟩
theorem ixft3_eq (N : Nat) (s : List (Int × (Int × Int))) : ev (Z := Int) Try.prog (ixft3_sp N) ixft3_B [ixft3_l1_L N] [] (some ixft3_rt) 400 false [.c [0], .c [1]] (stL ixft3_st ((s, ((), ((), ())), ()), ((((), ()), ()), ()))) (stH ixft3_st ((s, ((), ((), ())), ()), ((((), ()), ()), ()))) = ixft3_S N s := by kernel_rfl
noncomputable def sp_ixft3 (N : Nat) : Spec := { f := 70, ins := ⟨[.sl (.pair (.int .i64) (.pair (.int .i64) (.int .i64))), .fn 56 [] [.own 0 0]], [.segs [.fn 53 [] []]]⟩, outs := [⟨[.i .i64], [.segs [.fn 53 [] []]]⟩], run := fun p k => (ixft3_S N p.1.1).bind fun r => k ((r, ()), ((((), ()), ()), ())) }
theorem sp_ixft3_ok (N : Nat) : SpecOK Try.prog (sp_ixft3 N) := fn_sound (B := ixft3_B) (loops := [ixft3_l1_L N]) (leaves := []) (fun p => ixft3_S N p.1.1) (fun r => ((r, ()), ((((), ()), ()), ()))) ixft3_rt (fun _ _ _ => rfl) (fun r z h => by cases h; rfl) Try.func70 (by kernel_rfl) (by kernel_rfl) (by kernel_rfl) rfl rfl (by kernel_rfl) (fun args w => Sem.pv_run _ _ _ (by kernel_rfl) w) (ixft3_all N) mixed ⟨ixft3_l1_ok N, trivial⟩ (fun z E Xc hE hX hret => trivial) (fun p => ixft3_eq N p.1.1)

def coft3_S (N : Nat) (s : List (Int × (Int × Int))) : Option Bool :=
  (ixft3_S N s).bind fun x_1 =>
  some (decide (0 ≤ x_1))
noncomputable def coft3_sp (N : Nat) : List Spec := [sp_ixft3 N]
theorem coft3_all (N : Nat) : AllP (SpecOK Try.prog) (coft3_sp N) := ⟨sp_ixft3_ok N, trivial⟩
noncomputable def coft3_c : Code := (Try.f55.body).getD .skip
noncomputable abbrev coft3_B : Body := { c := coft3_c, n := 9, res := [.tmp 4], outs := [⟨[.b], [.segs [.fn 53 [] []]]⟩], m0 := 1 }
abbrev coft3_rt : altD coft3_B.outs → Option Bool := fun r => some r.1.1
abbrev coft3_st : Sta := ⟨[0, 1], ⟨[.sl (.pair (.int .i64) (.pair (.int .i64) (.int .i64))), .fn 56 [] [.own 0 0]], [.segs [.fn 53 [] []]]⟩⟩
theorem coft3_eq (N : Nat) (s : List (Int × (Int × Int))) : ev (Z := Bool) Try.prog (coft3_sp N) coft3_B [] [] (some coft3_rt) 400 false [.c [0], .c [1]] (stL coft3_st ((s, ((), ((), ())), ()), ((((), ()), ()), ()))) (stH coft3_st ((s, ((), ((), ())), ()), ((((), ()), ()), ()))) = coft3_S N s := by kernel_rfl
noncomputable def sp_coft3 (N : Nat) : Spec := { f := 55, ins := ⟨[.sl (.pair (.int .i64) (.pair (.int .i64) (.int .i64))), .fn 56 [] [.own 0 0]], [.segs [.fn 53 [] []]]⟩, outs := [⟨[.b], [.segs [.fn 53 [] []]]⟩], run := fun p k => (coft3_S N p.1.1).bind fun r => k ((r, ()), ((((), ()), ()), ())) }
theorem sp_coft3_ok (N : Nat) : SpecOK Try.prog (sp_coft3 N) := fn_sound (B := coft3_B) (loops := []) (leaves := []) (fun p => coft3_S N p.1.1) (fun r => ((r, ()), ((((), ()), ()), ()))) coft3_rt (fun _ _ _ => rfl) (fun r z h => by cases h; rfl) Try.func55 (by kernel_rfl) (by kernel_rfl) (by kernel_rfl) rfl rfl (by kernel_rfl) (fun args w => Sem.pv_run _ _ _ (by kernel_rfl) w) (coft3_all N) mixed trivial (fun z E Xc hE hX hret => trivial) (fun p => coft3_eq N p.1.1)

def everyt3_S (N : Nat) (l : List (Int × (Int × Int))) : Option Bool :=
  (coft3_S N l).bind fun x_1 =>
  some (!x_1)
noncomputable def everyt3_sp (N : Nat) : List Spec := [sp_coft3 N]
theorem everyt3_all (N : Nat) : AllP (SpecOK Try.prog) (everyt3_sp N) := ⟨sp_coft3_ok N, trivial⟩
noncomputable def everyt3_c : Code := (Try.f37.body).getD .skip
noncomputable abbrev everyt3_B : Body := { c := everyt3_c, n := 9, res := [.tmp 4], outs := [⟨[.b], []⟩], m0 := 0 }
abbrev everyt3_rt : altD everyt3_B.outs → Option Bool := fun r => some r.1.1
abbrev everyt3_st : Sta := ⟨[0, 1], ⟨[.sl (.pair (.int .i64) (.pair (.int .i64) (.int .i64))), .fn 53 [] []], []⟩⟩
theorem everyt3_eq (N : Nat) (l : List (Int × (Int × Int))) : ev (Z := Bool) Try.prog (everyt3_sp N) everyt3_B [] [] (some everyt3_rt) 400 false [.c [0], .c [1]] (stL everyt3_st ((l, ((), ()), ()), ())) (stH everyt3_st ((l, ((), ()), ()), ())) = everyt3_S N l := by kernel_rfl
noncomputable def sp_everyt3 (N : Nat) : Spec := { f := 37, ins := ⟨[.sl (.pair (.int .i64) (.pair (.int .i64) (.int .i64))), .fn 53 [] []], []⟩, outs := [⟨[.b], []⟩], run := fun p k => (everyt3_S N p.1.1).bind fun r => k ((r, ()), ()) }
theorem sp_everyt3_ok (N : Nat) : SpecOK Try.prog (sp_everyt3 N) := fn_sound (B := everyt3_B) (loops := []) (leaves := []) (fun p => everyt3_S N p.1.1) (fun r => ((r, ()), ())) everyt3_rt (fun _ _ _ => rfl) (fun r z h => by cases h; rfl) Try.func37 (by kernel_rfl) (by kernel_rfl) (by kernel_rfl) rfl rfl (by kernel_rfl) (fun args w => Sem.pv_run _ _ _ (by kernel_rfl) w) (everyt3_all N) mixed trivial (fun z E Xc hE hX hret => trivial) (fun p => everyt3_eq N p.1.1)

def every1t4_S (N : Nat) (x : Int) (x2 : Int) (x3 : Int) : Option Bool :=
  (check4_S N x x2 x3).bind fun x_1 =>
  some (!x_1)
noncomputable def every1t4_sp (N : Nat) : List Spec := [sp_check4 N]
theorem every1t4_all (N : Nat) : AllP (SpecOK Try.prog) (every1t4_sp N) := ⟨sp_check4_ok N, trivial⟩
noncomputable def every1t4_c : Code := (Try.f56.body).getD .skip
noncomputable abbrev every1t4_B : Body := { c := every1t4_c, n := 8, res := [.tmp 3], outs := [⟨[.b], [.segs [.fn 54 [] []]]⟩], m0 := 1 }
abbrev every1t4_rt : altD every1t4_B.outs → Option Bool := fun r => some r.1.1
abbrev every1t4_st : Sta := ⟨[0, 1], ⟨[.agg [.i .i64, .i .i64, .i .i64], .own 0 0], [.segs [.fn 54 [] []]]⟩⟩
theorem every1t4_eq (N : Nat) (x : Int) (x2 : Int) (x3 : Int) : ev (Z := Bool) Try.prog (every1t4_sp N) every1t4_B [] [] (some every1t4_rt) 400 false [.c [0], .c [1]] (stL every1t4_st (((x, x2, x3, ()), (), ()), ((((), ()), ()), ()))) (stH every1t4_st (((x, x2, x3, ()), (), ()), ((((), ()), ()), ()))) = every1t4_S N x x2 x3 := by kernel_rfl
noncomputable def sp_every1t4 (N : Nat) : Spec := { f := 56, ins := ⟨[.agg [.i .i64, .i .i64, .i .i64], .own 0 0], [.segs [.fn 54 [] []]]⟩, outs := [⟨[.b], [.segs [.fn 54 [] []]]⟩], run := fun p k => (every1t4_S N p.1.1.1 p.1.1.2.1 p.1.1.2.2.1).bind fun r => k ((r, ()), ((((), ()), ()), ())) }
theorem sp_every1t4_ok (N : Nat) : SpecOK Try.prog (sp_every1t4 N) := fn_sound (B := every1t4_B) (loops := []) (leaves := []) (fun p => every1t4_S N p.1.1.1 p.1.1.2.1 p.1.1.2.2.1) (fun r => ((r, ()), ((((), ()), ()), ()))) every1t4_rt (fun _ _ _ => rfl) (fun r z h => by cases h; rfl) Try.func56 (by kernel_rfl) (by kernel_rfl) (by kernel_rfl) rfl rfl (by kernel_rfl) (fun args w => Sem.pv_run _ _ _ (by kernel_rfl) w) (every1t4_all N) mixed trivial (fun z E Xc hE hX hret => trivial) (fun p => every1t4_eq N p.1.1.1 p.1.1.2.1 p.1.1.2.2.1)

def ixft4_l1 (N : Nat) : Nat → (List (Int × (Int × Int))) → Int → Int → Option ((Int) ⊕ (Unit))
  | 0, _, _, _ => none
  | n_ + 1, s, u, u2 =>
    br (decide (u2 < u))
      (idx s u2 fun x_1 =>
      (every1t4_S N x_1.1 x_1.2.1 x_1.2.2).bind fun x_2 =>
      br x_2
        (some (.inl u2))
        (chk (u2 + 1) <|
        ixft4_l1 N n_ s u (u2 + 1)))
      (some (.inr ()))
def ixft4_S (N : Nat) (s : List (Int × (Int × Int))) : Option Int :=
  (ixft4_l1 N N s (s.length : Int) 0).bind fun e => match e with
  | .inl i_3 =>
    some i_3
  | .inr _ =>
    some (-1)
noncomputable def ixft4_sp (N : Nat) : List Spec := [sp_every1t4 N]
theorem ixft4_all (N : Nat) : AllP (SpecOK Try.prog) (ixft4_sp N) := ⟨sp_every1t4_ok N, trivial⟩
noncomputable def ixft4_c : Code := (Try.f70.body).getD .skip
noncomputable abbrev ixft4_B : Body := { c := ixft4_c, n := 19, res := [.tmp 4], outs := [⟨[.i .i64], [.segs [.fn 54 [] []]]⟩], m0 := 1 }
abbrev ixft4_rt : altD ixft4_B.outs → Option Int := fun r => some r.1.1
abbrev ixft4_l1_at : List PI := [.c [1, 0, 1, 0, 0, 0], .c [1, 0, 1, 0, 0, 1], .l [1, 0, 1, 0, 0], .b 0, .c [1, 1]]
abbrev ixft4_l1_st : Sta := ⟨[0, 1, 7, 8], ⟨[.sl (.pair (.int .i64) (.pair (.int .i64) (.int .i64))), .fn 56 [] [.own 0 0], .i .i64, .i .i64], [.segs [.fn 54 [] []]]⟩⟩
abbrev ixft4_l1_h (rec : (List (Int × (Int × Int))) → Int → Int → Option ((Int) ⊕ (Unit))) : Leaf ((Int) ⊕ (Unit)) := ⟨ixft4_l1_at, ixft4_l1_st, fun p => rec p.1.1 p.1.2.2.1 p.1.2.2.2.1⟩
abbrev ixft4_l1_e0 : Leaf ((Int) ⊕ (Unit)) := ⟨[.c [1, 0, 1, 0, 0, 1, 1, 0, 0, 1, 1, 0, 0], .c [1, 0, 1, 0, 0, 1, 1, 0, 0, 1, 1, 0, 1], .b 1, .c [1, 0, 1, 0, 0, 1, 1, 1], .l [1, 0, 1, 0, 0], .b 0, .c [1, 1]], ⟨[5], ⟨[.i .i64], [.segs [.fn 54 [] []]]⟩⟩, fun p => some (.inl p.1.1)⟩
abbrev ixft4_l1_e1 : Leaf ((Int) ⊕ (Unit)) := ⟨[.c [1, 1, 0], .c [1, 1, 1]], ⟨[], ⟨[], [.segs [.fn 54 [] []]]⟩⟩, fun p => some (.inr ())⟩
noncomputable def ixft4_l1_L (N : Nat) : LoopS := { at_ := ixft4_l1_at, sta := ixft4_l1_st, exits := [([.c [1, 0, 1, 0, 0, 1, 1, 0, 0, 1, 1, 0, 0], .c [1, 0, 1, 0, 0, 1, 1, 0, 0, 1, 1, 0, 1], .b 1, .c [1, 0, 1, 0, 0, 1, 1, 1], .l [1, 0, 1, 0, 0], .b 0, .c [1, 1]], ⟨[5], ⟨[.i .i64], [.segs [.fn 54 [] []]]⟩⟩), ([.c [1, 1, 0], .c [1, 1, 1]], ⟨[], ⟨[], [.segs [.fn 54 [] []]]⟩⟩)], run := fun p k => (ixft4_l1 N N p.1.1 p.1.2.2.1 p.1.2.2.2.1).bind fun e => match e with | .inl x => k (.inl ((x, ()), ((((), ()), ()), ()))) | .inr x => k (.inr (.inl ((), ((((), ()), ()), ())))) }
theorem ixft4_l1_eq (N n_ : Nat) (s : List (Int × (Int × Int))) (u : Int) (u2 : Int) : ev (Z := (Int) ⊕ (Unit)) Try.prog (ixft4_sp N) ixft4_B [] [ixft4_l1_h (ixft4_l1 N n_), ixft4_l1_e0, ixft4_l1_e1] none 400 true ixft4_l1_at (stL ixft4_l1_st ((s, ((), ((), ())), u, u2, ()), ((((), ()), ()), ()))) (stH ixft4_l1_st ((s, ((), ((), ())), u, u2, ()), ((((), ()), ()), ()))) = ixft4_l1 N (n_ + 1) s u u2 := by kernel_rfl
theorem ixft4_l1_ok (N : Nat) {top : Bool} : LoopOK Try.prog ixft4_B.c ixft4_B.n ixft4_B.m0 top (ixft4_l1_L N) := loop_of_ev (Z := (Int) ⊕ (Unit)) (N := N) (fun m p => ixft4_l1 N m p.1.1 p.1.2.2.1 p.1.2.2.2.1) (fun e => match e with | .inl x => .inl ((x, ()), ((((), ()), ()), ())) | .inr x => .inr (.inl ((), ((((), ()), ()), ())))) (fun _ p k => bind_congr_ (ixft4_l1 N N p.1.1 p.1.2.2.1 p.1.2.2.2.1) _ _ (fun e => by rcases e with x | x <;> rfl)) (fun _ => rfl) (fun m z E Xc hE hX hrec hx => leaf_of_ev (B := ixft4_B) (loops := []) (leaves := [ixft4_l1_h (ixft4_l1 N m), ixft4_l1_e0, ixft4_l1_e1]) (ixft4_all N) mixed trivial hE hX ⟨hrec, (fun p hp => by obtain rfl := Option.some.inj hp; exact hx), (fun p hp => by obtain rfl := Option.some.inj hp; exact hx), trivial⟩ RetOK.no (fun p => ixft4_l1_eq N m p.1.1 p.1.2.2.1 p.1.2.2.2.1))
abbrev ixft4_st : Sta := ⟨[0, 1], ⟨[.sl (.pair (.int .i64) (.pair (.int .i64) (.int .i64))), .fn 56 [] [.own 0 0]], [.segs [.fn 54 [] []]]⟩⟩
theorem ixft4_eq (N : Nat) (s : List (Int × (Int × Int))) : ev (Z := Int) Try.prog (ixft4_sp N) ixft4_B [ixft4_l1_L N] [] (some ixft4_rt) 400 false [.c [0], .c [1]] (stL ixft4_st ((s, ((), ((), ())), ()), ((((), ()), ()), ()))) (stH ixft4_st ((s, ((), ((), ())), ()), ((((), ()), ()), ()))) = ixft4_S N s := by kernel_rfl
noncomputable def sp_ixft4 (N : Nat) : Spec := { f := 70, ins := ⟨[.sl (.pair (.int .i64) (.pair (.int .i64) (.int .i64))), .fn 56 [] [.own 0 0]], [.segs [.fn 54 [] []]]⟩, outs := [⟨[.i .i64], [.segs [.fn 54 [] []]]⟩], run := fun p k => (ixft4_S N p.1.1).bind fun r => k ((r, ()), ((((), ()), ()), ())) }
theorem sp_ixft4_ok (N : Nat) : SpecOK Try.prog (sp_ixft4 N) := fn_sound (B := ixft4_B) (loops := [ixft4_l1_L N]) (leaves := []) (fun p => ixft4_S N p.1.1) (fun r => ((r, ()), ((((), ()), ()), ()))) ixft4_rt (fun _ _ _ => rfl) (fun r z h => by cases h; rfl) Try.func70 (by kernel_rfl) (by kernel_rfl) (by kernel_rfl) rfl rfl (by kernel_rfl) (fun args w => Sem.pv_run _ _ _ (by kernel_rfl) w) (ixft4_all N) mixed ⟨ixft4_l1_ok N, trivial⟩ (fun z E Xc hE hX hret => trivial) (fun p => ixft4_eq N p.1.1)

def coft4_S (N : Nat) (s : List (Int × (Int × Int))) : Option Bool :=
  (ixft4_S N s).bind fun x_1 =>
  some (decide (0 ≤ x_1))
noncomputable def coft4_sp (N : Nat) : List Spec := [sp_ixft4 N]
theorem coft4_all (N : Nat) : AllP (SpecOK Try.prog) (coft4_sp N) := ⟨sp_ixft4_ok N, trivial⟩
noncomputable def coft4_c : Code := (Try.f55.body).getD .skip
noncomputable abbrev coft4_B : Body := { c := coft4_c, n := 9, res := [.tmp 4], outs := [⟨[.b], [.segs [.fn 54 [] []]]⟩], m0 := 1 }
abbrev coft4_rt : altD coft4_B.outs → Option Bool := fun r => some r.1.1
abbrev coft4_st : Sta := ⟨[0, 1], ⟨[.sl (.pair (.int .i64) (.pair (.int .i64) (.int .i64))), .fn 56 [] [.own 0 0]], [.segs [.fn 54 [] []]]⟩⟩
theorem coft4_eq (N : Nat) (s : List (Int × (Int × Int))) : ev (Z := Bool) Try.prog (coft4_sp N) coft4_B [] [] (some coft4_rt) 400 false [.c [0], .c [1]] (stL coft4_st ((s, ((), ((), ())), ()), ((((), ()), ()), ()))) (stH coft4_st ((s, ((), ((), ())), ()), ((((), ()), ()), ()))) = coft4_S N s := by kernel_rfl
noncomputable def sp_coft4 (N : Nat) : Spec := { f := 55, ins := ⟨[.sl (.pair (.int .i64) (.pair (.int .i64) (.int .i64))), .fn 56 [] [.own 0 0]], [.segs [.fn 54 [] []]]⟩, outs := [⟨[.b], [.segs [.fn 54 [] []]]⟩], run := fun p k => (coft4_S N p.1.1).bind fun r => k ((r, ()), ((((), ()), ()), ())) }
theorem sp_coft4_ok (N : Nat) : SpecOK Try.prog (sp_coft4 N) := fn_sound (B := coft4_B) (loops := []) (leaves := []) (fun p => coft4_S N p.1.1) (fun r => ((r, ()), ((((), ()), ()), ()))) coft4_rt (fun _ _ _ => rfl) (fun r z h => by cases h; rfl) Try.func55 (by kernel_rfl) (by kernel_rfl) (by kernel_rfl) rfl rfl (by kernel_rfl) (fun args w => Sem.pv_run _ _ _ (by kernel_rfl) w) (coft4_all N) mixed trivial (fun z E Xc hE hX hret => trivial) (fun p => coft4_eq N p.1.1)

def everyt4_S (N : Nat) (l : List (Int × (Int × Int))) : Option Bool :=
  (coft4_S N l).bind fun x_1 =>
  some (!x_1)
noncomputable def everyt4_sp (N : Nat) : List Spec := [sp_coft4 N]
theorem everyt4_all (N : Nat) : AllP (SpecOK Try.prog) (everyt4_sp N) := ⟨sp_coft4_ok N, trivial⟩
noncomputable def everyt4_c : Code := (Try.f37.body).getD .skip
noncomputable abbrev everyt4_B : Body := { c := everyt4_c, n := 9, res := [.tmp 4], outs := [⟨[.b], []⟩], m0 := 0 }
abbrev everyt4_rt : altD everyt4_B.outs → Option Bool := fun r => some r.1.1
abbrev everyt4_st : Sta := ⟨[0, 1], ⟨[.sl (.pair (.int .i64) (.pair (.int .i64) (.int .i64))), .fn 54 [] []], []⟩⟩
theorem everyt4_eq (N : Nat) (l : List (Int × (Int × Int))) : ev (Z := Bool) Try.prog (everyt4_sp N) everyt4_B [] [] (some everyt4_rt) 400 false [.c [0], .c [1]] (stL everyt4_st ((l, ((), ()), ()), ())) (stH everyt4_st ((l, ((), ()), ()), ())) = everyt4_S N l := by kernel_rfl
noncomputable def sp_everyt4 (N : Nat) : Spec := { f := 37, ins := ⟨[.sl (.pair (.int .i64) (.pair (.int .i64) (.int .i64))), .fn 54 [] []], []⟩, outs := [⟨[.b], []⟩], run := fun p k => (everyt4_S N p.1.1).bind fun r => k ((r, ()), ()) }
theorem sp_everyt4_ok (N : Nat) : SpecOK Try.prog (sp_everyt4 N) := fn_sound (B := everyt4_B) (loops := []) (leaves := []) (fun p => everyt4_S N p.1.1) (fun r => ((r, ()), ())) everyt4_rt (fun _ _ _ => rfl) (fun r z h => by cases h; rfl) Try.func37 (by kernel_rfl) (by kernel_rfl) (by kernel_rfl) rfl rfl (by kernel_rfl) (fun args w => Sem.pv_run _ _ _ (by kernel_rfl) w) (everyt4_all N) mixed trivial (fun z E Xc hE hX hret => trivial) (fun p => everyt4_eq N p.1.1)

def check_S (N : Nat) (t : List (Int × (Int × Bool))) (t2 : List (Int × (Int × Int))) (t3 : Int) : Option Int :=
  (in__S N (t.length : Int) 1 12).bind fun x_1 =>
  br (!x_1)
    (some 2)
    (br (decide (6 < (t2.length : Int)))
      (some 2)
      ((in__S N t3 1 40).bind fun x_2 =>
      br (!x_2)
        (some 3)
        ((everyw_S N t).bind fun x_3 =>
        br (!x_3)
          (some 3)
          ((everyt2_S N t2 (t, t2, t3)).bind fun x_4 =>
          br (!x_4)
            (some 1)
            ((everyt3_S N t2).bind fun x_5 =>
            br (!x_5)
              (some 4)
              ((everyt4_S N t2).bind fun x_6 =>
              br (!x_6)
                (some 7)
                (some 0)))))))
noncomputable def check_sp (N : Nat) : List Spec := [sp_in_ N, sp_everyw N, sp_everyt2 N, sp_everyt3 N, sp_everyt4 N]
theorem check_all (N : Nat) : AllP (SpecOK Try.prog) (check_sp N) := ⟨sp_in__ok N, sp_everyw_ok N, sp_everyt2_ok N, sp_everyt3_ok N, sp_everyt4_ok N, trivial⟩
noncomputable def check_c : Code := (Try.f35.body).getD .skip
noncomputable abbrev check_B : Body := { c := check_c, n := 42, res := [.tmp 2], outs := [⟨[.i .i64], []⟩], m0 := 0 }
abbrev check_rt : altD check_B.outs → Option Int := fun r => some r.1.1
abbrev check_st : Sta := ⟨[0], ⟨[.agg [.sl (.pair (.int .i64) (.pair (.int .i64) .bool)), .sl (.pair (.int .i64) (.pair (.int .i64) (.int .i64))), .i .i64]], []⟩⟩
theorem check_eq (N : Nat) (t : List (Int × (Int × Bool))) (t2 : List (Int × (Int × Int))) (t3 : Int) : ev (Z := Int) Try.prog (check_sp N) check_B [] [] (some check_rt) 400 false [.c [0], .c [1]] (stL check_st (((t, t2, t3, ()), ()), ())) (stH check_st (((t, t2, t3, ()), ()), ())) = check_S N t t2 t3 := by kernel_rfl
noncomputable def sp_check (N : Nat) : Spec := { f := 35, ins := ⟨[.agg [.sl (.pair (.int .i64) (.pair (.int .i64) .bool)), .sl (.pair (.int .i64) (.pair (.int .i64) (.int .i64))), .i .i64]], []⟩, outs := [⟨[.i .i64], []⟩], run := fun p k => (check_S N p.1.1.1 p.1.1.2.1 p.1.1.2.2.1).bind fun r => k ((r, ()), ()) }
theorem sp_check_ok (N : Nat) : SpecOK Try.prog (sp_check N) := fn_sound (B := check_B) (loops := []) (leaves := []) (fun p => check_S N p.1.1.1 p.1.1.2.1 p.1.1.2.2.1) (fun r => ((r, ()), ())) check_rt (fun _ _ _ => rfl) (fun r z h => by cases h; rfl) Try.func35 (by kernel_rfl) (by kernel_rfl) (by kernel_rfl) rfl rfl (by kernel_rfl) (fun args w => Sem.pv_run _ _ _ (by kernel_rfl) w) (check_all N) mixed trivial (fun z E Xc hE hX hret => trivial) (fun p => check_eq N p.1.1.1 p.1.1.2.1 p.1.1.2.2.1)

def opened_S (N : Nat) (t : List (Int × (Int × Bool))) (t2 : List (Int × (Int × Int))) (t3 : Int) : Option ((((List (Int × (Int × Bool))) × ((List (Int × (Int × Int))) × Int)) × Int) ⊕ (Int)) :=
  (check_S N t t2 t3).bind fun x_1 =>
  br (!decide (x_1 = 0))
    (some (.inr x_1))
    (some (.inl ((t, t2, t3), 0)))
noncomputable def opened_sp (N : Nat) : List Spec := [sp_check N]
theorem opened_all (N : Nat) : AllP (SpecOK Try.prog) (opened_sp N) := ⟨sp_check_ok N, trivial⟩
noncomputable def opened_c : Code := (Try.f15.body).getD .skip
noncomputable abbrev opened_B : Body := { c := opened_c, n := 13, res := [.tmp 2, .tmp 3], outs := [⟨[.fe (.pair (.sl (.pair (.int .i64) (.pair (.int .i64) .bool))) (.pair (.sl (.pair (.int .i64) (.pair (.int .i64) (.int .i64)))) (.int .i64))), .i .i64], []⟩, ⟨[.nilp, .i .i64], []⟩], m0 := 0 }
abbrev opened_rt : altD opened_B.outs → Option ((((List (Int × (Int × Bool))) × ((List (Int × (Int × Int))) × Int)) × Int) ⊕ (Int)) := fun r => match r with | .inl r => some (.inl (r.1.1, r.1.2.1)) | .inr r => some (.inr r.1.2.1)
abbrev opened_st : Sta := ⟨[0], ⟨[.agg [.sl (.pair (.int .i64) (.pair (.int .i64) .bool)), .sl (.pair (.int .i64) (.pair (.int .i64) (.int .i64))), .i .i64]], []⟩⟩
theorem opened_eq (N : Nat) (t : List (Int × (Int × Bool))) (t2 : List (Int × (Int × Int))) (t3 : Int) : ev (Z := (((List (Int × (Int × Bool))) × ((List (Int × (Int × Int))) × Int)) × Int) ⊕ (Int)) Try.prog (opened_sp N) opened_B [] [] (some opened_rt) 400 false [.c [0], .c [1]] (stL opened_st (((t, t2, t3, ()), ()), ())) (stH opened_st (((t, t2, t3, ()), ()), ())) = opened_S N t t2 t3 := by kernel_rfl
noncomputable def sp_opened (N : Nat) : Spec := { f := 15, ins := ⟨[.agg [.sl (.pair (.int .i64) (.pair (.int .i64) .bool)), .sl (.pair (.int .i64) (.pair (.int .i64) (.int .i64))), .i .i64]], []⟩, outs := [⟨[.fe (.pair (.sl (.pair (.int .i64) (.pair (.int .i64) .bool))) (.pair (.sl (.pair (.int .i64) (.pair (.int .i64) (.int .i64)))) (.int .i64))), .i .i64], []⟩, ⟨[.nilp, .i .i64], []⟩], run := fun p k => (opened_S N p.1.1.1 p.1.1.2.1 p.1.1.2.2.1).bind fun r => match r with | .inl r => k (.inl ((r.1, r.2, ()), ())) | .inr r => k (.inr (((), r, ()), ())) }
theorem sp_opened_ok (N : Nat) : SpecOK Try.prog (sp_opened N) := fn_sound (B := opened_B) (loops := []) (leaves := []) (fun p => opened_S N p.1.1.1 p.1.1.2.1 p.1.1.2.2.1) (fun r => match r with | .inl r => (.inl ((r.1, r.2, ()), ())) | .inr r => (.inr (((), r, ()), ()))) opened_rt (fun _ p k => bind_congr_ (opened_S N p.1.1.1 p.1.1.2.1 p.1.1.2.2.1) _ _ (fun e => by rcases e with x | x <;> rfl)) (fun r z h => by rcases r with x | x <;> (cases h; rfl)) Try.func15 (by kernel_rfl) (by kernel_rfl) (by kernel_rfl) rfl rfl (by kernel_rfl) (fun args w => Sem.pv_run _ _ _ (by kernel_rfl) w) (opened_all N) mixed trivial (fun z E Xc hE hX hret => trivial) (fun p => opened_eq N p.1.1.1 p.1.1.2.1 p.1.1.2.2.1)

def end__S (N : Nat) (d : ((List (Int × (Int × Bool))) × ((List (Int × (Int × Int))) × Int))) : Option Int :=
  some (d.1.length : Int)
noncomputable def end__sp (N : Nat) : List Spec := []
theorem end__all (N : Nat) : AllP (SpecOK Try.prog) (end__sp N) := trivial
noncomputable def end__c : Code := (Try.f19.body).getD .skip
noncomputable abbrev end__B : Body := { c := end__c, n := 9, res := [.tmp 2], outs := [⟨[.i .i64], []⟩], m0 := 0 }
abbrev end__rt : altD end__B.outs → Option Int := fun r => some r.1.1
abbrev end__st : Sta := ⟨[0], ⟨[.fe (.pair (.sl (.pair (.int .i64) (.pair (.int .i64) .bool))) (.pair (.sl (.pair (.int .i64) (.pair (.int .i64) (.int .i64)))) (.int .i64)))], []⟩⟩
theorem end__eq (N : Nat) (d : ((List (Int × (Int × Bool))) × ((List (Int × (Int × Int))) × Int))) : ev (Z := Int) Try.prog (end__sp N) end__B [] [] (some end__rt) 400 false [.c [0], .c [1]] (stL end__st ((d, ()), ())) (stH end__st ((d, ()), ())) = end__S N d := by kernel_rfl
noncomputable def sp_end_ (N : Nat) : Spec := { f := 19, ins := ⟨[.fe (.pair (.sl (.pair (.int .i64) (.pair (.int .i64) .bool))) (.pair (.sl (.pair (.int .i64) (.pair (.int .i64) (.int .i64)))) (.int .i64)))], []⟩, outs := [⟨[.i .i64], []⟩], run := fun p k => (end__S N p.1.1).bind fun r => k ((r, ()), ()) }
theorem sp_end__ok (N : Nat) : SpecOK Try.prog (sp_end_ N) := fn_sound (B := end__B) (loops := []) (leaves := []) (fun p => end__S N p.1.1) (fun r => ((r, ()), ())) end__rt (fun _ _ _ => rfl) (fun r z h => by cases h; rfl) Try.func19 (by kernel_rfl) (by kernel_rfl) (by kernel_rfl) rfl rfl (by kernel_rfl) (fun args w => Sem.pv_run _ _ _ (by kernel_rfl) w) (end__all N) mixed trivial (fun z E Xc hE hX hret => trivial) (fun p => end__eq N p.1.1)

def indexi_l1 (N : Nat) : Nat → (List Int) → Int → Int → Int → Option ((Int) ⊕ (Unit))
  | 0, _, _, _, _ => none
  | n_ + 1, s, v, u, u2 =>
    br (decide (u2 < u))
      (idx s u2 fun x_1 =>
      br (decide (v = x_1))
        (some (.inl u2))
        (chk (u2 + 1) <|
        indexi_l1 N n_ s v u (u2 + 1)))
      (some (.inr ()))
def indexi_S (N : Nat) (s : List Int) (v : Int) : Option Int :=
  (indexi_l1 N N s v (s.length : Int) 0).bind fun e => match e with
  | .inl i_2 =>
    some i_2
  | .inr _ =>
    some (-1)
noncomputable def indexi_sp (N : Nat) : List Spec := []
theorem indexi_all (N : Nat) : AllP (SpecOK Try.prog) (indexi_sp N) := trivial
noncomputable def indexi_c : Code := (Try.f57.body).getD .skip
noncomputable abbrev indexi_B : Body := { c := indexi_c, n := 19, res := [.tmp 4], outs := [⟨[.i .i64], []⟩], m0 := 0 }
abbrev indexi_rt : altD indexi_B.outs → Option Int := fun r => some r.1.1
abbrev indexi_l1_at : List PI := [.c [1, 0, 1, 0, 0, 0], .c [1, 0, 1, 0, 0, 1], .l [1, 0, 1, 0, 0], .b 0, .c [1, 1]]
abbrev indexi_l1_st : Sta := ⟨[0, 1, 7, 8], ⟨[.sl (.int .i64), .i .i64, .i .i64, .i .i64], []⟩⟩
abbrev indexi_l1_h (rec : (List Int) → Int → Int → Int → Option ((Int) ⊕ (Unit))) : Leaf ((Int) ⊕ (Unit)) := ⟨indexi_l1_at, indexi_l1_st, fun p => rec p.1.1 p.1.2.1 p.1.2.2.1 p.1.2.2.2.1⟩
abbrev indexi_l1_e0 : Leaf ((Int) ⊕ (Unit)) := ⟨[.c [1, 0, 1, 0, 0, 1, 1, 0, 0, 1, 1, 0, 0], .c [1, 0, 1, 0, 0, 1, 1, 0, 0, 1, 1, 0, 1], .b 1, .c [1, 0, 1, 0, 0, 1, 1, 1], .l [1, 0, 1, 0, 0], .b 0, .c [1, 1]], ⟨[5], ⟨[.i .i64], []⟩⟩, fun p => some (.inl p.1.1)⟩
abbrev indexi_l1_e1 : Leaf ((Int) ⊕ (Unit)) := ⟨[.c [1, 1, 0], .c [1, 1, 1]], ⟨[], ⟨[], []⟩⟩, fun p => some (.inr ())⟩
noncomputable def indexi_l1_L (N : Nat) : LoopS := { at_ := indexi_l1_at, sta := indexi_l1_st, exits := [([.c [1, 0, 1, 0, 0, 1, 1, 0, 0, 1, 1, 0, 0], .c [1, 0, 1, 0, 0, 1, 1, 0, 0, 1, 1, 0, 1], .b 1, .c [1, 0, 1, 0, 0, 1, 1, 1], .l [1, 0, 1, 0, 0], .b 0, .c [1, 1]], ⟨[5], ⟨[.i .i64], []⟩⟩), ([.c [1, 1, 0], .c [1, 1, 1]], ⟨[], ⟨[], []⟩⟩)], run := fun p k => (indexi_l1 N N p.1.1 p.1.2.1 p.1.2.2.1 p.1.2.2.2.1).bind fun e => match e with | .inl x => k (.inl ((x, ()), ())) | .inr x => k (.inr (.inl ((), ()))) }
theorem indexi_l1_eq (N n_ : Nat) (s : List Int) (v : Int) (u : Int) (u2 : Int) : ev (Z := (Int) ⊕ (Unit)) Try.prog (indexi_sp N) indexi_B [] [indexi_l1_h (indexi_l1 N n_), indexi_l1_e0, indexi_l1_e1] none 400 true indexi_l1_at (stL indexi_l1_st ((s, v, u, u2, ()), ())) (stH indexi_l1_st ((s, v, u, u2, ()), ())) = indexi_l1 N (n_ + 1) s v u u2 := by kernel_rfl
theorem indexi_l1_ok (N : Nat) {top : Bool} : LoopOK Try.prog indexi_B.c indexi_B.n indexi_B.m0 top (indexi_l1_L N) := loop_of_ev (Z := (Int) ⊕ (Unit)) (N := N) (fun m p => indexi_l1 N m p.1.1 p.1.2.1 p.1.2.2.1 p.1.2.2.2.1) (fun e => match e with | .inl x => .inl ((x, ()), ()) | .inr x => .inr (.inl ((), ()))) (fun _ p k => bind_congr_ (indexi_l1 N N p.1.1 p.1.2.1 p.1.2.2.1 p.1.2.2.2.1) _ _ (fun e => by rcases e with x | x <;> rfl)) (fun _ => rfl) (fun m z E Xc hE hX hrec hx => leaf_of_ev (B := indexi_B) (loops := []) (leaves := [indexi_l1_h (indexi_l1 N m), indexi_l1_e0, indexi_l1_e1]) (indexi_all N) mixed trivial hE hX ⟨hrec, (fun p hp => by obtain rfl := Option.some.inj hp; exact hx), (fun p hp => by obtain rfl := Option.some.inj hp; exact hx), trivial⟩ RetOK.no (fun p => indexi_l1_eq N m p.1.1 p.1.2.1 p.1.2.2.1 p.1.2.2.2.1))
abbrev indexi_st : Sta := ⟨[0, 1], ⟨[.sl (.int .i64), .i .i64], []⟩⟩
theorem indexi_eq (N : Nat) (s : List Int) (v : Int) : ev (Z := Int) Try.prog (indexi_sp N) indexi_B [indexi_l1_L N] [] (some indexi_rt) 400 false [.c [0], .c [1]] (stL indexi_st ((s, v, ()), ())) (stH indexi_st ((s, v, ()), ())) = indexi_S N s v := by kernel_rfl
noncomputable def sp_indexi (N : Nat) : Spec := { f := 57, ins := ⟨[.sl (.int .i64), .i .i64], []⟩, outs := [⟨[.i .i64], []⟩], run := fun p k => (indexi_S N p.1.1 p.1.2.1).bind fun r => k ((r, ()), ()) }
theorem sp_indexi_ok (N : Nat) : SpecOK Try.prog (sp_indexi N) := fn_sound (B := indexi_B) (loops := [indexi_l1_L N]) (leaves := []) (fun p => indexi_S N p.1.1 p.1.2.1) (fun r => ((r, ()), ())) indexi_rt (fun _ _ _ => rfl) (fun r z h => by cases h; rfl) Try.func57 (by kernel_rfl) (by kernel_rfl) (by kernel_rfl) rfl rfl (by kernel_rfl) (fun args w => Sem.pv_run _ _ _ (by kernel_rfl) w) (indexi_all N) mixed ⟨indexi_l1_ok N, trivial⟩ (fun z E Xc hE hX hret => trivial) (fun p => indexi_eq N p.1.1 p.1.2.1)

def containsi_S (N : Nat) (s : List Int) (v : Int) : Option Bool :=
  (indexi_S N s v).bind fun x_1 =>
  some (decide (0 ≤ x_1))
noncomputable def containsi_sp (N : Nat) : List Spec := [sp_indexi N]
theorem containsi_all (N : Nat) : AllP (SpecOK Try.prog) (containsi_sp N) := ⟨sp_indexi_ok N, trivial⟩
noncomputable def containsi_c : Code := (Try.f39.body).getD .skip
noncomputable abbrev containsi_B : Body := { c := containsi_c, n := 9, res := [.tmp 4], outs := [⟨[.b], []⟩], m0 := 0 }
abbrev containsi_rt : altD containsi_B.outs → Option Bool := fun r => some r.1.1
abbrev containsi_st : Sta := ⟨[0, 1], ⟨[.sl (.int .i64), .i .i64], []⟩⟩
theorem containsi_eq (N : Nat) (s : List Int) (v : Int) : ev (Z := Bool) Try.prog (containsi_sp N) containsi_B [] [] (some containsi_rt) 400 false [.c [0], .c [1]] (stL containsi_st ((s, v, ()), ())) (stH containsi_st ((s, v, ()), ())) = containsi_S N s v := by kernel_rfl
noncomputable def sp_containsi (N : Nat) : Spec := { f := 39, ins := ⟨[.sl (.int .i64), .i .i64], []⟩, outs := [⟨[.b], []⟩], run := fun p k => (containsi_S N p.1.1 p.1.2.1).bind fun r => k ((r, ()), ()) }
theorem sp_containsi_ok (N : Nat) : SpecOK Try.prog (sp_containsi N) := fn_sound (B := containsi_B) (loops := []) (leaves := []) (fun p => containsi_S N p.1.1 p.1.2.1) (fun r => ((r, ()), ())) containsi_rt (fun _ _ _ => rfl) (fun r z h => by cases h; rfl) Try.func39 (by kernel_rfl) (by kernel_rfl) (by kernel_rfl) rfl rfl (by kernel_rfl) (fun args w => Sem.pv_run _ _ _ (by kernel_rfl) w) (containsi_all N) mixed trivial (fun z E Xc hE hX hret => trivial) (fun p => containsi_eq N p.1.1 p.1.2.1)

def keeps1_l1 (N : Nat) : Nat → ((List Int)) → Int → Int → Int → Int → Option ((Unit) ⊕ ((List Int) × Int × Int × Int))
  | 0, _, _, _, _, _ => none
  | n_ + 1, u, w, x, x2, x3 =>
    br (decide (w ≤ x3))
      ((containsi_S N u w).bind fun x_1 =>
      br (!x_1)
        (some (.inl ()))
        (chk (w + 1) <|
        keeps1_l1 N n_ u (w + 1) x x2 x3))
      (some (.inr (u, x, x2, x3)))
def keeps1_S (N : Nat) (x : Int) (x2 : Int) (x3 : Int) (u : (List Int)) : Option Bool :=
  (keeps1_l1 N N u x2 x x2 x3).bind fun e => match e with
  | .inl _ =>
    some true
  | .inr (u_2, x_3, x2_4, x3_5) =>
    (containsi_S N u_2 x_3).bind fun x_6 =>
    some x_6
noncomputable def keeps1_sp (N : Nat) : List Spec := [sp_containsi N]
theorem keeps1_all (N : Nat) : AllP (SpecOK Try.prog) (keeps1_sp N) := ⟨sp_containsi_ok N, trivial⟩
noncomputable def keeps1_c : Code := (Try.f38.body).getD .skip
noncomputable abbrev keeps1_B : Body := { c := keeps1_c, n := 23, res := [.tmp 3], outs := [⟨[.b], []⟩], m0 := 0 }
abbrev keeps1_rt : altD keeps1_B.outs → Option Bool := fun r => some r.1.1
abbrev keeps1_l1_at : List PI := [.c [1, 0, 1, 0, 0, 0, 0], .c [1, 0, 1, 0, 0, 0, 1], .c [1, 0, 1, 0, 0, 1], .l [1, 0, 1, 0, 0], .b 0, .c [1, 1]]
abbrev keeps1_l1_st : Sta := ⟨[1, 2, 4], ⟨[.fe (.sl (.int .i64)), .own 0 0, .i .i64], [.segs [.i .i64, .i .i64, .i .i64]]⟩⟩
abbrev keeps1_l1_h (rec : ((List Int)) → Int → Int → Int → Int → Option ((Unit) ⊕ ((List Int) × Int × Int × Int))) : Leaf ((Unit) ⊕ ((List Int) × Int × Int × Int)) := ⟨keeps1_l1_at, keeps1_l1_st, fun p => rec p.1.1 p.1.2.2.1 p.2.1.1 p.2.1.2.1 p.2.1.2.2.1⟩
abbrev keeps1_l1_e0 : Leaf ((Unit) ⊕ ((List Int) × Int × Int × Int)) := ⟨[.c [1, 0, 1, 0, 0, 1, 0, 0, 1, 0, 0], .c [1, 0, 1, 0, 0, 1, 0, 0, 1, 0, 1], .b 1, .c [1, 0, 1, 0, 0, 1, 1], .l [1, 0, 1, 0, 0], .b 0, .c [1, 1]], ⟨[], ⟨[], []⟩⟩, fun p => some (.inl ())⟩
abbrev keeps1_l1_e1 : Leaf ((Unit) ⊕ ((List Int) × Int × Int × Int)) := ⟨[.c [1, 1, 0], .c [1, 1, 1]], ⟨[1, 2], ⟨[.fe (.sl (.int .i64)), .own 0 0], [.segs [.i .i64, .i .i64, .i .i64]]⟩⟩, fun p => some (.inr (p.1.1, p.2.1.1, p.2.1.2.1, p.2.1.2.2.1))⟩
noncomputable def keeps1_l1_L (N : Nat) : LoopS := { at_ := keeps1_l1_at, sta := keeps1_l1_st, exits := [([.c [1, 0, 1, 0, 0, 1, 0, 0, 1, 0, 0], .c [1, 0, 1, 0, 0, 1, 0, 0, 1, 0, 1], .b 1, .c [1, 0, 1, 0, 0, 1, 1], .l [1, 0, 1, 0, 0], .b 0, .c [1, 1]], ⟨[], ⟨[], []⟩⟩), ([.c [1, 1, 0], .c [1, 1, 1]], ⟨[1, 2], ⟨[.fe (.sl (.int .i64)), .own 0 0], [.segs [.i .i64, .i .i64, .i .i64]]⟩⟩)], run := fun p k => (keeps1_l1 N N p.1.1 p.1.2.2.1 p.2.1.1 p.2.1.2.1 p.2.1.2.2.1).bind fun e => match e with | .inl x => k (.inl ((), ())) | .inr x => k (.inr (.inl ((x.1, (), ()), ((x.2.1, x.2.2.1, x.2.2.2, ()), ())))) }
theorem keeps1_l1_eq (N n_ : Nat) (u : (List Int)) (w : Int) (x : Int) (x2 : Int) (x3 : Int) : ev (Z := (Unit) ⊕ ((List Int) × Int × Int × Int)) Try.prog (keeps1_sp N) keeps1_B [] [keeps1_l1_h (keeps1_l1 N n_), keeps1_l1_e0, keeps1_l1_e1] none 400 true keeps1_l1_at (stL keeps1_l1_st ((u, (), w, ()), ((x, x2, x3, ()), ()))) (stH keeps1_l1_st ((u, (), w, ()), ((x, x2, x3, ()), ()))) = keeps1_l1 N (n_ + 1) u w x x2 x3 := by kernel_rfl
theorem keeps1_l1_ok (N : Nat) {top : Bool} : LoopOK Try.prog keeps1_B.c keeps1_B.n keeps1_B.m0 top (keeps1_l1_L N) := loop_of_ev (Z := (Unit) ⊕ ((List Int) × Int × Int × Int)) (N := N) (fun m p => keeps1_l1 N m p.1.1 p.1.2.2.1 p.2.1.1 p.2.1.2.1 p.2.1.2.2.1) (fun e => match e with | .inl x => .inl ((), ()) | .inr x => .inr (.inl ((x.1, (), ()), ((x.2.1, x.2.2.1, x.2.2.2, ()), ())))) (fun _ p k => bind_congr_ (keeps1_l1 N N p.1.1 p.1.2.2.1 p.2.1.1 p.2.1.2.1 p.2.1.2.2.1) _ _ (fun e => by rcases e with x | x <;> rfl)) (fun _ => rfl) (fun m z E Xc hE hX hrec hx => leaf_of_ev (B := keeps1_B) (loops := []) (leaves := [keeps1_l1_h (keeps1_l1 N m), keeps1_l1_e0, keeps1_l1_e1]) (keeps1_all N) mixed trivial hE hX ⟨hrec, (fun p hp => by obtain rfl := Option.some.inj hp; exact hx), (fun p hp => by obtain rfl := Option.some.inj hp; exact hx), trivial⟩ RetOK.no (fun p => keeps1_l1_eq N m p.1.1 p.1.2.2.1 p.2.1.1 p.2.1.2.1 p.2.1.2.2.1))
abbrev keeps1_st : Sta := ⟨[0, 1], ⟨[.agg [.i .i64, .i .i64, .i .i64], .fe (.sl (.int .i64))], []⟩⟩
theorem keeps1_eq (N : Nat) (x : Int) (x2 : Int) (x3 : Int) (u : (List Int)) : ev (Z := Bool) Try.prog (keeps1_sp N) keeps1_B [keeps1_l1_L N] [] (some keeps1_rt) 400 false [.c [0], .c [1]] (stL keeps1_st (((x, x2, x3, ()), u, ()), ())) (stH keeps1_st (((x, x2, x3, ()), u, ()), ())) = keeps1_S N x x2 x3 u := by kernel_rfl
noncomputable def sp_keeps1 (N : Nat) : Spec := { f := 38, ins := ⟨[.agg [.i .i64, .i .i64, .i .i64], .fe (.sl (.int .i64))], []⟩, outs := [⟨[.b], []⟩], run := fun p k => (keeps1_S N p.1.1.1 p.1.1.2.1 p.1.1.2.2.1 p.1.2.1).bind fun r => k ((r, ()), ()) }
theorem sp_keeps1_ok (N : Nat) : SpecOK Try.prog (sp_keeps1 N) := fn_sound (B := keeps1_B) (loops := [keeps1_l1_L N]) (leaves := []) (fun p => keeps1_S N p.1.1.1 p.1.1.2.1 p.1.1.2.2.1 p.1.2.1) (fun r => ((r, ()), ())) keeps1_rt (fun _ _ _ => rfl) (fun r z h => by cases h; rfl) Try.func38 (by kernel_rfl) (by kernel_rfl) (by kernel_rfl) rfl rfl (by kernel_rfl) (fun args w => Sem.pv_run _ _ _ (by kernel_rfl) w) (keeps1_all N) mixed ⟨keeps1_l1_ok N, trivial⟩ (fun z E Xc hE hX hret => trivial) (fun p => keeps1_eq N p.1.1.1 p.1.1.2.1 p.1.1.2.2.1 p.1.2.1)

def every1t5_S (N : Nat) (x : Int) (x2 : Int) (x3 : Int) (g : (List Int)) : Option (Bool × (List Int)) :=
  (keeps1_S N x x2 x3 g).bind fun x_1 =>
  some ((!x_1), g)
noncomputable def every1t5_sp (N : Nat) : List Spec := [sp_keeps1 N]
theorem every1t5_all (N : Nat) : AllP (SpecOK Try.prog) (every1t5_sp N) := ⟨sp_keeps1_ok N, trivial⟩
noncomputable def every1t5_c : Code := (Try.f56.body).getD .skip
noncomputable abbrev every1t5_B : Body := { c := every1t5_c, n := 8, res := [.tmp 3], outs := [⟨[.b], [.segs [.fn 38 [] [.fe (.sl (.int .i64))]]]⟩], m0 := 1 }
abbrev every1t5_rt : altD every1t5_B.outs → Option (Bool × (List Int)) := fun r => some (r.1.1, r.2.1.1.2.1)
abbrev every1t5_st : Sta := ⟨[0, 1], ⟨[.agg [.i .i64, .i .i64, .i .i64], .own 0 0], [.segs [.fn 38 [] [.fe (.sl (.int .i64))]]]⟩⟩
theorem every1t5_eq (N : Nat) (x : Int) (x2 : Int) (x3 : Int) (g : (List Int)) : ev (Z := Bool × (List Int)) Try.prog (every1t5_sp N) every1t5_B [] [] (some every1t5_rt) 400 false [.c [0], .c [1]] (stL every1t5_st (((x, x2, x3, ()), (), ()), ((((), (g, ())), ()), ()))) (stH every1t5_st (((x, x2, x3, ()), (), ()), ((((), (g, ())), ()), ()))) = every1t5_S N x x2 x3 g := by kernel_rfl
noncomputable def sp_every1t5 (N : Nat) : Spec := { f := 56, ins := ⟨[.agg [.i .i64, .i .i64, .i .i64], .own 0 0], [.segs [.fn 38 [] [.fe (.sl (.int .i64))]]]⟩, outs := [⟨[.b], [.segs [.fn 38 [] [.fe (.sl (.int .i64))]]]⟩], run := fun p k => (every1t5_S N p.1.1.1 p.1.1.2.1 p.1.1.2.2.1 p.2.1.1.2.1).bind fun r => k ((r.1, ()), ((((), (r.2, ())), ()), ())) }
theorem sp_every1t5_ok (N : Nat) : SpecOK Try.prog (sp_every1t5 N) := fn_sound (B := every1t5_B) (loops := []) (leaves := []) (fun p => every1t5_S N p.1.1.1 p.1.1.2.1 p.1.1.2.2.1 p.2.1.1.2.1) (fun r => ((r.1, ()), ((((), (r.2, ())), ()), ()))) every1t5_rt (fun _ _ _ => rfl) (fun r z h => by cases h; rfl) Try.func56 (by kernel_rfl) (by kernel_rfl) (by kernel_rfl) rfl rfl (by kernel_rfl) (fun args w => Sem.pv_run _ _ _ (by kernel_rfl) w) (every1t5_all N) mixed trivial (fun z E Xc hE hX hret => trivial) (fun p => every1t5_eq N p.1.1.1 p.1.1.2.1 p.1.1.2.2.1 p.2.1.1.2.1)

def ixft5_l1 (N : Nat) : Nat → (List (Int × (Int × Int))) → Int → Int → ((List Int)) → Option ((Int × (List Int)) ⊕ ((List Int)))
  | 0, _, _, _, _ => none
  | n_ + 1, s, u, u2, f =>
    br (decide (u2 < u))
      (idx s u2 fun x_1 =>
      (every1t5_S N x_1.1 x_1.2.1 x_1.2.2 f).bind fun (x_2, y_3) =>
      br x_2
        (some (.inl (u2, y_3)))
        (chk (u2 + 1) <|
        ixft5_l1 N n_ s u (u2 + 1) y_3))
      (some (.inr f))
def ixft5_S (N : Nat) (s : List (Int × (Int × Int))) (f : (List Int)) : Option (Int × (List Int)) :=
  (ixft5_l1 N N s (s.length : Int) 0 f).bind fun e => match e with
  | .inl (i_4, g_5) =>
    some (i_4, g_5)
  | .inr g_6 =>
    some (-1, g_6)
noncomputable def ixft5_sp (N : Nat) : List Spec := [sp_every1t5 N]
theorem ixft5_all (N : Nat) : AllP (SpecOK Try.prog) (ixft5_sp N) := ⟨sp_every1t5_ok N, trivial⟩
noncomputable def ixft5_c : Code := (Try.f70.body).getD .skip
noncomputable abbrev ixft5_B : Body := { c := ixft5_c, n := 19, res := [.tmp 4], outs := [⟨[.i .i64], [.segs [.fn 38 [] [.fe (.sl (.int .i64))]]]⟩], m0 := 1 }
abbrev ixft5_rt : altD ixft5_B.outs → Option (Int × (List Int)) := fun r => some (r.1.1, r.2.1.1.2.1)
abbrev ixft5_l1_at : List PI := [.c [1, 0, 1, 0, 0, 0], .c [1, 0, 1, 0, 0, 1], .l [1, 0, 1, 0, 0], .b 0, .c [1, 1]]
abbrev ixft5_l1_st : Sta := ⟨[0, 1, 7, 8], ⟨[.sl (.pair (.int .i64) (.pair (.int .i64) (.int .i64))), .fn 56 [] [.own 0 0], .i .i64, .i .i64], [.segs [.fn 38 [] [.fe (.sl (.int .i64))]]]⟩⟩
abbrev ixft5_l1_h (rec : (List (Int × (Int × Int))) → Int → Int → ((List Int)) → Option ((Int × (List Int)) ⊕ ((List Int)))) : Leaf ((Int × (List Int)) ⊕ ((List Int))) := ⟨ixft5_l1_at, ixft5_l1_st, fun p => rec p.1.1 p.1.2.2.1 p.1.2.2.2.1 p.2.1.1.2.1⟩
abbrev ixft5_l1_e0 : Leaf ((Int × (List Int)) ⊕ ((List Int))) := ⟨[.c [1, 0, 1, 0, 0, 1, 1, 0, 0, 1, 1, 0, 0], .c [1, 0, 1, 0, 0, 1, 1, 0, 0, 1, 1, 0, 1], .b 1, .c [1, 0, 1, 0, 0, 1, 1, 1], .l [1, 0, 1, 0, 0], .b 0, .c [1, 1]], ⟨[5], ⟨[.i .i64], [.segs [.fn 38 [] [.fe (.sl (.int .i64))]]]⟩⟩, fun p => some (.inl (p.1.1, p.2.1.1.2.1))⟩
abbrev ixft5_l1_e1 : Leaf ((Int × (List Int)) ⊕ ((List Int))) := ⟨[.c [1, 1, 0], .c [1, 1, 1]], ⟨[], ⟨[], [.segs [.fn 38 [] [.fe (.sl (.int .i64))]]]⟩⟩, fun p => some (.inr p.2.1.1.2.1)⟩
noncomputable def ixft5_l1_L (N : Nat) : LoopS := { at_ := ixft5_l1_at, sta := ixft5_l1_st, exits := [([.c [1, 0, 1, 0, 0, 1, 1, 0, 0, 1, 1, 0, 0], .c [1, 0, 1, 0, 0, 1, 1, 0, 0, 1, 1, 0, 1], .b 1, .c [1, 0, 1, 0, 0, 1, 1, 1], .l [1, 0, 1, 0, 0], .b 0, .c [1, 1]], ⟨[5], ⟨[.i .i64], [.segs [.fn 38 [] [.fe (.sl (.int .i64))]]]⟩⟩), ([.c [1, 1, 0], .c [1, 1, 1]], ⟨[], ⟨[], [.segs [.fn 38 [] [.fe (.sl (.int .i64))]]]⟩⟩)], run := fun p k => (ixft5_l1 N N p.1.1 p.1.2.2.1 p.1.2.2.2.1 p.2.1.1.2.1).bind fun e => match e with | .inl x => k (.inl ((x.1, ()), ((((), (x.2, ())), ()), ()))) | .inr x => k (.inr (.inl ((), ((((), (x, ())), ()), ())))) }
theorem ixft5_l1_eq (N n_ : Nat) (s : List (Int × (Int × Int))) (u : Int) (u2 : Int) (f : (List Int)) : ev (Z := (Int × (List Int)) ⊕ ((List Int))) Try.prog (ixft5_sp N) ixft5_B [] [ixft5_l1_h (ixft5_l1 N n_), ixft5_l1_e0, ixft5_l1_e1] none 400 true ixft5_l1_at (stL ixft5_l1_st ((s, ((), ((), ())), u, u2, ()), ((((), (f, ())), ()), ()))) (stH ixft5_l1_st ((s, ((), ((), ())), u, u2, ()), ((((), (f, ())), ()), ()))) = ixft5_l1 N (n_ + 1) s u u2 f := by kernel_rfl
theorem ixft5_l1_ok (N : Nat) {top : Bool} : LoopOK Try.prog ixft5_B.c ixft5_B.n ixft5_B.m0 top (ixft5_l1_L N) := loop_of_ev (Z := (Int × (List Int)) ⊕ ((List Int))) (N := N) (fun m p => ixft5_l1 N m p.1.1 p.1.2.2.1 p.1.2.2.2.1 p.2.1.1.2.1) (fun e => match e with | .inl x => .inl ((x.1, ()), ((((), (x.2, ())), ()), ())) | .inr x => .inr (.inl ((), ((((), (x, ())), ()), ())))) (fun _ p k => bind_congr_ (ixft5_l1 N N p.1.1 p.1.2.2.1 p.1.2.2.2.1 p.2.1.1.2.1) _ _ (fun e => by rcases e with x | x <;> rfl)) (fun _ => rfl) (fun m z E Xc hE hX hrec hx => leaf_of_ev (B := ixft5_B) (loops := []) (leaves := [ixft5_l1_h (ixft5_l1 N m), ixft5_l1_e0, ixft5_l1_e1]) (ixft5_all N) mixed trivial hE hX ⟨hrec, (fun p hp => by obtain rfl := Option.some.inj hp; exact hx), (fun p hp => by obtain rfl := Option.some.inj hp; exact hx), trivial⟩ RetOK.no (fun p => ixft5_l1_eq N m p.1.1 p.1.2.2.1 p.1.2.2.2.1 p.2.1.1.2.1))
abbrev ixft5_st : Sta := ⟨[0, 1], ⟨[.sl (.pair (.int .i64) (.pair (.int .i64) (.int .i64))), .fn 56 [] [.own 0 0]], [.segs [.fn 38 [] [.fe (.sl (.int .i64))]]]⟩⟩
theorem ixft5_eq (N : Nat) (s : List (Int × (Int × Int))) (f : (List Int)) : ev (Z := Int × (List Int)) Try.prog (ixft5_sp N) ixft5_B [ixft5_l1_L N] [] (some ixft5_rt) 400 false [.c [0], .c [1]] (stL ixft5_st ((s, ((), ((), ())), ()), ((((), (f, ())), ()), ()))) (stH ixft5_st ((s, ((), ((), ())), ()), ((((), (f, ())), ()), ()))) = ixft5_S N s f := by kernel_rfl
noncomputable def sp_ixft5 (N : Nat) : Spec := { f := 70, ins := ⟨[.sl (.pair (.int .i64) (.pair (.int .i64) (.int .i64))), .fn 56 [] [.own 0 0]], [.segs [.fn 38 [] [.fe (.sl (.int .i64))]]]⟩, outs := [⟨[.i .i64], [.segs [.fn 38 [] [.fe (.sl (.int .i64))]]]⟩], run := fun p k => (ixft5_S N p.1.1 p.2.1.1.2.1).bind fun r => k ((r.1, ()), ((((), (r.2, ())), ()), ())) }
theorem sp_ixft5_ok (N : Nat) : SpecOK Try.prog (sp_ixft5 N) := fn_sound (B := ixft5_B) (loops := [ixft5_l1_L N]) (leaves := []) (fun p => ixft5_S N p.1.1 p.2.1.1.2.1) (fun r => ((r.1, ()), ((((), (r.2, ())), ()), ()))) ixft5_rt (fun _ _ _ => rfl) (fun r z h => by cases h; rfl) Try.func70 (by kernel_rfl) (by kernel_rfl) (by kernel_rfl) rfl rfl (by kernel_rfl) (fun args w => Sem.pv_run _ _ _ (by kernel_rfl) w) (ixft5_all N) mixed ⟨ixft5_l1_ok N, trivial⟩ (fun z E Xc hE hX hret => trivial) (fun p => ixft5_eq N p.1.1 p.2.1.1.2.1)

def coft5_S (N : Nat) (s : List (Int × (Int × Int))) (f : (List Int)) : Option (Bool × (List Int)) :=
  (ixft5_S N s f).bind fun (x_1, y_2) =>
  some ((decide (0 ≤ x_1)), y_2)
noncomputable def coft5_sp (N : Nat) : List Spec := [sp_ixft5 N]
theorem coft5_all (N : Nat) : AllP (SpecOK Try.prog) (coft5_sp N) := ⟨sp_ixft5_ok N, trivial⟩
noncomputable def coft5_c : Code := (Try.f55.body).getD .skip
noncomputable abbrev coft5_B : Body := { c := coft5_c, n := 9, res := [.tmp 4], outs := [⟨[.b], [.segs [.fn 38 [] [.fe (.sl (.int .i64))]]]⟩], m0 := 1 }
abbrev coft5_rt : altD coft5_B.outs → Option (Bool × (List Int)) := fun r => some (r.1.1, r.2.1.1.2.1)
abbrev coft5_st : Sta := ⟨[0, 1], ⟨[.sl (.pair (.int .i64) (.pair (.int .i64) (.int .i64))), .fn 56 [] [.own 0 0]], [.segs [.fn 38 [] [.fe (.sl (.int .i64))]]]⟩⟩
theorem coft5_eq (N : Nat) (s : List (Int × (Int × Int))) (f : (List Int)) : ev (Z := Bool × (List Int)) Try.prog (coft5_sp N) coft5_B [] [] (some coft5_rt) 400 false [.c [0], .c [1]] (stL coft5_st ((s, ((), ((), ())), ()), ((((), (f, ())), ()), ()))) (stH coft5_st ((s, ((), ((), ())), ()), ((((), (f, ())), ()), ()))) = coft5_S N s f := by kernel_rfl
noncomputable def sp_coft5 (N : Nat) : Spec := { f := 55, ins := ⟨[.sl (.pair (.int .i64) (.pair (.int .i64) (.int .i64))), .fn 56 [] [.own 0 0]], [.segs [.fn 38 [] [.fe (.sl (.int .i64))]]]⟩, outs := [⟨[.b], [.segs [.fn 38 [] [.fe (.sl (.int .i64))]]]⟩], run := fun p k => (coft5_S N p.1.1 p.2.1.1.2.1).bind fun r => k ((r.1, ()), ((((), (r.2, ())), ()), ())) }
theorem sp_coft5_ok (N : Nat) : SpecOK Try.prog (sp_coft5 N) := fn_sound (B := coft5_B) (loops := []) (leaves := []) (fun p => coft5_S N p.1.1 p.2.1.1.2.1) (fun r => ((r.1, ()), ((((), (r.2, ())), ()), ()))) coft5_rt (fun _ _ _ => rfl) (fun r z h => by cases h; rfl) Try.func55 (by kernel_rfl) (by kernel_rfl) (by kernel_rfl) rfl rfl (by kernel_rfl) (fun args w => Sem.pv_run _ _ _ (by kernel_rfl) w) (coft5_all N) mixed trivial (fun z E Xc hE hX hret => trivial) (fun p => coft5_eq N p.1.1 p.2.1.1.2.1)

def everyt5_S (N : Nat) (l : List (Int × (Int × Int))) (holds : (List Int)) : Option Bool :=
  (coft5_S N l holds).bind fun (x_1, y_2) =>
  some (!x_1)
noncomputable def everyt5_sp (N : Nat) : List Spec := [sp_coft5 N]
theorem everyt5_all (N : Nat) : AllP (SpecOK Try.prog) (everyt5_sp N) := ⟨sp_coft5_ok N, trivial⟩
noncomputable def everyt5_c : Code := (Try.f37.body).getD .skip
noncomputable abbrev everyt5_B : Body := { c := everyt5_c, n := 9, res := [.tmp 4], outs := [⟨[.b], []⟩], m0 := 0 }
abbrev everyt5_rt : altD everyt5_B.outs → Option Bool := fun r => some r.1.1
abbrev everyt5_st : Sta := ⟨[0, 1], ⟨[.sl (.pair (.int .i64) (.pair (.int .i64) (.int .i64))), .fn 38 [] [.fe (.sl (.int .i64))]], []⟩⟩
theorem everyt5_eq (N : Nat) (l : List (Int × (Int × Int))) (holds : (List Int)) : ev (Z := Bool) Try.prog (everyt5_sp N) everyt5_B [] [] (some everyt5_rt) 400 false [.c [0], .c [1]] (stL everyt5_st ((l, ((), (holds, ())), ()), ())) (stH everyt5_st ((l, ((), (holds, ())), ()), ())) = everyt5_S N l holds := by kernel_rfl
noncomputable def sp_everyt5 (N : Nat) : Spec := { f := 37, ins := ⟨[.sl (.pair (.int .i64) (.pair (.int .i64) (.int .i64))), .fn 38 [] [.fe (.sl (.int .i64))]], []⟩, outs := [⟨[.b], []⟩], run := fun p k => (everyt5_S N p.1.1 p.1.2.1.2.1).bind fun r => k ((r, ()), ()) }
theorem sp_everyt5_ok (N : Nat) : SpecOK Try.prog (sp_everyt5 N) := fn_sound (B := everyt5_B) (loops := []) (leaves := []) (fun p => everyt5_S N p.1.1 p.1.2.1.2.1) (fun r => ((r, ()), ())) everyt5_rt (fun _ _ _ => rfl) (fun r z h => by cases h; rfl) Try.func37 (by kernel_rfl) (by kernel_rfl) (by kernel_rfl) rfl rfl (by kernel_rfl) (fun args w => Sem.pv_run _ _ _ (by kernel_rfl) w) (everyt5_all N) mixed trivial (fun z E Xc hE hX hret => trivial) (fun p => everyt5_eq N p.1.1 p.1.2.1.2.1)

def keeps_S (N : Nat) (d : ((List (Int × (Int × Bool))) × ((List (Int × (Int × Int))) × Int))) (l : List Int) : Option Bool :=
  (everyt5_S N d.2.1 l).bind fun x_1 =>
  some x_1
noncomputable def keeps_sp (N : Nat) : List Spec := [sp_everyt5 N]
theorem keeps_all (N : Nat) : AllP (SpecOK Try.prog) (keeps_sp N) := ⟨sp_everyt5_ok N, trivial⟩
noncomputable def keeps_c : Code := (Try.f18.body).getD .skip
noncomputable abbrev keeps_B : Body := { c := keeps_c, n := 12, res := [.tmp 4], outs := [⟨[.b], []⟩], m0 := 0 }
abbrev keeps_rt : altD keeps_B.outs → Option Bool := fun r => some r.1.1
abbrev keeps_st : Sta := ⟨[0, 1], ⟨[.fe (.pair (.sl (.pair (.int .i64) (.pair (.int .i64) .bool))) (.pair (.sl (.pair (.int .i64) (.pair (.int .i64) (.int .i64)))) (.int .i64))), .sl (.int .i64)], []⟩⟩
theorem keeps_eq (N : Nat) (d : ((List (Int × (Int × Bool))) × ((List (Int × (Int × Int))) × Int))) (l : List Int) : ev (Z := Bool) Try.prog (keeps_sp N) keeps_B [] [] (some keeps_rt) 400 false [.c [0], .c [1]] (stL keeps_st ((d, l, ()), ())) (stH keeps_st ((d, l, ()), ())) = keeps_S N d l := by kernel_rfl
noncomputable def sp_keeps (N : Nat) : Spec := { f := 18, ins := ⟨[.fe (.pair (.sl (.pair (.int .i64) (.pair (.int .i64) .bool))) (.pair (.sl (.pair (.int .i64) (.pair (.int .i64) (.int .i64)))) (.int .i64))), .sl (.int .i64)], []⟩, outs := [⟨[.b], []⟩], run := fun p k => (keeps_S N p.1.1 p.1.2.1).bind fun r => k ((r, ()), ()) }
theorem sp_keeps_ok (N : Nat) : SpecOK Try.prog (sp_keeps N) := fn_sound (B := keeps_B) (loops := []) (leaves := []) (fun p => keeps_S N p.1.1 p.1.2.1) (fun r => ((r, ()), ())) keeps_rt (fun _ _ _ => rfl) (fun r z h => by cases h; rfl) Try.func18 (by kernel_rfl) (by kernel_rfl) (by kernel_rfl) rfl rfl (by kernel_rfl) (fun args w => Sem.pv_run _ _ _ (by kernel_rfl) w) (keeps_all N) mixed trivial (fun z E Xc hE hX hret => trivial) (fun p => keeps_eq N p.1.1 p.1.2.1)

def weight_l1 (N : Nat) : Nat → (((List (Int × (Int × Bool))) × ((List (Int × (Int × Int))) × Int))) → (List Int) → Int → Int → (List Int) → Option (List Int)
  | 0, _, _, _, _, _ => none
  | n_ + 1, d, u, u2, u3, out =>
    br (decide (u3 < u2))
      (idx u u3 fun x_1 =>
      idx d.1 x_1 fun x_2 =>
      lim (out.length + [x_2.2.1].length) <|
      chk (u3 + 1) <|
      weight_l1 N n_ d u u2 (u3 + 1) (out ++ [x_2.2.1]))
      (some (out))
def weight_S (N : Nat) (d : ((List (Int × (Int × Bool))) × ((List (Int × (Int × Int))) × Int))) (l : List Int) : Option Int :=
  (weight_l1 N N d l (l.length : Int) 0 []).bind fun out_3 =>
  (sum_S N out_3).bind fun x_4 =>
  some x_4
noncomputable def weight_sp (N : Nat) : List Spec := [sp_sum N]
theorem weight_all (N : Nat) : AllP (SpecOK Try.prog) (weight_sp N) := ⟨sp_sum_ok N, trivial⟩
noncomputable def weight_c : Code := (Try.f17.body).getD .skip
noncomputable abbrev weight_B : Body := { c := weight_c, n := 29, res := [.tmp 4], outs := [⟨[.i .i64], []⟩], m0 := 0 }
abbrev weight_rt : altD weight_B.outs → Option Int := fun r => some r.1.1
abbrev weight_l1_at : List PI := [.c [1, 1, 0, 1, 0, 0, 0], .c [1, 1, 0, 1, 0, 0, 1], .l [1, 1, 0, 1, 0, 0], .b 0, .c [1, 1, 1]]
abbrev weight_l1_st : Sta := ⟨[0, 5, 8, 9, 10], ⟨[.fe (.pair (.sl (.pair (.int .i64) (.pair (.int .i64) .bool))) (.pair (.sl (.pair (.int .i64) (.pair (.int .i64) (.int .i64)))) (.int .i64))), .ols 0, .sl (.int .i64), .i .i64, .i .i64], [.lst (.int .i64)]⟩⟩
abbrev weight_l1_h (rec : (((List (Int × (Int × Bool))) × ((List (Int × (Int × Int))) × Int))) → (List Int) → Int → Int → (List Int) → Option (List Int)) : Leaf (List Int) := ⟨weight_l1_at, weight_l1_st, fun p => rec p.1.1 p.1.2.2.1 p.1.2.2.2.1 p.1.2.2.2.2.1 p.2.1⟩
abbrev weight_l1_e0 : Leaf (List Int) := ⟨[.c [1, 1, 1, 0], .c [1, 1, 1, 1]], ⟨[5], ⟨[.ols 0], [.lst (.int .i64)]⟩⟩, fun p => some (p.2.1)⟩
noncomputable def weight_l1_L (N : Nat) : LoopS := { at_ := weight_l1_at, sta := weight_l1_st, exits := [([.c [1, 1, 1, 0], .c [1, 1, 1, 1]], ⟨[5], ⟨[.ols 0], [.lst (.int .i64)]⟩⟩)], run := fun p k => (weight_l1 N N p.1.1 p.1.2.2.1 p.1.2.2.2.1 p.1.2.2.2.2.1 p.2.1).bind fun e => k (.inl (((), ()), (e, ()))) }
theorem weight_l1_eq (N n_ : Nat) (d : ((List (Int × (Int × Bool))) × ((List (Int × (Int × Int))) × Int))) (u : List Int) (u2 : Int) (u3 : Int) (out : List Int) : ev (Z := List Int) Try.prog (weight_sp N) weight_B [] [weight_l1_h (weight_l1 N n_), weight_l1_e0] none 400 true weight_l1_at (stL weight_l1_st ((d, (), u, u2, u3, ()), (out, ()))) (stH weight_l1_st ((d, (), u, u2, u3, ()), (out, ()))) = weight_l1 N (n_ + 1) d u u2 u3 out := by kernel_rfl
theorem weight_l1_ok (N : Nat) {top : Bool} : LoopOK Try.prog weight_B.c weight_B.n weight_B.m0 top (weight_l1_L N) := loop_of_ev (Z := List Int) (N := N) (fun m p => weight_l1 N m p.1.1 p.1.2.2.1 p.1.2.2.2.1 p.1.2.2.2.2.1 p.2.1) (fun e => .inl (((), ()), (e, ()))) (fun _ _ _ => rfl) (fun _ => rfl) (fun m z E Xc hE hX hrec hx => leaf_of_ev (B := weight_B) (loops := []) (leaves := [weight_l1_h (weight_l1 N m), weight_l1_e0]) (weight_all N) mixed trivial hE hX ⟨hrec, (fun p hp => by obtain rfl := Option.some.inj hp; exact hx), trivial⟩ RetOK.no (fun p => weight_l1_eq N m p.1.1 p.1.2.2.1 p.1.2.2.2.1 p.1.2.2.2.2.1 p.2.1))
abbrev weight_st : Sta := ⟨[0, 1], ⟨[.fe (.pair (.sl (.pair (.int .i64) (.pair (.int .i64) .bool))) (.pair (.sl (.pair (.int .i64) (.pair (.int .i64) (.int .i64)))) (.int .i64))), .sl (.int .i64)], []⟩⟩
theorem weight_eq (N : Nat) (d : ((List (Int × (Int × Bool))) × ((List (Int × (Int × Int))) × Int))) (l : List Int) : ev (Z := Int) Try.prog (weight_sp N) weight_B [weight_l1_L N] [] (some weight_rt) 400 false [.c [0], .c [1]] (stL weight_st ((d, l, ()), ())) (stH weight_st ((d, l, ()), ())) = weight_S N d l := by kernel_rfl
noncomputable def sp_weight (N : Nat) : Spec := { f := 17, ins := ⟨[.fe (.pair (.sl (.pair (.int .i64) (.pair (.int .i64) .bool))) (.pair (.sl (.pair (.int .i64) (.pair (.int .i64) (.int .i64)))) (.int .i64))), .sl (.int .i64)], []⟩, outs := [⟨[.i .i64], []⟩], run := fun p k => (weight_S N p.1.1 p.1.2.1).bind fun r => k ((r, ()), ()) }
theorem sp_weight_ok (N : Nat) : SpecOK Try.prog (sp_weight N) := fn_sound (B := weight_B) (loops := [weight_l1_L N]) (leaves := []) (fun p => weight_S N p.1.1 p.1.2.1) (fun r => ((r, ()), ())) weight_rt (fun _ _ _ => rfl) (fun r z h => by cases h; rfl) Try.func17 (by kernel_rfl) (by kernel_rfl) (by kernel_rfl) rfl rfl (by kernel_rfl) (fun args w => Sem.pv_run _ _ _ (by kernel_rfl) w) (weight_all N) mixed ⟨weight_l1_ok N, trivial⟩ (fun z E Xc hE hX hret => trivial) (fun p => weight_eq N p.1.1 p.1.2.1)

def cloneo_S (N : Nat) (s : List Int) : Option (List Int) :=
  grd (!s.isEmpty) <|
  lim (([] : (List Int)).length + s.length) <|
  some (([] : (List Int)) ++ s)
noncomputable def cloneo_sp (N : Nat) : List Spec := []
theorem cloneo_all (N : Nat) : AllP (SpecOK Try.prog) (cloneo_sp N) := trivial
noncomputable def cloneo_c : Code := (Try.f20.body).getD .skip
noncomputable abbrev cloneo_B : Body := { c := cloneo_c, n := 8, res := [.tmp 2], outs := [⟨[.ols 0], [.lst (.int .i64)]⟩], m0 := 0 }
abbrev cloneo_rt : altD cloneo_B.outs → Option (List Int) := fun r => some r.2.1
abbrev cloneo_st : Sta := ⟨[0], ⟨[.sl (.int .i64)], []⟩⟩
theorem cloneo_eq (N : Nat) (s : List Int) : ev (Z := List Int) Try.prog (cloneo_sp N) cloneo_B [] [] (some cloneo_rt) 400 false [.c [0], .c [1]] (stL cloneo_st ((s, ()), ())) (stH cloneo_st ((s, ()), ())) = cloneo_S N s := by kernel_rfl
noncomputable def sp_cloneo (N : Nat) : Spec := { f := 20, ins := ⟨[.sl (.int .i64)], []⟩, outs := [⟨[.ols 0], [.lst (.int .i64)]⟩], run := fun p k => (cloneo_S N p.1.1).bind fun r => k (((), ()), (r, ())) }
theorem sp_cloneo_ok (N : Nat) : SpecOK Try.prog (sp_cloneo N) := fn_sound (B := cloneo_B) (loops := []) (leaves := []) (fun p => cloneo_S N p.1.1) (fun r => (((), ()), (r, ()))) cloneo_rt (fun _ _ _ => rfl) (fun r z h => by cases h; rfl) Try.func20 (by kernel_rfl) (by kernel_rfl) (by kernel_rfl) rfl rfl (by kernel_rfl) (fun args w => Sem.pv_run _ _ _ (by kernel_rfl) w) (cloneo_all N) mixed trivial (fun z E Xc hE hX hret => trivial) (fun p => cloneo_eq N p.1.1)

def clonen_S (N : Nat)  : Option Unit :=
  some ()
noncomputable def clonen_sp (N : Nat) : List Spec := []
theorem clonen_all (N : Nat) : AllP (SpecOK Try.prog) (clonen_sp N) := trivial
noncomputable def clonen_c : Code := (Try.f20.body).getD .skip
noncomputable abbrev clonen_B : Body := { c := clonen_c, n := 8, res := [.tmp 2], outs := [⟨[.nils], []⟩], m0 := 0 }
abbrev clonen_rt : altD clonen_B.outs → Option Unit := fun r => some ()
abbrev clonen_st : Sta := ⟨[0], ⟨[.nils], []⟩⟩
theorem clonen_eq (N : Nat)  : ev (Z := Unit) Try.prog (clonen_sp N) clonen_B [] [] (some clonen_rt) 400 false [.c [0], .c [1]] (stL clonen_st (((), ()), ())) (stH clonen_st (((), ()), ())) = clonen_S N := by kernel_rfl
noncomputable def sp_clonen (N : Nat) : Spec := { f := 20, ins := ⟨[.nils], []⟩, outs := [⟨[.nils], []⟩], run := fun p k => (clonen_S N).bind fun r => k (((), ()), ()) }
theorem sp_clonen_ok (N : Nat) : SpecOK Try.prog (sp_clonen N) := fn_sound (B := clonen_B) (loops := []) (leaves := []) (fun p => clonen_S N ) (fun r => (((), ()), ())) clonen_rt (fun _ _ _ => rfl) (fun r z h => by cases h; rfl) Try.func20 (by kernel_rfl) (by kernel_rfl) (by kernel_rfl) rfl rfl (by kernel_rfl) (fun args w => Sem.pv_run _ _ _ (by kernel_rfl) w) (clonen_all N) mixed trivial (fun z E Xc hE hX hret => trivial) (fun p => clonen_eq N )

noncomputable abbrev choose_self (self : (List Int) → Int → Int → (((List (Int × (Int × Bool))) × ((List (Int × (Int × Int))) × Int))) → Int → (((List (Int × (Int × Bool))) × ((List (Int × (Int × Int))) × Int))) → Int → Option ((((List (Int × (Int × Bool))) × ((List (Int × (Int × Int))) × Int)) × Int) ⊕ (List Int × ((List (Int × (Int × Bool))) × ((List (Int × (Int × Int))) × Int)) × Int))) : Spec := { f := 16, ins := ⟨[.sl (.int .i64), .i .i64, .i .i64, .fe (.ptr (.pair (.sl (.pair (.int .i64) (.pair (.int .i64) .bool))) (.pair (.sl (.pair (.int .i64) (.pair (.int .i64) (.int .i64)))) (.int .i64)))), .fe (.int .i64), .own 0 0], [.segs [.fn 16 [] [.fe (.ptr (.pair (.sl (.pair (.int .i64) (.pair (.int .i64) .bool))) (.pair (.sl (.pair (.int .i64) (.pair (.int .i64) (.int .i64)))) (.int .i64)))), .fe (.int .i64), .own 0 0]]]⟩, outs := [⟨[.nils], [.segs [.fn 16 [] [.fe (.ptr (.pair (.sl (.pair (.int .i64) (.pair (.int .i64) .bool))) (.pair (.sl (.pair (.int .i64) (.pair (.int .i64) (.int .i64)))) (.int .i64)))), .fe (.int .i64), .own 0 0]]]⟩, ⟨[.sl (.int .i64)], [.segs [.fn 16 [] [.fe (.ptr (.pair (.sl (.pair (.int .i64) (.pair (.int .i64) .bool))) (.pair (.sl (.pair (.int .i64) (.pair (.int .i64) (.int .i64)))) (.int .i64)))), .fe (.int .i64), .own 0 0]]]⟩], run := fun p k => (self p.1.1 p.1.2.1 p.1.2.2.1 p.1.2.2.2.1 p.1.2.2.2.2.1 p.2.1.1.2.1 p.2.1.1.2.2.1).bind fun r => match r with | .inl r => k (.inl (((), ()), ((((), (r.1, r.2, (), ())), ()), ()))) | .inr r => k (.inr ((r.1, ()), ((((), (r.2.1, r.2.2, (), ())), ()), ()))) }
def choose_l1 (N : Nat) (self : (List Int) → Int → Int → (((List (Int × (Int × Bool))) × ((List (Int × (Int × Int))) × Int))) → Int → (((List (Int × (Int × Bool))) × ((List (Int × (Int × Int))) × Int))) → Int → Option ((((List (Int × (Int × Bool))) × ((List (Int × (Int × Int))) × Int)) × Int) ⊕ (List Int × ((List (Int × (Int × Bool))) × ((List (Int × (Int × Int))) × Int)) × Int))) : Nat → (List Int) → Int → (((List (Int × (Int × Bool))) × ((List (Int × (Int × Int))) × Int))) → Int → (((List (Int × (Int × Bool))) × ((List (Int × (Int × Int))) × Int))) → Int → Option ((List Int × ((List (Int × (Int × Bool))) × ((List (Int × (Int × Int))) × Int)) × Int) ⊕ (((List (Int × (Int × Bool))) × ((List (Int × (Int × Int))) × Int)) × Int))
  | 0, _, _, _, _, _, _ => none
  | n_ + 1, l, more, u, w, g, g2 =>
    chk (w + more) <|
    (end__S N u).bind fun x_3 =>
    br (decide ((w + more) ≤ x_3))
      ((cloneo_S N l).bind fun x_4 =>
      lim (x_4.length + [w].length) <|
      chk (w + 1) <|
      chk (more - 1) <|
      ((self (x_4 ++ [w]) (w + 1) (more - 1) g g2 g g2).bind fun e => match e with
      | .inl (x_5, y_6) =>
        (chk (w + 1) <|
        choose_l1 N self n_ l more u (w + 1) x_5 y_6)
      | .inr (x_7, y_8, y_9) =>
        (grd (!x_7.isEmpty) <|
        some (.inl (x_7, y_8, y_9)))))
      (some (.inr (g, g2)))
def choose_S (N : Nat) (self : (List Int) → Int → Int → (((List (Int × (Int × Bool))) × ((List (Int × (Int × Int))) × Int))) → Int → (((List (Int × (Int × Bool))) × ((List (Int × (Int × Int))) × Int))) → Int → Option ((((List (Int × (Int × Bool))) × ((List (Int × (Int × Int))) × Int)) × Int) ⊕ (List Int × ((List (Int × (Int × Bool))) × ((List (Int × (Int × Int))) × Int)) × Int))) (l : List Int) (from_ : Int) (more : Int) (u : ((List (Int × (Int × Bool))) × ((List (Int × (Int × Int))) × Int))) (u2 : Int) (g : ((List (Int × (Int × Bool))) × ((List (Int × (Int × Int))) × Int))) (g2 : Int) : Option ((((List (Int × (Int × Bool))) × ((List (Int × (Int × Int))) × Int)) × Int) ⊕ (List Int × ((List (Int × (Int × Bool))) × ((List (Int × (Int × Int))) × Int)) × Int)) :=
  br (decide (more = 0))
    ((weight_S N u l).bind fun x_1 =>
    br (decide (u2 ≤ x_1))
      ((keeps_S N u l).bind fun x_2 =>
      br x_2
        (some (.inr (l, g, g2)))
        (some (.inl (g, g2))))
      (some (.inl (g, g2))))
    ((choose_l1 N self N l more u from_ g g2).bind fun e => match e with
    | .inl (out_10, g_11, g2_12) =>
      some (.inr (out_10, g_11, g2_12))
    | .inr (g_13, g2_14) =>
      some (.inl (g_13, g2_14)))
noncomputable def choose_sp (N : Nat) (self : (List Int) → Int → Int → (((List (Int × (Int × Bool))) × ((List (Int × (Int × Int))) × Int))) → Int → (((List (Int × (Int × Bool))) × ((List (Int × (Int × Int))) × Int))) → Int → Option ((((List (Int × (Int × Bool))) × ((List (Int × (Int × Int))) × Int)) × Int) ⊕ (List Int × ((List (Int × (Int × Bool))) × ((List (Int × (Int × Int))) × Int)) × Int))) : List Spec := [sp_cloneo N, sp_end_ N, sp_keeps N, sp_weight N, choose_self self]
theorem choose_all (N : Nat) (self : (List Int) → Int → Int → (((List (Int × (Int × Bool))) × ((List (Int × (Int × Int))) × Int))) → Int → (((List (Int × (Int × Bool))) × ((List (Int × (Int × Int))) × Int))) → Int → Option ((((List (Int × (Int × Bool))) × ((List (Int × (Int × Int))) × Int)) × Int) ⊕ (List Int × ((List (Int × (Int × Bool))) × ((List (Int × (Int × Int))) × Int)) × Int))) (hself : SpecOK Try.prog (choose_self self)) : AllP (SpecOK Try.prog) (choose_sp N self) := ⟨sp_cloneo_ok N, sp_end__ok N, sp_keeps_ok N, sp_weight_ok N, hself, trivial⟩
noncomputable def choose_c : Code := (Try.f16.body).getD .skip
noncomputable abbrev choose_B : Body := { c := choose_c, n := 48, res := [.tmp 9], outs := [⟨[.nils], [.segs [.fn 16 [] [.fe (.ptr (.pair (.sl (.pair (.int .i64) (.pair (.int .i64) .bool))) (.pair (.sl (.pair (.int .i64) (.pair (.int .i64) (.int .i64)))) (.int .i64)))), .fe (.int .i64), .own 0 0]]]⟩, ⟨[.sl (.int .i64)], [.segs [.fn 16 [] [.fe (.ptr (.pair (.sl (.pair (.int .i64) (.pair (.int .i64) .bool))) (.pair (.sl (.pair (.int .i64) (.pair (.int .i64) (.int .i64)))) (.int .i64)))), .fe (.int .i64), .own 0 0]]]⟩], m0 := 1 }
abbrev choose_rt : altD choose_B.outs → Option ((((List (Int × (Int × Bool))) × ((List (Int × (Int × Int))) × Int)) × Int) ⊕ (List Int × ((List (Int × (Int × Bool))) × ((List (Int × (Int × Int))) × Int)) × Int)) := fun r => match r with | .inl r => some (.inl (r.2.1.1.2.1, r.2.1.1.2.2.1)) | .inr r => some (.inr (r.1.1, r.2.1.1.2.1, r.2.1.1.2.2.1))
abbrev choose_l1_at : List PI := [.c [1, 1, 0, 1, 0, 0, 0, 0], .c [1, 1, 0, 1, 0, 0, 0, 1], .c [1, 1, 0, 1, 0, 0, 1], .l [1, 1, 0, 1, 0, 0], .b 0, .c [1, 1, 1]]
abbrev choose_l1_st : Sta := ⟨[0, 2, 3, 5, 10], ⟨[.sl (.int .i64), .i .i64, .fe (.ptr (.pair (.sl (.pair (.int .i64) (.pair (.int .i64) .bool))) (.pair (.sl (.pair (.int .i64) (.pair (.int .i64) (.int .i64)))) (.int .i64)))), .own 0 0, .i .i64], [.segs [.fn 16 [] [.fe (.ptr (.pair (.sl (.pair (.int .i64) (.pair (.int .i64) .bool))) (.pair (.sl (.pair (.int .i64) (.pair (.int .i64) (.int .i64)))) (.int .i64)))), .fe (.int .i64), .own 0 0]]]⟩⟩
abbrev choose_l1_h (rec : (List Int) → Int → (((List (Int × (Int × Bool))) × ((List (Int × (Int × Int))) × Int))) → Int → (((List (Int × (Int × Bool))) × ((List (Int × (Int × Int))) × Int))) → Int → Option ((List Int × ((List (Int × (Int × Bool))) × ((List (Int × (Int × Int))) × Int)) × Int) ⊕ (((List (Int × (Int × Bool))) × ((List (Int × (Int × Int))) × Int)) × Int))) : Leaf ((List Int × ((List (Int × (Int × Bool))) × ((List (Int × (Int × Int))) × Int)) × Int) ⊕ (((List (Int × (Int × Bool))) × ((List (Int × (Int × Int))) × Int)) × Int)) := ⟨choose_l1_at, choose_l1_st, fun p => rec p.1.1 p.1.2.1 p.1.2.2.1 p.1.2.2.2.2.1 p.2.1.1.2.1 p.2.1.1.2.2.1⟩
abbrev choose_l1_e0 : Leaf ((List Int × ((List (Int × (Int × Bool))) × ((List (Int × (Int × Int))) × Int)) × Int) ⊕ (((List (Int × (Int × Bool))) × ((List (Int × (Int × Int))) × Int)) × Int)) := ⟨[.c [1, 1, 0, 1, 0, 0, 1, 0, 0, 1, 1, 0, 0], .c [1, 1, 0, 1, 0, 0, 1, 0, 0, 1, 1, 0, 1], .b 1, .c [1, 1, 0, 1, 0, 0, 1, 1], .l [1, 1, 0, 1, 0, 0], .b 0, .c [1, 1, 1]], ⟨[11], ⟨[.sl (.int .i64)], [.segs [.fn 16 [] [.fe (.ptr (.pair (.sl (.pair (.int .i64) (.pair (.int .i64) .bool))) (.pair (.sl (.pair (.int .i64) (.pair (.int .i64) (.int .i64)))) (.int .i64)))), .fe (.int .i64), .own 0 0]]]⟩⟩, fun p => some (.inl (p.1.1, p.2.1.1.2.1, p.2.1.1.2.2.1))⟩
abbrev choose_l1_e1 : Leaf ((List Int × ((List (Int × (Int × Bool))) × ((List (Int × (Int × Int))) × Int)) × Int) ⊕ (((List (Int × (Int × Bool))) × ((List (Int × (Int × Int))) × Int)) × Int)) := ⟨[.c [1, 1, 1, 0], .c [1, 1, 1, 1]], ⟨[], ⟨[], [.segs [.fn 16 [] [.fe (.ptr (.pair (.sl (.pair (.int .i64) (.pair (.int .i64) .bool))) (.pair (.sl (.pair (.int .i64) (.pair (.int .i64) (.int .i64)))) (.int .i64)))), .fe (.int .i64), .own 0 0]]]⟩⟩, fun p => some (.inr (p.2.1.1.2.1, p.2.1.1.2.2.1))⟩
noncomputable def choose_l1_L (N : Nat) (self : (List Int) → Int → Int → (((List (Int × (Int × Bool))) × ((List (Int × (Int × Int))) × Int))) → Int → (((List (Int × (Int × Bool))) × ((List (Int × (Int × Int))) × Int))) → Int → Option ((((List (Int × (Int × Bool))) × ((List (Int × (Int × Int))) × Int)) × Int) ⊕ (List Int × ((List (Int × (Int × Bool))) × ((List (Int × (Int × Int))) × Int)) × Int))) : LoopS := { at_ := choose_l1_at, sta := choose_l1_st, exits := [([.c [1, 1, 0, 1, 0, 0, 1, 0, 0, 1, 1, 0, 0], .c [1, 1, 0, 1, 0, 0, 1, 0, 0, 1, 1, 0, 1], .b 1, .c [1, 1, 0, 1, 0, 0, 1, 1], .l [1, 1, 0, 1, 0, 0], .b 0, .c [1, 1, 1]], ⟨[11], ⟨[.sl (.int .i64)], [.segs [.fn 16 [] [.fe (.ptr (.pair (.sl (.pair (.int .i64) (.pair (.int .i64) .bool))) (.pair (.sl (.pair (.int .i64) (.pair (.int .i64) (.int .i64)))) (.int .i64)))), .fe (.int .i64), .own 0 0]]]⟩⟩), ([.c [1, 1, 1, 0], .c [1, 1, 1, 1]], ⟨[], ⟨[], [.segs [.fn 16 [] [.fe (.ptr (.pair (.sl (.pair (.int .i64) (.pair (.int .i64) .bool))) (.pair (.sl (.pair (.int .i64) (.pair (.int .i64) (.int .i64)))) (.int .i64)))), .fe (.int .i64), .own 0 0]]]⟩⟩)], run := fun p k => (choose_l1 N self N p.1.1 p.1.2.1 p.1.2.2.1 p.1.2.2.2.2.1 p.2.1.1.2.1 p.2.1.1.2.2.1).bind fun e => match e with | .inl x => k (.inl ((x.1, ()), ((((), (x.2.1, x.2.2, (), ())), ()), ()))) | .inr x => k (.inr (.inl ((), ((((), (x.1, x.2, (), ())), ()), ())))) }
theorem choose_l1_eq (N : Nat) (self : (List Int) → Int → Int → (((List (Int × (Int × Bool))) × ((List (Int × (Int × Int))) × Int))) → Int → (((List (Int × (Int × Bool))) × ((List (Int × (Int × Int))) × Int))) → Int → Option ((((List (Int × (Int × Bool))) × ((List (Int × (Int × Int))) × Int)) × Int) ⊕ (List Int × ((List (Int × (Int × Bool))) × ((List (Int × (Int × Int))) × Int)) × Int))) (n_ : Nat) (l : List Int) (more : Int) (u : ((List (Int × (Int × Bool))) × ((List (Int × (Int × Int))) × Int))) (w : Int) (g : ((List (Int × (Int × Bool))) × ((List (Int × (Int × Int))) × Int))) (g2 : Int) : ev (Z := (List Int × ((List (Int × (Int × Bool))) × ((List (Int × (Int × Int))) × Int)) × Int) ⊕ (((List (Int × (Int × Bool))) × ((List (Int × (Int × Int))) × Int)) × Int)) Try.prog (choose_sp N self) choose_B [] [choose_l1_h (choose_l1 N self n_), choose_l1_e0, choose_l1_e1] none 400 true choose_l1_at (stL choose_l1_st ((l, more, u, (), w, ()), ((((), (g, g2, (), ())), ()), ()))) (stH choose_l1_st ((l, more, u, (), w, ()), ((((), (g, g2, (), ())), ()), ()))) = choose_l1 N self (n_ + 1) l more u w g g2 := by kernel_rfl
theorem choose_l1_ok (N : Nat) (self : (List Int) → Int → Int → (((List (Int × (Int × Bool))) × ((List (Int × (Int × Int))) × Int))) → Int → (((List (Int × (Int × Bool))) × ((List (Int × (Int × Int))) × Int))) → Int → Option ((((List (Int × (Int × Bool))) × ((List (Int × (Int × Int))) × Int)) × Int) ⊕ (List Int × ((List (Int × (Int × Bool))) × ((List (Int × (Int × Int))) × Int)) × Int))) (hself : SpecOK Try.prog (choose_self self)) {top : Bool} : LoopOK Try.prog choose_B.c choose_B.n choose_B.m0 top (choose_l1_L N self) := loop_of_ev (Z := (List Int × ((List (Int × (Int × Bool))) × ((List (Int × (Int × Int))) × Int)) × Int) ⊕ (((List (Int × (Int × Bool))) × ((List (Int × (Int × Int))) × Int)) × Int)) (N := N) (fun m p => choose_l1 N self m p.1.1 p.1.2.1 p.1.2.2.1 p.1.2.2.2.2.1 p.2.1.1.2.1 p.2.1.1.2.2.1) (fun e => match e with | .inl x => .inl ((x.1, ()), ((((), (x.2.1, x.2.2, (), ())), ()), ())) | .inr x => .inr (.inl ((), ((((), (x.1, x.2, (), ())), ()), ())))) (fun _ p k => bind_congr_ (choose_l1 N self N p.1.1 p.1.2.1 p.1.2.2.1 p.1.2.2.2.2.1 p.2.1.1.2.1 p.2.1.1.2.2.1) _ _ (fun e => by rcases e with x | x <;> rfl)) (fun _ => rfl) (fun m z E Xc hE hX hrec hx => leaf_of_ev (B := choose_B) (loops := []) (leaves := [choose_l1_h (choose_l1 N self m), choose_l1_e0, choose_l1_e1]) (choose_all N self hself) mixed trivial hE hX ⟨hrec, (fun p hp => by obtain rfl := Option.some.inj hp; exact hx), (fun p hp => by obtain rfl := Option.some.inj hp; exact hx), trivial⟩ RetOK.no (fun p => choose_l1_eq N self m p.1.1 p.1.2.1 p.1.2.2.1 p.1.2.2.2.2.1 p.2.1.1.2.1 p.2.1.1.2.2.1))
abbrev choose_st : Sta := ⟨[0, 1, 2, 3, 4, 5], ⟨[.sl (.int .i64), .i .i64, .i .i64, .fe (.ptr (.pair (.sl (.pair (.int .i64) (.pair (.int .i64) .bool))) (.pair (.sl (.pair (.int .i64) (.pair (.int .i64) (.int .i64)))) (.int .i64)))), .fe (.int .i64), .own 0 0], [.segs [.fn 16 [] [.fe (.ptr (.pair (.sl (.pair (.int .i64) (.pair (.int .i64) .bool))) (.pair (.sl (.pair (.int .i64) (.pair (.int .i64) (.int .i64)))) (.int .i64)))), .fe (.int .i64), .own 0 0]]]⟩⟩
theorem choose_eq (N : Nat) (self : (List Int) → Int → Int → (((List (Int × (Int × Bool))) × ((List (Int × (Int × Int))) × Int))) → Int → (((List (Int × (Int × Bool))) × ((List (Int × (Int × Int))) × Int))) → Int → Option ((((List (Int × (Int × Bool))) × ((List (Int × (Int × Int))) × Int)) × Int) ⊕ (List Int × ((List (Int × (Int × Bool))) × ((List (Int × (Int × Int))) × Int)) × Int))) (l : List Int) (from_ : Int) (more : Int) (u : ((List (Int × (Int × Bool))) × ((List (Int × (Int × Int))) × Int))) (u2 : Int) (g : ((List (Int × (Int × Bool))) × ((List (Int × (Int × Int))) × Int))) (g2 : Int) : ev (Z := (((List (Int × (Int × Bool))) × ((List (Int × (Int × Int))) × Int)) × Int) ⊕ (List Int × ((List (Int × (Int × Bool))) × ((List (Int × (Int × Int))) × Int)) × Int)) Try.prog (choose_sp N self) choose_B [choose_l1_L N self] [] (some choose_rt) 400 false [.c [0], .c [1]] (stL choose_st ((l, from_, more, u, u2, (), ()), ((((), (g, g2, (), ())), ()), ()))) (stH choose_st ((l, from_, more, u, u2, (), ()), ((((), (g, g2, (), ())), ()), ()))) = choose_S N self l from_ more u u2 g g2 := by kernel_rfl
theorem choose_self_ok (N : Nat) (self : (List Int) → Int → Int → (((List (Int × (Int × Bool))) × ((List (Int × (Int × Int))) × Int))) → Int → (((List (Int × (Int × Bool))) × ((List (Int × (Int × Int))) × Int))) → Int → Option ((((List (Int × (Int × Bool))) × ((List (Int × (Int × Int))) × Int)) × Int) ⊕ (List Int × ((List (Int × (Int × Bool))) × ((List (Int × (Int × Int))) × Int)) × Int))) (hself : SpecOK Try.prog (choose_self self)) : SpecOK Try.prog (choose_self (choose_S N self)) := fn_sound (B := choose_B) (loops := [choose_l1_L N self]) (leaves := []) (fun p => choose_S N self p.1.1 p.1.2.1 p.1.2.2.1 p.1.2.2.2.1 p.1.2.2.2.2.1 p.2.1.1.2.1 p.2.1.1.2.2.1) (fun r => match r with | .inl r => (.inl (((), ()), ((((), (r.1, r.2, (), ())), ()), ()))) | .inr r => (.inr ((r.1, ()), ((((), (r.2.1, r.2.2, (), ())), ()), ())))) choose_rt (fun _ p k => bind_congr_ (choose_S N self p.1.1 p.1.2.1 p.1.2.2.1 p.1.2.2.2.1 p.1.2.2.2.2.1 p.2.1.1.2.1 p.2.1.1.2.2.1) _ _ (fun e => by rcases e with x | x <;> rfl)) (fun r z h => by rcases r with x | x <;> (cases h; rfl)) Try.func16 (by kernel_rfl) (by kernel_rfl) (by kernel_rfl) rfl rfl (by kernel_rfl) (fun args w => Sem.pv_run _ _ _ (by kernel_rfl) w) (choose_all N self hself) mixed ⟨choose_l1_ok N self hself, trivial⟩ (fun z E Xc hE hX hret => trivial) (fun p => choose_eq N self p.1.1 p.1.2.1 p.1.2.2.1 p.1.2.2.2.1 p.1.2.2.2.2.1 p.2.1.1.2.1 p.2.1.1.2.2.1)
def choose_R (N : Nat) : Nat → (List Int) → Int → Int → (((List (Int × (Int × Bool))) × ((List (Int × (Int × Int))) × Int))) → Int → (((List (Int × (Int × Bool))) × ((List (Int × (Int × Int))) × Int))) → Int → Option ((((List (Int × (Int × Bool))) × ((List (Int × (Int × Int))) × Int)) × Int) ⊕ (List Int × ((List (Int × (Int × Bool))) × ((List (Int × (Int × Int))) × Int)) × Int))
  | 0 => fun _ _ _ _ _ _ _ => none
  | n + 1 => choose_S N (choose_R N n)
theorem choose_R_ok (N : Nat) : ∀ n, SpecOK Try.prog (choose_self (choose_R N n))
  | 0 => SpecOK.none (fun _ _ _ => rfl) (fun args w => Sem.pv_run _ _ _ (by kernel_rfl) w)
  | n + 1 => choose_self_ok N (choose_R N n) (choose_R_ok N n)
noncomputable abbrev sp_choose (N : Nat) : Spec := choose_self (choose_R N N)
theorem sp_choose_ok (N : Nat) : SpecOK Try.prog (sp_choose N) := choose_R_ok N N

def choose0_l1 (N : Nat) : Nat → Int → (((List (Int × (Int × Bool))) × ((List (Int × (Int × Int))) × Int))) → Int → (((List (Int × (Int × Bool))) × ((List (Int × (Int × Int))) × Int))) → Int → Option ((List Int × ((List (Int × (Int × Bool))) × ((List (Int × (Int × Int))) × Int)) × Int) ⊕ (((List (Int × (Int × Bool))) × ((List (Int × (Int × Int))) × Int)) × Int))
  | 0, _, _, _, _, _ => none
  | n_ + 1, more, u, w, g, g2 =>
    chk (w + more) <|
    (end__S N u).bind fun x_3 =>
    br (decide ((w + more) ≤ x_3))
      ((clonen_S N).bind fun _ =>
      chk (w + 1) <|
      chk (more - 1) <|
      ((choose_R N N [w] (w + 1) (more - 1) g g2 g g2).bind fun e => match e with
      | .inl (x_4, y_5) =>
        (chk (w + 1) <|
        choose0_l1 N n_ more u (w + 1) x_4 y_5)
      | .inr (x_6, y_7, y_8) =>
        (grd (!x_6.isEmpty) <|
        some (.inl (x_6, y_7, y_8)))))
      (some (.inr (g, g2)))
def choose0_S (N : Nat) (from_ : Int) (more : Int) (u : ((List (Int × (Int × Bool))) × ((List (Int × (Int × Int))) × Int))) (u2 : Int) (g : ((List (Int × (Int × Bool))) × ((List (Int × (Int × Int))) × Int))) (g2 : Int) : Option ((((List (Int × (Int × Bool))) × ((List (Int × (Int × Int))) × Int)) × Int) ⊕ (List Int × ((List (Int × (Int × Bool))) × ((List (Int × (Int × Int))) × Int)) × Int)) :=
  br (decide (more = 0))
    ((weight_S N u []).bind fun x_1 =>
    br (decide (u2 ≤ x_1))
      ((keeps_S N u []).bind fun x_2 =>
      br x_2
        (some (.inl (g, g2)))
        (some (.inl (g, g2))))
      (some (.inl (g, g2))))
    ((choose0_l1 N N more u from_ g g2).bind fun e => match e with
    | .inl (out_9, g_10, g2_11) =>
      some (.inr (out_9, g_10, g2_11))
    | .inr (g_12, g2_13) =>
      some (.inl (g_12, g2_13)))
noncomputable def choose0_sp (N : Nat) : List Spec := [sp_clonen N, sp_choose N, sp_end_ N, sp_keeps N, sp_weight N]
theorem choose0_all (N : Nat) : AllP (SpecOK Try.prog) (choose0_sp N) := ⟨sp_clonen_ok N, sp_choose_ok N, sp_end__ok N, sp_keeps_ok N, sp_weight_ok N, trivial⟩
noncomputable def choose0_c : Code := (Try.f16.body).getD .skip
noncomputable abbrev choose0_B : Body := { c := choose0_c, n := 48, res := [.tmp 9], outs := [⟨[.nils], [.segs [.fn 16 [] [.fe (.ptr (.pair (.sl (.pair (.int .i64) (.pair (.int .i64) .bool))) (.pair (.sl (.pair (.int .i64) (.pair (.int .i64) (.int .i64)))) (.int .i64)))), .fe (.int .i64), .own 0 0]]]⟩, ⟨[.sl (.int .i64)], [.segs [.fn 16 [] [.fe (.ptr (.pair (.sl (.pair (.int .i64) (.pair (.int .i64) .bool))) (.pair (.sl (.pair (.int .i64) (.pair (.int .i64) (.int .i64)))) (.int .i64)))), .fe (.int .i64), .own 0 0]]]⟩], m0 := 1 }
abbrev choose0_rt : altD choose0_B.outs → Option ((((List (Int × (Int × Bool))) × ((List (Int × (Int × Int))) × Int)) × Int) ⊕ (List Int × ((List (Int × (Int × Bool))) × ((List (Int × (Int × Int))) × Int)) × Int)) := fun r => match r with | .inl r => some (.inl (r.2.1.1.2.1, r.2.1.1.2.2.1)) | .inr r => some (.inr (r.1.1, r.2.1.1.2.1, r.2.1.1.2.2.1))
abbrev choose0_l1_at : List PI := [.c [1, 1, 0, 1, 0, 0, 0, 0], .c [1, 1, 0, 1, 0, 0, 0, 1], .c [1, 1, 0, 1, 0, 0, 1], .l [1, 1, 0, 1, 0, 0], .b 0, .c [1, 1, 1]]
abbrev choose0_l1_st : Sta := ⟨[0, 2, 3, 5, 10], ⟨[.nils, .i .i64, .fe (.ptr (.pair (.sl (.pair (.int .i64) (.pair (.int .i64) .bool))) (.pair (.sl (.pair (.int .i64) (.pair (.int .i64) (.int .i64)))) (.int .i64)))), .own 0 0, .i .i64], [.segs [.fn 16 [] [.fe (.ptr (.pair (.sl (.pair (.int .i64) (.pair (.int .i64) .bool))) (.pair (.sl (.pair (.int .i64) (.pair (.int .i64) (.int .i64)))) (.int .i64)))), .fe (.int .i64), .own 0 0]]]⟩⟩
abbrev choose0_l1_h (rec : Int → (((List (Int × (Int × Bool))) × ((List (Int × (Int × Int))) × Int))) → Int → (((List (Int × (Int × Bool))) × ((List (Int × (Int × Int))) × Int))) → Int → Option ((List Int × ((List (Int × (Int × Bool))) × ((List (Int × (Int × Int))) × Int)) × Int) ⊕ (((List (Int × (Int × Bool))) × ((List (Int × (Int × Int))) × Int)) × Int))) : Leaf ((List Int × ((List (Int × (Int × Bool))) × ((List (Int × (Int × Int))) × Int)) × Int) ⊕ (((List (Int × (Int × Bool))) × ((List (Int × (Int × Int))) × Int)) × Int)) := ⟨choose0_l1_at, choose0_l1_st, fun p => rec p.1.2.1 p.1.2.2.1 p.1.2.2.2.2.1 p.2.1.1.2.1 p.2.1.1.2.2.1⟩
abbrev choose0_l1_e0 : Leaf ((List Int × ((List (Int × (Int × Bool))) × ((List (Int × (Int × Int))) × Int)) × Int) ⊕ (((List (Int × (Int × Bool))) × ((List (Int × (Int × Int))) × Int)) × Int)) := ⟨[.c [1, 1, 0, 1, 0, 0, 1, 0, 0, 1, 1, 0, 0], .c [1, 1, 0, 1, 0, 0, 1, 0, 0, 1, 1, 0, 1], .b 1, .c [1, 1, 0, 1, 0, 0, 1, 1], .l [1, 1, 0, 1, 0, 0], .b 0, .c [1, 1, 1]], ⟨[11], ⟨[.sl (.int .i64)], [.segs [.fn 16 [] [.fe (.ptr (.pair (.sl (.pair (.int .i64) (.pair (.int .i64) .bool))) (.pair (.sl (.pair (.int .i64) (.pair (.int .i64) (.int .i64)))) (.int .i64)))), .fe (.int .i64), .own 0 0]]]⟩⟩, fun p => some (.inl (p.1.1, p.2.1.1.2.1, p.2.1.1.2.2.1))⟩
abbrev choose0_l1_e1 : Leaf ((List Int × ((List (Int × (Int × Bool))) × ((List (Int × (Int × Int))) × Int)) × Int) ⊕ (((List (Int × (Int × Bool))) × ((List (Int × (Int × Int))) × Int)) × Int)) := ⟨[.c [1, 1, 1, 0], .c [1, 1, 1, 1]], ⟨[], ⟨[], [.segs [.fn 16 [] [.fe (.ptr (.pair (.sl (.pair (.int .i64) (.pair (.int .i64) .bool))) (.pair (.sl (.pair (.int .i64) (.pair (.int .i64) (.int .i64)))) (.int .i64)))), .fe (.int .i64), .own 0 0]]]⟩⟩, fun p => some (.inr (p.2.1.1.2.1, p.2.1.1.2.2.1))⟩
noncomputable def choose0_l1_L (N : Nat) : LoopS := { at_ := choose0_l1_at, sta := choose0_l1_st, exits := [([.c [1, 1, 0, 1, 0, 0, 1, 0, 0, 1, 1, 0, 0], .c [1, 1, 0, 1, 0, 0, 1, 0, 0, 1, 1, 0, 1], .b 1, .c [1, 1, 0, 1, 0, 0, 1, 1], .l [1, 1, 0, 1, 0, 0], .b 0, .c [1, 1, 1]], ⟨[11], ⟨[.sl (.int .i64)], [.segs [.fn 16 [] [.fe (.ptr (.pair (.sl (.pair (.int .i64) (.pair (.int .i64) .bool))) (.pair (.sl (.pair (.int .i64) (.pair (.int .i64) (.int .i64)))) (.int .i64)))), .fe (.int .i64), .own 0 0]]]⟩⟩), ([.c [1, 1, 1, 0], .c [1, 1, 1, 1]], ⟨[], ⟨[], [.segs [.fn 16 [] [.fe (.ptr (.pair (.sl (.pair (.int .i64) (.pair (.int .i64) .bool))) (.pair (.sl (.pair (.int .i64) (.pair (.int .i64) (.int .i64)))) (.int .i64)))), .fe (.int .i64), .own 0 0]]]⟩⟩)], run := fun p k => (choose0_l1 N N p.1.2.1 p.1.2.2.1 p.1.2.2.2.2.1 p.2.1.1.2.1 p.2.1.1.2.2.1).bind fun e => match e with | .inl x => k (.inl ((x.1, ()), ((((), (x.2.1, x.2.2, (), ())), ()), ()))) | .inr x => k (.inr (.inl ((), ((((), (x.1, x.2, (), ())), ()), ())))) }
theorem choose0_l1_eq (N n_ : Nat) (more : Int) (u : ((List (Int × (Int × Bool))) × ((List (Int × (Int × Int))) × Int))) (w : Int) (g : ((List (Int × (Int × Bool))) × ((List (Int × (Int × Int))) × Int))) (g2 : Int) : ev (Z := (List Int × ((List (Int × (Int × Bool))) × ((List (Int × (Int × Int))) × Int)) × Int) ⊕ (((List (Int × (Int × Bool))) × ((List (Int × (Int × Int))) × Int)) × Int)) Try.prog (choose0_sp N) choose0_B [] [choose0_l1_h (choose0_l1 N n_), choose0_l1_e0, choose0_l1_e1] none 400 true choose0_l1_at (stL choose0_l1_st (((), more, u, (), w, ()), ((((), (g, g2, (), ())), ()), ()))) (stH choose0_l1_st (((), more, u, (), w, ()), ((((), (g, g2, (), ())), ()), ()))) = choose0_l1 N (n_ + 1) more u w g g2 := by kernel_rfl
theorem choose0_l1_ok (N : Nat) {top : Bool} : LoopOK Try.prog choose0_B.c choose0_B.n choose0_B.m0 top (choose0_l1_L N) := loop_of_ev (Z := (List Int × ((List (Int × (Int × Bool))) × ((List (Int × (Int × Int))) × Int)) × Int) ⊕ (((List (Int × (Int × Bool))) × ((List (Int × (Int × Int))) × Int)) × Int)) (N := N) (fun m p => choose0_l1 N m p.1.2.1 p.1.2.2.1 p.1.2.2.2.2.1 p.2.1.1.2.1 p.2.1.1.2.2.1) (fun e => match e with | .inl x => .inl ((x.1, ()), ((((), (x.2.1, x.2.2, (), ())), ()), ())) | .inr x => .inr (.inl ((), ((((), (x.1, x.2, (), ())), ()), ())))) (fun _ p k => bind_congr_ (choose0_l1 N N p.1.2.1 p.1.2.2.1 p.1.2.2.2.2.1 p.2.1.1.2.1 p.2.1.1.2.2.1) _ _ (fun e => by rcases e with x | x <;> rfl)) (fun _ => rfl) (fun m z E Xc hE hX hrec hx => leaf_of_ev (B := choose0_B) (loops := []) (leaves := [choose0_l1_h (choose0_l1 N m), choose0_l1_e0, choose0_l1_e1]) (choose0_all N) mixed trivial hE hX ⟨hrec, (fun p hp => by obtain rfl := Option.some.inj hp; exact hx), (fun p hp => by obtain rfl := Option.some.inj hp; exact hx), trivial⟩ RetOK.no (fun p => choose0_l1_eq N m p.1.2.1 p.1.2.2.1 p.1.2.2.2.2.1 p.2.1.1.2.1 p.2.1.1.2.2.1))
abbrev choose0_st : Sta := ⟨[0, 1, 2, 3, 4, 5], ⟨[.nils, .i .i64, .i .i64, .fe (.ptr (.pair (.sl (.pair (.int .i64) (.pair (.int .i64) .bool))) (.pair (.sl (.pair (.int .i64) (.pair (.int .i64) (.int .i64)))) (.int .i64)))), .fe (.int .i64), .own 0 0], [.segs [.fn 16 [] [.fe (.ptr (.pair (.sl (.pair (.int .i64) (.pair (.int .i64) .bool))) (.pair (.sl (.pair (.int .i64) (.pair (.int .i64) (.int .i64)))) (.int .i64)))), .fe (.int .i64), .own 0 0]]]⟩⟩
theorem choose0_eq (N : Nat) (from_ : Int) (more : Int) (u : ((List (Int × (Int × Bool))) × ((List (Int × (Int × Int))) × Int))) (u2 : Int) (g : ((List (Int × (Int × Bool))) × ((List (Int × (Int × Int))) × Int))) (g2 : Int) : ev (Z := (((List (Int × (Int × Bool))) × ((List (Int × (Int × Int))) × Int)) × Int) ⊕ (List Int × ((List (Int × (Int × Bool))) × ((List (Int × (Int × Int))) × Int)) × Int)) Try.prog (choose0_sp N) choose0_B [choose0_l1_L N] [] (some choose0_rt) 400 false [.c [0], .c [1]] (stL choose0_st (((), from_, more, u, u2, (), ()), ((((), (g, g2, (), ())), ()), ()))) (stH choose0_st (((), from_, more, u, u2, (), ()), ((((), (g, g2, (), ())), ()), ()))) = choose0_S N from_ more u u2 g g2 := by kernel_rfl
noncomputable def sp_choose0 (N : Nat) : Spec := { f := 16, ins := ⟨[.nils, .i .i64, .i .i64, .fe (.ptr (.pair (.sl (.pair (.int .i64) (.pair (.int .i64) .bool))) (.pair (.sl (.pair (.int .i64) (.pair (.int .i64) (.int .i64)))) (.int .i64)))), .fe (.int .i64), .own 0 0], [.segs [.fn 16 [] [.fe (.ptr (.pair (.sl (.pair (.int .i64) (.pair (.int .i64) .bool))) (.pair (.sl (.pair (.int .i64) (.pair (.int .i64) (.int .i64)))) (.int .i64)))), .fe (.int .i64), .own 0 0]]]⟩, outs := [⟨[.nils], [.segs [.fn 16 [] [.fe (.ptr (.pair (.sl (.pair (.int .i64) (.pair (.int .i64) .bool))) (.pair (.sl (.pair (.int .i64) (.pair (.int .i64) (.int .i64)))) (.int .i64)))), .fe (.int .i64), .own 0 0]]]⟩, ⟨[.sl (.int .i64)], [.segs [.fn 16 [] [.fe (.ptr (.pair (.sl (.pair (.int .i64) (.pair (.int .i64) .bool))) (.pair (.sl (.pair (.int .i64) (.pair (.int .i64) (.int .i64)))) (.int .i64)))), .fe (.int .i64), .own 0 0]]]⟩], run := fun p k => (choose0_S N p.1.2.1 p.1.2.2.1 p.1.2.2.2.1 p.1.2.2.2.2.1 p.2.1.1.2.1 p.2.1.1.2.2.1).bind fun r => match r with | .inl r => k (.inl (((), ()), ((((), (r.1, r.2, (), ())), ()), ()))) | .inr r => k (.inr ((r.1, ()), ((((), (r.2.1, r.2.2, (), ())), ()), ()))) }
theorem sp_choose0_ok (N : Nat) : SpecOK Try.prog (sp_choose0 N) := fn_sound (B := choose0_B) (loops := [choose0_l1_L N]) (leaves := []) (fun p => choose0_S N p.1.2.1 p.1.2.2.1 p.1.2.2.2.1 p.1.2.2.2.2.1 p.2.1.1.2.1 p.2.1.1.2.2.1) (fun r => match r with | .inl r => (.inl (((), ()), ((((), (r.1, r.2, (), ())), ()), ()))) | .inr r => (.inr ((r.1, ()), ((((), (r.2.1, r.2.2, (), ())), ()), ())))) choose0_rt (fun _ p k => bind_congr_ (choose0_S N p.1.2.1 p.1.2.2.1 p.1.2.2.2.1 p.1.2.2.2.2.1 p.2.1.1.2.1 p.2.1.1.2.2.1) _ _ (fun e => by rcases e with x | x <;> rfl)) (fun r z h => by rcases r with x | x <;> (cases h; rfl)) Try.func16 (by kernel_rfl) (by kernel_rfl) (by kernel_rfl) rfl rfl (by kernel_rfl) (fun args w => Sem.pv_run _ _ _ (by kernel_rfl) w) (choose0_all N) mixed ⟨choose0_l1_ok N, trivial⟩ (fun z E Xc hE hX hret => trivial) (fun p => choose0_eq N p.1.2.1 p.1.2.2.1 p.1.2.2.2.1 p.1.2.2.2.2.1 p.2.1.1.2.1 p.2.1.1.2.2.1)

def least_l1 (N : Nat) : Nat → Int → Int → (((List (Int × (Int × Bool))) × ((List (Int × (Int × Int))) × Int))) → Int → Option ((List Int) ⊕ (Unit))
  | 0, _, _, _, _ => none
  | n_ + 1, u, u2, choose, choose2 =>
    br (decide (u2 < u))
      (chk (u2 + 1) <|
      ((choose0_S N 0 (u2 + 1) choose choose2 choose choose2).bind fun e => match e with
      | .inl (x_4, y_5) =>
        (chk (u2 + 1) <|
        least_l1 N n_ u (u2 + 1) x_4 y_5)
      | .inr (x_6, y_7, y_8) =>
        (grd (!x_6.isEmpty) <|
        some (.inl x_6))))
      (some (.inr ()))
def least_S (N : Nat) (t : List (Int × (Int × Bool))) (t2 : List (Int × (Int × Int))) (t3 : Int) (weight : Int) : Option (List Int × Int) :=
  ((opened_S N t t2 t3).bind fun e => match e with
  | .inl (x_1, y_2) =>
    (br (!decide (y_2 = 0))
      (some ([], y_2))
      (br (decide (weight < 0))
        (some ([], 3))
        ((end__S N x_1).bind fun x_3 =>
        (least_l1 N N x_3 0 x_1 weight).bind fun e => match e with
        | .inl l_9 =>
          some (l_9, 0)
        | .inr _ =>
          some ([], 6))))
  | .inr x_10 =>
    (br (!decide (x_10 = 0))
      (some ([], x_10))
      (br (decide (weight < 0))
        (some ([], 3))
        (none))))
noncomputable def least_sp (N : Nat) : List Spec := [sp_choose0 N, sp_opened N, sp_end_ N]
theorem least_all (N : Nat) : AllP (SpecOK Try.prog) (least_sp N) := ⟨sp_choose0_ok N, sp_opened_ok N, sp_end__ok N, trivial⟩
noncomputable def least_c : Code := (Try.f6.body).getD .skip
noncomputable abbrev least_B : Body := { c := least_c, n := 35, res := [.tmp 4, .tmp 5], outs := [⟨[.sl (.int .i64), .i .i64], []⟩], m0 := 0 }
abbrev least_rt : altD least_B.outs → Option (List Int × Int) := fun r => some (r.1.1, r.1.2.1)
abbrev least_l1_at : List PI := [.c [1, 1, 1, 1, 1, 1, 0, 1, 0, 0, 0], .c [1, 1, 1, 1, 1, 1, 0, 1, 0, 0, 1], .l [1, 1, 1, 1, 1, 1, 0, 1, 0, 0], .b 0, .c [1, 1, 1, 1, 1, 1, 1]]
abbrev least_l1_st : Sta := ⟨[8, 23, 24], ⟨[.own 0 0, .i .i64, .i .i64], [.segs [.fn 16 [] [.fe (.ptr (.pair (.sl (.pair (.int .i64) (.pair (.int .i64) .bool))) (.pair (.sl (.pair (.int .i64) (.pair (.int .i64) (.int .i64)))) (.int .i64)))), .fe (.int .i64), .own 0 0]]]⟩⟩
abbrev least_l1_h (rec : Int → Int → (((List (Int × (Int × Bool))) × ((List (Int × (Int × Int))) × Int))) → Int → Option ((List Int) ⊕ (Unit))) : Leaf ((List Int) ⊕ (Unit)) := ⟨least_l1_at, least_l1_st, fun p => rec p.1.2.1 p.1.2.2.1 p.2.1.1.2.1 p.2.1.1.2.2.1⟩
abbrev least_l1_e0 : Leaf ((List Int) ⊕ (Unit)) := ⟨[.c [1, 1, 1, 1, 1, 1, 0, 1, 0, 0, 1, 1, 0, 0, 1, 1, 1, 0, 0], .c [1, 1, 1, 1, 1, 1, 0, 1, 0, 0, 1, 1, 0, 0, 1, 1, 1, 0, 1], .b 1, .c [1, 1, 1, 1, 1, 1, 0, 1, 0, 0, 1, 1, 1], .l [1, 1, 1, 1, 1, 1, 0, 1, 0, 0], .b 0, .c [1, 1, 1, 1, 1, 1, 1]], ⟨[10], ⟨[.sl (.int .i64)], []⟩⟩, fun p => some (.inl p.1.1)⟩
abbrev least_l1_e1 : Leaf ((List Int) ⊕ (Unit)) := ⟨[.c [1, 1, 1, 1, 1, 1, 1, 0], .c [1, 1, 1, 1, 1, 1, 1, 1]], ⟨[], ⟨[], []⟩⟩, fun p => some (.inr ())⟩
noncomputable def least_l1_L (N : Nat) : LoopS := { at_ := least_l1_at, sta := least_l1_st, exits := [([.c [1, 1, 1, 1, 1, 1, 0, 1, 0, 0, 1, 1, 0, 0, 1, 1, 1, 0, 0], .c [1, 1, 1, 1, 1, 1, 0, 1, 0, 0, 1, 1, 0, 0, 1, 1, 1, 0, 1], .b 1, .c [1, 1, 1, 1, 1, 1, 0, 1, 0, 0, 1, 1, 1], .l [1, 1, 1, 1, 1, 1, 0, 1, 0, 0], .b 0, .c [1, 1, 1, 1, 1, 1, 1]], ⟨[10], ⟨[.sl (.int .i64)], []⟩⟩), ([.c [1, 1, 1, 1, 1, 1, 1, 0], .c [1, 1, 1, 1, 1, 1, 1, 1]], ⟨[], ⟨[], []⟩⟩)], run := fun p k => (least_l1 N N p.1.2.1 p.1.2.2.1 p.2.1.1.2.1 p.2.1.1.2.2.1).bind fun e => match e with | .inl x => k (.inl ((x, ()), ())) | .inr x => k (.inr (.inl ((), ()))) }
theorem least_l1_eq (N n_ : Nat) (u : Int) (u2 : Int) (choose : ((List (Int × (Int × Bool))) × ((List (Int × (Int × Int))) × Int))) (choose2 : Int) : ev (Z := (List Int) ⊕ (Unit)) Try.prog (least_sp N) least_B [] [least_l1_h (least_l1 N n_), least_l1_e0, least_l1_e1] none 400 true least_l1_at (stL least_l1_st (((), u, u2, ()), ((((), (choose, choose2, (), ())), ()), ()))) (stH least_l1_st (((), u, u2, ()), ((((), (choose, choose2, (), ())), ()), ()))) = least_l1 N (n_ + 1) u u2 choose choose2 := by kernel_rfl
theorem least_l1_ok (N : Nat) {top : Bool} : LoopOK Try.prog least_B.c least_B.n least_B.m0 top (least_l1_L N) := loop_of_ev (Z := (List Int) ⊕ (Unit)) (N := N) (fun m p => least_l1 N m p.1.2.1 p.1.2.2.1 p.2.1.1.2.1 p.2.1.1.2.2.1) (fun e => match e with | .inl x => .inl ((x, ()), ()) | .inr x => .inr (.inl ((), ()))) (fun _ p k => bind_congr_ (least_l1 N N p.1.2.1 p.1.2.2.1 p.2.1.1.2.1 p.2.1.1.2.2.1) _ _ (fun e => by rcases e with x | x <;> rfl)) (fun _ => rfl) (fun m z E Xc hE hX hrec hx => leaf_of_ev (B := least_B) (loops := []) (leaves := [least_l1_h (least_l1 N m), least_l1_e0, least_l1_e1]) (least_all N) mixed trivial hE hX ⟨hrec, (fun p hp => by obtain rfl := Option.some.inj hp; exact hx), (fun p hp => by obtain rfl := Option.some.inj hp; exact hx), trivial⟩ RetOK.no (fun p => least_l1_eq N m p.1.2.1 p.1.2.2.1 p.2.1.1.2.1 p.2.1.1.2.2.1))
abbrev least_st : Sta := ⟨[0, 1], ⟨[.agg [.sl (.pair (.int .i64) (.pair (.int .i64) .bool)), .sl (.pair (.int .i64) (.pair (.int .i64) (.int .i64))), .i .i64], .i .i64], []⟩⟩
theorem least_eq (N : Nat) (t : List (Int × (Int × Bool))) (t2 : List (Int × (Int × Int))) (t3 : Int) (weight : Int) : ev (Z := List Int × Int) Try.prog (least_sp N) least_B [least_l1_L N] [] (some least_rt) 400 false [.c [0], .c [1]] (stL least_st (((t, t2, t3, ()), weight, ()), ())) (stH least_st (((t, t2, t3, ()), weight, ()), ())) = least_S N t t2 t3 weight := by kernel_rfl
noncomputable def sp_least (N : Nat) : Spec := { f := 6, ins := ⟨[.agg [.sl (.pair (.int .i64) (.pair (.int .i64) .bool)), .sl (.pair (.int .i64) (.pair (.int .i64) (.int .i64))), .i .i64], .i .i64], []⟩, outs := [⟨[.sl (.int .i64), .i .i64], []⟩], run := fun p k => (least_S N p.1.1.1 p.1.1.2.1 p.1.1.2.2.1 p.1.2.1).bind fun r => k ((r.1, r.2, ()), ()) }
theorem sp_least_ok (N : Nat) : SpecOK Try.prog (sp_least N) := fn_sound (B := least_B) (loops := [least_l1_L N]) (leaves := []) (fun p => least_S N p.1.1.1 p.1.1.2.1 p.1.1.2.2.1 p.1.2.1) (fun r => ((r.1, r.2, ()), ())) least_rt (fun _ _ _ => rfl) (fun r z h => by cases h; rfl) Try.func6 (by kernel_rfl) (by kernel_rfl) (by kernel_rfl) rfl rfl (by kernel_rfl) (fun args w => Sem.pv_run _ _ _ (by kernel_rfl) w) (least_all N) mixed ⟨least_l1_ok N, trivial⟩ (fun z E Xc hE hX hret => trivial) (fun p => least_eq N p.1.1.1 p.1.1.2.1 p.1.1.2.2.1 p.1.2.1)

def made_l1 (N : Nat) : Nat → Int → Int → Int → (List Int) → Int → Int → Int → Int → (List (Int × (Int × Bool))) → Option (Int × List Int × Int × Int × Int × Int × (List (Int × (Int × Bool))))
  | 0, _, _, _, _, _, _, _, _, _ => none
  | n_ + 1, turns, u, u2, b, b2, b3, g, t, t2 =>
    br (decide (u2 < u))
      ((strike_S N 1 4 b b2 b3).bind fun (x_9, y_10, y_11, y_12) =>
      (stroke_S N 9 y_10 y_11 y_12).bind fun (x_13, y_14, y_15, y_16) =>
      (seldom_S N 3 y_14 y_15 y_16).bind fun (x_17, y_18, y_19, y_20) =>
      lim (t2.length + [(x_9, x_13, (!x_17))].length) <|
      chk (u2 + 1) <|
      made_l1 N n_ turns u (u2 + 1) y_18 y_19 y_20 g t (t2 ++ [(x_9, x_13, (!x_17))]))
      (some ((turns, b, b2, b3, g, t, t2)))
def made_j1 (N : Nat) (rec : Int → Int → (List Int) → Int → Int → Int → Int → (List (Int × (Int × Bool))) → (List (Int × (Int × Int))) → Option (List Int × Int × Int × Int × Int × (List (Int × (Int × Bool))) × (List (Int × (Int × Int))))) (u : Int) (u2 : Int) (b : List Int) (b2 : Int) (b3 : Int) (g : Int) (t : Int) (t2 : List (Int × (Int × Bool))) (t3 : List (Int × (Int × Int))) : Option (List Int × Int × Int × Int × Int × (List (Int × (Int × Bool))) × (List (Int × (Int × Int)))) :=
  chk (u2 + 1) <|
  rec u (u2 + 1) b b2 b3 g t t2 t3
def made_l2 (N : Nat) : Nat → Int → Int → (List Int) → Int → Int → Int → Int → (List (Int × (Int × Bool))) → (List (Int × (Int × Int))) → Option (List Int × Int × Int × Int × Int × (List (Int × (Int × Bool))) × (List (Int × (Int × Int))))
  | 0, _, _, _, _, _, _, _, _, _ => none
  | n_ + 1, u, u2, b, b2, b3, g, t, t2, t3 =>
    br (decide (u2 < u))
      (br (decide ((t2.length : Int) < 2))
        (some ((b, b2, b3, g, t, t2, t3)))
        (chk ((t2.length : Int) - 1) <|
        (stroke_S N ((t2.length : Int) - 1) b b2 b3).bind fun (x_32, y_33, y_34, y_35) =>
        chk ((t2.length : Int) - 1) <|
        (stroke_S N 2 y_33 y_34 y_35).bind fun (x_36, y_37, y_38, y_39) =>
        chk (x_32 + x_36) <|
        chk ((t2.length : Int) - 1) <|
        (stroke_S N ((t2.length : Int) - 1) y_37 y_38 y_39).bind fun (x_40, y_41, y_42, y_43) =>
        br (decide (x_40 < x_32))
          (lim (t3.length + [(x_40, x_32, (min ((t2.length : Int) - 1) (x_32 + x_36)))].length) <|
          made_j1 N (made_l2 N n_) u u2 y_41 y_42 y_43 g t t2 (t3 ++ [(x_40, x_32, (min ((t2.length : Int) - 1) (x_32 + x_36)))]))
          (br (decide ((min ((t2.length : Int) - 1) (x_32 + x_36)) < x_40))
            (lim (t3.length + [(x_40, x_32, (min ((t2.length : Int) - 1) (x_32 + x_36)))].length) <|
            made_j1 N (made_l2 N n_) u u2 y_41 y_42 y_43 g t t2 (t3 ++ [(x_40, x_32, (min ((t2.length : Int) - 1) (x_32 + x_36)))]))
            (made_j1 N (made_l2 N n_) u u2 y_41 y_42 y_43 g t t2 t3))))
      (some ((b, b2, b3, g, t, t2, t3)))
def made_S (N : Nat) (words : Int) (turns : Int) (b : List Int) (b2 : Int) (b3 : Int) : Option ((List (Int × (Int × Bool))) × (List (Int × (Int × Int))) × Int × List Int × Int × Int) :=
  (strike_S N 3 14 b b2 b3).bind fun (x_1, y_2, y_3, y_4) =>
  (strike_S N 1 words y_2 y_3 y_4).bind fun (x_5, y_6, y_7, y_8) =>
  (made_l1 N N turns x_5 0 y_6 y_7 y_8 0 x_1 []).bind fun (turns_21, b_22, b2_23, b3_24, g_25, t_26, t2_27) =>
  (stroke_S N turns_21 b_22 b2_23 b3_24).bind fun (x_28, y_29, y_30, y_31) =>
  (made_l2 N N x_28 0 y_29 y_30 y_31 g_25 t_26 t2_27 []).bind fun (g_44, g2_45, g3_46, g4_47, t_48, t2_49, t3_50) =>
  some (t2_49, t3_50, t_48, g_44, g2_45, g3_46)
noncomputable def made_sp (N : Nat) : List Spec := [sp_stroke N, sp_strike N, sp_seldom N]
theorem made_all (N : Nat) : AllP (SpecOK Try.prog) (made_sp N) := ⟨sp_stroke_ok N, sp_strike_ok N, sp_seldom_ok N, trivial⟩
noncomputable def made_c : Code := (Try.f4.body).getD .skip
noncomputable abbrev made_B : Body := { c := made_c, n := 83, res := [.cell 6 26], outs := [⟨[.agg [.sl (.pair (.int .i64) (.pair (.int .i64) .bool)), .sl (.pair (.int .i64) (.pair (.int .i64) (.int .i64))), .i .i64]], [.segs [.sl (.int .u8), .i .i64, .i .u32]]⟩], m0 := 1 }
abbrev made_rt : altD made_B.outs → Option ((List (Int × (Int × Bool))) × (List (Int × (Int × Int))) × Int × List Int × Int × Int) := fun r => some (r.1.1.1, r.1.1.2.1, r.1.1.2.2.1, r.2.1.1, r.2.1.2.1, r.2.1.2.2.1)
abbrev made_l1_at : List PI := [.c [1, 1, 0, 1, 0, 0, 0], .c [1, 1, 0, 1, 0, 0, 1], .l [1, 1, 0, 1, 0, 0], .b 0, .c [1, 1, 1]]
abbrev made_l1_st : Sta := ⟨[0, 2, 6, 7, 16, 17], ⟨[.own 0 0, .i .i64, .own 1 0, .own 2 0, .i .i64, .i .i64], [.segs [.sl (.int .u8), .i .i64, .i .u32], .segs [.nils, .nils, .i .i64], .segs [.ols 3, .nils, .i .i64], .lst (.pair (.int .i64) (.pair (.int .i64) .bool))]⟩⟩
abbrev made_l1_h (rec : Int → Int → Int → (List Int) → Int → Int → Int → Int → (List (Int × (Int × Bool))) → Option (Int × List Int × Int × Int × Int × Int × (List (Int × (Int × Bool))))) : Leaf (Int × List Int × Int × Int × Int × Int × (List (Int × (Int × Bool)))) := ⟨made_l1_at, made_l1_st, fun p => rec p.1.2.1 p.1.2.2.2.2.1 p.1.2.2.2.2.2.1 p.2.1.1 p.2.1.2.1 p.2.1.2.2.1 p.2.2.1.2.2.1 p.2.2.2.1.2.2.1 p.2.2.2.2.1⟩
abbrev made_l1_e0 : Leaf (Int × List Int × Int × Int × Int × Int × (List (Int × (Int × Bool)))) := ⟨[.c [1, 1, 1, 0, 0], .c [1, 1, 1, 0, 1], .c [1, 1, 1, 1]], ⟨[0, 2, 6, 7], ⟨[.own 0 0, .i .i64, .own 1 0, .own 2 0], [.segs [.sl (.int .u8), .i .i64, .i .u32], .segs [.nils, .nils, .i .i64], .segs [.ols 3, .nils, .i .i64], .lst (.pair (.int .i64) (.pair (.int .i64) .bool))]⟩⟩, fun p => some ((p.1.2.1, p.2.1.1, p.2.1.2.1, p.2.1.2.2.1, p.2.2.1.2.2.1, p.2.2.2.1.2.2.1, p.2.2.2.2.1))⟩
noncomputable def made_l1_L (N : Nat) : LoopS := { at_ := made_l1_at, sta := made_l1_st, exits := [([.c [1, 1, 1, 0, 0], .c [1, 1, 1, 0, 1], .c [1, 1, 1, 1]], ⟨[0, 2, 6, 7], ⟨[.own 0 0, .i .i64, .own 1 0, .own 2 0], [.segs [.sl (.int .u8), .i .i64, .i .u32], .segs [.nils, .nils, .i .i64], .segs [.ols 3, .nils, .i .i64], .lst (.pair (.int .i64) (.pair (.int .i64) .bool))]⟩⟩)], run := fun p k => (made_l1 N N p.1.2.1 p.1.2.2.2.2.1 p.1.2.2.2.2.2.1 p.2.1.1 p.2.1.2.1 p.2.1.2.2.1 p.2.2.1.2.2.1 p.2.2.2.1.2.2.1 p.2.2.2.2.1).bind fun e => k (.inl (((), e.1, (), (), ()), ((e.2.1, e.2.2.1, e.2.2.2.1, ()), ((), (), e.2.2.2.2.1, ()), ((), (), e.2.2.2.2.2.1, ()), e.2.2.2.2.2.2, ()))) }
theorem made_l1_eq (N n_ : Nat) (turns : Int) (u : Int) (u2 : Int) (b : List Int) (b2 : Int) (b3 : Int) (g : Int) (t : Int) (t2 : List (Int × (Int × Bool))) : ev (Z := Int × List Int × Int × Int × Int × Int × (List (Int × (Int × Bool)))) Try.prog (made_sp N) made_B [] [made_l1_h (made_l1 N n_), made_l1_e0] none 400 true made_l1_at (stL made_l1_st (((), turns, (), (), u, u2, ()), ((b, b2, b3, ()), ((), (), g, ()), ((), (), t, ()), t2, ()))) (stH made_l1_st (((), turns, (), (), u, u2, ()), ((b, b2, b3, ()), ((), (), g, ()), ((), (), t, ()), t2, ()))) = made_l1 N (n_ + 1) turns u u2 b b2 b3 g t t2 := by kernel_rfl
theorem made_l1_ok (N : Nat) {top : Bool} : LoopOK Try.prog made_B.c made_B.n made_B.m0 top (made_l1_L N) := loop_of_ev (Z := Int × List Int × Int × Int × Int × Int × (List (Int × (Int × Bool)))) (N := N) (fun m p => made_l1 N m p.1.2.1 p.1.2.2.2.2.1 p.1.2.2.2.2.2.1 p.2.1.1 p.2.1.2.1 p.2.1.2.2.1 p.2.2.1.2.2.1 p.2.2.2.1.2.2.1 p.2.2.2.2.1) (fun e => .inl (((), e.1, (), (), ()), ((e.2.1, e.2.2.1, e.2.2.2.1, ()), ((), (), e.2.2.2.2.1, ()), ((), (), e.2.2.2.2.2.1, ()), e.2.2.2.2.2.2, ()))) (fun _ _ _ => rfl) (fun _ => rfl) (fun m z E Xc hE hX hrec hx => leaf_of_ev (B := made_B) (loops := []) (leaves := [made_l1_h (made_l1 N m), made_l1_e0]) (made_all N) mixed trivial hE hX ⟨hrec, (fun p hp => by obtain rfl := Option.some.inj hp; exact hx), trivial⟩ RetOK.no (fun p => made_l1_eq N m p.1.2.1 p.1.2.2.2.2.1 p.1.2.2.2.2.2.1 p.2.1.1 p.2.1.2.1 p.2.1.2.2.1 p.2.2.1.2.2.1 p.2.2.2.1.2.2.1 p.2.2.2.2.1))
abbrev made_l2_at : List PI := [.c [1, 1, 1, 0, 1, 0, 0, 0], .c [1, 1, 1, 0, 1, 0, 0, 1], .l [1, 1, 1, 0, 1, 0, 0], .b 2, .c [1, 1, 1, 1]]
abbrev made_l2_st : Sta := ⟨[0, 6, 7, 35, 36], ⟨[.own 0 0, .own 1 0, .own 2 0, .i .i64, .i .i64], [.segs [.sl (.int .u8), .i .i64, .i .u32], .segs [.nils, .nils, .i .i64], .segs [.ols 3, .ols 4, .i .i64], .lst (.pair (.int .i64) (.pair (.int .i64) .bool)), .lst (.pair (.int .i64) (.pair (.int .i64) (.int .i64)))]⟩⟩
abbrev made_l2_h (rec : Int → Int → (List Int) → Int → Int → Int → Int → (List (Int × (Int × Bool))) → (List (Int × (Int × Int))) → Option (List Int × Int × Int × Int × Int × (List (Int × (Int × Bool))) × (List (Int × (Int × Int))))) : Leaf (List Int × Int × Int × Int × Int × (List (Int × (Int × Bool))) × (List (Int × (Int × Int)))) := ⟨made_l2_at, made_l2_st, fun p => rec p.1.2.2.2.1 p.1.2.2.2.2.1 p.2.1.1 p.2.1.2.1 p.2.1.2.2.1 p.2.2.1.2.2.1 p.2.2.2.1.2.2.1 p.2.2.2.2.1 p.2.2.2.2.2.1⟩
abbrev made_l2_e0 : Leaf (List Int × Int × Int × Int × Int × (List (Int × (Int × Bool))) × (List (Int × (Int × Int)))) := ⟨[.c [1, 1, 1, 1, 0], .c [1, 1, 1, 1, 1]], ⟨[6, 7], ⟨[.own 1 0, .own 2 0], [.segs [.sl (.int .u8), .i .i64, .i .u32], .segs [.nils, .nils, .i .i64], .segs [.ols 3, .ols 4, .i .i64], .lst (.pair (.int .i64) (.pair (.int .i64) .bool)), .lst (.pair (.int .i64) (.pair (.int .i64) (.int .i64)))]⟩⟩, fun p => some ((p.2.1.1, p.2.1.2.1, p.2.1.2.2.1, p.2.2.1.2.2.1, p.2.2.2.1.2.2.1, p.2.2.2.2.1, p.2.2.2.2.2.1))⟩
abbrev made_j1_at : List PI := [.c [1, 1, 1, 0, 1, 0, 0, 1, 1, 1], .l [1, 1, 1, 0, 1, 0, 0], .b 2, .c [1, 1, 1, 1]]
abbrev made_j1_st : Sta := ⟨[0, 6, 7, 35, 36], ⟨[.own 0 0, .own 1 0, .own 2 0, .i .i64, .i .i64], [.segs [.sl (.int .u8), .i .i64, .i .u32], .segs [.nils, .nils, .i .i64], .segs [.ols 3, .ols 4, .i .i64], .lst (.pair (.int .i64) (.pair (.int .i64) .bool)), .lst (.pair (.int .i64) (.pair (.int .i64) (.int .i64)))]⟩⟩
abbrev made_j1_k (N : Nat) (rec : Int → Int → (List Int) → Int → Int → Int → Int → (List (Int × (Int × Bool))) → (List (Int × (Int × Int))) → Option (List Int × Int × Int × Int × Int × (List (Int × (Int × Bool))) × (List (Int × (Int × Int))))) : Leaf (List Int × Int × Int × Int × Int × (List (Int × (Int × Bool))) × (List (Int × (Int × Int)))) := ⟨made_j1_at, made_j1_st, fun p => made_j1 N rec p.1.2.2.2.1 p.1.2.2.2.2.1 p.2.1.1 p.2.1.2.1 p.2.1.2.2.1 p.2.2.1.2.2.1 p.2.2.2.1.2.2.1 p.2.2.2.2.1 p.2.2.2.2.2.1⟩
theorem made_j1_eq (N : Nat) (rec : Int → Int → (List Int) → Int → Int → Int → Int → (List (Int × (Int × Bool))) → (List (Int × (Int × Int))) → Option (List Int × Int × Int × Int × Int × (List (Int × (Int × Bool))) × (List (Int × (Int × Int))))) (u : Int) (u2 : Int) (b : List Int) (b2 : Int) (b3 : Int) (g : Int) (t : Int) (t2 : List (Int × (Int × Bool))) (t3 : List (Int × (Int × Int))) : ev (Z := List Int × Int × Int × Int × Int × (List (Int × (Int × Bool))) × (List (Int × (Int × Int)))) Try.prog (made_sp N) made_B [made_l1_L N] [made_l2_h rec, made_l2_e0] none 400 true made_j1_at (stL made_j1_st (((), (), (), u, u2, ()), ((b, b2, b3, ()), ((), (), g, ()), ((), (), t, ()), t2, t3, ()))) (stH made_j1_st (((), (), (), u, u2, ()), ((b, b2, b3, ()), ((), (), g, ()), ((), (), t, ()), t2, t3, ()))) = made_j1 N rec u u2 b b2 b3 g t t2 t3 := by kernel_rfl
theorem made_j1_lf (N : Nat) (rec : Int → Int → (List Int) → Int → Int → Int → Int → (List (Int × (Int × Bool))) → (List (Int × (Int × Int))) → Option (List Int × Int × Int × Int × Int × (List (Int × (Int × Bool))) × (List (Int × (Int × Int))))) {z : List Int × Int × Int × Int × Int × (List (Int × (Int × Bool))) × (List (Int × (Int × Int)))} {top : Bool} {E : EE} {Xc : Ctx} (hE : EOK made_B.m0 E) (hX : CxOK top Xc) (hrec : LeafOK Try.prog made_B.c made_B.n made_B.m0 E Xc z (made_l2_h rec)) (h0 : LeafOK Try.prog made_B.c made_B.n made_B.m0 E Xc z made_l2_e0) : LeafOK Try.prog made_B.c made_B.n made_B.m0 E Xc z (made_j1_k N rec) := leaf_of_ev (B := made_B) (loops := [made_l1_L N]) (leaves := [made_l2_h rec, made_l2_e0]) (made_all N) mixed ⟨made_l1_ok N, trivial⟩ hE hX ⟨hrec, h0, trivial⟩ RetOK.no (fun p => made_j1_eq N rec p.1.2.2.2.1 p.1.2.2.2.2.1 p.2.1.1 p.2.1.2.1 p.2.1.2.2.1 p.2.2.1.2.2.1 p.2.2.2.1.2.2.1 p.2.2.2.2.1 p.2.2.2.2.2.1)
noncomputable def made_l2_L (N : Nat) : LoopS := { at_ := made_l2_at, sta := made_l2_st, exits := [([.c [1, 1, 1, 1, 0], .c [1, 1, 1, 1, 1]], ⟨[6, 7], ⟨[.own 1 0, .own 2 0], [.segs [.sl (.int .u8), .i .i64, .i .u32], .segs [.nils, .nils, .i .i64], .segs [.ols 3, .ols 4, .i .i64], .lst (.pair (.int .i64) (.pair (.int .i64) .bool)), .lst (.pair (.int .i64) (.pair (.int .i64) (.int .i64)))]⟩⟩)], run := fun p k => (made_l2 N N p.1.2.2.2.1 p.1.2.2.2.2.1 p.2.1.1 p.2.1.2.1 p.2.1.2.2.1 p.2.2.1.2.2.1 p.2.2.2.1.2.2.1 p.2.2.2.2.1 p.2.2.2.2.2.1).bind fun e => k (.inl (((), (), ()), ((e.1, e.2.1, e.2.2.1, ()), ((), (), e.2.2.2.1, ()), ((), (), e.2.2.2.2.1, ()), e.2.2.2.2.2.1, e.2.2.2.2.2.2, ()))) }
theorem made_l2_eq (N n_ : Nat) (u : Int) (u2 : Int) (b : List Int) (b2 : Int) (b3 : Int) (g : Int) (t : Int) (t2 : List (Int × (Int × Bool))) (t3 : List (Int × (Int × Int))) : ev (Z := List Int × Int × Int × Int × Int × (List (Int × (Int × Bool))) × (List (Int × (Int × Int)))) Try.prog (made_sp N) made_B [made_l1_L N] [made_l2_h (made_l2 N n_), made_l2_e0, made_j1_k N (made_l2 N n_)] none 400 true made_l2_at (stL made_l2_st (((), (), (), u, u2, ()), ((b, b2, b3, ()), ((), (), g, ()), ((), (), t, ()), t2, t3, ()))) (stH made_l2_st (((), (), (), u, u2, ()), ((b, b2, b3, ()), ((), (), g, ()), ((), (), t, ()), t2, t3, ()))) = made_l2 N (n_ + 1) u u2 b b2 b3 g t t2 t3 := by kernel_rfl
theorem made_l2_ok (N : Nat) {top : Bool} : LoopOK Try.prog made_B.c made_B.n made_B.m0 top (made_l2_L N) := loop_of_ev (Z := List Int × Int × Int × Int × Int × (List (Int × (Int × Bool))) × (List (Int × (Int × Int)))) (N := N) (fun m p => made_l2 N m p.1.2.2.2.1 p.1.2.2.2.2.1 p.2.1.1 p.2.1.2.1 p.2.1.2.2.1 p.2.2.1.2.2.1 p.2.2.2.1.2.2.1 p.2.2.2.2.1 p.2.2.2.2.2.1) (fun e => .inl (((), (), ()), ((e.1, e.2.1, e.2.2.1, ()), ((), (), e.2.2.2.1, ()), ((), (), e.2.2.2.2.1, ()), e.2.2.2.2.2.1, e.2.2.2.2.2.2, ()))) (fun _ _ _ => rfl) (fun _ => rfl) (fun m z E Xc hE hX hrec hx => leaf_of_ev (B := made_B) (loops := [made_l1_L N]) (leaves := [made_l2_h (made_l2 N m), made_l2_e0, made_j1_k N (made_l2 N m)]) (made_all N) mixed ⟨made_l1_ok N, trivial⟩ hE hX ⟨hrec, (fun p hp => by obtain rfl := Option.some.inj hp; exact hx), made_j1_lf N _ hE hX hrec (fun p hp => by obtain rfl := Option.some.inj hp; exact hx), trivial⟩ RetOK.no (fun p => made_l2_eq N m p.1.2.2.2.1 p.1.2.2.2.2.1 p.2.1.1 p.2.1.2.1 p.2.1.2.2.1 p.2.2.1.2.2.1 p.2.2.2.1.2.2.1 p.2.2.2.2.1 p.2.2.2.2.2.1))
abbrev made_st : Sta := ⟨[0, 1, 2], ⟨[.own 0 0, .i .i64, .i .i64], [.segs [.sl (.int .u8), .i .i64, .i .u32]]⟩⟩
theorem made_eq (N : Nat) (words : Int) (turns : Int) (b : List Int) (b2 : Int) (b3 : Int) : ev (Z := (List (Int × (Int × Bool))) × (List (Int × (Int × Int))) × Int × List Int × Int × Int) Try.prog (made_sp N) made_B [made_l1_L N, made_l2_L N] [] (some made_rt) 400 false [.c [0], .c [1]] (stL made_st (((), words, turns, ()), ((b, b2, b3, ()), ()))) (stH made_st (((), words, turns, ()), ((b, b2, b3, ()), ()))) = made_S N words turns b b2 b3 := by kernel_rfl
noncomputable def sp_made (N : Nat) : Spec := { f := 4, ins := ⟨[.own 0 0, .i .i64, .i .i64], [.segs [.sl (.int .u8), .i .i64, .i .u32]]⟩, outs := [⟨[.agg [.sl (.pair (.int .i64) (.pair (.int .i64) .bool)), .sl (.pair (.int .i64) (.pair (.int .i64) (.int .i64))), .i .i64]], [.segs [.sl (.int .u8), .i .i64, .i .u32]]⟩], run := fun p k => (made_S N p.1.2.1 p.1.2.2.1 p.2.1.1 p.2.1.2.1 p.2.1.2.2.1).bind fun r => k (((r.1, r.2.1, r.2.2.1, ()), ()), ((r.2.2.2.1, r.2.2.2.2.1, r.2.2.2.2.2, ()), ())) }
theorem sp_made_ok (N : Nat) : SpecOK Try.prog (sp_made N) := fn_sound (B := made_B) (loops := [made_l1_L N, made_l2_L N]) (leaves := []) (fun p => made_S N p.1.2.1 p.1.2.2.1 p.2.1.1 p.2.1.2.1 p.2.1.2.2.1) (fun r => (((r.1, r.2.1, r.2.2.1, ()), ()), ((r.2.2.2.1, r.2.2.2.2.1, r.2.2.2.2.2, ()), ()))) made_rt (fun _ _ _ => rfl) (fun r z h => by cases h; rfl) Try.func4 (by kernel_rfl) (by kernel_rfl) (by kernel_rfl) rfl rfl (by kernel_rfl) (fun args w => Sem.pv_run _ _ _ (by kernel_rfl) w) (made_all N) mixed ⟨made_l1_ok N, made_l2_ok N, trivial⟩ (fun z E Xc hE hX hret => trivial) (fun p => made_eq N p.1.2.1 p.1.2.2.1 p.2.1.1 p.2.1.2.1 p.2.1.2.2.1)

end Go.Proofs.Ytbjmmfjfmjdadaa.Tx

namespace Go.Proofs.Ytbjmmfjfmjdadaa.Tx
set_option linter.all false
open Go

/-- A run ends well, with a result of which Q speaks. -/
def Ok {α : Type} (o : Option α) (Q : α → Prop) : Prop := ∃ x, o = some x ∧ Q x
section
variable {α β Z : Type} {Q : Z → Prop} {x y : Option Z}
theorem Ok.some {z : Z} (h : Q z) : Ok (some z) Q := ⟨z, rfl, h⟩
theorem Ok.bind {o : Option α} {P : α → Prop} {f : α → Option Z} (h : Ok o P) (k : ∀ a, P a → Ok (f a) Q) : Ok (o.bind f) Q := by
  obtain ⟨a, rfl, ha⟩ := h
  exact k a ha
theorem Ok.eqb {o : Option α} {a : α} {f : α → Option Z} (h : o = Option.some a) (k : Ok (f a) Q) : Ok (o.bind f) Q := by subst h; exact k
theorem Ok.mono {P : Z → Prop} (h : Ok x P) (k : ∀ a, P a → Q a) : Ok x Q := let ⟨a, e, p⟩ := h; ⟨a, e, k a p⟩
theorem Ok.br {c : Bool} (h1 : c = true → Ok x Q) (h2 : c = false → Ok y Q) : Ok (br c x y) Q := by
  cases c
  · exact h2 rfl
  · exact h1 rfl
theorem Ok.brd {p : Prop} [Decidable p] (h1 : p → Ok x Q) (h2 : ¬ p → Ok y Q) : Ok (Proofs.Ytbjmmfjfmjdadaa.br (decide p) x y) Q := by
  by_cases h : p
  · simpa [h, Proofs.Ytbjmmfjfmjdadaa.br] using h1 h
  · simpa [h, Proofs.Ytbjmmfjfmjdadaa.br] using h2 h
theorem chk_eq {n : Int} (hn : -9223372036854775808 ≤ n ∧ n ≤ 9223372036854775807) : chk n x = x := by unfold chk; rw [okI_iff.2 hn]
theorem Ok.chk {n : Int} (hn : -9223372036854775808 ≤ n ∧ n ≤ 9223372036854775807) (h : Ok x Q) : Ok (chk n x) Q := by rw [chk_eq hn]; exact h
theorem grd_eq {c : Bool} (hc : c = true) : grd c x = x := by subst hc; rfl
theorem Ok.grd {c : Bool} (hc : c = true) (h : Ok x Q) : Ok (grd c x) Q := by subst hc; exact h
theorem lim_eq {n : Nat} (hn : n ≤ 1000000) : lim n x = x := by unfold lim; rw [if_pos hn]
theorem Ok.lim {n : Nat} (hn : n ≤ 1000000) (h : Ok x Q) : Ok (lim n x) Q := by rw [lim_eq hn]; exact h
theorem idx_eq {l : List α} {i : Int} {f : α → Option Z} {a : α} (h0 : 0 ≤ i) (h : l[i.toNat]? = Option.some a) : idx l i f = f a := by unfold idx; rw [if_pos h0, h]
theorem Ok.idx {l : List α} {i : Int} {f : α → Option Z} (h0 : 0 ≤ i) (h : i < l.length) (k : ∀ a, l[i.toNat]? = Option.some a → a ∈ l → Ok (f a) Q) : Ok (idx l i f) Q := by
  have hlt : i.toNat < l.length := by omega
  have e : l[i.toNat]? = Option.some l[i.toNat] := List.getElem?_eq_getElem hlt
  rw [idx_eq h0 e]
  exact k _ e (List.getElem_mem hlt)
theorem br_true : br true x y = x := rfl
theorem br_false : br false x y = y := rfl
theorem br_dec {p : Prop} [Decidable p] (h : p) : br (decide p) x y = x := by simp [h, br]
theorem br_ndec {p : Prop} [Decidable p] (h : ¬ p) : br (decide p) x y = y := by simp [h, br]
theorem br_nd {p : Prop} [Decidable p] (h : p) : br (!decide p) x y = y := by simp [h, br]
theorem br_nnd {p : Prop} [Decidable p] (h : ¬ p) : br (!decide p) x y = x := by simp [h, br]
end
/-- A list of numbers from lo to hi. -/
def InR (lo hi : Int) (l : List Int) : Prop := ∀ x ∈ l, lo ≤ x ∧ x ≤ hi
theorem InR.drop {lo hi : Int} {l : List Int} (h : InR lo hi l) (n : Nat) : InR lo hi (l.drop n) := fun x hx => h x (List.mem_of_mem_drop hx)
theorem InR.nil {lo hi : Int} : InR lo hi [] := fun _ h => by cases h
theorem InR.mono {lo hi lo' hi' : Int} {l : List Int} (h : InR lo hi l) (h1 : lo' ≤ lo) (h2 : hi ≤ hi') : InR lo' hi' l := fun x hx => by have := h x hx; omega

def ixL {α : Type} (f : α → Option Bool) : Nat → List α → Int → Int → Option (Int ⊕ Unit)
  | 0, _, _, _ => none
  | n + 1, s, u, u2 => br (decide (u2 < u)) (idx s u2 fun x => (f x).bind fun c => br c (some (.inl u2)) (chk (u2 + 1) <| ixL f n s u (u2 + 1))) (some (.inr ()))
def ixS {α : Type} (f : α → Option Bool) (N : Nat) (s : List α) : Option Int := (ixL f N s (s.length : Int) 0).bind fun e => match e with
  | .inl i => some i
  | .inr _ => some (-1)
theorem ixL_ok {α : Type} {f : α → Option Bool} {p : α → Bool} {s : List α} (hf : ∀ x ∈ s, f x = some (p x)) (hs : s.length ≤ 1000000) : ∀ (n k : Nat), s.length < n + k → k ≤ s.length →
    Ok (ixL f n s (s.length : Int) (k : Int)) fun r => match r with | .inl i => (0 ≤ i ∧ i < s.length) ∧ (s.drop k).any p = true | .inr _ => (s.drop k).any p = false
  | 0, k, h, hk => by omega
  | n + 1, k, h, hk => by
    unfold ixL
    refine Ok.brd (fun h1 => ?_) (fun h1 => Ok.some ?_)
    · have hlt : k < s.length := by omega
      refine Ok.idx (by omega) h1 (fun a ha hm => ?_)
      have hd : s.drop k = a :: s.drop (k + 1) := by
        rw [List.drop_eq_getElem_cons hlt]
        have : s[k]? = some a := by simpa using ha
        rw [List.getElem?_eq_getElem hlt] at this
        simp only [Option.some.injEq] at this
        rw [this]
      refine Ok.eqb (hf a hm) (Ok.br (fun hp => Ok.some ?_) (fun hp => Ok.chk (by omega) ?_))
      · exact ⟨⟨by omega, by omega⟩, by rw [hd]; simp [hp]⟩
      · have := ixL_ok hf hs n (k + 1) (by omega) (by omega)
        rw [show ((k + 1 : Nat) : Int) = (k : Int) + 1 by omega] at this
        refine this.mono (fun r hr => ?_)
        rw [hd]
        cases r <;> simpa [hp] using hr
    · have : s.drop k = [] := List.drop_of_length_le (by omega)
      simp [this]
theorem ixS_any {α : Type} {f : α → Option Bool} {p : α → Bool} {s : List α} {N : Nat} (hf : ∀ x ∈ s, f x = some (p x)) (hs : s.length ≤ 1000000) (hN : s.length < N) : ((ixS f N s).bind fun x => some (decide (0 ≤ x))) = some (s.any p) := by
  obtain ⟨r, h1, h2⟩ := ixL_ok hf hs N 0 (by omega) (by omega)
  unfold ixS
  rw [show ((0 : Nat) : Int) = 0 from rfl] at h1
  rw [h1]
  cases r with
  | inl i => simp only [List.drop_zero] at h2; simp [h2.1.1, h2.2]
  | inr u => simp only [List.drop_zero] at h2; simp [h2]
theorem any_not {α : Type} (p : α → Bool) (s : List α) : (!(s.any fun x => !p x)) = s.all p := by
  induction s with
  | nil => rfl
  | cons a s ih => simp only [List.any_cons, List.all_cons, Bool.not_or, Bool.not_not, ih]
end Go.Proofs.Ytbjmmfjfmjdadaa.Tx
namespace Go.Proofs.Ytbjmmfjfmjdadaa.Tx
set_option linter.all false
open Go

abbrev Wd := Int × (Int × Bool)
abbrev Tn := Int × (Int × Int)
abbrev Tx := List Wd × (List Tn × Int)
theorem drop_cons {α : Type} {l : List α} {k : Nat} (h : k < l.length) (d : α) : l.drop k = l.getD k d :: l.drop (k + 1) := by
  rw [List.drop_eq_getElem_cons h]; simp [List.getD, h]
theorem gets {α : Type} {l : List α} {k : Nat} (h : k < l.length) (d : α) : l[((k : Nat) : Int).toNat]? = some (l.getD k d) := by simp [List.getD, h]
theorem getD_mem {α : Type} {l : List α} {i : Nat} {d : α} (h : i < l.length) : l.getD i d ∈ l := by
  simp [List.getD, h]
theorem in_v (N : Nat) (n lo hi : Int) : in__S N n lo hi = some (decide (lo ≤ n ∧ n ≤ hi)) := by
  unfold in__S br
  by_cases h : lo ≤ n <;> simp [h]
end Go.Proofs.Ytbjmmfjfmjdadaa.Tx
namespace Go.Proofs.Ytbjmmfjfmjdadaa.Tx
set_option linter.all false
open Go

theorem every_gen {α : Type} {f : α → Option Bool} {p : α → Bool} {s : List α} {N : Nat} (hf : ∀ x ∈ s, f x = some (p x)) (hs : s.length ≤ 1000000) (hN : s.length < N) :
    (((ixS (fun x => (f x).bind fun c => some (!c)) N s).bind fun x => some (decide (0 ≤ x))).bind fun x => some (!x)) = some (s.all p) := by
  rw [ixS_any (p := fun x => !p x) (fun x hx => by rw [hf x hx]; rfl) hs hN]
  simp only [Option.bind_some, any_not]
section
variable (N : Nat)
theorem ixfw_gen : ∀ (n : Nat) (s : List Wd) (u u2 : Int), ixfw_l1 N n s u u2 = ixL (fun x => every1w_S N x.1 x.2.1 x.2.2) n s u u2
  | 0, _, _, _ => rfl
  | n + 1, s, u, u2 => by unfold ixfw_l1 ixL; simp only [ixfw_gen n]
theorem ixft3_gen : ∀ (n : Nat) (s : List Tn) (u u2 : Int), ixft3_l1 N n s u u2 = ixL (fun x => every1t3_S N x.1 x.2.1 x.2.2) n s u u2
  | 0, _, _, _ => rfl
  | n + 1, s, u, u2 => by unfold ixft3_l1 ixL; simp only [ixft3_gen n]
theorem ixft4_gen : ∀ (n : Nat) (s : List Tn) (u u2 : Int), ixft4_l1 N n s u u2 = ixL (fun x => every1t4_S N x.1 x.2.1 x.2.2) n s u u2
  | 0, _, _, _ => rfl
  | n + 1, s, u, u2 => by unfold ixft4_l1 ixL; simp only [ixft4_gen n]
end
def okw (w : Wd) : Bool := decide (1 ≤ w.1 ∧ w.1 ≤ 9) && decide (0 ≤ w.2.1 ∧ w.2.1 ≤ 20)
def inT (n : Nat) (x : Int) : Bool := decide (0 ≤ x ∧ x ≤ (n : Int) - 1)
def ok2 (n : Nat) (x : Tn) : Bool := inT n x.1 && (inT n x.2.1 && inT n x.2.2)
def ok3 (x : Tn) : Bool := decide (x.2.1 ≤ x.2.2)
def ok4 (x : Tn) : Bool := !decide (x.2.1 ≤ x.1 ∧ x.1 ≤ x.2.2)
section
variable {N : Nat} {ws : List Wd} {ts : List Tn} {br_ : Int}
theorem everyw_v (h : ws.length ≤ 1000000) (hN : ws.length < N) : everyw_S N ws = some (ws.all okw) := by
  unfold everyw_S cofw_S ixfw_S
  rw [← every_gen (f := fun x : Wd => check1_S N x.1 x.2.1 x.2.2) (p := okw) (s := ws) (N := N) (fun x _ => ?_) h hN]
  · unfold ixS
    rw [ixfw_gen]
    rfl
  · unfold check1_S okw
    rw [in_v, in_v]
    by_cases h : 1 ≤ x.1 ∧ x.1 ≤ 9 <;> simp [br, h]
theorem everyt3_v (h : ts.length ≤ 1000000) (hN : ts.length < N) : everyt3_S N ts = some (ts.all ok3) := by
  unfold everyt3_S coft3_S ixft3_S
  rw [← every_gen (f := fun x : Tn => check3_S N x.1 x.2.1 x.2.2) (p := ok3) (s := ts) (N := N) (fun x _ => ?_) h hN]
  · unfold ixS
    rw [ixft3_gen]
    rfl
  · rfl
theorem everyt4_v (h : ts.length ≤ 1000000) (hN : ts.length < N) : everyt4_S N ts = some (ts.all ok4) := by
  unfold everyt4_S coft4_S ixft4_S
  rw [← every_gen (f := fun x : Tn => check4_S N x.1 x.2.1 x.2.2) (p := ok4) (s := ts) (N := N) (fun x _ => ?_) h hN]
  · unfold ixS
    rw [ixft4_gen]
    rfl
  · unfold check4_S ok4
    rw [in_v]; rfl
theorem word_v (h : ws.length ≤ 1000000) (n : Int) : word_S N ws ts br_ n = some (inT ws.length n) := by
  unfold word_S
  rw [chk_eq (by omega), in_v]; rfl
theorem check2_v (h : ws.length ≤ 1000000) (x : Tn) : check2_S N x.1 x.2.1 x.2.2 (ws, ts, br_) = some (ok2 ws.length x) := by
  unfold check2_S ok2
  simp only [word_v h, Option.bind_some]
  cases inT ws.length x.1 <;> cases inT ws.length x.2.1 <;> cases inT ws.length x.2.2 <;> rfl
theorem ixft2_gen (h : ws.length ≤ 1000000) : ∀ (n : Nat) (s : List Tn) (u u2 : Int), ixft2_l1 N n s u u2 (ws, ts, br_) = (ixL (fun x => some (!ok2 ws.length x)) n s u u2).map fun r => match r with | .inl i => .inl (i, (ws, ts, br_)) | .inr _ => .inr (ws, ts, br_)
  | 0, _, _, _ => rfl
  | n + 1, s, u, u2 => by
    unfold ixft2_l1 ixL every1t2_S
    simp only [check2_v h, Option.bind_some, ixft2_gen h n]
    unfold br
    split
    · unfold idx
      split
      · cases s[u2.toNat]? with
        | none => rfl
        | some a =>
          dsimp only
          cases ok2 ws.length a
          · rfl
          · simp only [Bool.not_true, Bool.false_eq_true, if_false]
            unfold chk
            split <;> rfl
      · rfl
    · rfl
theorem everyt2_v (hw : ws.length ≤ 1000000) (h : ts.length ≤ 1000000) (hN : ts.length < N) : everyt2_S N ts (ws, ts, br_) = some (ts.all (ok2 ws.length)) := by
  unfold everyt2_S coft2_S ixft2_S
  rw [← every_gen (f := fun x : Tn => some (ok2 ws.length x)) (p := ok2 ws.length) (s := ts) (N := N) (fun x _ => rfl) h hN]
  unfold ixS
  rw [ixft2_gen hw]
  simp only [Option.bind_some]
  cases ixL (fun x => some (!ok2 ws.length x)) N ts ts.length 0 with
  | none => rfl
  | some r => cases r <;> rfl
end
/-- The error of a text. -/
def checkT (ws : List Wd) (ts : List Tn) (br_ : Int) : Int :=
  if ¬ (1 ≤ (ws.length : Int) ∧ (ws.length : Int) ≤ 12) then 2 else if 6 < (ts.length : Int) then 2 else if ¬ (1 ≤ br_ ∧ br_ ≤ 40) then 3 else if ws.all okw = false then 3 else
  if ts.all (ok2 ws.length) = false then 1 else if ts.all ok3 = false then 4 else if ts.all ok4 = false then 7 else 0
section
variable {N : Nat} {ws : List Wd} {ts : List Tn} {br_ : Int}
theorem check_v (hN : 20 ≤ N) (hw : ws.length ≤ 1000000) (ht : ts.length ≤ 1000000) : check_S N ws ts br_ = some (checkT ws ts br_) := by
  unfold check_S checkT
  rw [in_v]
  simp only [Option.bind_some]
  by_cases c1 : 1 ≤ (ws.length : Int) ∧ (ws.length : Int) ≤ 12
  rotate_left
  · rw [br_nnd c1, if_pos c1]
  rw [br_nd c1, if_neg (by simpa using c1)]
  by_cases c2 : 6 < (ts.length : Int)
  · rw [br_dec c2, if_pos c2]
  rw [br_ndec c2, if_neg c2, in_v]
  simp only [Option.bind_some]
  by_cases c3 : 1 ≤ br_ ∧ br_ ≤ 40
  rotate_left
  · rw [br_nnd c3, if_pos c3]
  rw [br_nd c3, if_neg (by simpa using c3), everyw_v hw (by omega), everyt2_v hw ht (by omega), everyt3_v ht (by omega), everyt4_v ht (by omega)]
  simp only [Option.bind_some]
  cases ws.all okw <;> cases ts.all (ok2 ws.length) <;> cases ts.all ok3 <;> cases ts.all ok4 <;> rfl
end
end Go.Proofs.Ytbjmmfjfmjdadaa.Tx
namespace Go.Proofs.Ytbjmmfjfmjdadaa.Tx
set_option linter.all false
open Go

structure TFine (ws : List Wd) (ts : List Tn) (br_ : Int) : Prop where
  n0 : 1 ≤ ws.length
  n : ws.length ≤ 12
  t : ts.length ≤ 6
  b0 : 1 ≤ br_
  b1 : br_ ≤ 40
  w : ∀ w ∈ ws, (1 ≤ w.1 ∧ w.1 ≤ 9) ∧ 0 ≤ w.2.1 ∧ w.2.1 ≤ 20
  x : ∀ x ∈ ts, (0 ≤ x.1 ∧ x.1 < ws.length) ∧ (0 ≤ x.2.1 ∧ x.2.1 < ws.length) ∧ (0 ≤ x.2.2 ∧ x.2.2 < ws.length) ∧ x.2.1 ≤ x.2.2 ∧ ¬ (x.2.1 ≤ x.1 ∧ x.1 ≤ x.2.2)
section
variable {N : Nat} {ws : List Wd} {ts : List Tn} {br_ : Int}
theorem tfine_of (h : checkT ws ts br_ = 0) : TFine ws ts br_ := by
  unfold checkT at h
  split at h
  · omega
  rename_i c1
  split at h
  · omega
  split at h
  · omega
  rename_i c3
  split at h
  · omega
  rename_i c4
  split at h
  · omega
  rename_i c5
  split at h
  · omega
  rename_i c6
  split at h
  · omega
  rename_i c7
  simp only [Bool.not_eq_false, List.all_eq_true] at c4 c5 c6 c7
  refine ⟨by omega, by omega, by omega, by omega, by omega, fun w hw => ?_, fun x hx => ?_⟩
  · have := c4 w hw
    simpa [okw] using this
  · have h1 := c5 x hx; have h2 := c6 x hx; have h3 := c7 x hx
    simp only [ok2, inT, ok3, ok4, Bool.and_eq_true, decide_eq_true_eq, Bool.not_eq_true', decide_eq_false_iff_not] at h1 h2 h3
    exact ⟨by omega, by omega, by omega, h2, h3⟩
theorem opened_v (hN : 20 ≤ N) (hw : ws.length ≤ 1000000) (ht : ts.length ≤ 1000000) : opened_S N ws ts br_ = some (if checkT ws ts br_ = 0 then .inl ((ws, ts, br_), 0) else .inr (checkT ws ts br_)) := by
  unfold opened_S
  rw [check_v hN hw ht]
  simp only [Option.bind_some]
  by_cases c : checkT ws ts br_ = 0
  · rw [br_nd c, if_pos c]
  · rw [br_nnd c, if_neg c]
/-- The numbers from one on up to another one. -/
def wordsL (a b : Int) : List Int := (List.range (b - a).toNat).map fun (i : Nat) => a + (i : Int)
/-- Some words have the whole core of a turn. -/
def coreB (l : List Int) (x : Tn) : Bool := (wordsL x.2.1 (x.2.2 + 1)).all fun w => l.contains w
def sayP (l : List Int) (x : Tn) : Bool := coreB l x && !l.contains x.1
theorem sum_l1_p {l : List Int} {m : Int} (hl : l.length ≤ 1000) (hm : 0 ≤ m ∧ m ≤ 1000) (hr : ∀ x ∈ l, -m ≤ x ∧ x ≤ m) : ∀ (n k : Nat) (s : Int), l.length < n + k → k ≤ l.length → (-(m * k) ≤ s ∧ s ≤ m * k) → sum_l1 N n s l l.length k = some (s + (l.drop k).sum)
  | 0, k, s, h, _, _ => by omega
  | n + 1, k, s, h, hk, hs => by
    unfold sum_l1
    have hmk : m * (k : Int) ≤ 1000 * 1000 := Int.mul_le_mul hm.2 (by omega) (by omega) (by omega)
    by_cases c : k < l.length
    · have hx := hr _ (getD_mem (d := 0) c)
      have g := gets c 0
      rw [drop_cons c 0]
      generalize l.getD k 0 = x at *
      have e : m * ((k + 1 : Nat) : Int) = m * k + m := by rw [Int.natCast_add, Int.mul_add]; simp
      have ih := sum_l1_p hl hm hr n (k + 1) (s + x) (by omega) (by omega) (by omega)
      rw [show ((k + 1 : Nat) : Int) = (k : Int) + 1 by omega] at ih
      rw [br_dec (by omega), idx_eq (by omega) g, chk_eq (by omega), chk_eq (by omega), ih, List.sum_cons]
      congr 1; omega
    · rw [br_ndec (by omega), List.drop_of_length_le (by omega)]; simp
theorem sum_v {l : List Int} {m : Int} (hl : l.length ≤ 1000) (hN : l.length < N) (hm : 0 ≤ m ∧ m ≤ 1000) (hr : ∀ x ∈ l, -m ≤ x ∧ x ≤ m) : sum_S N l = some l.sum := by
  unfold sum_S
  have := sum_l1_p (N := N) hl hm hr N 0 0 (by omega) (by omega) (by simp)
  simp only [Int.natCast_zero, List.drop_zero, Int.zero_add] at this
  rw [this]; rfl
end
end Go.Proofs.Ytbjmmfjfmjdadaa.Tx
namespace Go.Proofs.Ytbjmmfjfmjdadaa.Tx
set_option linter.all false
open Go

theorem indexi_gen (N : Nat) (v : Int) : ∀ (n : Nat) (s : List Int) (u u2 : Int), indexi_l1 N n s v u u2 = ixL (fun x => some (decide (v = x))) n s u u2
  | 0, _, _, _ => rfl
  | n + 1, s, u, u2 => by unfold indexi_l1 ixL; simp only [indexi_gen N v n, Option.bind_some]
theorem containsi_v {N : Nat} {s : List Int} {v : Int} (hs : s.length ≤ 1000) (hN : s.length < N) : containsi_S N s v = some (s.contains v) := by
  have h := ixS_any (f := fun x => some (decide (v = x))) (p := fun x => decide (v = x)) (s := s) (N := N) (fun x _ => rfl) (by omega) hN
  unfold containsi_S indexi_S
  unfold ixS at h
  rw [indexi_gen]
  refine Eq.trans h ?_
  congr 1
  rw [Bool.eq_iff_iff]
  simp
end Go.Proofs.Ytbjmmfjfmjdadaa.Tx
namespace Go.Proofs.Ytbjmmfjfmjdadaa.Tx
set_option linter.all false
open Go

/-- A reading from a place to the end, all of whose breaths are right. -/
def goodB (R : Nat → Nat → Bool) (m : Nat) : Nat → List Int → Bool
  | a, [] => a == m
  | a, x :: l => (decide (1 ≤ x) && decide (a + x.toNat ≤ m)) && (R a (a + x.toNat) && goodB R m (a + x.toNat) l)
/-- The fewest breaths from a place. -/
structure IsMin (R : Nat → Nat → Bool) (m a : Nat) (k : Int) : Prop where
  ex : ∃ l, goodB R m a l = true ∧ (l.length : Int) = k
  le : ∀ l, goodB R m a l = true → k ≤ l.length
section
variable {R : Nat → Nat → Bool} {m : Nat}
theorem IsMin.end_ : IsMin R m m 0 := ⟨⟨[], by simp [goodB], rfl⟩, fun l _ => by omega⟩
theorem getD_set' {α : Type} {l : List α} {i j : Nat} {v d : α} (hi : i < l.length) : (l.set i v).getD j d = if i = j then v else l.getD j d := by
  by_cases h : i = j
  · subst h; simp [List.getD, hi]
  · simp [List.getD, List.getElem?_set, h]
/-- What the tables say of a place. -/
def Told (R : Nat → Nat → Bool) (m : Nat) (L X : List Int) (i : Nat) : Prop :=
  (X.getD i 0 = 0 ∧ ∀ l, goodB R m i l = false) ∨ ∃ q : Nat, X.getD i 0 = q ∧ i < q ∧ q ≤ m ∧ R i q = true ∧ IsMin R m i (L.getD i 0) ∧ IsMin R m q (L.getD i 0 - 1)
structure Tab (R : Nat → Nat → Bool) (m f : Nat) (L X : List Int) : Prop where
  hL : L.length = 13
  hX : X.length = 13
  bd : ∀ i, i < 13 → 0 ≤ L.getD i 0 ∧ L.getD i 0 ≤ 13 - (i : Int)
  lo : ∀ i, i < f → X.getD i 0 = 0
  en : L.getD m 0 = 0
  told : ∀ i, f < i → i < m → Told R m L X i
/-- What is known of a place, when ends ahead of one were tried. -/
def Cur (R : Nat → Nat → Bool) (m f to : Nat) (L X : List Int) : Prop :=
  (X.getD f 0 = 0 ∧ ∀ q, f < q → q < to → R f q = true → ∀ l, goodB R m q l = false) ∨
  ∃ q : Nat, X.getD f 0 = q ∧ f < q ∧ q < to ∧ q ≤ m ∧ R f q = true ∧ IsMin R m q (L.getD f 0 - 1) ∧ ∀ p, f < p → p < to → R f p = true → ∀ l, goodB R m p l = true → L.getD f 0 ≤ l.length + 1
theorem Cur.keep {f to : Nat} {L X : List Int} (h : Cur R m f to L X) (hx : X.getD f 0 ≠ 0) (ht : IsMin R m to (L.getD to 0)) (hle : L.getD f 0 ≤ L.getD to 0 + 1) : Cur R m f (to + 1) L X := by
  rcases h with ⟨h1, h2⟩ | ⟨q, h1, h2, h3, h4, h5, h6, h7⟩
  · exact absurd h1 hx
  · refine .inr ⟨q, h1, h2, by omega, h4, h5, h6, fun p a b hR l hl => ?_⟩
    by_cases e : p = to
    · subst e; have := ht.le l hl; omega
    · exact h7 p a (by omega) hR l hl
theorem Cur.put {f to : Nat} {L X : List Int} (h : Cur R m f to L X) (hL : L.length = 13) (hX : X.length = 13) (hf : f < 13) (hto : f < to) (hm : to ≤ m) (hR : R f to = true) (ht : IsMin R m to (L.getD to 0)) (hbetter : X.getD f 0 = 0 ∨ L.getD to 0 + 1 < L.getD f 0) :
    Cur R m f (to + 1) (L.set f (L.getD to 0 + 1)) (X.set f to) := by
  refine .inr ⟨to, by rw [getD_set' (by omega), if_pos rfl], hto, by omega, hm, hR, ?_, fun p a b hRp l hl => ?_⟩
  · rw [getD_set' (by omega), if_pos rfl]
    simpa using ht
  · rw [getD_set' (by omega), if_pos rfl]
    by_cases e : p = to
    · subst e; have := ht.le l hl; omega
    · rcases h with ⟨h1, h2⟩ | ⟨q, h1, h2, h3, h4, h5, h6, h7⟩
      · rw [h2 p a (by omega) hRp l] at hl; cases hl
      · have := h7 p a (by omega) hRp l hl
        rcases hbetter with hb | hb
        · omega
        · omega
theorem Tab.put {f to : Nat} {L X : List Int} (h : Tab R m f L X) (hf : f < m) (hm : m ≤ 12) (hto : f < to) (htm : to ≤ m) : Tab R m f (L.set f (L.getD to 0 + 1)) (X.set f to) := by
  have hL := h.hL; have hX := h.hX
  refine ⟨by simpa using hL, by simpa using hX, fun i hi => ?_, fun i hi => ?_, ?_, fun i h1 h2 => ?_⟩
  · rw [getD_set' (by omega)]
    split
    · rename_i e; subst e
      have := h.bd to (by omega)
      omega
    · exact h.bd i hi
  · rw [getD_set' (by omega), if_neg (by omega)]; exact h.lo i hi
  · rw [getD_set' (by omega), if_neg (by omega)]; exact h.en
  · unfold Told
    rw [getD_set' (by omega), getD_set' (by omega), if_neg (by omega), if_neg (by omega)]
    exact h.told i h1 h2
theorem Tab.min {f i : Nat} {L X : List Int} (h : Tab R m f L X) (h1 : f < i) (h2 : i ≤ m) (hx : i < m → X.getD i 0 ≠ 0) : IsMin R m i (L.getD i 0) := by
  by_cases e : i = m
  · subst e; rw [h.en]; exact IsMin.end_
  · rcases h.told i h1 (by omega) with ⟨h3, _⟩ | ⟨q, _, _, _, _, h4, _⟩
    · exact absurd h3 (hx (by omega))
    · exact h4
end
end Go.Proofs.Ytbjmmfjfmjdadaa.Tx
namespace Go.Proofs.Ytbjmmfjfmjdadaa.Tx
set_option linter.all false
open Go

theorem wrap32 (x : Int) : 0 ≤ IntKind.u32.wrap x ∧ IntKind.u32.wrap x < 4294967296 := by
  have := wrap_inR .u32 x
  have h1 : IntKind.u32.min = 0 := by decide
  have h2 : IntKind.u32.max = 4294967295 := by decide
  unfold inR at this
  rw [h1, h2] at this
  omega
def Bell (b : List Int) (b2 : Int) : Prop := b.length ≤ 9223372036854775807 ∧ 0 ≤ b2 ∧ b2 ≤ b.length
abbrev BellR (b : List Int) (r : List Int × Int × Int) : Prop := r.1 = b ∧ Bell b r.2.1
theorem and_small (n : Nat) : 0 ≤ IntKind.i64.wrap ((n &&& 65535 : Nat) : Int) ∧ IntKind.i64.wrap ((n &&& 65535 : Nat) : Int) ≤ 65535 := by
  have : n &&& 65535 ≤ 65535 := Nat.and_le_right
  rw [wrap64 (by omega)]
  omega
theorem fdiv_nonneg {x : Int} (h : 0 ≤ x) : 0 ≤ Int.fdiv x (2 ^ 7) := by
  rw [Int.fdiv_eq_ediv_of_nonneg _ (by decide)]
  exact Int.ediv_nonneg h (by decide)
theorem ring_j1_ok (N : Nat) {b : List Int} {b2 b3 : Int} (hb : b.length ≤ 9223372036854775807) (h0 : 0 ≤ b2) (h1 : b2 < b.length ∨ b.length = 0 ∧ b2 = 0) : Ok (ring_j1 N b b2 b3) fun r => (0 ≤ r.1 ∧ r.1 ≤ 65535) ∧ BellR b r.2 := by
  unfold ring_j1
  refine Ok.brd (fun h => ?_) (fun h => ?_)
  · refine Ok.idx h0 (by omega) (fun a _ _ => Ok.chk (by omega) (Ok.grd ?_ (Ok.grd ?_ (Ok.some ?_))))
    · simp only [decide_eq_true_eq]; exact ⟨(wrap32 _).1, fdiv_nonneg (wrap32 _).1⟩
    · simp only [decide_eq_true_eq]; exact ⟨Int.natCast_nonneg _, by decide⟩
    · exact ⟨and_small _, rfl, hb, by dsimp only; omega, by dsimp only; omega⟩
  · refine Ok.grd ?_ (Ok.grd ?_ (Ok.some ?_))
    · simp only [decide_eq_true_eq]; exact ⟨(wrap32 _).1, fdiv_nonneg (wrap32 _).1⟩
    · simp only [decide_eq_true_eq]; exact ⟨Int.natCast_nonneg _, by decide⟩
    · exact ⟨and_small _, rfl, hb, by dsimp only; omega, by dsimp only; omega⟩
theorem ring_ok (N : Nat) {b : List Int} {b2 b3 : Int} (hb : Bell b b2) : Ok (ring_S N b b2 b3) fun r => (0 ≤ r.1 ∧ r.1 ≤ 65535) ∧ BellR b r.2 := by
  obtain ⟨h1, h2, h3⟩ := hb
  unfold ring_S
  refine Ok.brd (fun h => ring_j1_ok N h1 (by omega) (by omega)) (fun h => ring_j1_ok N h1 h2 (by omega))
theorem stroke_ok (N : Nat) {n : Int} {b : List Int} {b2 b3 : Int} (hb : Bell b b2) (hn : -1000000 ≤ n ∧ n ≤ 1000000) : Ok (stroke_S N n b b2 b3) fun r => (0 ≤ r.1 ∧ r.1 ≤ max 0 n) ∧ BellR b r.2 := by
  unfold stroke_S
  refine Ok.bind (ring_ok N hb) (fun r hr => ?_)
  obtain ⟨x, c, c2, c3⟩ := r
  refine Ok.chk (by omega) (Ok.grd (by simp only [Bool.not_eq_true', decide_eq_false_iff_not]; omega) (Ok.some ⟨?_, hr.2⟩))
  obtain ⟨⟨h1, h2⟩, _⟩ := hr
  dsimp only at *
  have hm : 0 < max 1 (n + 1) := by omega
  have := Int.tmod_lt_of_pos x hm
  have := Int.tmod_nonneg (max 1 (n + 1)) h1
  omega
theorem strike_ok (N : Nat) {lo hi : Int} {b : List Int} {b2 b3 : Int} (hb : Bell b b2) (hn : (-1000 ≤ lo ∧ lo ≤ 1000) ∧ -1000 ≤ hi ∧ hi ≤ 1000) : Ok (strike_S N lo hi b b2 b3) fun r => (lo ≤ r.1 ∧ r.1 ≤ max lo hi) ∧ BellR b r.2 := by
  unfold strike_S
  refine Ok.chk (by omega) (Ok.bind (stroke_ok N hb (by omega)) (fun r hr => ?_))
  obtain ⟨x, c, c2, c3⟩ := r
  obtain ⟨h, h2⟩ := hr
  dsimp only at *
  refine Ok.chk (by omega) (Ok.some ⟨by dsimp only; omega, h2⟩)
theorem seldom_ok (N : Nat) {n : Int} {b : List Int} {b2 b3 : Int} (hb : Bell b b2) (hn : -1000 ≤ n ∧ n ≤ 1000) : Ok (seldom_S N n b b2 b3) fun r => BellR b r.2 := by
  unfold seldom_S
  refine Ok.chk (by omega) (Ok.bind (stroke_ok N hb (by omega)) (fun r hr => ?_))
  obtain ⟨x, c, c2, c3⟩ := r
  exact Ok.some hr.2

theorem checkT_of {ws : List Wd} {ts : List Tn} {br_ : Int} (h : TFine ws ts br_) : checkT ws ts br_ = 0 := by
  have h1 := h.n0; have h2 := h.n; have h3 := h.t; have h4 := h.b0; have h5 := h.b1
  have e1 : ws.all okw = true := by
    rw [List.all_eq_true]
    intro w hw
    have := h.w w hw
    simp [okw]; omega
  have e2 : ts.all (ok2 ws.length) = true := by
    rw [List.all_eq_true]
    intro x hx
    have := h.x x hx
    simp only [ok2, inT, Bool.and_eq_true, decide_eq_true_eq]; omega
  have e3 : ts.all ok3 = true := by
    rw [List.all_eq_true]
    intro x hx
    have := h.x x hx
    simp only [ok3, decide_eq_true_eq]; omega
  have e4 : ts.all ok4 = true := by
    rw [List.all_eq_true]
    intro x hx
    have := h.x x hx
    simp only [ok4, Bool.not_eq_true', decide_eq_false_iff_not]; omega
  unfold checkT
  rw [if_neg (by omega), if_neg (by omega), if_neg (by omega), if_neg (by simp [e1]), if_neg (by simp [e2]), if_neg (by simp [e3]), if_neg (by simp [e4])]
abbrev BelR (b : List Int) (c : List Int) (c2 : Int) : Prop := c = b ∧ Bell b c2
def okWd (w : Wd) : Prop := (1 ≤ w.1 ∧ w.1 ≤ 9) ∧ 0 ≤ w.2.1 ∧ w.2.1 ≤ 20
def okTn (m : Nat) (x : Tn) : Prop := (0 ≤ x.1 ∧ x.1 < m) ∧ (0 ≤ x.2.1 ∧ x.2.1 < m) ∧ (0 ≤ x.2.2 ∧ x.2.2 < m) ∧ x.2.1 ≤ x.2.2 ∧ ¬ (x.2.1 ≤ x.1 ∧ x.1 ≤ x.2.2)
section
variable {N : Nat} {b : List Int}
theorem made_l1_p {turns u g t : Int} (hu : 0 ≤ u ∧ u ≤ 100) : ∀ (n k : Nat) (b2 b3 : Int) (W : List Wd), u < n + k → (k : Int) ≤ u → Bell b b2 → W.length = k → (∀ w ∈ W, okWd w) →
    Ok (made_l1 N n turns u k b b2 b3 g t W) fun z => z.1 = turns ∧ BelR b z.2.1 z.2.2.1 ∧ z.2.2.2.2.1 = g ∧ z.2.2.2.2.2.1 = t ∧ (z.2.2.2.2.2.2.length : Int) = u ∧ ∀ w ∈ z.2.2.2.2.2.2, okWd w
  | 0, k, b2, b3, W, h, _, _, _, _ => by omega
  | n + 1, k, b2, b3, W, h, hk, hb, hW, hw => by
    unfold made_l1
    refine Ok.brd (fun c => ?_) (fun c => Ok.some ⟨rfl, ⟨rfl, hb⟩, rfl, rfl, by dsimp only; omega, hw⟩)
    refine Ok.bind (strike_ok N hb (by omega)) ?_
    rintro ⟨x, c1, c2, c3⟩ ⟨hx, hc, hb1⟩
    dsimp only at hx hc hb1 ⊢
    obtain rfl := hc.symm
    refine Ok.bind (stroke_ok N hb1 (by omega)) ?_
    rintro ⟨y, d1, d2, d3⟩ ⟨hy, hc, hb2⟩
    dsimp only at hy hc hb2 ⊢
    obtain rfl := hc.symm
    refine Ok.bind (seldom_ok N hb2 (by omega)) ?_
    rintro ⟨z, e1, e2, e3⟩ ⟨hc, hb3⟩
    dsimp only at hc hb3 ⊢
    obtain rfl := hc.symm
    refine Ok.lim (by simp; omega) (Ok.chk (by omega) ?_)
    have := made_l1_p (turns := turns) (g := g) (t := t) hu n (k + 1) e2 e3 (W ++ [(x, y, !z)]) (by omega) (by omega) hb3 (by simp [hW]) (fun w hm => by
      rcases List.mem_append.1 hm with hm | hm
      · exact hw w hm
      · simp at hm; subst hm; exact ⟨by dsimp only; omega, by dsimp only; omega, by dsimp only; omega⟩)
    rw [show ((k + 1 : Nat) : Int) = (k : Int) + 1 by omega] at this
    exact this
theorem made_l2_p {u g t : Int} {W : List Wd} (hu : u ≤ 100) (hW : W.length ≤ 100) : ∀ (n k : Nat) (b2 b3 : Int) (X : List Tn), u < n + k → 0 < n → Bell b b2 → X.length ≤ k → k ≤ 1000 → (∀ x ∈ X, okTn W.length x) → ((X.length : Int) ≤ max u 0) →
    Ok (made_l2 N n u k b b2 b3 g t W X) fun z => BelR b z.1 z.2.1 ∧ z.2.2.2.1 = g ∧ z.2.2.2.2.1 = t ∧ z.2.2.2.2.2.1 = W ∧ ((z.2.2.2.2.2.2.length : Int) ≤ max u 0) ∧ ∀ x ∈ z.2.2.2.2.2.2, okTn W.length x
  | 0, k, b2, b3, X, h, h0, _, _, _, _, _ => by omega
  | n + 1, k, b2, b3, X, h, h0, hb, hX, hk, hx, hl => by
    unfold made_l2
    refine Ok.brd (fun c => ?_) (fun c => Ok.some ⟨⟨rfl, hb⟩, rfl, rfl, rfl, hl, hx⟩)
    refine Ok.brd (fun c => Ok.some ⟨⟨rfl, hb⟩, rfl, rfl, rfl, hl, hx⟩) (fun c2 => ?_)
    refine Ok.chk (by omega) (Ok.bind (stroke_ok N hb (by omega)) ?_)
    rintro ⟨lo, c1, c2', c3⟩ ⟨hlo, hc, hb1⟩
    dsimp only at hlo hc hb1 ⊢
    obtain rfl := hc.symm
    refine Ok.chk (by omega) (Ok.bind (stroke_ok N hb1 (by omega)) ?_)
    rintro ⟨y, d1, d2, d3⟩ ⟨hy, hc, hb2⟩
    dsimp only at hy hc hb2 ⊢
    obtain rfl := hc.symm
    refine Ok.chk (by omega) (Ok.chk (by omega) (Ok.bind (stroke_ok N hb2 (by omega)) ?_))
    rintro ⟨w, e1, e2, e3⟩ ⟨hw, hc, hb3⟩
    dsimp only at hw hc hb3 ⊢
    obtain rfl := hc.symm
    have hj : ∀ X', made_j1 N (made_l2 N n) u k b e2 e3 g t W X' = made_l2 N n u ((k + 1 : Nat) : Int) b e2 e3 g t W X' := fun X' => by
      unfold made_j1
      rw [chk_eq (by omega)]; rfl
    simp only [hj]
    have put : (w < lo ∨ min ((W.length : Int) - 1) (lo + y) < w) → Ok (lim (X.length + [(w, lo, min ((W.length : Int) - 1) (lo + y))].length) <| made_l2 N n u ((k + 1 : Nat) : Int) b e2 e3 g t W (X ++ [(w, lo, min ((W.length : Int) - 1) (lo + y))])) fun z => BelR b z.1 z.2.1 ∧ z.2.2.2.1 = g ∧ z.2.2.2.2.1 = t ∧ z.2.2.2.2.2.1 = W ∧ ((z.2.2.2.2.2.2.length : Int) ≤ max u 0) ∧ ∀ x ∈ z.2.2.2.2.2.2, okTn W.length x := fun hc => by
      refine Ok.lim (by simp; omega) ?_
      exact made_l2_p hu hW n (k + 1) e2 e3 _ (by omega) (by omega) hb3 (by simp; omega) (by omega) (fun x hm => by
        rcases List.mem_append.1 hm with hm | hm
        · exact hx x hm
        · simp at hm; subst hm
          unfold okTn; dsimp only; omega) (by simp; omega)
    refine Ok.brd (fun q => put (.inl q)) (fun q => Ok.brd (fun q2 => put (.inr q2)) (fun q2 => ?_))
    exact made_l2_p hu hW n (k + 1) e2 e3 X (by omega) (by omega) hb3 (by omega) (by omega) hx hl
theorem made_v (hN : 110 ≤ N) {words turns b2 b3 : Int} (hw : 1 ≤ words ∧ words ≤ 12) (ht : 0 ≤ turns ∧ turns ≤ 6) (hb : Bell b b2) :
    Ok (made_S N words turns b b2 b3) fun z => TFine z.1 z.2.1 z.2.2.1 ∧ (z.1.length : Int) ≤ words ∧ BelR b z.2.2.2.1 z.2.2.2.2.1 := by
  unfold made_S
  refine Ok.bind (strike_ok N hb (by omega)) ?_
  rintro ⟨x, c1, c2, c3⟩ ⟨hx, hc, hb1⟩
  dsimp only at hx hc hb1 ⊢
  obtain rfl := hc.symm
  refine Ok.bind (strike_ok N hb1 (by omega)) ?_
  rintro ⟨m, d1, d2, d3⟩ ⟨hm, hc, hb2⟩
  dsimp only at hm hc hb2 ⊢
  obtain rfl := hc.symm
  have e1 := made_l1_p (N := N) (turns := turns) (g := 0) (t := x) (u := m) (by omega) N 0 d2 d3 [] (by omega) (by omega) hb2 rfl (fun w h => by cases h)
  simp only [Int.natCast_zero] at e1
  refine Ok.bind e1 ?_
  rintro ⟨t', f1, f2, f3, g', x', W⟩ ⟨q1, ⟨q2, hb3⟩, q3, q4, hl, hW⟩
  dsimp only at q1 q2 q3 q4 hb3 hl hW ⊢
  obtain rfl := q1.symm
  obtain rfl := q2.symm
  obtain rfl := q3.symm
  obtain rfl := q4.symm
  refine Ok.bind (stroke_ok N hb3 (by omega)) ?_
  rintro ⟨k, h1, h2, h3⟩ ⟨hk, hc, hb4⟩
  dsimp only at hk hc hb4 ⊢
  obtain rfl := hc.symm
  have e2 := made_l2_p (N := N) (u := k) (g := 0) (t := x) (W := W) (by omega) (by omega) N 0 h2 h3 [] (by omega) (by omega) hb4 (by simp) (by omega) (fun x h => by cases h) (by simp; omega)
  simp only [Int.natCast_zero] at e2
  refine Ok.bind e2 ?_
  rintro ⟨i1, i2, i3, g'', x'', W', X⟩ ⟨⟨q2, hb5⟩, q3, q4, q5, hl2, hX⟩
  dsimp only at q2 q3 q4 q5 hb5 hl2 hX ⊢
  obtain rfl := q2.symm
  obtain rfl := q3.symm
  obtain rfl := q4.symm
  obtain rfl := q5.symm
  refine Ok.some ⟨⟨by dsimp only; omega, by dsimp only; omega, by dsimp only; omega, by dsimp only; omega, by dsimp only; omega, hW, hX⟩, by dsimp only; omega, rfl, hb5⟩
end
end Go.Proofs.Ytbjmmfjfmjdadaa.Tx
namespace Go.Proofs.Ytbjmmfjfmjdadaa.Tx
set_option linter.all false
open Go

/-- Marks from others, lowered at the places of right breaths from places ahead of one. -/
structure Low (R : Nat → Nat → Bool) (m f : Nat) (A M : List Int) : Prop where
  len : M.length = 13
  le : ∀ q, M.getD q 0 ≤ A.getD q 0
  hold : ∀ p q, p < f → p < q → q ≤ m → R p q = true → M.getD q 0 ≤ M.getD p 0 + 1
  why : ∀ q, M.getD q 0 = A.getD q 0 ∨ ∃ p, p < f ∧ p < q ∧ q ≤ m ∧ R p q = true ∧ M.getD q 0 = M.getD p 0 + 1
structure Mk (A : List Int) : Prop where
  len : A.length = 13
  bd : ∀ q, 0 ≤ A.getD q 0 ∧ A.getD q 0 ≤ 99
section
variable {R : Nat → Nat → Bool} {m : Nat} {A M : List Int}
theorem Low.bd (hA : Mk A) {f : Nat} (h : Low R m f A M) : ∀ q, 0 ≤ M.getD q 0 ∧ M.getD q 0 ≤ 99 := by
  intro q
  induction q using Nat.strongRecOn with
  | ind q ih =>
    have h1 := h.le q
    have h2 := hA.bd q
    rcases h.why q with e | ⟨p, _, hp, _, _, e⟩
    · omega
    · have := ih p hp; omega
end
end Go.Proofs.Ytbjmmfjfmjdadaa.Tx
namespace Go.Proofs.Ytbjmmfjfmjdadaa.Tx
set_option linter.all false
open Go

/-- Words keep the sense of a turn. -/
def keepP (l : List Int) (x : Tn) : Bool := !sayP l x
section
variable {N : Nat} {ws : List Wd} {ts : List Tn} {br_ : Int}
theorem keeps1_l1_p {l : List Int} (hl : l.length ≤ 1000) (hN : l.length < N) {x : Tn} (hx : -1000 ≤ x.2.1 ∧ x.2.2 ≤ 1000) : ∀ (n : Nat) (w : Int), (x.2.2 + 1 - w).toNat < n → x.2.1 ≤ w →
    keeps1_l1 N n l w x.1 x.2.1 x.2.2 = some (if (wordsL w (x.2.2 + 1)).all (fun w => l.contains w) then .inr (l, x.1, x.2.1, x.2.2) else .inl ())
  | 0, w, h, _ => by omega
  | n + 1, w, h, h1 => by
    unfold keeps1_l1
    by_cases c : w ≤ x.2.2
    · have ih := keeps1_l1_p hl hN hx n (w + 1) (by omega) (by omega)
      have e : wordsL w (x.2.2 + 1) = w :: wordsL (w + 1) (x.2.2 + 1) := by
        unfold wordsL
        rw [show (x.2.2 + 1 - w).toNat = (x.2.2 + 1 - (w + 1)).toNat + 1 by omega, List.range_succ_eq_map, List.map_cons, List.map_map]
        congr 1
        · simp
        · refine List.map_congr_left fun i _ => ?_
          simp only [Function.comp]; omega
      rw [e, List.all_cons, br_dec c, containsi_v hl hN]
      simp only [Option.bind_some]
      cases l.contains w
      · rfl
      · rw [Bool.not_true, br_false, chk_eq (by omega), ih, Bool.true_and]
    · rw [br_ndec c]
      have : wordsL w (x.2.2 + 1) = [] := by unfold wordsL; rw [show (x.2.2 + 1 - w).toNat = 0 by omega]; rfl
      rw [this]; rfl
theorem keeps1_v {l : List Int} (hl : l.length ≤ 1000) (hN : l.length < N) {x : Tn} (hx : -1000 ≤ x.2.1 ∧ x.2.2 ≤ 1000) (hN2 : (x.2.2 + 1 - x.2.1).toNat < N) : keeps1_S N x.1 x.2.1 x.2.2 l = some (keepP l x) := by
  unfold keeps1_S keepP sayP coreB
  rw [keeps1_l1_p hl hN hx N x.2.1 hN2 (by omega)]
  cases (wordsL x.2.1 (x.2.2 + 1)).all (fun w => l.contains w)
  · rfl
  · simp only [if_true, Option.bind_some]
    rw [containsi_v hl hN]
    simp
theorem ixft5_gen {l : List Int} {p : Tn → Bool} : ∀ (n : Nat) (s : List Tn) (u u2 : Int), (∀ x ∈ s, keeps1_S N x.1 x.2.1 x.2.2 l = some (p x)) → ixft5_l1 N n s u u2 l = (ixL (fun x => some (!p x)) n s u u2).map fun r => match r with | .inl i => .inl (i, l) | .inr _ => .inr l
  | 0, _, _, _, _ => rfl
  | n + 1, s, u, u2, h => by
    unfold ixft5_l1 ixL every1t5_S
    unfold br
    split
    · unfold idx
      split
      · cases hg : s[u2.toNat]? with
        | none => rfl
        | some a =>
          dsimp only
          rw [h a (List.mem_of_getElem? hg)]
          simp only [Option.bind_some, ixft5_gen n s u (u2 + 1) h]
          cases p a
          · rfl
          · simp only [Bool.not_true, Bool.false_eq_true, if_false]
            unfold chk
            split <;> rfl
      · rfl
    · rfl
theorem everyt5_v {l : List Int} {p : Tn → Bool} (h : ∀ x ∈ ts, keeps1_S N x.1 x.2.1 x.2.2 l = some (p x)) (ht : ts.length ≤ 1000000) (hN : ts.length < N) : everyt5_S N ts l = some (ts.all p) := by
  unfold everyt5_S coft5_S ixft5_S
  rw [← every_gen (f := fun x : Tn => some (p x)) (p := p) (s := ts) (N := N) (fun x _ => rfl) ht hN]
  unfold ixS
  rw [ixft5_gen _ _ _ _ h]
  simp only [Option.bind_some]
  cases ixL (fun x => some (!p x)) N ts ts.length 0 with
  | none => rfl
  | some r => cases r <;> rfl
variable (hN : 110 ≤ N) (hF : TFine ws ts br_)
include hN hF
theorem keeps_v {l : List Int} (hl : l.length ≤ 100) : keeps_S N (ws, ts, br_) l = some (ts.all (keepP l)) := by
  have hn := hF.n; have ht := hF.t
  unfold keeps_S
  dsimp only
  rw [everyt5_v (p := keepP l) (fun x hx => by
    have := hF.x x hx
    exact keeps1_v (by omega) (by omega) (by omega) (by omega)) (by omega) (by omega)]
  rfl
omit hN hF
/-- The weight of words. -/
def wtR (ws : List Wd) (l : List Int) : Int := (l.map fun w => (ws.getD w.toNat (0, 0, false)).2.1).sum
def inW (ws : List Wd) (l : List Int) : Prop := ∀ w ∈ l, 0 ≤ w ∧ w < ws.length
include hF
theorem weight_l1_p {l : List Int} (hl : l.length ≤ 1000) (hw : inW ws l) : ∀ (n k : Nat) (O : List Int), l.length < n + k → k ≤ l.length → O.length = k →
    weight_l1 N n (ws, ts, br_) l l.length k O = some (O ++ (l.drop k).map fun w => (ws.getD w.toNat (0, 0, false)).2.1)
  | 0, k, O, h, _, _ => by omega
  | n + 1, k, O, h, hk, hO => by
    by_cases c : k < l.length
    · have g := gets c 0
      have hx := hw _ (getD_mem (d := 0) c)
      rw [drop_cons c 0]
      generalize l.getD k 0 = x at *
      have g2 : ws[x.toNat]? = some (ws.getD x.toNat (0, 0, false)) := by
        simp [List.getD, show x.toNat < ws.length by omega]
      have ih := weight_l1_p hl hw n (k + 1) (O ++ [(ws.getD x.toNat (0, 0, false)).2.1]) (by omega) (by omega) (by simp [hO])
      rw [show ((k + 1 : Nat) : Int) = (k : Int) + 1 by omega] at ih
      rw [weight_l1, br_dec (by omega), idx_eq (by omega) g, idx_eq (l := ws) hx.1 g2, lim_eq (by simp; omega), chk_eq (by omega), ih]
      simp
    · rw [weight_l1, br_ndec (by omega), List.drop_of_length_le (by omega)]; simp
theorem wt_mem {l : List Int} (hw : inW ws l) : ∀ x ∈ l.map fun w => (ws.getD w.toNat (0, 0, false)).2.1, 0 ≤ x ∧ x ≤ 20 := by
  intro x hx
  obtain ⟨w, hm, rfl⟩ := List.mem_map.1 hx
  have := hw w hm
  exact (hF.w _ (getD_mem (show w.toNat < ws.length by omega))).2
theorem weight_v {l : List Int} (hl : l.length ≤ 100) (hNl : 110 ≤ N) (hw : inW ws l) : weight_S N (ws, ts, br_) l = some (wtR ws l) := by
  have e := weight_l1_p (N := N) hF (l := l) (by omega) hw N 0 [] (by omega) (by omega) rfl
  simp only [Int.natCast_zero, List.drop_zero, List.nil_append] at e
  unfold weight_S
  rw [e]
  simp only [Option.bind_some]
  have hm := wt_mem hF hw
  rw [sum_v (m := 20) (by simp; omega) (by simp; omega) (by omega) (fun x hx => by have := hm x hx; omega)]
  rfl
end
end Go.Proofs.Ytbjmmfjfmjdadaa.Tx
namespace Go.Proofs.Ytbjmmfjfmjdadaa.Tx
set_option linter.all false
open Go

/-- Ascending words from one on. -/
def okC (m : Int) : Int → List Int → Prop
  | _, [] => True
  | lo, a :: r => (lo ≤ a ∧ a < m) ∧ okC m (a + 1) r
theorem okC_mono {m lo lo' : Int} (h : lo' ≤ lo) : ∀ {c : List Int}, okC m lo c → okC m lo' c
  | [], _ => trivial
  | a :: r, ⟨⟨h1, h2⟩, h3⟩ => ⟨⟨by omega, h2⟩, h3⟩
theorem okC_len {m : Int} : ∀ {c : List Int} {lo : Int}, okC m lo c → c ≠ [] → lo + c.length ≤ m
  | [], _, _, h => absurd rfl h
  | [a], lo, ⟨⟨h1, h2⟩, _⟩, _ => by simp; omega
  | a :: b :: r, lo, ⟨⟨h1, h2⟩, h3⟩, _ => by
    have := okC_len h3 (by simp)
    simp at this ⊢; omega
theorem okC_mem {m : Int} : ∀ {c : List Int} {lo : Int}, okC m lo c → ∀ x ∈ c, lo ≤ x ∧ x < m
  | a :: r, lo, ⟨⟨h1, h2⟩, h3⟩, x, hx => by
    rcases List.mem_cons.1 hx with rfl | hx
    · exact ⟨h1, h2⟩
    · have := okC_mem h3 x hx; omega
/-- Which of two lists comes ahead. -/
def bef : List Int → List Int → Bool
  | a :: l, b :: r => if a = b then bef l r else decide (a < b)
  | _, _ => false
/-- What a choice of words comes to. -/
def ChF (m : Int) (P : List Int → Bool) (l : List Int) (lo : Int) (k : Nat) : Option (List Int) → Prop
  | none => ∀ c, okC m lo c → c.length = k → P (l ++ c) = false
  | some x => ∃ c, okC m lo c ∧ c.length = k ∧ x = l ++ c ∧ P x = true ∧ ∀ c', okC m lo c' → c'.length = k → P (l ++ c') = true → bef c' c = false
theorem ChF.step {m : Int} {P : List Int → Bool} {l : List Int} {w : Int} {k : Nat} {r : Option (List Int)} (h1 : ∀ c, okC m (w + 1) c → c.length = k → P ((l ++ [w]) ++ c) = false) (h2 : ChF m P l (w + 1) (k + 1) r) : ChF m P l w (k + 1) r := by
  have key : ∀ c, okC m w c → c.length = k + 1 → P (l ++ c) = true → okC m (w + 1) c := by
    intro c hc hl hp
    cases c with
    | nil => simp at hl
    | cons a c =>
      obtain ⟨⟨a1, a2⟩, a3⟩ := hc
      by_cases e : a = w
      · subst e
        have := h1 c a3 (by simpa using hl)
        rw [List.append_assoc, List.singleton_append, hp] at this
        cases this
      · exact ⟨⟨by omega, a2⟩, a3⟩
  cases r with
  | none =>
    intro c hc hl
    cases hp : P (l ++ c)
    · rfl
    · rw [← hp]; exact h2 c (key c hc hl hp) hl
  | some x =>
    obtain ⟨c, c1, c2, c3, c4, c5⟩ := h2
    exact ⟨c, okC_mono (by omega) c1, c2, c3, c4, fun c' d1 d2 d3 => c5 c' (key c' d1 d2 d3) d2 d3⟩
theorem ChF.found {m : Int} {P : List Int → Bool} {l : List Int} {w : Int} {k : Nat} {x : List Int} (hw : w < m) (h : ChF m P (l ++ [w]) (w + 1) k (some x)) : ChF m P l w (k + 1) (some x) := by
  obtain ⟨c, c1, c2, c3, c4, c5⟩ := h
  refine ⟨w :: c, ⟨⟨by omega, hw⟩, c1⟩, by simp [c2], by simp [c3], c4, fun c' d1 d2 d3 => ?_⟩
  cases c' with
  | nil => rfl
  | cons a c' =>
    obtain ⟨⟨a1, a2⟩, a3⟩ := d1
    unfold bef
    by_cases e : a = w
    · subst e
      rw [if_pos rfl]
      exact c5 c' a3 (by simpa using d2) (by simpa using d3)
    · rw [if_neg e, decide_eq_false (by omega)]
theorem ChF.past {m : Int} {P : List Int → Bool} {l : List Int} {w : Int} {k : Nat} (h : m < w + (k + 1 : Nat)) : ChF m P l w (k + 1) none := by
  intro c hc hl
  have := okC_len hc (by intro e; subst e; simp at hl)
  omega
def chO (d : Tx) (wt : Int) : Option (List Int) → (Tx × Int) ⊕ (List Int × Tx × Int)
  | none => .inl (d, wt)
  | some x => .inr (x, d, wt)
def chL (d : Tx) (wt : Int) : Option (List Int) → (List Int × Tx × Int) ⊕ (Tx × Int)
  | none => .inr (d, wt)
  | some x => .inl (x, d, wt)
/-- Words that will do. -/
def goodP (ws : List Wd) (ts : List Tn) (wt : Int) (l : List Int) : Bool := decide (wt ≤ wtR ws l) && ts.all (keepP l)
theorem inW_append {ws : List Wd} {l : List Int} {w : Int} (h : inW ws l) (hw : 0 ≤ w ∧ w < ws.length) : inW ws (l ++ [w]) := fun x hx => by
  rcases List.mem_append.1 hx with hx | hx
  · exact h x hx
  · rw [List.mem_singleton] at hx; subst hx; exact hw
section
variable {N : Nat} {ws : List Wd} {ts : List Tn} {br_ : Int}
theorem cloneo_v {l : List Int} (h : l ≠ []) (hl : l.length ≤ 1000) : cloneo_S N l = some l := by
  unfold cloneo_S
  rw [grd_eq (by cases l <;> simp_all), lim_eq (by simp; omega)]; rfl
variable (hN : 110 ≤ N) (hF : TFine ws ts br_)
include hN hF
theorem choose_l1_p {wt : Int} {self : List Int → Int → Int → Tx → Int → Tx → Int → Option ((Tx × Int) ⊕ (List Int × Tx × Int))} {k : Nat}
    (hrec : ∀ (l' : List Int) (lo : Int), l' ≠ [] → l'.length + k ≤ 20 → inW ws l' → 0 ≤ lo → lo ≤ ws.length → ∃ r, self l' lo k (ws, ts, br_) wt (ws, ts, br_) wt = some (chO (ws, ts, br_) wt r) ∧ ChF ws.length (goodP ws ts wt) l' lo k r)
    {l : List Int} (hl : l ≠ []) (hk : l.length + (k + 1) ≤ 20) (hw : inW ws l) : ∀ (n : Nat) (w : Int), (ws.length + 1 - w).toNat < n → 0 ≤ w →
    w ≤ ws.length → ∃ r, choose_l1 N self n l ((k + 1 : Nat) : Int) (ws, ts, br_) w (ws, ts, br_) wt = some (chL (ws, ts, br_) wt r) ∧ ChF ws.length (goodP ws ts wt) l w (k + 1) r
  | 0, w, h, _, _ => by omega
  | n + 1, w, h, h0, h1 => by
    have hn := hF.n
    unfold choose_l1 end__S
    rw [chk_eq (by omega)]
    simp only [Option.bind_some]
    by_cases c : w + ((k + 1 : Nat) : Int) ≤ ws.length
    · rw [br_dec c, cloneo_v hl (by omega)]
      simp only [Option.bind_some]
      rw [lim_eq (by simp; omega), chk_eq (by omega), chk_eq (by omega), show ((k + 1 : Nat) : Int) - 1 = k by omega]
      obtain ⟨r, e1, hr⟩ := hrec (l ++ [w]) (w + 1) (by simp) (by simp; omega) (inW_append hw (by omega)) (by omega) (by omega)
      rw [e1]
      cases r with
      | none =>
        obtain ⟨r2, e2, hr2⟩ := choose_l1_p hrec hl hk hw n (w + 1) (by omega) (by omega) (by omega)
        refine ⟨r2, ?_, ChF.step hr hr2⟩
        simp only [chO, Option.bind_some]
        rw [chk_eq (by omega), e2]
      | some x =>
        refine ⟨some x, ?_, hr.found (by omega)⟩
        simp only [chO, Option.bind_some]
        obtain ⟨c, _, _, e, _⟩ := hr
        rw [grd_eq (by rw [e]; simp)]; rfl
    · rw [br_ndec c]
      exact ⟨none, rfl, ChF.past (by omega)⟩
theorem choose_v {wt : Int} : ∀ (k n : Nat) (l : List Int) (lo : Int), k < n → l ≠ [] → l.length + k ≤ 20 → inW ws l → 0 ≤ lo → lo ≤ ws.length →
    ∃ r, choose_R N n l lo k (ws, ts, br_) wt (ws, ts, br_) wt = some (chO (ws, ts, br_) wt r) ∧ ChF ws.length (goodP ws ts wt) l lo k r
  | k, 0, l, lo, h, _, _, _, _, _ => by omega
  | 0, n + 1, l, lo, h, hl, hk, hw, h0, h1 => by
    have hn := hF.n
    unfold choose_R choose_S
    rw [br_dec (by omega), weight_v hF (by omega) hN hw]
    simp only [Option.bind_some]
    have nil : ∀ c : List Int, c.length = 0 → c = [] := fun c h => List.eq_nil_of_length_eq_zero h
    by_cases c : wt ≤ wtR ws l
    · rw [br_dec c, keeps_v hN hF (by omega)]
      simp only [Option.bind_some]
      cases hp : ts.all (keepP l)
      · refine ⟨none, by rw [br_false]; rfl, fun c' h1 h2 => ?_⟩
        rw [nil c' h2, List.append_nil]
        unfold goodP; rw [hp, Bool.and_false]
      · refine ⟨some l, by rw [br_true]; rfl, [], trivial, rfl, by simp, ?_, fun c' h1 h2 _ => ?_⟩
        · unfold goodP; rw [hp, decide_eq_true c]; rfl
        · rw [nil c' h2]; rfl
    · refine ⟨none, by rw [br_ndec c]; rfl, fun c' h1 h2 => ?_⟩
      rw [nil c' h2, List.append_nil]
      unfold goodP; rw [decide_eq_false c]; rfl
  | k + 1, n + 1, l, lo, h, hl, hk, hw, h0, h1 => by
    have hn := hF.n
    unfold choose_R choose_S
    rw [br_ndec (by omega)]
    obtain ⟨r, e, hr⟩ := choose_l1_p hN hF (self := choose_R N n) (fun l' lo a b c d e => choose_v k n l' lo (by omega) a b c d e) hl hk hw N lo (by omega) h0 h1
    rw [e]
    refine ⟨r, ?_, hr⟩
    cases r <;> rfl
theorem choose0_l1_p {wt : Int} {k : Nat} (hk : k + 1 ≤ 20) : ∀ (n : Nat) (w : Int), (ws.length + 1 - w).toNat < n → 0 ≤ w →
    w ≤ ws.length → ∃ r, choose0_l1 N n ((k + 1 : Nat) : Int) (ws, ts, br_) w (ws, ts, br_) wt = some (chL (ws, ts, br_) wt r) ∧ ChF ws.length (goodP ws ts wt) [] w (k + 1) r
  | 0, w, h, _, _ => by omega
  | n + 1, w, h, h0, h1 => by
    have hn := hF.n
    unfold choose0_l1 end__S
    rw [chk_eq (by omega)]
    simp only [Option.bind_some]
    by_cases c : w + ((k + 1 : Nat) : Int) ≤ ws.length
    · rw [br_dec c]
      unfold clonen_S
      simp only [Option.bind_some]
      rw [chk_eq (by omega), chk_eq (by omega), show ((k + 1 : Nat) : Int) - 1 = k by omega]
      obtain ⟨r, e1, hr⟩ := choose_v hN hF (wt := wt) k N [w] (w + 1) (by omega) (by simp) (by simp; omega) (fun x hx => by rw [List.mem_singleton] at hx; subst hx; omega) (by omega) (by omega)
      rw [e1]
      cases r with
      | none =>
        obtain ⟨r2, e2, hr2⟩ := choose0_l1_p hk n (w + 1) (by omega) (by omega) (by omega)
        refine ⟨r2, ?_, ChF.step (l := []) hr hr2⟩
        simp only [chO, Option.bind_some]
        rw [chk_eq (by omega), e2]
      | some x =>
        refine ⟨some x, ?_, ChF.found (l := []) (by omega) hr⟩
        simp only [chO, Option.bind_some]
        obtain ⟨c, _, _, e, _⟩ := hr
        rw [grd_eq (by rw [e]; simp)]; rfl
    · rw [br_ndec c]
      exact ⟨none, rfl, ChF.past (by omega)⟩
theorem choose0_v {wt : Int} {k : Nat} (hk : k + 1 ≤ 20) : ∃ r, choose0_S N 0 ((k + 1 : Nat) : Int) (ws, ts, br_) wt (ws, ts, br_) wt = some (chO (ws, ts, br_) wt r) ∧ ChF ws.length (goodP ws ts wt) [] 0 (k + 1) r := by
  have hn := hF.n
  unfold choose0_S
  rw [br_ndec (by omega)]
  obtain ⟨r, e, hr⟩ := choose0_l1_p hN hF (wt := wt) hk N 0 (by omega) (by omega) (by omega)
  rw [e]
  refine ⟨r, ?_, hr⟩
  cases r <;> rfl
/-- What is told as the fewest words. -/
def LeastW (m : Int) (P : List Int → Bool) (l : List Int) : Prop := okC m 0 l ∧ l ≠ [] ∧ P l = true ∧ ∀ c, okC m 0 c → c ≠ [] → P c = true → l.length < c.length ∨ l.length = c.length ∧ bef c l = false
omit hN hF in
theorem least_up {m : Int} {P : List Int → Bool} {k : Nat} {x : List Int} (h : ∀ c, okC m 0 c → c ≠ [] → c.length ≤ k → P c = false) (hx : ChF m P [] 0 (k + 1) (some x)) : LeastW m P x := by
  obtain ⟨c, c1, c2, c3, c4, c5⟩ := hx
  rw [List.nil_append] at c3
  subst c3
  refine ⟨c1, by intro e; subst e; simp at c2, c4, fun c' d1 d2 d3 => ?_⟩
  rcases Nat.lt_trichotomy x.length c'.length with e | e | e
  · exact .inl e
  · exact .inr ⟨e, c5 c' d1 (by omega) d3⟩
  · have := h c' d1 d2 (by omega)
    rw [d3] at this; cases this
theorem least_l1_p {wt : Int} : ∀ (n k : Nat), ws.length < n + k → k ≤ ws.length → (∀ c, okC ws.length 0 c → c ≠ [] → c.length ≤ k → goodP ws ts wt c = false) →
    ∃ r, least_l1 N n ws.length k (ws, ts, br_) wt = some r ∧ match r with
      | .inl l => LeastW ws.length (goodP ws ts wt) l
      | .inr _ => ∀ c, okC ws.length 0 c → c ≠ [] → goodP ws ts wt c = false
  | 0, k, h, hk, _ => by omega
  | n + 1, k, h, hk, hc => by
    have hn := hF.n
    unfold least_l1
    by_cases c : k < ws.length
    · rw [br_dec (by omega), chk_eq (by omega), show (k : Int) + 1 = ((k + 1 : Nat) : Int) by omega]
      obtain ⟨r, e, hr⟩ := choose0_v hN hF (wt := wt) (k := k) (by omega)
      rw [e]
      cases r with
      | none =>
        obtain ⟨r2, e2, hr2⟩ := least_l1_p (wt := wt) n (k + 1) (by omega) (by omega) (fun c d1 d2 d3 => by
          by_cases d : c.length ≤ k
          · exact hc c d1 d2 d
          · have := hr c d1 (by omega)
            rwa [List.nil_append] at this)
        refine ⟨r2, ?_, hr2⟩
        simp only [chO, Option.bind_some]
        rw [chk_eq (by omega), e2]
      | some x =>
        have hx := least_up hc hr
        refine ⟨.inl x, ?_, hx⟩
        simp only [chO, Option.bind_some]
        rw [grd_eq (by have := hx.2.1; cases x <;> simp_all)]
    · rw [br_ndec (by omega)]
      refine ⟨.inr (), rfl, fun c' d1 d2 => hc c' d1 d2 ?_⟩
      have := okC_len d1 d2
      omega
omit hN hF
/-- What is told of the fewest words. -/
def LeastQ (ws : List Wd) (ts : List Tn) (br_ wt : Int) (l : List Int) (e : Int) : Prop :=
  if checkT ws ts br_ ≠ 0 then l = [] ∧ e = checkT ws ts br_ else if wt < 0 then l = [] ∧ e = 3 else e = 0 ∧ LeastW ws.length (goodP ws ts wt) l ∨ (e = 6 ∧ l = []) ∧ ∀ c, okC ws.length 0 c → c ≠ [] → goodP ws ts wt c = false
theorem least_v (hN : 110 ≤ N) (hw : ws.length ≤ 1000000) (ht : ts.length ≤ 1000000) {wt : Int} : ∃ l e, least_S N ws ts br_ wt = some (l, e) ∧ LeastQ ws ts br_ wt l e := by
  unfold least_S
  rw [opened_v (by omega) hw ht]
  by_cases c : checkT ws ts br_ = 0
  · have hF := tfine_of c
    have hn := hF.n
    have hq : ∀ l e, LeastQ ws ts br_ wt l e ↔ (if wt < 0 then l = [] ∧ e = 3 else e = 0 ∧ LeastW ws.length (goodP ws ts wt) l ∨ (e = 6 ∧ l = []) ∧ ∀ c, okC ws.length 0 c → c ≠ [] → goodP ws ts wt c = false) := fun l e => by
      unfold LeastQ
      rw [if_neg (by simpa using c)]
    simp only [hq]
    rw [if_pos c]
    simp only [Option.bind_some]
    rw [br_nd (by first | trivial | rfl)]
    by_cases d : wt < 0
    · rw [br_dec d]
      simp only [if_pos d]
      exact ⟨_, _, rfl, rfl, rfl⟩
    · rw [br_ndec d]
      simp only [if_neg d]
      unfold end__S
      simp only [Option.bind_some]
      obtain ⟨r, e, hr⟩ := least_l1_p hN hF (wt := wt) N 0 (by omega) (by omega) (fun c d1 d2 d3 => by
        cases c with
        | nil => exact absurd rfl d2
        | cons a r => simp at d3)
      simp only [Int.natCast_zero] at e
      rw [e]
      cases r with
      | inl l => exact ⟨_, _, rfl, .inl ⟨rfl, hr⟩⟩
      | inr u => exact ⟨_, _, rfl, .inr ⟨⟨rfl, rfl⟩, hr⟩⟩
  · rw [if_neg c]
    simp only [Option.bind_some]
    rw [br_nnd c]
    refine ⟨_, _, rfl, ?_⟩
    unfold LeastQ
    rw [if_pos c]
    exact ⟨rfl, rfl⟩
end
end Go.Proofs.Ytbjmmfjfmjdadaa.Tx

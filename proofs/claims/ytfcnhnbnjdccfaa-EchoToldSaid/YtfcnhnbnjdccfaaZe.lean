/-
  Parts of a proof, put together: E2, E3, Pl1, Pl2, LcP, Pl3, Pl4.
  Conditions: none.
-/
import Derived.Test.YtfcnhnbnjdccfaaZd
namespace Go.Proofs.Ytfcnhnbnjdccfaa
set_option linter.all false
open Go

def next_S (N : Nat) (d : Qa) (x : Int) (x2 : Int) (x3 : Int) : Option (Qt × Qa) :=
 some ((x, x2, x3), d)
noncomputable def next_sp (N : Nat) : List Spec := []
theorem next_all (N : Nat) : AllP (SpecOK Try.prog) (next_sp N) := trivial
noncomputable def next_c : Code := (Try.f88.body).getD .skip
noncomputable abbrev next_B : Body := { c := next_c, n := 6, res := [.tmp 4], outs := [⟨[.fn 122 [] [.fe Qk, .fe Qz]], []⟩], m0 := 0 }
abbrev next_rt : altD next_B.outs → Option (Qt × Qa) := fun r => some (r.1.1.2.1, r.1.1.2.2.1)
abbrev next_st : Sta := ⟨[0, 1], ⟨[.fe Qb, .agg [.i .i64, .i .i64, .i .i64]], []⟩⟩
theorem next_eq (N : Nat) (d : Qa) (x : Int) (x2 : Int) (x3 : Int) : ev (Z := Qt × Qa) Try.prog (next_sp N) next_B [] [] (some next_rt) 400 false [.c [0], .c [1]] (stL next_st ((d, (x, x2, x3, ()), ()), ())) (stH next_st ((d, (x, x2, x3, ()), ()), ())) = next_S N d x x2 x3 := by kernel_rfl
noncomputable def sp_next (N : Nat) : Spec := { f := 88, ins := ⟨[.fe Qb, .agg [.i .i64, .i .i64, .i .i64]], []⟩, outs := [⟨[.fn 122 [] [.fe Qk, .fe Qz]], []⟩], run := fun p k => (next_S N p.1.1 p.1.2.1.1 p.1.2.1.2.1 p.1.2.1.2.2.1).bind fun r => k ((((), (r.1, r.2, ())), ()), ()) }
theorem sp_next_ok (N : Nat) : SpecOK Try.prog (sp_next N) := fn_sound (B := next_B) (loops := []) (leaves := []) (fun p => next_S N p.1.1 p.1.2.1.1 p.1.2.1.2.1 p.1.2.1.2.2.1) (fun r => ((((), (r.1, r.2, ())), ()), ())) next_rt (fun _ _ _ => rfl) (fun r z h => by cases h; rfl) Try.func88 (by kernel_rfl) (by kernel_rfl) (by kernel_rfl) rfl rfl (by kernel_rfl) (fun args w => Sem.pv_run _ _ _ (by kernel_rfl) w) (next_all N) mixed trivial (fun z E Xc hE hX hret => trivial) (fun p => next_eq N p.1.1 p.1.2.1.1 p.1.2.1.2.1 p.1.2.1.2.2.1)

def dfaults_S (N : Nat) (d : Qa) (told : Int) : Option Int :=
 chk ((d.2.2.2.1.length : Int) + (d.2.2.2.2.length : Int)) <|
 chk (((d.2.2.2.1.length : Int) + (d.2.2.2.2.length : Int)) + (d.2.1.length : Int)) <|
 chk (2 * told) <|
 chk ((((d.2.2.2.1.length : Int) + (d.2.2.2.2.length : Int)) + (d.2.1.length : Int)) - (2 * told)) <|
 some ((((d.2.2.2.1.length : Int) + (d.2.2.2.2.length : Int)) + (d.2.1.length : Int)) - (2 * told))
noncomputable def dfaults_sp (N : Nat) : List Spec := []
theorem dfaults_all (N : Nat) : AllP (SpecOK Try.prog) (dfaults_sp N) := trivial
noncomputable def dfaults_c : Code := (Try.f81.body).getD .skip
noncomputable abbrev dfaults_B : Body := { c := dfaults_c, n := 26, res := [.tmp 4], outs := [⟨[.i .i64], []⟩], m0 := 0 }
abbrev dfaults_rt : altD dfaults_B.outs → Option Int := fun r => some r.1.1
abbrev dfaults_st : Sta := ⟨[0, 1], ⟨[.fe Qb, .i .i64], []⟩⟩
theorem dfaults_eq (N : Nat) (d : Qa) (told : Int) : ev (Z := Int) Try.prog (dfaults_sp N) dfaults_B [] [] (some dfaults_rt) 400 false [.c [0], .c [1]] (stL dfaults_st ((d, told, ()), ())) (stH dfaults_st ((d, told, ()), ())) = dfaults_S N d told := by kernel_rfl
noncomputable def sp_dfaults (N : Nat) : Spec := { f := 81, ins := ⟨[.fe Qb, .i .i64], []⟩, outs := [⟨[.i .i64], []⟩], run := fun p k => (dfaults_S N p.1.1 p.1.2.1).bind fun r => k ((r, ()), ()) }
theorem sp_dfaults_ok (N : Nat) : SpecOK Try.prog (sp_dfaults N) := fn_sound (B := dfaults_B) (loops := []) (leaves := []) (fun p => dfaults_S N p.1.1 p.1.2.1) (fun r => ((r, ()), ())) dfaults_rt (fun _ _ _ => rfl) (fun r z h => by cases h; rfl) Try.func81 (by kernel_rfl) (by kernel_rfl) (by kernel_rfl) rfl rfl (by kernel_rfl) (fun args w => Sem.pv_run _ _ _ (by kernel_rfl) w) (dfaults_all N) mixed trivial (fun z E Xc hE hX hret => trivial) (fun p => dfaults_eq N p.1.1 p.1.2.1)

def all1_S (N : Nat) (u : Int) (u2 : Int) (u3 : Int) : Option Bool :=
 some true
noncomputable def all1_sp (N : Nat) : List Spec := []
theorem all1_all (N : Nat) : AllP (SpecOK Try.prog) (all1_sp N) := trivial
noncomputable def all1_c : Code := (Try.f120.body).getD .skip
noncomputable abbrev all1_B : Body := { c := all1_c, n := 5, res := [.tmp 4], outs := [⟨[.b], []⟩], m0 := 0 }
abbrev all1_rt : altD all1_B.outs → Option Bool := fun r => some r.1.1
abbrev all1_st : Sta := ⟨[0, 1], ⟨[.i .i64, .agg [.i .i64, .i .i64]], []⟩⟩
theorem all1_eq (N : Nat) (u : Int) (u2 : Int) (u3 : Int) : ev (Z := Bool) Try.prog (all1_sp N) all1_B [] [] (some all1_rt) 400 false [.c [0], .c [1]] (stL all1_st ((u, (u2, u3, ()), ()), ())) (stH all1_st ((u, (u2, u3, ()), ()), ())) = all1_S N u u2 u3 := by kernel_rfl
noncomputable def sp_all1 (N : Nat) : Spec := { f := 120, ins := ⟨[.i .i64, .agg [.i .i64, .i .i64]], []⟩, outs := [⟨[.b], []⟩], run := fun p k => (all1_S N p.1.1 p.1.2.1.1 p.1.2.1.2.1).bind fun r => k ((r, ()), ()) }
theorem sp_all1_ok (N : Nat) : SpecOK Try.prog (sp_all1 N) := fn_sound (B := all1_B) (loops := []) (leaves := []) (fun p => all1_S N p.1.1 p.1.2.1.1 p.1.2.1.2.1) (fun r => ((r, ()), ())) all1_rt (fun _ _ _ => rfl) (fun r z h => by cases h; rfl) Try.func120 (by kernel_rfl) (by kernel_rfl) (by kernel_rfl) rfl rfl (by kernel_rfl) (fun args w => Sem.pv_run _ _ _ (by kernel_rfl) w) (all1_all N) mixed trivial (fun z E Xc hE hX hret => trivial) (fun p => all1_eq N p.1.1 p.1.2.1.1 p.1.2.1.2.1)

def all_S (N : Nat)  : Option Unit :=
 some ()
noncomputable def all_sp (N : Nat) : List Spec := []
theorem all_all (N : Nat) : AllP (SpecOK Try.prog) (all_sp N) := trivial
noncomputable def all_c : Code := (Try.f83.body).getD .skip
noncomputable abbrev all_B : Body := { c := all_c, n := 2, res := [.cell 0 133], outs := [⟨[.agg [.fn 120 [] []]], []⟩], m0 := 0 }
abbrev all_rt : altD all_B.outs → Option Unit := fun r => some ()
abbrev all_st : Sta := ⟨[], ⟨[], []⟩⟩
theorem all_eq (N : Nat)  : ev (Z := Unit) Try.prog (all_sp N) all_B [] [] (some all_rt) 400 false [.c [0], .c [1]] (stL all_st ((), ())) (stH all_st ((), ())) = all_S N := by kernel_rfl
noncomputable def sp_all (N : Nat) : Spec := { f := 83, ins := ⟨[], []⟩, outs := [⟨[.agg [.fn 120 [] []]], []⟩], run := fun p k => (all_S N).bind fun r => k (((((), ()), ()), ()), ()) }
theorem sp_all_ok (N : Nat) : SpecOK Try.prog (sp_all N) := fn_sound (B := all_B) (loops := []) (leaves := []) (fun p => all_S N ) (fun r => (((((), ()), ()), ()), ())) all_rt (fun _ _ _ => rfl) (fun r z h => by cases h; rfl) Try.func83 (by kernel_rfl) (by kernel_rfl) (by kernel_rfl) rfl rfl (by kernel_rfl) (fun args w => Sem.pv_run _ _ _ (by kernel_rfl) w) (all_all N) mixed trivial (fun z E Xc hE hX hret => trivial) (fun p => all_eq N )

noncomputable abbrev resta_self (self : Int → Int → Int → (Qa) → (Qa) → Qg → Option Qy) : Spec := { f := 121, ins := ⟨[.agg [.i .i64, .i .i64, .i .i64], .fz [.fe Qb], .fz [.mp 1], .fz [.fn 120 [] []], .own 0 0], [.segs [.fn 121 [] [.fz [.fe Qb], .fz [.mp 1], .fz [.fn 120 [] []], .own 0 0]], .map Qk Qd]⟩, outs := [⟨[.agg [.i .i64, .i .i64]], [.segs [.fn 121 [] [.fz [.fe Qb], .fz [.mp 1], .fz [.fn 120 [] []], .own 0 0]], .map Qk Qd]⟩], run := fun p k => (self p.1.1.1 p.1.1.2.1 p.1.1.2.2.1 p.1.2.1.1 p.2.1.1.2.1.1 p.2.2.1).bind fun r => k (((r.1, r.2.1, ()), ()), ((((), ((r.2.2.1, ()), ((), ()), (((), ()), ()), (), ())), ()), r.2.2.2, ())) }
def resta_l1_b (N : Nat) (self : Int → Int → Int → (Qa) → (Qa) → Qg → Option Qy) (rec : (Qa) → Qg → Int → Int → Int → Int → Int → Int → Int → Option (Qa × Qg × Int × Int × Int × Int × Int × Int × Int)) (u : Qt) (u2 : Qa) (g' : Qa) (g2' : List (Qt × Qc)) (x' : Int) (x2' : Int) (x3' : Int) (g3' : Int) (g4' : Int) (best' : Int) (best2' : Int) (p' : Int) (p2' : Int) (y' : Int) (y2' : Int) (y3' : Int) : Option (Qa × Qg × Int × Int × Int × Int × Int × Int × Int) :=
 (all1_S N x' p' p2').bind fun x_3 =>
 br (!x_3)
  (rec g' g2' x' x2' x3' g3' g4' best' best2')
  ((self y' y2' y3' g' g' g2').bind fun (x_4, y_5, y_6, y_7) =>
  br (decide (0 ≤ x_4))
   (br (!decide (p' = 3))
    (chk (x_4 + 1) <|
    br (decide (best' < (x_4 + 1)))
     (rec y_6 y_7 x' x2' x3' g3' g4' (x_4 + 1) y_5)
     (br (decide ((x_4 + 1) = best'))
      (chk (best2' + y_5) <|
      rec y_6 y_7 x' x2' x3' g3' g4' best' (best2' + y_5))
      (rec y_6 y_7 x' x2' x3' g3' g4' best' best2')))
    (br (decide (best' < x_4))
     (rec y_6 y_7 x' x2' x3' g3' g4' x_4 y_5)
     (br (decide (x_4 = best'))
      (chk (best2' + y_5) <|
      rec y_6 y_7 x' x2' x3' g3' g4' best' (best2' + y_5))
      (rec y_6 y_7 x' x2' x3' g3' g4' best' best2'))))
   (br (decide (best' < x_4))
    (rec y_6 y_7 x' x2' x3' g3' g4' x_4 y_5)
    (br (decide (x_4 = best'))
     (chk (best2' + y_5) <|
     rec y_6 y_7 x' x2' x3' g3' g4' best' (best2' + y_5))
     (rec y_6 y_7 x' x2' x3' g3' g4' best' best2'))))
def resta_l1 (N : Nat) (self : Int → Int → Int → (Qa) → (Qa) → Qg → Option Qy) : List Move → (Qt) → (Qa) → (Qa) → Qg → Int → Int → Int → Int → Int → Int → Int → Option (Qa × Qg × Int × Int × Int × Int × Int × Int × Int)
 | [], u, u2, g, g2, x, x2, x3, g3, g4, best, best2 =>
  some ((g, g2, x, x2, x3, g3, g4, best, best2))
 | e :: es, u, u2, g, g2, x, x2, x3, g3, g4, best, best2 =>
  resta_l1_b N self (fun g_ g2_ x_ x2_ x3_ g3_ g4_ best_ best2_ => resta_l1 N self es u u2 g_ g2_ x_ x2_ x3_ g3_ g4_ best_ best2_) u u2 g g2 x x2 x3 g3 g4 best best2 e.1.1 e.1.2.1 e.2.1.1 e.2.1.2.1 e.2.1.2.2.1
def resta_S (N : Nat) (self : Int → Int → Int → (Qa) → (Qa) → Qg → Option Qy) (x : Int) (x2 : Int) (x3 : Int) (u : Qa) (g : Qa) (g2 : List (Qt × Qc)) : Option Qy :=
 br (decide (x = (u.2.1.length : Int)))
  (some (0, 1, g, g2))
  (br ((g2.find? fun y => Ty.beq Qk y.1 (x, x2, x3)).isSome)
   (some ((((g2.find? fun y => Ty.beq Qk y.1 (x, x2, x3)).map (·.2)).getD (Ty.dflt Qd)).1, (((g2.find? fun y => Ty.beq Qk y.1 (x, x2, x3)).map (·.2)).getD (Ty.dflt Qd)).2, g, g2))
   ((next_S N u x x2 x3).bind fun (x_1, y_2) =>
   ((nextR x_1 y_2).bind fun es => resta_l1 N self es x_1 y_2 g g2 x x2 x3 0 0 (-1) 0).bind fun (g_8, g2_9, x_10, x2_11, x3_12, g3_13, g4_14, best_15, best2_16) =>
   some (best_15, best2_16, g_8, (((x_10, x2_11, x3_12), (best_15, best2_16)) :: g2_9))))
noncomputable def resta_sp (N : Nat) (self : Int → Int → Int → (Qa) → (Qa) → Qg → Option Qy) : List Spec := [sp_next N, sp_all1 N, resta_self self]
theorem resta_all (N : Nat) (self : Int → Int → Int → (Qa) → (Qa) → Qg → Option Qy) (hself : SpecOK Try.prog (resta_self self)) : AllP (SpecOK Try.prog) (resta_sp N self) := ⟨sp_next_ok N, sp_all1_ok N, hself, trivial⟩
noncomputable def resta_c : Code := (Try.f121.body).getD .skip
noncomputable abbrev resta_B : Body := { c := resta_c, n := 82, res := [.cell 6 129], outs := [⟨[.agg [.i .i64, .i .i64]], [.segs [.fn 121 [] [.fz [.fe Qb], .fz [.mp 1], .fz [.fn 120 [] []], .own 0 0]], .map Qk Qd]⟩], m0 := 2 }
abbrev resta_rt : altD resta_B.outs → Option Qy := fun r => some (r.1.1.1, r.1.1.2.1, r.2.1.1.2.1.1, r.2.2.1)
abbrev resta_l1_st : Sta := ⟨[2, 3, 4, 5, 6, 9, 34], ⟨[.fz [.mp 1], .fz [.fn 120 [] []], .own 0 0, .own 2 0, .own 3 0, .own 4 0, .fn 122 [] [.fe Qk, .fe Qz]], [.segs [.fn 121 [] [.fz [.fe Qb], .fz [.mp 1], .fz [.fn 120 [] []], .own 0 0]], .map Qk Qd, .segs [.i .i64, .i .i64, .i .i64], .segs [.i .i64, .i .i64], .segs [.i .i64, .i .i64]]⟩⟩
abbrev resta_l1_stA : Sta := ⟨[3, 4, 5, 6, 9, 10, 11], ⟨[.fz [.fn 120 [] []], .own 0 0, .own 2 0, .own 3 0, .own 4 0, .own 5 0, .own 6 0], [.segs [.fn 121 [] [.fz [.fe Qb], .fz [.mp 1], .fz [.fn 120 [] []], .own 0 0]], .map Qk Qd, .segs [.i .i64, .i .i64, .i .i64], .segs [.i .i64, .i .i64], .segs [.i .i64, .i .i64], .segs [.i .i64, .i .i64], .segs [.i .i64, .i .i64, .i .i64]]⟩⟩
abbrev resta_l1_e0 : Leaf (Qa × Qg × Int × Int × Int × Int × Int × Int × Int) := ⟨[.c [1, 1, 1, 1, 1, 0], .c [1, 1, 1, 1, 1, 1]], ⟨[2, 5, 6, 9], ⟨[.fz [.mp 1], .own 2 0, .own 3 0, .own 4 0], [.segs [.fn 121 [] [.fz [.fe Qb], .fz [.mp 1], .fz [.fn 120 [] []], .own 0 0]], .map Qk Qd, .segs [.i .i64, .i .i64, .i .i64], .segs [.i .i64, .i .i64], .segs [.i .i64, .i .i64]]⟩⟩, fun p => some ((p.2.1.1.2.1.1, p.2.2.1, p.2.2.2.1.1, p.2.2.2.1.2.1, p.2.2.2.1.2.2.1, p.2.2.2.2.1.1, p.2.2.2.2.1.2.1, p.2.2.2.2.2.1.1, p.2.2.2.2.2.1.2.1))⟩
noncomputable def resta_l1_L (N : Nat) (self : Int → Int → Int → (Qa) → (Qa) → Qg → Option Qy) : LoopS := { at_ := [.c [1, 1, 1, 1, 0, 1, 0], .b 0, .c [1, 1, 1, 1, 1]], sta := resta_l1_st, exits := [([.c [1, 1, 1, 1, 1, 0], .c [1, 1, 1, 1, 1, 1]], ⟨[2, 5, 6, 9], ⟨[.fz [.mp 1], .own 2 0, .own 3 0, .own 4 0], [.segs [.fn 121 [] [.fz [.fe Qb], .fz [.mp 1], .fz [.fn 120 [] []], .own 0 0]], .map Qk Qd, .segs [.i .i64, .i .i64, .i .i64], .segs [.i .i64, .i .i64], .segs [.i .i64, .i .i64]]⟩⟩)], run := fun p k => ((nextR p.1.2.2.2.2.2.2.1.2.1 p.1.2.2.2.2.2.2.1.2.2.1).bind fun es => resta_l1 N self es p.1.2.2.2.2.2.2.1.2.1 p.1.2.2.2.2.2.2.1.2.2.1 p.2.1.1.2.1.1 p.2.2.1 p.2.2.2.1.1 p.2.2.2.1.2.1 p.2.2.2.1.2.2.1 p.2.2.2.2.1.1 p.2.2.2.2.1.2.1 p.2.2.2.2.2.1.1 p.2.2.2.2.2.1.2.1).bind fun e => k (.inl ((((), ()), (), (), (), ()), ((((), ((e.1, ()), ((), ()), (((), ()), ()), (), ())), ()), e.2.1, (e.2.2.1, e.2.2.2.1, e.2.2.2.2.1, ()), (e.2.2.2.2.2.1, e.2.2.2.2.2.2.1, ()), (e.2.2.2.2.2.2.2.1, e.2.2.2.2.2.2.2.2, ()), ()))) }
noncomputable abbrev resta_l1_Bk : Body := { c := resta_c, n := resta_B.n, res := resta_B.res, outs := resta_B.outs, m0 := 5 }
theorem resta_l1_end (N : Nat) (self : Int → Int → Int → (Qa) → (Qa) → Qg → Option Qy) (u : Qt) (u2 : Qa) (g : Qa) (g2 : List (Qt × Qc)) (x : Int) (x2 : Int) (x3 : Int) (g3 : Int) (g4 : Int) (best : Int) (best2 : Int) : ev (Z := Qa × Qg × Int × Int × Int × Int × Int × Int × Int) Try.prog (resta_sp N self) resta_B [] [resta_l1_e0] none 400 false (nrm resta_B.c 99 [.b 0, .c [1, 1, 1, 1, 1]]) (stL resta_l1_st ((((), ()), (((), ()), ()), (), (), (), (), ((), (u, u2, ())), ()), ((((), ((g, ()), ((), ()), (((), ()), ()), (), ())), ()), g2, (x, x2, x3, ()), (g3, g4, ()), (best, best2, ()), ()))) (stH resta_l1_st ((((), ()), (((), ()), ()), (), (), (), (), ((), (u, u2, ())), ()), ((((), ((g, ()), ((), ()), (((), ()), ()), (), ())), ()), g2, (x, x2, x3, ()), (g3, g4, ()), (best, best2, ()), ()))) = resta_l1 N self [] u u2 g g2 x x2 x3 g3 g4 best best2 := by kernel_rfl
theorem resta_l1_asg (N : Nat) (self : Int → Int → Int → (Qa) → (Qa) → Qg → Option Qy) (e : Move) (es : List Move) (u : Qt) (u2 : Qa) (g : Qa) (g2 : List (Qt × Qc)) (x : Int) (x2 : Int) (x3 : Int) (g3 : Int) (g4 : Int) (best : Int) (best2 : Int) : ev (Z := Qa × Qg × Int × Int × Int × Int × Int × Int × Int) Try.prog (resta_sp N self) resta_l1_Bk [] [⟨[.r, .c [1, 1, 1, 1, 0, 1, 0, 1]], resta_l1_stA, fun p => resta_l1_b N self (fun g_ g2_ x_ x2_ x3_ g3_ g4_ best_ best2_ => resta_l1 N self es u u2 g_ g2_ x_ x2_ x3_ g3_ g4_ best_ best2_) u u2 p.2.1.1.2.1.1 p.2.2.1 p.2.2.2.1.1 p.2.2.2.1.2.1 p.2.2.2.1.2.2.1 p.2.2.2.2.1.1 p.2.2.2.2.1.2.1 p.2.2.2.2.2.1.1 p.2.2.2.2.2.1.2.1 p.2.2.2.2.2.2.1.1 p.2.2.2.2.2.2.1.2.1 p.2.2.2.2.2.2.2.1.1 p.2.2.2.2.2.2.2.1.2.1 p.2.2.2.2.2.2.2.1.2.2.1⟩] none 400 false (nrm resta_B.c 99 [.c [1, 1, 1, 1, 0, 1, 0, 0], .r, .c [1, 1, 1, 1, 0, 1, 0, 1]]) (pars [35, 36] (encs id is_next.elem e) (stL resta_l1_st ((((), ()), (((), ()), ()), (), (), (), (), ((), (u, u2, ())), ()), ((((), ((g, ()), ((), ()), (((), ()), ()), (), ())), ()), g2, (x, x2, x3, ()), (g3, g4, ()), (best, best2, ()), ())))) (stH resta_l1_st ((((), ()), (((), ()), ()), (), (), (), (), ((), (u, u2, ())), ()), ((((), ((g, ()), ((), ()), (((), ()), ()), (), ())), ()), g2, (x, x2, x3, ()), (g3, g4, ()), (best, best2, ()), ()))) = resta_l1 N self (e :: es) u u2 g g2 x x2 x3 g3 g4 best best2 := by kernel_rfl
theorem resta_l1_bod (N : Nat) (self : Int → Int → Int → (Qa) → (Qa) → Qg → Option Qy) (rec : (Qa) → Qg → Int → Int → Int → Int → Int → Int → Int → Option (Qa × Qg × Int × Int × Int × Int × Int × Int × Int)) (u : Qt) (u2 : Qa) (g' : Qa) (g2' : List (Qt × Qc)) (x' : Int) (x2' : Int) (x3' : Int) (g3' : Int) (g4' : Int) (best' : Int) (best2' : Int) (p' : Int) (p2' : Int) (y' : Int) (y2' : Int) (y3' : Int) : ev (Z := Qa × Qg × Int × Int × Int × Int × Int × Int × Int) Try.prog (resta_sp N self) resta_l1_Bk [] [⟨[], ⟨[], ⟨[], [.segs [.fn 121 [] [.fz [.fe Qb], .fz [.mp 1], .fz [.fn 120 [] []], .own 0 0]], .map Qk Qd, .segs [.i .i64, .i .i64, .i .i64], .segs [.i .i64, .i .i64], .segs [.i .i64, .i .i64]]⟩⟩, fun p => rec p.2.1.1.2.1.1 p.2.2.1 p.2.2.2.1.1 p.2.2.2.1.2.1 p.2.2.2.1.2.2.1 p.2.2.2.2.1.1 p.2.2.2.2.1.2.1 p.2.2.2.2.2.1.1 p.2.2.2.2.2.1.2.1⟩] none 400 false (nrm resta_B.c 99 [.c [1, 1, 1, 1, 0, 1, 0, 1]]) (stL resta_l1_stA (((((), ()), ()), (), (), (), (), (), (), ()), ((((), ((g', ()), ((), ()), (((), ()), ()), (), ())), ()), g2', (x', x2', x3', ()), (g3', g4', ()), (best', best2', ()), (p', p2', ()), (y', y2', y3', ()), ()))) (stH resta_l1_stA (((((), ()), ()), (), (), (), (), (), (), ()), ((((), ((g', ()), ((), ()), (((), ()), ()), (), ())), ()), g2', (x', x2', x3', ()), (g3', g4', ()), (best', best2', ()), (p', p2', ()), (y', y2', y3', ()), ()))) = resta_l1_b N self rec u u2 g' g2' x' x2' x3' g3' g4' best' best2' p' p2' y' y2' y3' := by kernel_rfl
theorem resta_l1_ok (N : Nat) (self : Int → Int → Int → (Qa) → (Qa) → Qg → Option Qy) (hself : SpecOK Try.prog (resta_self self)) : LoopOK Try.prog resta_B.c resta_B.n resta_B.m0 true (resta_l1_L N self) := by
 refine range_ok (B := resta_B) (is := is_next) (g := .tmp 34) (ps := #[35, 36]) (assign := sub resta_c [1, 1, 1, 1, 0, 1, 0, 0]) (body := sub resta_c [1, 1, 1, 1, 0, 1, 0, 1]) (Z := Qa × Qg × Int × Int × Int × Int × Int × Int × Int) (x := resta_l1_L N self) (fun p => (p.1.2.2.2.2.2.2.1.2.1, p.1.2.2.2.2.2.2.1.2.2.1, ())) (fun es p => resta_l1 N self es p.1.2.2.2.2.2.2.1.2.1 p.1.2.2.2.2.2.2.1.2.2.1 p.2.1.1.2.1.1 p.2.2.1 p.2.2.2.1.1 p.2.2.2.1.2.1 p.2.2.2.1.2.2.1 p.2.2.2.2.1.1 p.2.2.2.2.1.2.1 p.2.2.2.2.2.1.1 p.2.2.2.2.2.1.2.1) (staA := resta_l1_stA) (fun es q p => resta_l1_b N self (fun g_ g2_ x_ x2_ x3_ g3_ g4_ best_ best2_ => resta_l1 N self es q.2.2.2.2.2.2.1.2.1 q.2.2.2.2.2.2.1.2.2.1 g_ g2_ x_ x2_ x3_ g3_ g4_ best_ best2_) q.2.2.2.2.2.2.1.2.1 q.2.2.2.2.2.2.1.2.2.1 p.2.1.1.2.1.1 p.2.2.1 p.2.2.2.1.1 p.2.2.2.1.2.1 p.2.2.2.1.2.2.1 p.2.2.2.2.1.1 p.2.2.2.2.1.2.1 p.2.2.2.2.2.1.1 p.2.2.2.2.2.1.2.1 p.2.2.2.2.2.2.1.1 p.2.2.2.2.2.2.1.2.1 p.2.2.2.2.2.2.2.1.1 p.2.2.2.2.2.2.2.1.2.1 p.2.2.2.2.2.2.2.1.2.2.1) [] (fun e => .inl ((((), ()), (), (), (), ()), ((((), ((e.1, ()), ((), ()), (((), ()), ()), (), ())), ()), e.2.1, (e.2.2.1, e.2.2.2.1, e.2.2.2.2.1, ()), (e.2.2.2.2.2.1, e.2.2.2.2.2.2.1, ()), (e.2.2.2.2.2.2.2.1, e.2.2.2.2.2.2.2.2, ()), ()))) (fun _ _ _ => rfl) rfl (by kernel_rfl) (fun _ => by kernel_rfl) (by kernel_rfl) is_next_ok (Nat.le_of_ble_eq_true (by kernel_rfl)) (by kernel_rfl) ?_ ?_ ?_ ?_
 ·exact fun z E Xc hE hX hx p hp a w hS => ev_sound (z := z) (B := resta_B) (loops := []) (leaves := [resta_l1_e0]) (top := true) (resta_all N self hself) mixed trivial hE hX ⟨(fun p hp => by obtain rfl := Option.some.inj hp; exact hx), trivial⟩ RetOK.no 400 false _ _ _ ((resta_l1_end N self p.1.2.2.2.2.2.2.1.2.1 p.1.2.2.2.2.2.2.1.2.2.1 p.2.1.1.2.1.1 p.2.2.1 p.2.2.2.1.1 p.2.2.2.1.2.1 p.2.2.2.1.2.2.1 p.2.2.2.2.1.1 p.2.2.2.2.1.2.1 p.2.2.2.2.2.1.1 p.2.2.2.2.2.1.2.1).trans hp) a w hS
 ·intro z E Xc hE hX hx e he q b hb a w hS
  simp only [List.not_mem_nil] at he
 ·exact fun z E Xc hE hX e es p hl hp a w hS => ev_sound (z := z) (B := resta_l1_Bk) (loops := []) (leaves := [_]) (top := false) (resta_all N self hself) mixed trivial hE hX ⟨hl, trivial⟩ RetOK.no 400 false _ _ _ ((resta_l1_asg N self e es p.1.2.2.2.2.2.2.1.2.1 p.1.2.2.2.2.2.2.1.2.2.1 p.2.1.1.2.1.1 p.2.2.1 p.2.2.2.1.1 p.2.2.2.1.2.1 p.2.2.2.1.2.2.1 p.2.2.2.2.1.1 p.2.2.2.2.1.2.1 p.2.2.2.2.2.1.1 p.2.2.2.2.2.1.2.1).trans hp) a w hS
 ·exact fun z E Xc hE hX es q he hs p hp a w hS => ev_sound (z := z) (B := resta_l1_Bk) (loops := []) (leaves := [_]) (top := false) (resta_all N self hself) mixed trivial hE hX ⟨he, trivial⟩ RetOK.no 400 false _ _ _ ((resta_l1_bod N self (fun g_ g2_ x_ x2_ x3_ g3_ g4_ best_ best2_ => resta_l1 N self es q.2.2.2.2.2.2.1.2.1 q.2.2.2.2.2.2.1.2.2.1 g_ g2_ x_ x2_ x3_ g3_ g4_ best_ best2_) q.2.2.2.2.2.2.1.2.1 q.2.2.2.2.2.2.1.2.2.1 p.2.1.1.2.1.1 p.2.2.1 p.2.2.2.1.1 p.2.2.2.1.2.1 p.2.2.2.1.2.2.1 p.2.2.2.2.1.1 p.2.2.2.2.1.2.1 p.2.2.2.2.2.1.1 p.2.2.2.2.2.1.2.1 p.2.2.2.2.2.2.1.1 p.2.2.2.2.2.2.1.2.1 p.2.2.2.2.2.2.2.1.1 p.2.2.2.2.2.2.2.1.2.1 p.2.2.2.2.2.2.2.1.2.2.1).trans hp) a w hS
abbrev resta_st : Sta := ⟨[0, 1, 2, 3, 4], ⟨[.agg [.i .i64, .i .i64, .i .i64], .fz [.fe Qb], .fz [.mp 1], .fz [.fn 120 [] []], .own 0 0], [.segs [.fn 121 [] [.fz [.fe Qb], .fz [.mp 1], .fz [.fn 120 [] []], .own 0 0]], .map Qk Qd]⟩⟩
theorem resta_eq (N : Nat) (self : Int → Int → Int → (Qa) → (Qa) → Qg → Option Qy) (x : Int) (x2 : Int) (x3 : Int) (u : Qa) (g : Qa) (g2 : List (Qt × Qc)) : ev (Z := Int × Int × Qa × Qg) Try.prog (resta_sp N self) resta_B [resta_l1_L N self] [] (some resta_rt) 400 false [.c [0], .c [1]] (stL resta_st (((x, x2, x3, ()), (u, ()), ((), ()), (((), ()), ()), (), ()), ((((), ((g, ()), ((), ()), (((), ()), ()), (), ())), ()), g2, ()))) (stH resta_st (((x, x2, x3, ()), (u, ()), ((), ()), (((), ()), ()), (), ()), ((((), ((g, ()), ((), ()), (((), ()), ()), (), ())), ()), g2, ()))) = resta_S N self x x2 x3 u g g2 := by kernel_rfl
theorem resta_self_ok (N : Nat) (self : Int → Int → Int → (Qa) → (Qa) → Qg → Option Qy) (hself : SpecOK Try.prog (resta_self self)) : SpecOK Try.prog (resta_self (resta_S N self)) := fn_sound (B := resta_B) (loops := [resta_l1_L N self]) (leaves := []) (fun p => resta_S N self p.1.1.1 p.1.1.2.1 p.1.1.2.2.1 p.1.2.1.1 p.2.1.1.2.1.1 p.2.2.1) (fun r => (((r.1, r.2.1, ()), ()), ((((), ((r.2.2.1, ()), ((), ()), (((), ()), ()), (), ())), ()), r.2.2.2, ()))) resta_rt (fun _ _ _ => rfl) (fun r z h => by cases h; rfl) Try.func121 (by kernel_rfl) (by kernel_rfl) (by kernel_rfl) rfl rfl (by kernel_rfl) (fun args w => Sem.pv_run _ _ _ (by kernel_rfl) w) (resta_all N self hself) mixed ⟨resta_l1_ok N self hself, trivial⟩ (fun z E Xc hE hX hret => trivial) (fun p => resta_eq N self p.1.1.1 p.1.1.2.1 p.1.1.2.2.1 p.1.2.1.1 p.2.1.1.2.1.1 p.2.2.1)
def resta_R (N : Nat) : Nat → Int → Int → Int → (Qa) → (Qa) → Qg → Option Qy
 | 0 => fun _ _ _ _ _ _ => none
 | n + 1 => resta_S N (resta_R N n)
theorem resta_R_ok (N : Nat) : ∀ n, SpecOK Try.prog (resta_self (resta_R N n))
 | 0 => SpecOK.none (fun _ _ _ => rfl) (fun args w => Sem.pv_run _ _ _ (by kernel_rfl) w)
 | n + 1 => resta_self_ok N (resta_R N n) (resta_R_ok N n)
noncomputable abbrev sp_resta (N : Nat) : Spec := resta_self (resta_R N N)
theorem sp_resta_ok (N : Nat) : SpecOK Try.prog (sp_resta N) := resta_R_ok N N

def restsa_j1 (N : Nat) (rest : Qa) (g : List (Qt × Qc)) : Option Qg :=
 (resta_R N N 0 0 0 rest rest g).bind fun (x_1, y_2, y_3, y_4) =>
 some (((0, 0, 0), (x_1, y_2)) :: y_4)
def restsa_S (N : Nat) (d : Qa) : Option Qg :=
 restsa_j1 N d []
noncomputable def restsa_sp (N : Nat) : List Spec := [sp_resta N]
theorem restsa_all (N : Nat) : AllP (SpecOK Try.prog) (restsa_sp N) := ⟨sp_resta_ok N, trivial⟩
noncomputable def restsa_c : Code := (Try.f87.body).getD .skip
noncomputable abbrev restsa_B : Body := { c := restsa_c, n := 15, res := [.tmp 4], outs := [⟨[.mp 0], [.map Qk Qd]⟩], m0 := 0 }
abbrev restsa_rt : altD restsa_B.outs → Option Qg := fun r => some r.2.1
abbrev restsa_j1_at : List PI := [.c [1, 1, 1, 1, 0], .c [1, 1, 1, 1, 1]]
abbrev restsa_j1_st : Sta := ⟨[5, 6], ⟨[.fz [.mp 1], .own 0 0], [.segs [.fn 121 [] [.fz [.fe Qb], .fz [.mp 1], .fz [.fn 120 [] []], .own 0 0]], .map Qk Qd]⟩⟩
abbrev restsa_j1_k (N : Nat) : Leaf Qg := ⟨restsa_j1_at, restsa_j1_st, fun p => restsa_j1 N p.2.1.1.2.1.1 p.2.2.1⟩
theorem restsa_j1_eq (N : Nat) (rest : Qa) (g : List (Qt × Qc)) : ev (Z := Qg) Try.prog (restsa_sp N) restsa_B [] [] (some restsa_rt) 400 true restsa_j1_at (stL restsa_j1_st ((((), ()), (), ()), ((((), ((rest, ()), ((), ()), (((), ()), ()), (), ())), ()), g, ()))) (stH restsa_j1_st ((((), ()), (), ()), ((((), ((rest, ()), ((), ()), (((), ()), ()), (), ())), ()), g, ()))) = restsa_j1 N rest g := by kernel_rfl
theorem restsa_j1_lf (N : Nat) {z : Qg} {E : EE} {Xc : Ctx} (hE : EOK restsa_B.m0 E) (hX : CxOK true Xc) (hret : RetOK Try.prog restsa_B E Xc z (some restsa_rt)) : LeafOK Try.prog restsa_B.c restsa_B.n restsa_B.m0 E Xc z (restsa_j1_k N) := leaf_of_ev (B := restsa_B) (loops := []) (leaves := []) (restsa_all N) mixed trivial hE hX trivial hret (fun p => restsa_j1_eq N p.2.1.1.2.1.1 p.2.2.1)
abbrev restsa_st : Sta := ⟨[0, 1], ⟨[.fe Qb, .agg [.fn 120 [] []]], []⟩⟩
theorem restsa_eq (N : Nat) (d : Qa) : ev (Z := Qg) Try.prog (restsa_sp N) restsa_B [] [restsa_j1_k N] (some restsa_rt) 400 false [.c [0], .c [1]] (stL restsa_st ((d, (((), ()), ()), ()), ())) (stH restsa_st ((d, (((), ()), ()), ()), ())) = restsa_S N d := by kernel_rfl
noncomputable def sp_restsa (N : Nat) : Spec := { f := 87, ins := ⟨[.fe Qb, .agg [.fn 120 [] []]], []⟩, outs := [⟨[.mp 0], [.map Qk Qd]⟩], run := fun p k => (restsa_S N p.1.1).bind fun r => k (((), ()), (r, ())) }
theorem sp_restsa_ok (N : Nat) : SpecOK Try.prog (sp_restsa N) := fn_sound (B := restsa_B) (loops := []) (leaves := [restsa_j1_k N]) (fun p => restsa_S N p.1.1) (fun r => (((), ()), (r, ()))) restsa_rt (fun _ _ _ => rfl) (fun r z h => by cases h; rfl) Try.func87 (by kernel_rfl) (by kernel_rfl) (by kernel_rfl) rfl rfl (by kernel_rfl) (fun args w => Sem.pv_run _ _ _ (by kernel_rfl) w) (restsa_all N) mixed trivial (fun z E Xc hE hX hret => ⟨restsa_j1_lf N hE hX hret, trivial⟩) (fun p => restsa_eq N p.1.1)

def firsta_S (N : Nat) (d : Qa) : Option Qc :=
 (restsa_S N d).bind fun x_1 =>
 some ((((x_1.find? fun y => Ty.beq Qk y.1 (0, 0, 0)).map (·.2)).getD (Ty.dflt Qd)).1, (((x_1.find? fun y => Ty.beq Qk y.1 (0, 0, 0)).map (·.2)).getD (Ty.dflt Qd)).2)
noncomputable def firsta_sp (N : Nat) : List Spec := [sp_restsa N]
theorem firsta_all (N : Nat) : AllP (SpecOK Try.prog) (firsta_sp N) := ⟨sp_restsa_ok N, trivial⟩
noncomputable def firsta_c : Code := (Try.f82.body).getD .skip
noncomputable abbrev firsta_B : Body := { c := firsta_c, n := 10, res := [.cell 4 129], outs := [⟨[.agg [.i .i64, .i .i64]], []⟩], m0 := 0 }
abbrev firsta_rt : altD firsta_B.outs → Option Qc := fun r => some (r.1.1.1, r.1.1.2.1)
abbrev firsta_st : Sta := ⟨[0, 1], ⟨[.fe Qb, .agg [.fn 120 [] []]], []⟩⟩
theorem firsta_eq (N : Nat) (d : Qa) : ev (Z := Int × Int) Try.prog (firsta_sp N) firsta_B [] [] (some firsta_rt) 400 false [.c [0], .c [1]] (stL firsta_st ((d, (((), ()), ()), ()), ())) (stH firsta_st ((d, (((), ()), ()), ()), ())) = firsta_S N d := by kernel_rfl
noncomputable def sp_firsta (N : Nat) : Spec := { f := 82, ins := ⟨[.fe Qb, .agg [.fn 120 [] []]], []⟩, outs := [⟨[.agg [.i .i64, .i .i64]], []⟩], run := fun p k => (firsta_S N p.1.1).bind fun r => k (((r.1, r.2, ()), ()), ()) }
theorem sp_firsta_ok (N : Nat) : SpecOK Try.prog (sp_firsta N) := fn_sound (B := firsta_B) (loops := []) (leaves := []) (fun p => firsta_S N p.1.1) (fun r => (((r.1, r.2, ()), ()), ())) firsta_rt (fun _ _ _ => rfl) (fun r z h => by cases h; rfl) Try.func82 (by kernel_rfl) (by kernel_rfl) (by kernel_rfl) rfl rfl (by kernel_rfl) (fun args w => Sem.pv_run _ _ _ (by kernel_rfl) w) (firsta_all N) mixed trivial (fun z E Xc hE hX hret => trivial) (fun p => firsta_eq N p.1.1)

def least_S (N : Nat) (e : List Qe) (e2 : List Int) (e3 : Int) (p : Int) (p2 : Int) : Option Qc :=
 ((opened_S N e e2 e3 p p2).bind fun e => match e with
 | .inl (x_1, y_2) =>
  (br (!decide (y_2 = 0))
   (some (0, y_2))
   ((all_S N).bind fun _ =>
   (firsta_S N x_1).bind fun (x_3, y_4) =>
   (dfaults_S N x_1 x_3).bind fun x_5 =>
   some (x_5, 0)))
 | .inr x_6 =>
  (br (!decide (x_6 = 0))
   (some (0, x_6))
   ((all_S N).bind fun _ =>
   none)))
noncomputable def least_sp (N : Nat) : List Spec := [sp_opened N, sp_dfaults N, sp_all N, sp_firsta N]
theorem least_all (N : Nat) : AllP (SpecOK Try.prog) (least_sp N) := ⟨sp_opened_ok N, sp_dfaults_ok N, sp_all_ok N, sp_firsta_ok N, trivial⟩
noncomputable def least_c : Code := (Try.f28.body).getD .skip
noncomputable abbrev least_B : Body := { c := least_c, n := 23, res := [.tmp 4, .tmp 5], outs := [⟨[.i .i64, .i .i64], []⟩], m0 := 0 }
abbrev least_rt : altD least_B.outs → Option Qc := fun r => some (r.1.1, r.1.2.1)
abbrev least_st : Sta := ⟨[0, 1], ⟨[.agg [.sl Qf, .sl (.int .i64), .i .i64], .agg [.i .i64, .i .i64]], []⟩⟩
theorem least_eq (N : Nat) (e : List Qe) (e2 : List Int) (e3 : Int) (p : Int) (p2 : Int) : ev (Z := Int × Int) Try.prog (least_sp N) least_B [] [] (some least_rt) 400 false [.c [0], .c [1]] (stL least_st (((e, e2, e3, ()), (p, p2, ()), ()), ())) (stH least_st (((e, e2, e3, ()), (p, p2, ()), ()), ())) = least_S N e e2 e3 p p2 := by kernel_rfl
noncomputable def sp_least (N : Nat) : Spec := { f := 28, ins := ⟨[.agg [.sl Qf, .sl (.int .i64), .i .i64], .agg [.i .i64, .i .i64]], []⟩, outs := [⟨[.i .i64, .i .i64], []⟩], run := fun p k => (least_S N p.1.1.1 p.1.1.2.1 p.1.1.2.2.1 p.1.2.1.1 p.1.2.1.2.1).bind fun r => k ((r.1, r.2, ()), ()) }
theorem sp_least_ok (N : Nat) : SpecOK Try.prog (sp_least N) := fn_sound (B := least_B) (loops := []) (leaves := []) (fun p => least_S N p.1.1.1 p.1.1.2.1 p.1.1.2.2.1 p.1.2.1.1 p.1.2.1.2.1) (fun r => ((r.1, r.2, ()), ())) least_rt (fun _ _ _ => rfl) (fun r z h => by cases h; rfl) Try.func28 (by kernel_rfl) (by kernel_rfl) (by kernel_rfl) rfl rfl (by kernel_rfl) (fun args w => Sem.pv_run _ _ _ (by kernel_rfl) w) (least_all N) mixed trivial (fun z E Xc hE hX hret => trivial) (fun p => least_eq N p.1.1.1 p.1.1.2.1 p.1.1.2.2.1 p.1.2.1.1 p.1.2.1.2.1)

def count_S (N : Nat) (e : List Qe) (e2 : List Int) (e3 : Int) (p : Int) (p2 : Int) : Option Qc :=
 ((opened_S N e e2 e3 p p2).bind fun e => match e with
 | .inl (x_1, y_2) =>
  (br (!decide (y_2 = 0))
   (some (0, y_2))
   ((all_S N).bind fun _ =>
   (firsta_S N x_1).bind fun (x_3, y_4) =>
   some (y_4, 0)))
 | .inr x_5 =>
  (br (!decide (x_5 = 0))
   (some (0, x_5))
   ((all_S N).bind fun _ =>
   none)))
noncomputable def count_sp (N : Nat) : List Spec := [sp_opened N, sp_all N, sp_firsta N]
theorem count_all (N : Nat) : AllP (SpecOK Try.prog) (count_sp N) := ⟨sp_opened_ok N, sp_all_ok N, sp_firsta_ok N, trivial⟩
noncomputable def count_c : Code := (Try.f34.body).getD .skip
noncomputable abbrev count_B : Body := { c := count_c, n := 21, res := [.tmp 4, .tmp 5], outs := [⟨[.i .i64, .i .i64], []⟩], m0 := 0 }
abbrev count_rt : altD count_B.outs → Option Qc := fun r => some (r.1.1, r.1.2.1)
abbrev count_st : Sta := ⟨[0, 1], ⟨[.agg [.sl Qf, .sl (.int .i64), .i .i64], .agg [.i .i64, .i .i64]], []⟩⟩
theorem count_eq (N : Nat) (e : List Qe) (e2 : List Int) (e3 : Int) (p : Int) (p2 : Int) : ev (Z := Int × Int) Try.prog (count_sp N) count_B [] [] (some count_rt) 400 false [.c [0], .c [1]] (stL count_st (((e, e2, e3, ()), (p, p2, ()), ()), ())) (stH count_st (((e, e2, e3, ()), (p, p2, ()), ()), ())) = count_S N e e2 e3 p p2 := by kernel_rfl
noncomputable def sp_count (N : Nat) : Spec := { f := 34, ins := ⟨[.agg [.sl Qf, .sl (.int .i64), .i .i64], .agg [.i .i64, .i .i64]], []⟩, outs := [⟨[.i .i64, .i .i64], []⟩], run := fun p k => (count_S N p.1.1.1 p.1.1.2.1 p.1.1.2.2.1 p.1.2.1.1 p.1.2.1.2.1).bind fun r => k ((r.1, r.2, ()), ()) }
theorem sp_count_ok (N : Nat) : SpecOK Try.prog (sp_count N) := fn_sound (B := count_B) (loops := []) (leaves := []) (fun p => count_S N p.1.1.1 p.1.1.2.1 p.1.1.2.2.1 p.1.2.1.1 p.1.2.1.2.1) (fun r => ((r.1, r.2, ()), ())) count_rt (fun _ _ _ => rfl) (fun r z h => by cases h; rfl) Try.func34 (by kernel_rfl) (by kernel_rfl) (by kernel_rfl) rfl rfl (by kernel_rfl) (fun args w => Sem.pv_run _ _ _ (by kernel_rfl) w) (count_all N) mixed trivial (fun z E Xc hE hX hret => trivial) (fun p => count_eq N p.1.1.1 p.1.1.2.1 p.1.1.2.2.1 p.1.2.1.1 p.1.2.1.2.1)

def eleast_S (N : Nat) (e : List Qe) (e2 : List Int) (e3 : Int) (a : Int) (b : Int) : Option Int :=
 idx e a fun x_1 =>
 idx e b fun x_2 =>
 (all_S N).bind fun _ =>
 (firsta_S N (e, e2, e3, x_1, x_2)).bind fun (x_3, y_4) =>
 (dfaults_S N (e, e2, e3, x_1, x_2) x_3).bind fun x_5 =>
 some x_5
noncomputable def eleast_sp (N : Nat) : List Spec := [sp_dfaults N, sp_all N, sp_firsta N]
theorem eleast_all (N : Nat) : AllP (SpecOK Try.prog) (eleast_sp N) := ⟨sp_dfaults_ok N, sp_all_ok N, sp_firsta_ok N, trivial⟩
noncomputable def eleast_c : Code := (Try.f85.body).getD .skip
noncomputable abbrev eleast_B : Body := { c := eleast_c, n := 27, res := [.tmp 6], outs := [⟨[.i .i64], []⟩], m0 := 0 }
abbrev eleast_rt : altD eleast_B.outs → Option Int := fun r => some r.1.1
abbrev eleast_st : Sta := ⟨[0, 1, 2], ⟨[.agg [.sl Qf, .sl (.int .i64), .i .i64], .i .i64, .i .i64], []⟩⟩
theorem eleast_eq (N : Nat) (e : List Qe) (e2 : List Int) (e3 : Int) (a : Int) (b : Int) : ev (Z := Int) Try.prog (eleast_sp N) eleast_B [] [] (some eleast_rt) 400 false [.c [0], .c [1]] (stL eleast_st (((e, e2, e3, ()), a, b, ()), ())) (stH eleast_st (((e, e2, e3, ()), a, b, ()), ())) = eleast_S N e e2 e3 a b := by kernel_rfl
noncomputable def sp_eleast (N : Nat) : Spec := { f := 85, ins := ⟨[.agg [.sl Qf, .sl (.int .i64), .i .i64], .i .i64, .i .i64], []⟩, outs := [⟨[.i .i64], []⟩], run := fun p k => (eleast_S N p.1.1.1 p.1.1.2.1 p.1.1.2.2.1 p.1.2.1 p.1.2.2.1).bind fun r => k ((r, ()), ()) }
theorem sp_eleast_ok (N : Nat) : SpecOK Try.prog (sp_eleast N) := fn_sound (B := eleast_B) (loops := []) (leaves := []) (fun p => eleast_S N p.1.1.1 p.1.1.2.1 p.1.1.2.2.1 p.1.2.1 p.1.2.2.1) (fun r => ((r, ()), ())) eleast_rt (fun _ _ _ => rfl) (fun r z h => by cases h; rfl) Try.func85 (by kernel_rfl) (by kernel_rfl) (by kernel_rfl) rfl rfl (by kernel_rfl) (fun args w => Sem.pv_run _ _ _ (by kernel_rfl) w) (eleast_all N) mixed trivial (fun z E Xc hE hX hret => trivial) (fun p => eleast_eq N p.1.1.1 p.1.1.2.1 p.1.1.2.2.1 p.1.2.1 p.1.2.2.1)

def epairs_j1 (N : Nat) (rec : Int → Int → Int → Int → Qj → Qe → Int → Qi → Option Qm) (a : Int) (b : Int) (u : Int) (u2 : Int) (e : List Qe) (e2 : List Int) (e3 : Int) (out : List Qc) : Option Qm :=
 chk (b + 1) <|
 rec a (b + 1) u u2 e e2 e3 out
def epairs_l2 (N : Nat) : Nat → Int → Int → Int → Int → Qj → Qe → Int → Qi → Option Qm
 | 0, _, _, _, _, _, _, _, _ => none
 | n_ + 1, a, b, u, u2, e, e2, e3, out =>
  br (decide (b < (e.length : Int)))
   ((eleast_S N e e2 e3 a b).bind fun x_1 =>
   br (decide (x_1 ≤ e3))
    (lim (out.length + [(a, b)].length) <|
    epairs_j1 N (epairs_l2 N n_) a b u u2 e e2 e3 (out ++ [(a, b)]))
    (epairs_j1 N (epairs_l2 N n_) a b u u2 e e2 e3 out))
   (some ((u, u2, e, e2, e3, out)))
def epairs_l1 (N : Nat) : Nat → Int → Int → Qj → Qe → Int → Qi → Option Qi
 | 0, _, _, _, _, _, _ => none
 | n_ + 1, u, u2, e, e2, e3, out =>
  br (decide (u2 < u))
   ((epairs_l2 N N u2 u2 u u2 e e2 e3 out).bind fun (u_2, u2_3, e_4, e2_5, e3_6, out_7) =>
   chk (u2_3 + 1) <|
   epairs_l1 N n_ u_2 (u2_3 + 1) e_4 e2_5 e3_6 out_7)
   (some (out))
def epairs_S (N : Nat) (e : List Qe) (e2 : List Int) (e3 : Int) : Option Qi :=
 (epairs_l1 N N (e.length : Int) 0 e e2 e3 []).bind fun out_8 =>
 some out_8
noncomputable def epairs_sp (N : Nat) : List Spec := [sp_eleast N]
theorem epairs_all (N : Nat) : AllP (SpecOK Try.prog) (epairs_sp N) := ⟨sp_eleast_ok N, trivial⟩
noncomputable def epairs_c : Code := (Try.f76.body).getD .skip
noncomputable abbrev epairs_B : Body := { c := epairs_c, n := 35, res := [.tmp 2], outs := [⟨[.sl Qd], []⟩], m0 := 0 }
abbrev epairs_rt : altD epairs_B.outs → Option Qi := fun r => some r.1.1
abbrev epairs_l2_at : List PI := [.c [1, 1, 0, 1, 0, 0, 1, 1, 0, 0, 1, 1, 0, 0, 0, 0], .c [1, 1, 0, 1, 0, 0, 1, 1, 0, 0, 1, 1, 0, 0, 0, 1], .c [1, 1, 0, 1, 0, 0, 1, 1, 0, 0, 1, 1, 0, 0, 1], .l [1, 1, 0, 1, 0, 0, 1, 1, 0, 0, 1, 1, 0, 0], .b 2, .b 1, .c [1, 1, 0, 1, 0, 0, 1, 1, 1], .l [1, 1, 0, 1, 0, 0], .b 0, .c [1, 1, 1]]
abbrev epairs_l2_st : Sta := ⟨[1, 3, 4, 5, 8, 9], ⟨[.own 0 0, .ols 1, .i .i64, .i .i64, .i .i64, .i .i64], [.segs [.sl Qf, .sl (.int .i64), .i .i64], .lst Qd]⟩⟩
abbrev epairs_l2_h (rec : Int → Int → Int → Int → Qj → Qe → Int → Qi → Option Qm) : Leaf Qm := ⟨epairs_l2_at, epairs_l2_st, fun p => rec p.1.2.2.1 p.1.2.2.2.1 p.1.2.2.2.2.1 p.1.2.2.2.2.2.1 p.2.1.1 p.2.1.2.1 p.2.1.2.2.1 p.2.2.1⟩
abbrev epairs_l2_e0 : Leaf Qm := ⟨[.c [1, 1, 0, 1, 0, 0, 1, 1, 1], .l [1, 1, 0, 1, 0, 0], .b 0, .c [1, 1, 1]], ⟨[1, 3, 8, 9], ⟨[.own 0 0, .ols 1, .i .i64, .i .i64], [.segs [.sl Qf, .sl (.int .i64), .i .i64], .lst Qd]⟩⟩, fun p => some ((p.1.2.2.1, p.1.2.2.2.1, p.2.1.1, p.2.1.2.1, p.2.1.2.2.1, p.2.2.1))⟩
abbrev epairs_j1_at : List PI := [.c [1, 1, 0, 1, 0, 0, 1, 1, 0, 0, 1, 1, 0, 0, 1, 1], .l [1, 1, 0, 1, 0, 0, 1, 1, 0, 0, 1, 1, 0, 0], .b 2, .b 1, .c [1, 1, 0, 1, 0, 0, 1, 1, 1], .l [1, 1, 0, 1, 0, 0], .b 0, .c [1, 1, 1]]
abbrev epairs_j1_st : Sta := ⟨[1, 3, 4, 5, 8, 9], ⟨[.own 0 0, .ols 1, .i .i64, .i .i64, .i .i64, .i .i64], [.segs [.sl Qf, .sl (.int .i64), .i .i64], .lst Qd]⟩⟩
abbrev epairs_j1_k (N : Nat) (rec : Int → Int → Int → Int → Qj → Qe → Int → Qi → Option Qm) : Leaf Qm := ⟨epairs_j1_at, epairs_j1_st, fun p => epairs_j1 N rec p.1.2.2.1 p.1.2.2.2.1 p.1.2.2.2.2.1 p.1.2.2.2.2.2.1 p.2.1.1 p.2.1.2.1 p.2.1.2.2.1 p.2.2.1⟩
theorem epairs_j1_eq (N : Nat) (rec : Int → Int → Int → Int → Qj → Qe → Int → Qi → Option Qm) (a : Int) (b : Int) (u : Int) (u2 : Int) (e : List Qe) (e2 : List Int) (e3 : Int) (out : List Qc) : ev (Z := Int × Int × List Qe × List Int × Int × Qi) Try.prog (epairs_sp N) epairs_B [] [epairs_l2_h rec, epairs_l2_e0] none 400 true epairs_j1_at (stL epairs_j1_st (((), (), a, b, u, u2, ()), ((e, e2, e3, ()), out, ()))) (stH epairs_j1_st (((), (), a, b, u, u2, ()), ((e, e2, e3, ()), out, ()))) = epairs_j1 N rec a b u u2 e e2 e3 out := by kernel_rfl
theorem epairs_j1_lf (N : Nat) (rec : Int → Int → Int → Int → Qj → Qe → Int → Qi → Option Qm) {z : Int × Int × List Qe × List Int × Int × Qi} {top : Bool} {E : EE} {Xc : Ctx} (hE : EOK epairs_B.m0 E) (hX : CxOK top Xc) (hrec : LeafOK Try.prog epairs_B.c epairs_B.n epairs_B.m0 E Xc z (epairs_l2_h rec)) (h0 : LeafOK Try.prog epairs_B.c epairs_B.n epairs_B.m0 E Xc z epairs_l2_e0) : LeafOK Try.prog epairs_B.c epairs_B.n epairs_B.m0 E Xc z (epairs_j1_k N rec) := leaf_of_ev (B := epairs_B) (loops := []) (leaves := [epairs_l2_h rec, epairs_l2_e0]) (epairs_all N) mixed trivial hE hX ⟨hrec, h0, trivial⟩ RetOK.no (fun p => epairs_j1_eq N rec p.1.2.2.1 p.1.2.2.2.1 p.1.2.2.2.2.1 p.1.2.2.2.2.2.1 p.2.1.1 p.2.1.2.1 p.2.1.2.2.1 p.2.2.1)
noncomputable def epairs_l2_L (N : Nat) : LoopS := { at_ := epairs_l2_at, sta := epairs_l2_st, exits := [([.c [1, 1, 0, 1, 0, 0, 1, 1, 1], .l [1, 1, 0, 1, 0, 0], .b 0, .c [1, 1, 1]], ⟨[1, 3, 8, 9], ⟨[.own 0 0, .ols 1, .i .i64, .i .i64], [.segs [.sl Qf, .sl (.int .i64), .i .i64], .lst Qd]⟩⟩)], run := fun p k => (epairs_l2 N N p.1.2.2.1 p.1.2.2.2.1 p.1.2.2.2.2.1 p.1.2.2.2.2.2.1 p.2.1.1 p.2.1.2.1 p.2.1.2.2.1 p.2.2.1).bind fun e => k (.inl (((), (), e.1, e.2.1, ()), ((e.2.2.1, e.2.2.2.1, e.2.2.2.2.1, ()), e.2.2.2.2.2, ()))) }
theorem epairs_l2_eq (N n_ : Nat) (a : Int) (b : Int) (u : Int) (u2 : Int) (e : List Qe) (e2 : List Int) (e3 : Int) (out : List Qc) : ev (Z := Int × Int × List Qe × List Int × Int × Qi) Try.prog (epairs_sp N) epairs_B [] [epairs_l2_h (epairs_l2 N n_), epairs_l2_e0, epairs_j1_k N (epairs_l2 N n_)] none 400 true epairs_l2_at (stL epairs_l2_st (((), (), a, b, u, u2, ()), ((e, e2, e3, ()), out, ()))) (stH epairs_l2_st (((), (), a, b, u, u2, ()), ((e, e2, e3, ()), out, ()))) = epairs_l2 N (n_ + 1) a b u u2 e e2 e3 out := by kernel_rfl
theorem epairs_l2_ok (N : Nat) {top : Bool} : LoopOK Try.prog epairs_B.c epairs_B.n epairs_B.m0 top (epairs_l2_L N) := loop_of_ev (Z := Int × Int × List Qe × List Int × Int × Qi) (N := N) (fun m p => epairs_l2 N m p.1.2.2.1 p.1.2.2.2.1 p.1.2.2.2.2.1 p.1.2.2.2.2.2.1 p.2.1.1 p.2.1.2.1 p.2.1.2.2.1 p.2.2.1) (fun e => .inl (((), (), e.1, e.2.1, ()), ((e.2.2.1, e.2.2.2.1, e.2.2.2.2.1, ()), e.2.2.2.2.2, ()))) (fun _ _ _ => rfl) (fun _ => rfl) (fun m z E Xc hE hX hrec hx => leaf_of_ev (B := epairs_B) (loops := []) (leaves := [epairs_l2_h (epairs_l2 N m), epairs_l2_e0, epairs_j1_k N (epairs_l2 N m)]) (epairs_all N) mixed trivial hE hX ⟨hrec, (fun p hp => by obtain rfl := Option.some.inj hp; exact hx), epairs_j1_lf N _ hE hX hrec (fun p hp => by obtain rfl := Option.some.inj hp; exact hx), trivial⟩ RetOK.no (fun p => epairs_l2_eq N m p.1.2.2.1 p.1.2.2.2.1 p.1.2.2.2.2.1 p.1.2.2.2.2.2.1 p.2.1.1 p.2.1.2.1 p.2.1.2.2.1 p.2.2.1))
abbrev epairs_l1_at : List PI := [.c [1, 1, 0, 1, 0, 0, 0], .c [1, 1, 0, 1, 0, 0, 1], .l [1, 1, 0, 1, 0, 0], .b 0, .c [1, 1, 1]]
abbrev epairs_l1_st : Sta := ⟨[1, 3, 8, 9], ⟨[.own 0 0, .ols 1, .i .i64, .i .i64], [.segs [.sl Qf, .sl (.int .i64), .i .i64], .lst Qd]⟩⟩
abbrev epairs_l1_h (rec : Int → Int → Qj → Qe → Int → Qi → Option Qi) : Leaf Qi := ⟨epairs_l1_at, epairs_l1_st, fun p => rec p.1.2.2.1 p.1.2.2.2.1 p.2.1.1 p.2.1.2.1 p.2.1.2.2.1 p.2.2.1⟩
abbrev epairs_l1_e0 : Leaf Qi := ⟨[.c [1, 1, 1, 0], .c [1, 1, 1, 1]], ⟨[3], ⟨[.ols 0], [.lst Qd]⟩⟩, fun p => some (p.2.1)⟩
noncomputable def epairs_l1_L (N : Nat) : LoopS := { at_ := epairs_l1_at, sta := epairs_l1_st, exits := [([.c [1, 1, 1, 0], .c [1, 1, 1, 1]], ⟨[3], ⟨[.ols 0], [.lst Qd]⟩⟩)], run := fun p k => (epairs_l1 N N p.1.2.2.1 p.1.2.2.2.1 p.2.1.1 p.2.1.2.1 p.2.1.2.2.1 p.2.2.1).bind fun e => k (.inl (((), ()), (e, ()))) }
theorem epairs_l1_eq (N n_ : Nat) (u : Int) (u2 : Int) (e : List Qe) (e2 : List Int) (e3 : Int) (out : List Qc) : ev (Z := Qi) Try.prog (epairs_sp N) epairs_B [epairs_l2_L N] [epairs_l1_h (epairs_l1 N n_), epairs_l1_e0] none 400 true epairs_l1_at (stL epairs_l1_st (((), (), u, u2, ()), ((e, e2, e3, ()), out, ()))) (stH epairs_l1_st (((), (), u, u2, ()), ((e, e2, e3, ()), out, ()))) = epairs_l1 N (n_ + 1) u u2 e e2 e3 out := by kernel_rfl
theorem epairs_l1_ok (N : Nat) {top : Bool} : LoopOK Try.prog epairs_B.c epairs_B.n epairs_B.m0 top (epairs_l1_L N) := loop_of_ev (Z := Qi) (N := N) (fun m p => epairs_l1 N m p.1.2.2.1 p.1.2.2.2.1 p.2.1.1 p.2.1.2.1 p.2.1.2.2.1 p.2.2.1) (fun e => .inl (((), ()), (e, ()))) (fun _ _ _ => rfl) (fun _ => rfl) (fun m z E Xc hE hX hrec hx => leaf_of_ev (B := epairs_B) (loops := [epairs_l2_L N]) (leaves := [epairs_l1_h (epairs_l1 N m), epairs_l1_e0]) (epairs_all N) mixed ⟨epairs_l2_ok N, trivial⟩ hE hX ⟨hrec, (fun p hp => by obtain rfl := Option.some.inj hp; exact hx), trivial⟩ RetOK.no (fun p => epairs_l1_eq N m p.1.2.2.1 p.1.2.2.2.1 p.2.1.1 p.2.1.2.1 p.2.1.2.2.1 p.2.2.1))
abbrev epairs_st : Sta := ⟨[0], ⟨[.agg [.sl Qf, .sl (.int .i64), .i .i64]], []⟩⟩
theorem epairs_eq (N : Nat) (e : List Qe) (e2 : List Int) (e3 : Int) : ev (Z := Qi) Try.prog (epairs_sp N) epairs_B [epairs_l2_L N, epairs_l1_L N] [] (some epairs_rt) 400 false [.c [0], .c [1]] (stL epairs_st (((e, e2, e3, ()), ()), ())) (stH epairs_st (((e, e2, e3, ()), ()), ())) = epairs_S N e e2 e3 := by kernel_rfl
noncomputable def sp_epairs (N : Nat) : Spec := { f := 76, ins := ⟨[.agg [.sl Qf, .sl (.int .i64), .i .i64]], []⟩, outs := [⟨[.sl Qd], []⟩], run := fun p k => (epairs_S N p.1.1.1 p.1.1.2.1 p.1.1.2.2.1).bind fun r => k ((r, ()), ()) }
theorem sp_epairs_ok (N : Nat) : SpecOK Try.prog (sp_epairs N) := fn_sound (B := epairs_B) (loops := [epairs_l2_L N, epairs_l1_L N]) (leaves := []) (fun p => epairs_S N p.1.1.1 p.1.1.2.1 p.1.1.2.2.1) (fun r => ((r, ()), ())) epairs_rt (fun _ _ _ => rfl) (fun r z h => by cases h; rfl) Try.func76 (by kernel_rfl) (by kernel_rfl) (by kernel_rfl) rfl rfl (by kernel_rfl) (fun args w => Sem.pv_run _ _ _ (by kernel_rfl) w) (epairs_all N) mixed ⟨epairs_l2_ok N, epairs_l1_ok N, trivial⟩ (fun z E Xc hE hX hret => trivial) (fun p => epairs_eq N p.1.1.1 p.1.1.2.1 p.1.1.2.2.1)

def pairs_S (N : Nat) (e : List Qe) (e2 : List Int) (e3 : Int) : Option (Qi × Int) :=
 (check_S N e e2 e3).bind fun x_1 =>
 br (!decide (x_1 = 0))
  (some ([], x_1))
  ((epairs_S N e e2 e3).bind fun x_2 =>
  some (x_2, 0))
noncomputable def pairs_sp (N : Nat) : List Spec := [sp_check N, sp_epairs N]
theorem pairs_all (N : Nat) : AllP (SpecOK Try.prog) (pairs_sp N) := ⟨sp_check_ok N, sp_epairs_ok N, trivial⟩
noncomputable def pairs_c : Code := (Try.f23.body).getD .skip
noncomputable abbrev pairs_B : Body := { c := pairs_c, n := 12, res := [.tmp 2, .tmp 3], outs := [⟨[.sl Qd, .i .i64], []⟩], m0 := 0 }
abbrev pairs_rt : altD pairs_B.outs → Option (Qi × Int) := fun r => some (r.1.1, r.1.2.1)
abbrev pairs_st : Sta := ⟨[0], ⟨[.agg [.sl Qf, .sl (.int .i64), .i .i64]], []⟩⟩
theorem pairs_eq (N : Nat) (e : List Qe) (e2 : List Int) (e3 : Int) : ev (Z := Qi × Int) Try.prog (pairs_sp N) pairs_B [] [] (some pairs_rt) 400 false [.c [0], .c [1]] (stL pairs_st (((e, e2, e3, ()), ()), ())) (stH pairs_st (((e, e2, e3, ()), ()), ())) = pairs_S N e e2 e3 := by kernel_rfl
noncomputable def sp_pairs (N : Nat) : Spec := { f := 23, ins := ⟨[.agg [.sl Qf, .sl (.int .i64), .i .i64]], []⟩, outs := [⟨[.sl Qd, .i .i64], []⟩], run := fun p k => (pairs_S N p.1.1.1 p.1.1.2.1 p.1.1.2.2.1).bind fun r => k ((r.1, r.2, ()), ()) }
theorem sp_pairs_ok (N : Nat) : SpecOK Try.prog (sp_pairs N) := fn_sound (B := pairs_B) (loops := []) (leaves := []) (fun p => pairs_S N p.1.1.1 p.1.1.2.1 p.1.1.2.2.1) (fun r => ((r.1, r.2, ()), ())) pairs_rt (fun _ _ _ => rfl) (fun r z h => by cases h; rfl) Try.func23 (by kernel_rfl) (by kernel_rfl) (by kernel_rfl) rfl rfl (by kernel_rfl) (fun args w => Sem.pv_run _ _ _ (by kernel_rfl) w) (pairs_all N) mixed trivial (fun z E Xc hE hX hret => trivial) (fun p => pairs_eq N p.1.1.1 p.1.1.2.1 p.1.1.2.2.1)

def faults_l2_x0 (N : Nat) (u : Int) (u2 : Int) (d : Qa) (words : Int) (u3 : List Qc) (u4 : Int) (u5 : Int) (u6 : Qt) (u7 : Qa) (g_ : Int) (g2_ : Int) (g3_ : Int) (g4_ : Int) (g5_ : Int) (g6_ : Bool) : Option Qu :=
 some ((u, u2, d, words, u3, u4, u5, g_, g2_, g3_, g4_, g5_, g6_))
def faults_l2_b (N : Nat) (rec : Int → Int → Int → Int → Int → Bool → Option Qu) (u : Int) (u2 : Int) (d : Qa) (words : Int) (u3 : List Qc) (u4 : Int) (u5 : Int) (u6 : Qt) (u7 : Qa) (u' : Int) (u2' : Int) (x' : Int) (x2' : Int) (x3' : Int) (q' : Int) (q2' : Int) (is' : Bool) (o' : Int) (o2' : Int) (y' : Int) (y2' : Int) (y3' : Int) : Option Qu :=
 br (decide (o' = q') && decide (o2' = q2'))
  (some ((u, u2, d, words, u3, u4, u5, y', y2', y3', q', q2', true)))
  (rec x' x2' x3' q' q2' is')
def faults_l2 (N : Nat) : List Move → Int → Int → (Qa) → Int → Qi → Int → Int → (Qt) → (Qa) → Int → Int → Int → Int → Int → Bool → Option Qu
 | [], u, u2, d, words, u3, u4, u5, u6, u7, x, x2, x3, q, q2, is =>
  some ((u, u2, d, words, u3, u4, u5, x, x2, x3, q, q2, is))
 | e :: es, u, u2, d, words, u3, u4, u5, u6, u7, x, x2, x3, q, q2, is =>
  faults_l2_b N (fun x_ x2_ x3_ q_ q2_ is_ => faults_l2 N es u u2 d words u3 u4 u5 u6 u7 x_ x2_ x3_ q_ q2_ is_) u u2 d words u3 u4 u5 u6 u7 u u2 x x2 x3 q q2 is e.1.1 e.1.2.1 e.2.1.1 e.2.1.2.1 e.2.1.2.2.1
def faults_j1 (N : Nat) (rec : Int → Int → (Qa) → Int → Qi → Int → Int → Int → Int → Int → Option ((Unit) ⊕ (Qa × Int))) (u : Int) (u2 : Int) (d : Qa) (words : Int) (u3 : List Qc) (u4 : Int) (u5 : Int) (x : Int) (x2 : Int) (x3 : Int) : Option ((Unit) ⊕ (Qa × Int)) :=
 chk (u5 + 1) <|
 rec u u2 d words u3 u4 (u5 + 1) x x2 x3
def faults_l1 (N : Nat) : Nat → Int → Int → (Qa) → Int → Qi → Int → Int → Int → Int → Int → Option ((Unit) ⊕ (Qa × Int))
 | 0, _, _, _, _, _, _, _, _, _, _ => none
 | n_ + 1, u, u2, d, words, u3, u4, u5, x, x2, x3 =>
  br (decide (u5 < u4))
   (idx u3 u5 fun x_3 =>
   (next_S N d x x2 x3).bind fun (x_4, y_5) =>
   ((nextR x_4 y_5).bind fun es => faults_l2 N es u u2 d words u3 u4 u5 x_4 y_5 x x2 x3 x_3.1 x_3.2 false).bind fun (u_6, u2_7, d_8, words_9, u3_10, u4_11, u5_12, x_13, x2_14, x3_15, q_16, q2_17, is_18) =>
   br (!is_18)
    (some (.inl ()))
    (br (!decide (q_16 = 3))
     (chk (words_9 + 1) <|
     faults_j1 N (faults_l1 N n_) u_6 u2_7 d_8 (words_9 + 1) u3_10 u4_11 u5_12 x_13 x2_14 x3_15)
     (faults_j1 N (faults_l1 N n_) u_6 u2_7 d_8 words_9 u3_10 u4_11 u5_12 x_13 x2_14 x3_15)))
   (some (.inr (d, words)))
def faults_S (N : Nat) (e : List Qe) (e2 : List Int) (e3 : Int) (p : Int) (p2 : Int) (reading : List Qc) : Option Qc :=
 ((opened_S N e e2 e3 p p2).bind fun e => match e with
 | .inl (x_1, y_2) =>
  (br (!decide (y_2 = 0))
   (some (0, y_2))
   (br (!decide ((reading.length : Int) = (e2.length : Int)))
    (some (0, 2))
    ((faults_l1 N N 0 0 x_1 0 reading (reading.length : Int) 0 0 0 0).bind fun e => match e with
    | .inl _ =>
     some (0, 8)
    | .inr (d_19, words_20) =>
     (dfaults_S N d_19 words_20).bind fun x_21 =>
     some (x_21, 0))))
 | .inr x_22 =>
  (br (!decide (x_22 = 0))
   (some (0, x_22))
   (br (!decide ((reading.length : Int) = (e2.length : Int)))
    (some (0, 2))
    (none))))
noncomputable def faults_sp (N : Nat) : List Spec := [sp_opened N, sp_next N, sp_dfaults N]
theorem faults_all (N : Nat) : AllP (SpecOK Try.prog) (faults_sp N) := ⟨sp_opened_ok N, sp_next_ok N, sp_dfaults_ok N, trivial⟩
noncomputable def faults_c : Code := (Try.f52.body).getD .skip
noncomputable abbrev faults_B : Body := { c := faults_c, n := 61, res := [.tmp 6, .tmp 7], outs := [⟨[.i .i64, .i .i64], []⟩], m0 := 0 }
abbrev faults_rt : altD faults_B.outs → Option Qc := fun r => some (r.1.1, r.1.2.1)
abbrev faults_l2_st : Sta := ⟨[6, 7, 8, 10, 11, 13, 14, 35, 36, 37, 43], ⟨[.i .i64, .i .i64, .fe Qb, .own 0 0, .i .i64, .own 1 0, .own 2 0, .sl Qd, .i .i64, .i .i64, .fn 122 [] [.fe Qk, .fe Qz]], [.segs [.i .i64, .i .i64, .i .i64], .segs [.i .i64, .i .i64], .segs [.b]]⟩⟩
abbrev faults_l2_stA : Sta := ⟨[6, 7, 10, 13, 14, 15, 16], ⟨[.i .i64, .i .i64, .own 0 0, .own 1 0, .own 2 0, .own 3 0, .own 4 0], [.segs [.i .i64, .i .i64, .i .i64], .segs [.i .i64, .i .i64], .segs [.b], .segs [.i .i64, .i .i64], .segs [.i .i64, .i .i64, .i .i64]]⟩⟩
abbrev faults_l2_e0 : Leaf Qu := ⟨[.c [1, 1, 1, 1, 0, 1, 0, 0, 1, 1, 0, 0, 1, 1, 1, 0, 0], .c [1, 1, 1, 1, 0, 1, 0, 0, 1, 1, 0, 0, 1, 1, 1, 0, 1], .c [1, 1, 1, 1, 0, 1, 0, 0, 1, 1, 0, 0, 1, 1, 1, 1], .b 2, .c [1, 1, 1, 1, 0, 1, 0, 0, 1, 1, 1], .l [1, 1, 1, 1, 0, 1, 0, 0], .b 1, .c [1, 1, 1, 1, 1]], ⟨[6, 7, 8, 10, 11, 13, 14, 35, 36, 37], ⟨[.i .i64, .i .i64, .fe Qb, .own 0 0, .i .i64, .own 1 0, .own 2 0, .sl Qd, .i .i64, .i .i64], [.segs [.i .i64, .i .i64, .i .i64], .segs [.i .i64, .i .i64], .segs [.b]]⟩⟩, fun p => some ((p.1.1, p.1.2.1, p.1.2.2.1, p.1.2.2.2.2.1, p.1.2.2.2.2.2.2.2.1, p.1.2.2.2.2.2.2.2.2.1, p.1.2.2.2.2.2.2.2.2.2.1, p.2.1.1, p.2.1.2.1, p.2.1.2.2.1, p.2.2.1.1, p.2.2.1.2.1, p.2.2.2.1.1))⟩
noncomputable def faults_l2_L (N : Nat) : LoopS := { at_ := [.c [1, 1, 1, 1, 0, 1, 0, 0, 1, 1, 0, 0, 1, 1, 0, 1, 0], .b 3, .c [1, 1, 1, 1, 0, 1, 0, 0, 1, 1, 0, 0, 1, 1, 1], .b 2, .c [1, 1, 1, 1, 0, 1, 0, 0, 1, 1, 1], .l [1, 1, 1, 1, 0, 1, 0, 0], .b 1, .c [1, 1, 1, 1, 1]], sta := faults_l2_st, exits := [([.c [1, 1, 1, 1, 0, 1, 0, 0, 1, 1, 0, 0, 1, 1, 1, 0, 0], .c [1, 1, 1, 1, 0, 1, 0, 0, 1, 1, 0, 0, 1, 1, 1, 0, 1], .c [1, 1, 1, 1, 0, 1, 0, 0, 1, 1, 0, 0, 1, 1, 1, 1], .b 2, .c [1, 1, 1, 1, 0, 1, 0, 0, 1, 1, 1], .l [1, 1, 1, 1, 0, 1, 0, 0], .b 1, .c [1, 1, 1, 1, 1]], ⟨[6, 7, 8, 10, 11, 13, 14, 35, 36, 37], ⟨[.i .i64, .i .i64, .fe Qb, .own 0 0, .i .i64, .own 1 0, .own 2 0, .sl Qd, .i .i64, .i .i64], [.segs [.i .i64, .i .i64, .i .i64], .segs [.i .i64, .i .i64], .segs [.b]]⟩⟩)], run := fun p k => ((nextR p.1.2.2.2.2.2.2.2.2.2.2.1.2.1 p.1.2.2.2.2.2.2.2.2.2.2.1.2.2.1).bind fun es => faults_l2 N es p.1.1 p.1.2.1 p.1.2.2.1 p.1.2.2.2.2.1 p.1.2.2.2.2.2.2.2.1 p.1.2.2.2.2.2.2.2.2.1 p.1.2.2.2.2.2.2.2.2.2.1 p.1.2.2.2.2.2.2.2.2.2.2.1.2.1 p.1.2.2.2.2.2.2.2.2.2.2.1.2.2.1 p.2.1.1 p.2.1.2.1 p.2.1.2.2.1 p.2.2.1.1 p.2.2.1.2.1 p.2.2.2.1.1).bind fun e => k (.inl ((e.1, e.2.1, e.2.2.1, (), e.2.2.2.1, (), (), e.2.2.2.2.1, e.2.2.2.2.2.1, e.2.2.2.2.2.2.1, ()), ((e.2.2.2.2.2.2.2.1, e.2.2.2.2.2.2.2.2.1, e.2.2.2.2.2.2.2.2.2.1, ()), (e.2.2.2.2.2.2.2.2.2.2.1, e.2.2.2.2.2.2.2.2.2.2.2.1, ()), (e.2.2.2.2.2.2.2.2.2.2.2.2, ()), ()))) }
noncomputable abbrev faults_l2_Bk : Body := { c := faults_c, n := faults_B.n, res := faults_B.res, outs := faults_B.outs, m0 := 3 }
theorem faults_l2_end (N : Nat) (u : Int) (u2 : Int) (d : Qa) (words : Int) (u3 : List Qc) (u4 : Int) (u5 : Int) (u6 : Qt) (u7 : Qa) (x : Int) (x2 : Int) (x3 : Int) (q : Int) (q2 : Int) (is : Bool) : ev (Z := Int × Int × Qa × Int × Qi × Int × Int × Int × Int × Int × Int × Int × Bool) Try.prog (faults_sp N) faults_B [] [faults_l2_e0] none 400 false (nrm faults_B.c 99 [.b 3, .c [1, 1, 1, 1, 0, 1, 0, 0, 1, 1, 0, 0, 1, 1, 1], .b 2, .c [1, 1, 1, 1, 0, 1, 0, 0, 1, 1, 1], .l [1, 1, 1, 1, 0, 1, 0, 0], .b 1, .c [1, 1, 1, 1, 1]]) (stL faults_l2_st ((u, u2, d, (), words, (), (), u3, u4, u5, ((), (u6, u7, ())), ()), ((x, x2, x3, ()), (q, q2, ()), (is, ()), ()))) (stH faults_l2_st ((u, u2, d, (), words, (), (), u3, u4, u5, ((), (u6, u7, ())), ()), ((x, x2, x3, ()), (q, q2, ()), (is, ()), ()))) = faults_l2 N [] u u2 d words u3 u4 u5 u6 u7 x x2 x3 q q2 is := by kernel_rfl
theorem faults_l2_asg (N : Nat) (e : Move) (es : List Move) (u : Int) (u2 : Int) (d : Qa) (words : Int) (u3 : List Qc) (u4 : Int) (u5 : Int) (u6 : Qt) (u7 : Qa) (x : Int) (x2 : Int) (x3 : Int) (q : Int) (q2 : Int) (is : Bool) : ev (Z := Int × Int × Qa × Int × Qi × Int × Int × Int × Int × Int × Int × Int × Bool) Try.prog (faults_sp N) faults_l2_Bk [] [⟨[.r, .c [1, 1, 1, 1, 0, 1, 0, 0, 1, 1, 0, 0, 1, 1, 0, 1, 0, 1]], faults_l2_stA, fun p => faults_l2_b N (fun x_ x2_ x3_ q_ q2_ is_ => faults_l2 N es u u2 d words u3 u4 u5 u6 u7 x_ x2_ x3_ q_ q2_ is_) u u2 d words u3 u4 u5 u6 u7 p.1.1 p.1.2.1 p.2.1.1 p.2.1.2.1 p.2.1.2.2.1 p.2.2.1.1 p.2.2.1.2.1 p.2.2.2.1.1 p.2.2.2.2.1.1 p.2.2.2.2.1.2.1 p.2.2.2.2.2.1.1 p.2.2.2.2.2.1.2.1 p.2.2.2.2.2.1.2.2.1⟩] none 400 false (nrm faults_B.c 99 [.c [1, 1, 1, 1, 0, 1, 0, 0, 1, 1, 0, 0, 1, 1, 0, 1, 0, 0], .r, .c [1, 1, 1, 1, 0, 1, 0, 0, 1, 1, 0, 0, 1, 1, 0, 1, 0, 1]]) (pars [44, 45] (encs id is_next.elem e) (stL faults_l2_st ((u, u2, d, (), words, (), (), u3, u4, u5, ((), (u6, u7, ())), ()), ((x, x2, x3, ()), (q, q2, ()), (is, ()), ())))) (stH faults_l2_st ((u, u2, d, (), words, (), (), u3, u4, u5, ((), (u6, u7, ())), ()), ((x, x2, x3, ()), (q, q2, ()), (is, ()), ()))) = faults_l2 N (e :: es) u u2 d words u3 u4 u5 u6 u7 x x2 x3 q q2 is := by kernel_rfl
theorem faults_l2_bod (N : Nat) (rec : Int → Int → Int → Int → Int → Bool → Option Qu) (u : Int) (u2 : Int) (d : Qa) (words : Int) (u3 : List Qc) (u4 : Int) (u5 : Int) (u6 : Qt) (u7 : Qa) (u' : Int) (u2' : Int) (x' : Int) (x2' : Int) (x3' : Int) (q' : Int) (q2' : Int) (is' : Bool) (o' : Int) (o2' : Int) (y' : Int) (y2' : Int) (y3' : Int) : ev (Z := Int × Int × Qa × Int × Qi × Int × Int × Int × Int × Int × Int × Int × Bool) Try.prog (faults_sp N) faults_l2_Bk [] [⟨[], ⟨[], ⟨[], [.segs [.i .i64, .i .i64, .i .i64], .segs [.i .i64, .i .i64], .segs [.b]]⟩⟩, fun p => rec p.2.1.1 p.2.1.2.1 p.2.1.2.2.1 p.2.2.1.1 p.2.2.1.2.1 p.2.2.2.1.1⟩, ⟨[.c [1, 1, 1, 1, 0, 1, 0, 0, 1, 1, 0, 0, 1, 1, 0, 1, 0, 1, 0, 1, 0, 1], .b 4], ⟨[], ⟨[], [.segs [.i .i64, .i .i64, .i .i64], .segs [.i .i64, .i .i64], .segs [.b]]⟩⟩, fun p => faults_l2_x0 N u u2 d words u3 u4 u5 u6 u7 p.2.1.1 p.2.1.2.1 p.2.1.2.2.1 p.2.2.1.1 p.2.2.1.2.1 p.2.2.2.1.1⟩] none 400 false (nrm faults_B.c 99 [.c [1, 1, 1, 1, 0, 1, 0, 0, 1, 1, 0, 0, 1, 1, 0, 1, 0, 1]]) (stL faults_l2_stA ((u', u2', (), (), (), (), (), ()), ((x', x2', x3', ()), (q', q2', ()), (is', ()), (o', o2', ()), (y', y2', y3', ()), ()))) (stH faults_l2_stA ((u', u2', (), (), (), (), (), ()), ((x', x2', x3', ()), (q', q2', ()), (is', ()), (o', o2', ()), (y', y2', y3', ()), ()))) = faults_l2_b N rec u u2 d words u3 u4 u5 u6 u7 u' u2' x' x2' x3' q' q2' is' o' o2' y' y2' y3' := by kernel_rfl
theorem faults_l2_esc0 (N : Nat) (u : Int) (u2 : Int) (d : Qa) (words : Int) (u3 : List Qc) (u4 : Int) (u5 : Int) (u6 : Qt) (u7 : Qa) (g_ : Int) (g2_ : Int) (g3_ : Int) (g4_ : Int) (g5_ : Int) (g6_ : Bool) : ev (Z := Int × Int × Qa × Int × Qi × Int × Int × Int × Int × Int × Int × Int × Bool) Try.prog (faults_sp N) faults_B [] [faults_l2_e0] none 400 false (nrm faults_B.c 99 (.c [1, 1, 1, 1, 0, 1, 0, 0, 1, 1, 0, 0, 1, 1, 0, 1, 0, 1, 0, 1, 0, 1] :: [.b 3, .c [1, 1, 1, 1, 0, 1, 0, 0, 1, 1, 0, 0, 1, 1, 1], .b 2, .c [1, 1, 1, 1, 0, 1, 0, 0, 1, 1, 1], .l [1, 1, 1, 1, 0, 1, 0, 0], .b 1, .c [1, 1, 1, 1, 1]])) (faults_l2_st.tmps.zip (encs id faults_l2_st.sh.avs (u, u2, d, (), words, (), (), u3, u4, u5, ((), (u6, u7, ())), ()))) (encBs id [.segs [.i .i64, .i .i64, .i .i64], .segs [.i .i64, .i .i64], .segs [.b]] ((g_, g2_, g3_, ()), (g4_, g5_, ()), (g6_, ()), ())) = faults_l2_x0 N u u2 d words u3 u4 u5 u6 u7 g_ g2_ g3_ g4_ g5_ g6_ := by kernel_rfl
theorem faults_l2_ok (N : Nat) : LoopOK Try.prog faults_B.c faults_B.n faults_B.m0 true (faults_l2_L N) := by
 refine range_ok (B := faults_B) (is := is_next) (g := .tmp 43) (ps := #[44, 45]) (assign := sub faults_c [1, 1, 1, 1, 0, 1, 0, 0, 1, 1, 0, 0, 1, 1, 0, 1, 0, 0]) (body := sub faults_c [1, 1, 1, 1, 0, 1, 0, 0, 1, 1, 0, 0, 1, 1, 0, 1, 0, 1]) (Z := Int × Int × Qa × Int × Qi × Int × Int × Int × Int × Int × Int × Int × Bool) (x := faults_l2_L N) (fun p => (p.1.2.2.2.2.2.2.2.2.2.2.1.2.1, p.1.2.2.2.2.2.2.2.2.2.2.1.2.2.1, ())) (fun es p => faults_l2 N es p.1.1 p.1.2.1 p.1.2.2.1 p.1.2.2.2.2.1 p.1.2.2.2.2.2.2.2.1 p.1.2.2.2.2.2.2.2.2.1 p.1.2.2.2.2.2.2.2.2.2.1 p.1.2.2.2.2.2.2.2.2.2.2.1.2.1 p.1.2.2.2.2.2.2.2.2.2.2.1.2.2.1 p.2.1.1 p.2.1.2.1 p.2.1.2.2.1 p.2.2.1.1 p.2.2.1.2.1 p.2.2.2.1.1) (staA := faults_l2_stA) (fun es q p => faults_l2_b N (fun x_ x2_ x3_ q_ q2_ is_ => faults_l2 N es q.1 q.2.1 q.2.2.1 q.2.2.2.2.1 q.2.2.2.2.2.2.2.1 q.2.2.2.2.2.2.2.2.1 q.2.2.2.2.2.2.2.2.2.1 q.2.2.2.2.2.2.2.2.2.2.1.2.1 q.2.2.2.2.2.2.2.2.2.2.1.2.2.1 x_ x2_ x3_ q_ q2_ is_) q.1 q.2.1 q.2.2.1 q.2.2.2.2.1 q.2.2.2.2.2.2.2.1 q.2.2.2.2.2.2.2.2.1 q.2.2.2.2.2.2.2.2.2.1 q.2.2.2.2.2.2.2.2.2.2.1.2.1 q.2.2.2.2.2.2.2.2.2.2.1.2.2.1 p.1.1 p.1.2.1 p.2.1.1 p.2.1.2.1 p.2.1.2.2.1 p.2.2.1.1 p.2.2.1.2.1 p.2.2.2.1.1 p.2.2.2.2.1.1 p.2.2.2.2.1.2.1 p.2.2.2.2.2.1.1 p.2.2.2.2.2.1.2.1 p.2.2.2.2.2.1.2.2.1) [⟨[1, 1, 1, 1, 0, 1, 0, 0, 1, 1, 0, 0, 1, 1, 0, 1, 0, 1, 0, 1, 0, 1], [.b 4], [.segs [.i .i64, .i .i64, .i .i64], .segs [.i .i64, .i .i64], .segs [.b]], fun q b => faults_l2_x0 N q.1 q.2.1 q.2.2.1 q.2.2.2.2.1 q.2.2.2.2.2.2.2.1 q.2.2.2.2.2.2.2.2.1 q.2.2.2.2.2.2.2.2.2.1 q.2.2.2.2.2.2.2.2.2.2.1.2.1 q.2.2.2.2.2.2.2.2.2.2.1.2.2.1 ((), b).2.1.1 ((), b).2.1.2.1 ((), b).2.1.2.2.1 ((), b).2.2.1.1 ((), b).2.2.1.2.1 ((), b).2.2.2.1.1⟩] (fun e => .inl ((e.1, e.2.1, e.2.2.1, (), e.2.2.2.1, (), (), e.2.2.2.2.1, e.2.2.2.2.2.1, e.2.2.2.2.2.2.1, ()), ((e.2.2.2.2.2.2.2.1, e.2.2.2.2.2.2.2.2.1, e.2.2.2.2.2.2.2.2.2.1, ()), (e.2.2.2.2.2.2.2.2.2.2.1, e.2.2.2.2.2.2.2.2.2.2.2.1, ()), (e.2.2.2.2.2.2.2.2.2.2.2.2, ()), ()))) (fun _ _ _ => rfl) rfl (by kernel_rfl) (fun _ => by kernel_rfl) (by kernel_rfl) is_next_ok (Nat.le_of_ble_eq_true (by kernel_rfl)) (by kernel_rfl) ?_ ?_ ?_ ?_
 ·exact fun z E Xc hE hX hx p hp a w hS => ev_sound (z := z) (B := faults_B) (loops := []) (leaves := [faults_l2_e0]) (top := true) (faults_all N) mixed trivial hE hX ⟨(fun p hp => by obtain rfl := Option.some.inj hp; exact hx), trivial⟩ RetOK.no 400 false _ _ _ ((faults_l2_end N p.1.1 p.1.2.1 p.1.2.2.1 p.1.2.2.2.2.1 p.1.2.2.2.2.2.2.2.1 p.1.2.2.2.2.2.2.2.2.1 p.1.2.2.2.2.2.2.2.2.2.1 p.1.2.2.2.2.2.2.2.2.2.2.1.2.1 p.1.2.2.2.2.2.2.2.2.2.2.1.2.2.1 p.2.1.1 p.2.1.2.1 p.2.1.2.2.1 p.2.2.1.1 p.2.2.1.2.1 p.2.2.2.1.1).trans hp) a w hS
 ·intro z E Xc hE hX hx e he q b hb a w hS
  simp only [List.mem_cons, List.not_mem_nil, or_false] at he
  rcases he with rfl
  ·exact ev_sound (z := z) (B := faults_B) (loops := []) (leaves := [faults_l2_e0]) (top := true) (faults_all N) mixed trivial hE hX ⟨(fun p hp => by obtain rfl := Option.some.inj hp; exact hx), trivial⟩ RetOK.no 400 false _ _ _ ((faults_l2_esc0 N q.1 q.2.1 q.2.2.1 q.2.2.2.2.1 q.2.2.2.2.2.2.2.1 q.2.2.2.2.2.2.2.2.1 q.2.2.2.2.2.2.2.2.2.1 q.2.2.2.2.2.2.2.2.2.2.1.2.1 q.2.2.2.2.2.2.2.2.2.2.1.2.2.1 ((), b).2.1.1 ((), b).2.1.2.1 ((), b).2.1.2.2.1 ((), b).2.2.1.1 ((), b).2.2.1.2.1 ((), b).2.2.2.1.1).trans hb) a w hS
 ·exact fun z E Xc hE hX e es p hl hp a w hS => ev_sound (z := z) (B := faults_l2_Bk) (loops := []) (leaves := [_]) (top := false) (faults_all N) mixed trivial hE hX ⟨hl, trivial⟩ RetOK.no 400 false _ _ _ ((faults_l2_asg N e es p.1.1 p.1.2.1 p.1.2.2.1 p.1.2.2.2.2.1 p.1.2.2.2.2.2.2.2.1 p.1.2.2.2.2.2.2.2.2.1 p.1.2.2.2.2.2.2.2.2.2.1 p.1.2.2.2.2.2.2.2.2.2.2.1.2.1 p.1.2.2.2.2.2.2.2.2.2.2.1.2.2.1 p.2.1.1 p.2.1.2.1 p.2.1.2.2.1 p.2.2.1.1 p.2.2.1.2.1 p.2.2.2.1.1).trans hp) a w hS
 ·exact fun z E Xc hE hX es q he hs p hp a w hS => ev_sound (z := z) (B := faults_l2_Bk) (loops := []) (leaves := [_, _]) (top := false) (faults_all N) mixed trivial hE hX ⟨he, hs _ List.mem_cons_self, trivial⟩ RetOK.no 400 false _ _ _ ((faults_l2_bod N (fun x_ x2_ x3_ q_ q2_ is_ => faults_l2 N es q.1 q.2.1 q.2.2.1 q.2.2.2.2.1 q.2.2.2.2.2.2.2.1 q.2.2.2.2.2.2.2.2.1 q.2.2.2.2.2.2.2.2.2.1 q.2.2.2.2.2.2.2.2.2.2.1.2.1 q.2.2.2.2.2.2.2.2.2.2.1.2.2.1 x_ x2_ x3_ q_ q2_ is_) q.1 q.2.1 q.2.2.1 q.2.2.2.2.1 q.2.2.2.2.2.2.2.1 q.2.2.2.2.2.2.2.2.1 q.2.2.2.2.2.2.2.2.2.1 q.2.2.2.2.2.2.2.2.2.2.1.2.1 q.2.2.2.2.2.2.2.2.2.2.1.2.2.1 p.1.1 p.1.2.1 p.2.1.1 p.2.1.2.1 p.2.1.2.2.1 p.2.2.1.1 p.2.2.1.2.1 p.2.2.2.1.1 p.2.2.2.2.1.1 p.2.2.2.2.1.2.1 p.2.2.2.2.2.1.1 p.2.2.2.2.2.1.2.1 p.2.2.2.2.2.1.2.2.1).trans hp) a w hS
abbrev faults_l1_at : List PI := [.c [1, 1, 1, 1, 0, 1, 0, 0, 0], .c [1, 1, 1, 1, 0, 1, 0, 0, 1], .l [1, 1, 1, 1, 0, 1, 0, 0], .b 1, .c [1, 1, 1, 1, 1]]
abbrev faults_l1_st : Sta := ⟨[6, 7, 8, 10, 11, 35, 36, 37], ⟨[.i .i64, .i .i64, .fe Qb, .own 0 0, .i .i64, .sl Qd, .i .i64, .i .i64], [.segs [.i .i64, .i .i64, .i .i64]]⟩⟩
abbrev faults_l1_h (rec : Int → Int → (Qa) → Int → Qi → Int → Int → Int → Int → Int → Option ((Unit) ⊕ (Qa × Int))) : Leaf ((Unit) ⊕ (Qa × Int)) := ⟨faults_l1_at, faults_l1_st, fun p => rec p.1.1 p.1.2.1 p.1.2.2.1 p.1.2.2.2.2.1 p.1.2.2.2.2.2.1 p.1.2.2.2.2.2.2.1 p.1.2.2.2.2.2.2.2.1 p.2.1.1 p.2.1.2.1 p.2.1.2.2.1⟩
abbrev faults_l1_e0 : Leaf ((Unit) ⊕ (Qa × Int)) := ⟨[.c [1, 1, 1, 1, 0, 1, 0, 0, 1, 1, 0, 0, 1, 1, 1, 0, 1, 0, 0], .c [1, 1, 1, 1, 0, 1, 0, 0, 1, 1, 0, 0, 1, 1, 1, 0, 1, 0, 1], .c [1, 1, 1, 1, 0, 1, 0, 0, 1, 1, 0, 0, 1, 1, 1, 1], .b 2, .c [1, 1, 1, 1, 0, 1, 0, 0, 1, 1, 1], .l [1, 1, 1, 1, 0, 1, 0, 0], .b 1, .c [1, 1, 1, 1, 1]], ⟨[], ⟨[], []⟩⟩, fun p => some (.inl ())⟩
abbrev faults_l1_e1 : Leaf ((Unit) ⊕ (Qa × Int)) := ⟨[.c [1, 1, 1, 1, 1, 0], .c [1, 1, 1, 1, 1, 1]], ⟨[8, 11], ⟨[.fe Qb, .i .i64], []⟩⟩, fun p => some (.inr (p.1.1, p.1.2.1))⟩
abbrev faults_j1_at : List PI := [.c [1, 1, 1, 1, 0, 1, 0, 0, 1, 1, 1], .l [1, 1, 1, 1, 0, 1, 0, 0], .b 1, .c [1, 1, 1, 1, 1]]
abbrev faults_j1_st : Sta := ⟨[6, 7, 8, 10, 11, 35, 36, 37], ⟨[.i .i64, .i .i64, .fe Qb, .own 0 0, .i .i64, .sl Qd, .i .i64, .i .i64], [.segs [.i .i64, .i .i64, .i .i64]]⟩⟩
abbrev faults_j1_k (N : Nat) (rec : Int → Int → (Qa) → Int → Qi → Int → Int → Int → Int → Int → Option ((Unit) ⊕ (Qa × Int))) : Leaf ((Unit) ⊕ (Qa × Int)) := ⟨faults_j1_at, faults_j1_st, fun p => faults_j1 N rec p.1.1 p.1.2.1 p.1.2.2.1 p.1.2.2.2.2.1 p.1.2.2.2.2.2.1 p.1.2.2.2.2.2.2.1 p.1.2.2.2.2.2.2.2.1 p.2.1.1 p.2.1.2.1 p.2.1.2.2.1⟩
theorem faults_j1_eq (N : Nat) (rec : Int → Int → (Qa) → Int → Qi → Int → Int → Int → Int → Int → Option ((Unit) ⊕ (Qa × Int))) (u : Int) (u2 : Int) (d : Qa) (words : Int) (u3 : List Qc) (u4 : Int) (u5 : Int) (x : Int) (x2 : Int) (x3 : Int) : ev (Z := (Unit) ⊕ (Qa × Int)) Try.prog (faults_sp N) faults_B [faults_l2_L N] [faults_l1_h rec, faults_l1_e0, faults_l1_e1] none 400 true faults_j1_at (stL faults_j1_st ((u, u2, d, (), words, u3, u4, u5, ()), ((x, x2, x3, ()), ()))) (stH faults_j1_st ((u, u2, d, (), words, u3, u4, u5, ()), ((x, x2, x3, ()), ()))) = faults_j1 N rec u u2 d words u3 u4 u5 x x2 x3 := by kernel_rfl
theorem faults_j1_lf (N : Nat) (rec : Int → Int → (Qa) → Int → Qi → Int → Int → Int → Int → Int → Option ((Unit) ⊕ (Qa × Int))) {z : (Unit) ⊕ (Qa × Int)} {E : EE} {Xc : Ctx} (hE : EOK faults_B.m0 E) (hX : CxOK true Xc) (hrec : LeafOK Try.prog faults_B.c faults_B.n faults_B.m0 E Xc z (faults_l1_h rec)) (h0 : LeafOK Try.prog faults_B.c faults_B.n faults_B.m0 E Xc z faults_l1_e0) (h1 : LeafOK Try.prog faults_B.c faults_B.n faults_B.m0 E Xc z faults_l1_e1) : LeafOK Try.prog faults_B.c faults_B.n faults_B.m0 E Xc z (faults_j1_k N rec) := leaf_of_ev (B := faults_B) (loops := [faults_l2_L N]) (leaves := [faults_l1_h rec, faults_l1_e0, faults_l1_e1]) (faults_all N) mixed ⟨faults_l2_ok N, trivial⟩ hE hX ⟨hrec, h0, h1, trivial⟩ RetOK.no (fun p => faults_j1_eq N rec p.1.1 p.1.2.1 p.1.2.2.1 p.1.2.2.2.2.1 p.1.2.2.2.2.2.1 p.1.2.2.2.2.2.2.1 p.1.2.2.2.2.2.2.2.1 p.2.1.1 p.2.1.2.1 p.2.1.2.2.1)
noncomputable def faults_l1_L (N : Nat) : LoopS := { at_ := faults_l1_at, sta := faults_l1_st, exits := [([.c [1, 1, 1, 1, 0, 1, 0, 0, 1, 1, 0, 0, 1, 1, 1, 0, 1, 0, 0], .c [1, 1, 1, 1, 0, 1, 0, 0, 1, 1, 0, 0, 1, 1, 1, 0, 1, 0, 1], .c [1, 1, 1, 1, 0, 1, 0, 0, 1, 1, 0, 0, 1, 1, 1, 1], .b 2, .c [1, 1, 1, 1, 0, 1, 0, 0, 1, 1, 1], .l [1, 1, 1, 1, 0, 1, 0, 0], .b 1, .c [1, 1, 1, 1, 1]], ⟨[], ⟨[], []⟩⟩), ([.c [1, 1, 1, 1, 1, 0], .c [1, 1, 1, 1, 1, 1]], ⟨[8, 11], ⟨[.fe Qb, .i .i64], []⟩⟩)], run := fun p k => (faults_l1 N N p.1.1 p.1.2.1 p.1.2.2.1 p.1.2.2.2.2.1 p.1.2.2.2.2.2.1 p.1.2.2.2.2.2.2.1 p.1.2.2.2.2.2.2.2.1 p.2.1.1 p.2.1.2.1 p.2.1.2.2.1).bind fun e => match e with | .inl x => k (.inl ((), ())) | .inr x => k (.inr (.inl ((x.1, x.2, ()), ()))) }
theorem faults_l1_eq (N n_ : Nat) (u : Int) (u2 : Int) (d : Qa) (words : Int) (u3 : List Qc) (u4 : Int) (u5 : Int) (x : Int) (x2 : Int) (x3 : Int) : ev (Z := (Unit) ⊕ (Qa × Int)) Try.prog (faults_sp N) faults_B [faults_l2_L N] [faults_l1_h (faults_l1 N n_), faults_l1_e0, faults_l1_e1, faults_j1_k N (faults_l1 N n_)] none 400 true faults_l1_at (stL faults_l1_st ((u, u2, d, (), words, u3, u4, u5, ()), ((x, x2, x3, ()), ()))) (stH faults_l1_st ((u, u2, d, (), words, u3, u4, u5, ()), ((x, x2, x3, ()), ()))) = faults_l1 N (n_ + 1) u u2 d words u3 u4 u5 x x2 x3 := by kernel_rfl
theorem faults_l1_ok (N : Nat) : LoopOK Try.prog faults_B.c faults_B.n faults_B.m0 true (faults_l1_L N) := loop_of_ev (Z := (Unit) ⊕ (Qa × Int)) (N := N) (fun m p => faults_l1 N m p.1.1 p.1.2.1 p.1.2.2.1 p.1.2.2.2.2.1 p.1.2.2.2.2.2.1 p.1.2.2.2.2.2.2.1 p.1.2.2.2.2.2.2.2.1 p.2.1.1 p.2.1.2.1 p.2.1.2.2.1) (fun e => match e with | .inl x => .inl ((), ()) | .inr x => .inr (.inl ((x.1, x.2, ()), ()))) (fun _ p k => bind_congr_ (faults_l1 N N p.1.1 p.1.2.1 p.1.2.2.1 p.1.2.2.2.2.1 p.1.2.2.2.2.2.1 p.1.2.2.2.2.2.2.1 p.1.2.2.2.2.2.2.2.1 p.2.1.1 p.2.1.2.1 p.2.1.2.2.1) _ _ (fun e => by rcases e with x | x <;> rfl)) (fun _ => rfl) (fun m z E Xc hE hX hrec hx => leaf_of_ev (B := faults_B) (loops := [faults_l2_L N]) (leaves := [faults_l1_h (faults_l1 N m), faults_l1_e0, faults_l1_e1, faults_j1_k N (faults_l1 N m)]) (faults_all N) mixed ⟨faults_l2_ok N, trivial⟩ hE hX ⟨hrec, (fun p hp => by obtain rfl := Option.some.inj hp; exact hx), (fun p hp => by obtain rfl := Option.some.inj hp; exact hx), faults_j1_lf N _ hE hX hrec (fun p hp => by obtain rfl := Option.some.inj hp; exact hx) (fun p hp => by obtain rfl := Option.some.inj hp; exact hx), trivial⟩ RetOK.no (fun p => faults_l1_eq N m p.1.1 p.1.2.1 p.1.2.2.1 p.1.2.2.2.2.1 p.1.2.2.2.2.2.1 p.1.2.2.2.2.2.2.1 p.1.2.2.2.2.2.2.2.1 p.2.1.1 p.2.1.2.1 p.2.1.2.2.1))
abbrev faults_st : Sta := ⟨[0, 1, 2], ⟨[.agg [.sl Qf, .sl (.int .i64), .i .i64], .agg [.i .i64, .i .i64], .sl Qd], []⟩⟩
theorem faults_eq (N : Nat) (e : List Qe) (e2 : List Int) (e3 : Int) (p : Int) (p2 : Int) (reading : List Qc) : ev (Z := Int × Int) Try.prog (faults_sp N) faults_B [faults_l2_L N, faults_l1_L N] [] (some faults_rt) 400 false [.c [0], .c [1]] (stL faults_st (((e, e2, e3, ()), (p, p2, ()), reading, ()), ())) (stH faults_st (((e, e2, e3, ()), (p, p2, ()), reading, ()), ())) = faults_S N e e2 e3 p p2 reading := by kernel_rfl
noncomputable def sp_faults (N : Nat) : Spec := { f := 52, ins := ⟨[.agg [.sl Qf, .sl (.int .i64), .i .i64], .agg [.i .i64, .i .i64], .sl Qd], []⟩, outs := [⟨[.i .i64, .i .i64], []⟩], run := fun p k => (faults_S N p.1.1.1 p.1.1.2.1 p.1.1.2.2.1 p.1.2.1.1 p.1.2.1.2.1 p.1.2.2.1).bind fun r => k ((r.1, r.2, ()), ()) }
theorem sp_faults_ok (N : Nat) : SpecOK Try.prog (sp_faults N) := fn_sound (B := faults_B) (loops := [faults_l2_L N, faults_l1_L N]) (leaves := []) (fun p => faults_S N p.1.1.1 p.1.1.2.1 p.1.1.2.2.1 p.1.2.1.1 p.1.2.1.2.1 p.1.2.2.1) (fun r => ((r.1, r.2, ()), ())) faults_rt (fun _ _ _ => rfl) (fun r z h => by cases h; rfl) Try.func52 (by kernel_rfl) (by kernel_rfl) (by kernel_rfl) rfl rfl (by kernel_rfl) (fun args w => Sem.pv_run _ _ _ (by kernel_rfl) w) (faults_all N) mixed ⟨faults_l2_ok N, faults_l1_ok N, trivial⟩ (fun z E Xc hE hX hret => trivial) (fun p => faults_eq N p.1.1.1 p.1.1.2.1 p.1.1.2.2.1 p.1.2.1.1 p.1.2.1.2.1 p.1.2.2.1)

def sure1_S (N : Nat) (heard : Int) (q : Int) (q2 : Int) (u : Int) (u2 : Int) : Option Bool :=
 br (!decide (heard = u))
  (some true)
  (some (decide (q = u2)))
noncomputable def sure1_sp (N : Nat) : List Spec := []
theorem sure1_all (N : Nat) : AllP (SpecOK Try.prog) (sure1_sp N) := trivial
noncomputable def sure1_c : Code := (Try.f89.body).getD .skip
noncomputable abbrev sure1_B : Body := { c := sure1_c, n := 16, res := [.tmp 6], outs := [⟨[.b], []⟩], m0 := 0 }
abbrev sure1_rt : altD sure1_B.outs → Option Bool := fun r => some r.1.1
abbrev sure1_st : Sta := ⟨[0, 1, 2, 3], ⟨[.i .i64, .agg [.i .i64, .i .i64], .fe (.int .i64), .fe (.int .i64)], []⟩⟩
theorem sure1_eq (N : Nat) (heard : Int) (q : Int) (q2 : Int) (u : Int) (u2 : Int) : ev (Z := Bool) Try.prog (sure1_sp N) sure1_B [] [] (some sure1_rt) 400 false [.c [0], .c [1]] (stL sure1_st ((heard, (q, q2, ()), u, u2, ()), ())) (stH sure1_st ((heard, (q, q2, ()), u, u2, ()), ())) = sure1_S N heard q q2 u u2 := by kernel_rfl
noncomputable def sp_sure1 (N : Nat) : Spec := { f := 89, ins := ⟨[.i .i64, .agg [.i .i64, .i .i64], .fe (.int .i64), .fe (.int .i64)], []⟩, outs := [⟨[.b], []⟩], run := fun p k => (sure1_S N p.1.1 p.1.2.1.1 p.1.2.1.2.1 p.1.2.2.1 p.1.2.2.2.1).bind fun r => k ((r, ()), ()) }
theorem sp_sure1_ok (N : Nat) : SpecOK Try.prog (sp_sure1 N) := fn_sound (B := sure1_B) (loops := []) (leaves := []) (fun p => sure1_S N p.1.1 p.1.2.1.1 p.1.2.1.2.1 p.1.2.2.1 p.1.2.2.2.1) (fun r => ((r, ()), ())) sure1_rt (fun _ _ _ => rfl) (fun r z h => by cases h; rfl) Try.func89 (by kernel_rfl) (by kernel_rfl) (by kernel_rfl) rfl rfl (by kernel_rfl) (fun args w => Sem.pv_run _ _ _ (by kernel_rfl) w) (sure1_all N) mixed trivial (fun z E Xc hE hX hret => trivial) (fun p => sure1_eq N p.1.1 p.1.2.1.1 p.1.2.1.2.1 p.1.2.2.1 p.1.2.2.2.1)

noncomputable abbrev rests_self (self : Int → Int → Int → (Qa) → Int → Int → (Qa) → Int → Int → Qg → Option Qp) : Spec := { f := 121, ins := ⟨[.agg [.i .i64, .i .i64, .i .i64], .fz [.fe Qb], .fz [.mp 1], .fz [.fn 89 [] [.fe (.int .i64), .fe (.int .i64)]], .own 0 0], [.segs [.fn 121 [] [.fz [.fe Qb], .fz [.mp 1], .fz [.fn 89 [] [.fe (.int .i64), .fe (.int .i64)]], .own 0 0]], .map Qk Qd]⟩, outs := [⟨[.agg [.i .i64, .i .i64]], [.segs [.fn 121 [] [.fz [.fe Qb], .fz [.mp 1], .fz [.fn 89 [] [.fe (.int .i64), .fe (.int .i64)]], .own 0 0]], .map Qk Qd]⟩], run := fun p k => (self p.1.1.1 p.1.1.2.1 p.1.1.2.2.1 p.1.2.1.1 p.1.2.2.2.1.1.2.1 p.1.2.2.2.1.1.2.2.1 p.2.1.1.2.1.1 p.2.1.1.2.2.2.1.1.2.1 p.2.1.1.2.2.2.1.1.2.2.1 p.2.2.1).bind fun r => k (((r.1, r.2.1, ()), ()), ((((), ((r.2.2.1, ()), ((), ()), (((), (r.2.2.2.1, r.2.2.2.2.1, ())), ()), (), ())), ()), r.2.2.2.2.2, ())) }
def rests_l1_b (N : Nat) (self : Int → Int → Int → (Qa) → Int → Int → (Qa) → Int → Int → Qg → Option Qp) (rec : (Qa) → Int → Int → Qg → Int → Int → Int → Int → Int → Int → Int → Option QA) (u : Int) (u2 : Int) (u3 : Qt) (u4 : Qa) (u' : Int) (u2' : Int) (g' : Qa) (g2' : Int) (g3' : Int) (g4' : List (Qt × Qc)) (x' : Int) (x2' : Int) (x3' : Int) (g5' : Int) (g6' : Int) (best' : Int) (best2' : Int) (p' : Int) (p2' : Int) (y' : Int) (y2' : Int) (y3' : Int) : Option QA :=
 (sure1_S N x' p' p2' u' u2').bind fun x_3 =>
 br (!x_3)
  (rec g' g2' g3' g4' x' x2' x3' g5' g6' best' best2')
  ((self y' y2' y3' g' g2' g3' g' g2' g3' g4').bind fun (x_4, y_5, y_6, y_7, y_8, y_9) =>
  br (decide (0 ≤ x_4))
   (br (!decide (p' = 3))
    (chk (x_4 + 1) <|
    br (decide (best' < (x_4 + 1)))
     (rec y_6 y_7 y_8 y_9 x' x2' x3' g5' g6' (x_4 + 1) y_5)
     (br (decide ((x_4 + 1) = best'))
      (chk (best2' + y_5) <|
      rec y_6 y_7 y_8 y_9 x' x2' x3' g5' g6' best' (best2' + y_5))
      (rec y_6 y_7 y_8 y_9 x' x2' x3' g5' g6' best' best2')))
    (br (decide (best' < x_4))
     (rec y_6 y_7 y_8 y_9 x' x2' x3' g5' g6' x_4 y_5)
     (br (decide (x_4 = best'))
      (chk (best2' + y_5) <|
      rec y_6 y_7 y_8 y_9 x' x2' x3' g5' g6' best' (best2' + y_5))
      (rec y_6 y_7 y_8 y_9 x' x2' x3' g5' g6' best' best2'))))
   (br (decide (best' < x_4))
    (rec y_6 y_7 y_8 y_9 x' x2' x3' g5' g6' x_4 y_5)
    (br (decide (x_4 = best'))
     (chk (best2' + y_5) <|
     rec y_6 y_7 y_8 y_9 x' x2' x3' g5' g6' best' (best2' + y_5))
     (rec y_6 y_7 y_8 y_9 x' x2' x3' g5' g6' best' best2'))))
def rests_l1 (N : Nat) (self : Int → Int → Int → (Qa) → Int → Int → (Qa) → Int → Int → Qg → Option Qp) : List Move → Int → Int → (Qt) → (Qa) → (Qa) → Int → Int → Qg → Int → Int → Int → Int → Int → Int → Int → Option QA
 | [], u, u2, u3, u4, g, g2, g3, g4, x, x2, x3, g5, g6, best, best2 =>
  some ((g, g2, g3, g4, x, x2, x3, g5, g6, best, best2))
 | e :: es, u, u2, u3, u4, g, g2, g3, g4, x, x2, x3, g5, g6, best, best2 =>
  rests_l1_b N self (fun g_ g2_ g3_ g4_ x_ x2_ x3_ g5_ g6_ best_ best2_ => rests_l1 N self es u u2 u3 u4 g_ g2_ g3_ g4_ x_ x2_ x3_ g5_ g6_ best_ best2_) u u2 u3 u4 u u2 g g2 g3 g4 x x2 x3 g5 g6 best best2 e.1.1 e.1.2.1 e.2.1.1 e.2.1.2.1 e.2.1.2.2.1
def rests_S (N : Nat) (self : Int → Int → Int → (Qa) → Int → Int → (Qa) → Int → Int → Qg → Option Qp) (x : Int) (x2 : Int) (x3 : Int) (u : Qa) (u2 : Int) (u3 : Int) (g : Qa) (g2 : Int) (g3 : Int) (g4 : List (Qt × Qc)) : Option Qp :=
 br (decide (x = (u.2.1.length : Int)))
  (some (0, 1, g, g2, g3, g4))
  (br ((g4.find? fun y => Ty.beq Qk y.1 (x, x2, x3)).isSome)
   (some ((((g4.find? fun y => Ty.beq Qk y.1 (x, x2, x3)).map (·.2)).getD (Ty.dflt Qd)).1, (((g4.find? fun y => Ty.beq Qk y.1 (x, x2, x3)).map (·.2)).getD (Ty.dflt Qd)).2, g, g2, g3, g4))
   ((next_S N u x x2 x3).bind fun (x_1, y_2) =>
   ((nextR x_1 y_2).bind fun es => rests_l1 N self es u2 u3 x_1 y_2 g g2 g3 g4 x x2 x3 0 0 (-1) 0).bind fun (g_10, g2_11, g3_12, g4_13, x_14, x2_15, x3_16, g5_17, g6_18, best_19, best2_20) =>
   some (best_19, best2_20, g_10, g2_11, g3_12, (((x_14, x2_15, x3_16), (best_19, best2_20)) :: g4_13))))
noncomputable def rests_sp (N : Nat) (self : Int → Int → Int → (Qa) → Int → Int → (Qa) → Int → Int → Qg → Option Qp) : List Spec := [sp_next N, sp_sure1 N, rests_self self]
theorem rests_all (N : Nat) (self : Int → Int → Int → (Qa) → Int → Int → (Qa) → Int → Int → Qg → Option Qp) (hself : SpecOK Try.prog (rests_self self)) : AllP (SpecOK Try.prog) (rests_sp N self) := ⟨sp_next_ok N, sp_sure1_ok N, hself, trivial⟩
noncomputable def rests_c : Code := (Try.f121.body).getD .skip
noncomputable abbrev rests_B : Body := { c := rests_c, n := 82, res := [.cell 6 129], outs := [⟨[.agg [.i .i64, .i .i64]], [.segs [.fn 121 [] [.fz [.fe Qb], .fz [.mp 1], .fz [.fn 89 [] [.fe (.int .i64), .fe (.int .i64)]], .own 0 0]], .map Qk Qd]⟩], m0 := 2 }
abbrev rests_rt : altD rests_B.outs → Option Qp := fun r => some (r.1.1.1, r.1.1.2.1, r.2.1.1.2.1.1, r.2.1.1.2.2.2.1.1.2.1, r.2.1.1.2.2.2.1.1.2.2.1, r.2.2.1)
abbrev rests_l1_st : Sta := ⟨[2, 3, 4, 5, 6, 9, 34], ⟨[.fz [.mp 1], .fz [.fn 89 [] [.fe (.int .i64), .fe (.int .i64)]], .own 0 0, .own 2 0, .own 3 0, .own 4 0, .fn 122 [] [.fe Qk, .fe Qz]], [.segs [.fn 121 [] [.fz [.fe Qb], .fz [.mp 1], .fz [.fn 89 [] [.fe (.int .i64), .fe (.int .i64)]], .own 0 0]], .map Qk Qd, .segs [.i .i64, .i .i64, .i .i64], .segs [.i .i64, .i .i64], .segs [.i .i64, .i .i64]]⟩⟩
abbrev rests_l1_stA : Sta := ⟨[3, 4, 5, 6, 9, 10, 11], ⟨[.fz [.fn 89 [] [.fe (.int .i64), .fe (.int .i64)]], .own 0 0, .own 2 0, .own 3 0, .own 4 0, .own 5 0, .own 6 0], [.segs [.fn 121 [] [.fz [.fe Qb], .fz [.mp 1], .fz [.fn 89 [] [.fe (.int .i64), .fe (.int .i64)]], .own 0 0]], .map Qk Qd, .segs [.i .i64, .i .i64, .i .i64], .segs [.i .i64, .i .i64], .segs [.i .i64, .i .i64], .segs [.i .i64, .i .i64], .segs [.i .i64, .i .i64, .i .i64]]⟩⟩
abbrev rests_l1_e0 : Leaf QA := ⟨[.c [1, 1, 1, 1, 1, 0], .c [1, 1, 1, 1, 1, 1]], ⟨[2, 5, 6, 9], ⟨[.fz [.mp 1], .own 2 0, .own 3 0, .own 4 0], [.segs [.fn 121 [] [.fz [.fe Qb], .fz [.mp 1], .fz [.fn 89 [] [.fe (.int .i64), .fe (.int .i64)]], .own 0 0]], .map Qk Qd, .segs [.i .i64, .i .i64, .i .i64], .segs [.i .i64, .i .i64], .segs [.i .i64, .i .i64]]⟩⟩, fun p => some ((p.2.1.1.2.1.1, p.2.1.1.2.2.2.1.1.2.1, p.2.1.1.2.2.2.1.1.2.2.1, p.2.2.1, p.2.2.2.1.1, p.2.2.2.1.2.1, p.2.2.2.1.2.2.1, p.2.2.2.2.1.1, p.2.2.2.2.1.2.1, p.2.2.2.2.2.1.1, p.2.2.2.2.2.1.2.1))⟩
noncomputable def rests_l1_L (N : Nat) (self : Int → Int → Int → (Qa) → Int → Int → (Qa) → Int → Int → Qg → Option Qp) : LoopS := { at_ := [.c [1, 1, 1, 1, 0, 1, 0], .b 0, .c [1, 1, 1, 1, 1]], sta := rests_l1_st, exits := [([.c [1, 1, 1, 1, 1, 0], .c [1, 1, 1, 1, 1, 1]], ⟨[2, 5, 6, 9], ⟨[.fz [.mp 1], .own 2 0, .own 3 0, .own 4 0], [.segs [.fn 121 [] [.fz [.fe Qb], .fz [.mp 1], .fz [.fn 89 [] [.fe (.int .i64), .fe (.int .i64)]], .own 0 0]], .map Qk Qd, .segs [.i .i64, .i .i64, .i .i64], .segs [.i .i64, .i .i64], .segs [.i .i64, .i .i64]]⟩⟩)], run := fun p k => ((nextR p.1.2.2.2.2.2.2.1.2.1 p.1.2.2.2.2.2.2.1.2.2.1).bind fun es => rests_l1 N self es p.1.2.1.1.2.1 p.1.2.1.1.2.2.1 p.1.2.2.2.2.2.2.1.2.1 p.1.2.2.2.2.2.2.1.2.2.1 p.2.1.1.2.1.1 p.2.1.1.2.2.2.1.1.2.1 p.2.1.1.2.2.2.1.1.2.2.1 p.2.2.1 p.2.2.2.1.1 p.2.2.2.1.2.1 p.2.2.2.1.2.2.1 p.2.2.2.2.1.1 p.2.2.2.2.1.2.1 p.2.2.2.2.2.1.1 p.2.2.2.2.2.1.2.1).bind fun e => k (.inl ((((), ()), (), (), (), ()), ((((), ((e.1, ()), ((), ()), (((), (e.2.1, e.2.2.1, ())), ()), (), ())), ()), e.2.2.2.1, (e.2.2.2.2.1, e.2.2.2.2.2.1, e.2.2.2.2.2.2.1, ()), (e.2.2.2.2.2.2.2.1, e.2.2.2.2.2.2.2.2.1, ()), (e.2.2.2.2.2.2.2.2.2.1, e.2.2.2.2.2.2.2.2.2.2, ()), ()))) }
noncomputable abbrev rests_l1_Bk : Body := { c := rests_c, n := rests_B.n, res := rests_B.res, outs := rests_B.outs, m0 := 5 }
theorem rests_l1_end (N : Nat) (self : Int → Int → Int → (Qa) → Int → Int → (Qa) → Int → Int → Qg → Option Qp) (u : Int) (u2 : Int) (u3 : Qt) (u4 : Qa) (g : Qa) (g2 : Int) (g3 : Int) (g4 : List (Qt × Qc)) (x : Int) (x2 : Int) (x3 : Int) (g5 : Int) (g6 : Int) (best : Int) (best2 : Int) : ev (Z := Qa × Int × Int × Qg × Int × Int × Int × Int × Int × Int × Int) Try.prog (rests_sp N self) rests_B [] [rests_l1_e0] none 400 false (nrm rests_B.c 99 [.b 0, .c [1, 1, 1, 1, 1]]) (stL rests_l1_st ((((), ()), (((), (u, u2, ())), ()), (), (), (), (), ((), (u3, u4, ())), ()), ((((), ((g, ()), ((), ()), (((), (g2, g3, ())), ()), (), ())), ()), g4, (x, x2, x3, ()), (g5, g6, ()), (best, best2, ()), ()))) (stH rests_l1_st ((((), ()), (((), (u, u2, ())), ()), (), (), (), (), ((), (u3, u4, ())), ()), ((((), ((g, ()), ((), ()), (((), (g2, g3, ())), ()), (), ())), ()), g4, (x, x2, x3, ()), (g5, g6, ()), (best, best2, ()), ()))) = rests_l1 N self [] u u2 u3 u4 g g2 g3 g4 x x2 x3 g5 g6 best best2 := by kernel_rfl
theorem rests_l1_asg (N : Nat) (self : Int → Int → Int → (Qa) → Int → Int → (Qa) → Int → Int → Qg → Option Qp) (e : Move) (es : List Move) (u : Int) (u2 : Int) (u3 : Qt) (u4 : Qa) (g : Qa) (g2 : Int) (g3 : Int) (g4 : List (Qt × Qc)) (x : Int) (x2 : Int) (x3 : Int) (g5 : Int) (g6 : Int) (best : Int) (best2 : Int) : ev (Z := Qa × Int × Int × Qg × Int × Int × Int × Int × Int × Int × Int) Try.prog (rests_sp N self) rests_l1_Bk [] [⟨[.r, .c [1, 1, 1, 1, 0, 1, 0, 1]], rests_l1_stA, fun p => rests_l1_b N self (fun g_ g2_ g3_ g4_ x_ x2_ x3_ g5_ g6_ best_ best2_ => rests_l1 N self es u u2 u3 u4 g_ g2_ g3_ g4_ x_ x2_ x3_ g5_ g6_ best_ best2_) u u2 u3 u4 p.1.1.1.2.1 p.1.1.1.2.2.1 p.2.1.1.2.1.1 p.2.1.1.2.2.2.1.1.2.1 p.2.1.1.2.2.2.1.1.2.2.1 p.2.2.1 p.2.2.2.1.1 p.2.2.2.1.2.1 p.2.2.2.1.2.2.1 p.2.2.2.2.1.1 p.2.2.2.2.1.2.1 p.2.2.2.2.2.1.1 p.2.2.2.2.2.1.2.1 p.2.2.2.2.2.2.1.1 p.2.2.2.2.2.2.1.2.1 p.2.2.2.2.2.2.2.1.1 p.2.2.2.2.2.2.2.1.2.1 p.2.2.2.2.2.2.2.1.2.2.1⟩] none 400 false (nrm rests_B.c 99 [.c [1, 1, 1, 1, 0, 1, 0, 0], .r, .c [1, 1, 1, 1, 0, 1, 0, 1]]) (pars [35, 36] (encs id is_next.elem e) (stL rests_l1_st ((((), ()), (((), (u, u2, ())), ()), (), (), (), (), ((), (u3, u4, ())), ()), ((((), ((g, ()), ((), ()), (((), (g2, g3, ())), ()), (), ())), ()), g4, (x, x2, x3, ()), (g5, g6, ()), (best, best2, ()), ())))) (stH rests_l1_st ((((), ()), (((), (u, u2, ())), ()), (), (), (), (), ((), (u3, u4, ())), ()), ((((), ((g, ()), ((), ()), (((), (g2, g3, ())), ()), (), ())), ()), g4, (x, x2, x3, ()), (g5, g6, ()), (best, best2, ()), ()))) = rests_l1 N self (e :: es) u u2 u3 u4 g g2 g3 g4 x x2 x3 g5 g6 best best2 := by kernel_rfl
theorem rests_l1_bod (N : Nat) (self : Int → Int → Int → (Qa) → Int → Int → (Qa) → Int → Int → Qg → Option Qp) (rec : (Qa) → Int → Int → Qg → Int → Int → Int → Int → Int → Int → Int → Option QA) (u : Int) (u2 : Int) (u3 : Qt) (u4 : Qa) (u' : Int) (u2' : Int) (g' : Qa) (g2' : Int) (g3' : Int) (g4' : List (Qt × Qc)) (x' : Int) (x2' : Int) (x3' : Int) (g5' : Int) (g6' : Int) (best' : Int) (best2' : Int) (p' : Int) (p2' : Int) (y' : Int) (y2' : Int) (y3' : Int) : ev (Z := Qa × Int × Int × Qg × Int × Int × Int × Int × Int × Int × Int) Try.prog (rests_sp N self) rests_l1_Bk [] [⟨[], ⟨[], ⟨[], [.segs [.fn 121 [] [.fz [.fe Qb], .fz [.mp 1], .fz [.fn 89 [] [.fe (.int .i64), .fe (.int .i64)]], .own 0 0]], .map Qk Qd, .segs [.i .i64, .i .i64, .i .i64], .segs [.i .i64, .i .i64], .segs [.i .i64, .i .i64]]⟩⟩, fun p => rec p.2.1.1.2.1.1 p.2.1.1.2.2.2.1.1.2.1 p.2.1.1.2.2.2.1.1.2.2.1 p.2.2.1 p.2.2.2.1.1 p.2.2.2.1.2.1 p.2.2.2.1.2.2.1 p.2.2.2.2.1.1 p.2.2.2.2.1.2.1 p.2.2.2.2.2.1.1 p.2.2.2.2.2.1.2.1⟩] none 400 false (nrm rests_B.c 99 [.c [1, 1, 1, 1, 0, 1, 0, 1]]) (stL rests_l1_stA (((((), (u', u2', ())), ()), (), (), (), (), (), (), ()), ((((), ((g', ()), ((), ()), (((), (g2', g3', ())), ()), (), ())), ()), g4', (x', x2', x3', ()), (g5', g6', ()), (best', best2', ()), (p', p2', ()), (y', y2', y3', ()), ()))) (stH rests_l1_stA (((((), (u', u2', ())), ()), (), (), (), (), (), (), ()), ((((), ((g', ()), ((), ()), (((), (g2', g3', ())), ()), (), ())), ()), g4', (x', x2', x3', ()), (g5', g6', ()), (best', best2', ()), (p', p2', ()), (y', y2', y3', ()), ()))) = rests_l1_b N self rec u u2 u3 u4 u' u2' g' g2' g3' g4' x' x2' x3' g5' g6' best' best2' p' p2' y' y2' y3' := by kernel_rfl
theorem rests_l1_ok (N : Nat) (self : Int → Int → Int → (Qa) → Int → Int → (Qa) → Int → Int → Qg → Option Qp) (hself : SpecOK Try.prog (rests_self self)) : LoopOK Try.prog rests_B.c rests_B.n rests_B.m0 true (rests_l1_L N self) := by
 refine range_ok (B := rests_B) (is := is_next) (g := .tmp 34) (ps := #[35, 36]) (assign := sub rests_c [1, 1, 1, 1, 0, 1, 0, 0]) (body := sub rests_c [1, 1, 1, 1, 0, 1, 0, 1]) (Z := Qa × Int × Int × Qg × Int × Int × Int × Int × Int × Int × Int) (x := rests_l1_L N self) (fun p => (p.1.2.2.2.2.2.2.1.2.1, p.1.2.2.2.2.2.2.1.2.2.1, ())) (fun es p => rests_l1 N self es p.1.2.1.1.2.1 p.1.2.1.1.2.2.1 p.1.2.2.2.2.2.2.1.2.1 p.1.2.2.2.2.2.2.1.2.2.1 p.2.1.1.2.1.1 p.2.1.1.2.2.2.1.1.2.1 p.2.1.1.2.2.2.1.1.2.2.1 p.2.2.1 p.2.2.2.1.1 p.2.2.2.1.2.1 p.2.2.2.1.2.2.1 p.2.2.2.2.1.1 p.2.2.2.2.1.2.1 p.2.2.2.2.2.1.1 p.2.2.2.2.2.1.2.1) (staA := rests_l1_stA) (fun es q p => rests_l1_b N self (fun g_ g2_ g3_ g4_ x_ x2_ x3_ g5_ g6_ best_ best2_ => rests_l1 N self es q.2.1.1.2.1 q.2.1.1.2.2.1 q.2.2.2.2.2.2.1.2.1 q.2.2.2.2.2.2.1.2.2.1 g_ g2_ g3_ g4_ x_ x2_ x3_ g5_ g6_ best_ best2_) q.2.1.1.2.1 q.2.1.1.2.2.1 q.2.2.2.2.2.2.1.2.1 q.2.2.2.2.2.2.1.2.2.1 p.1.1.1.2.1 p.1.1.1.2.2.1 p.2.1.1.2.1.1 p.2.1.1.2.2.2.1.1.2.1 p.2.1.1.2.2.2.1.1.2.2.1 p.2.2.1 p.2.2.2.1.1 p.2.2.2.1.2.1 p.2.2.2.1.2.2.1 p.2.2.2.2.1.1 p.2.2.2.2.1.2.1 p.2.2.2.2.2.1.1 p.2.2.2.2.2.1.2.1 p.2.2.2.2.2.2.1.1 p.2.2.2.2.2.2.1.2.1 p.2.2.2.2.2.2.2.1.1 p.2.2.2.2.2.2.2.1.2.1 p.2.2.2.2.2.2.2.1.2.2.1) [] (fun e => .inl ((((), ()), (), (), (), ()), ((((), ((e.1, ()), ((), ()), (((), (e.2.1, e.2.2.1, ())), ()), (), ())), ()), e.2.2.2.1, (e.2.2.2.2.1, e.2.2.2.2.2.1, e.2.2.2.2.2.2.1, ()), (e.2.2.2.2.2.2.2.1, e.2.2.2.2.2.2.2.2.1, ()), (e.2.2.2.2.2.2.2.2.2.1, e.2.2.2.2.2.2.2.2.2.2, ()), ()))) (fun _ _ _ => rfl) rfl (by kernel_rfl) (fun _ => by kernel_rfl) (by kernel_rfl) is_next_ok (Nat.le_of_ble_eq_true (by kernel_rfl)) (by kernel_rfl) ?_ ?_ ?_ ?_
 ·exact fun z E Xc hE hX hx p hp a w hS => ev_sound (z := z) (B := rests_B) (loops := []) (leaves := [rests_l1_e0]) (top := true) (rests_all N self hself) mixed trivial hE hX ⟨(fun p hp => by obtain rfl := Option.some.inj hp; exact hx), trivial⟩ RetOK.no 400 false _ _ _ ((rests_l1_end N self p.1.2.1.1.2.1 p.1.2.1.1.2.2.1 p.1.2.2.2.2.2.2.1.2.1 p.1.2.2.2.2.2.2.1.2.2.1 p.2.1.1.2.1.1 p.2.1.1.2.2.2.1.1.2.1 p.2.1.1.2.2.2.1.1.2.2.1 p.2.2.1 p.2.2.2.1.1 p.2.2.2.1.2.1 p.2.2.2.1.2.2.1 p.2.2.2.2.1.1 p.2.2.2.2.1.2.1 p.2.2.2.2.2.1.1 p.2.2.2.2.2.1.2.1).trans hp) a w hS
 ·intro z E Xc hE hX hx e he q b hb a w hS
  simp only [List.not_mem_nil] at he
 ·exact fun z E Xc hE hX e es p hl hp a w hS => ev_sound (z := z) (B := rests_l1_Bk) (loops := []) (leaves := [_]) (top := false) (rests_all N self hself) mixed trivial hE hX ⟨hl, trivial⟩ RetOK.no 400 false _ _ _ ((rests_l1_asg N self e es p.1.2.1.1.2.1 p.1.2.1.1.2.2.1 p.1.2.2.2.2.2.2.1.2.1 p.1.2.2.2.2.2.2.1.2.2.1 p.2.1.1.2.1.1 p.2.1.1.2.2.2.1.1.2.1 p.2.1.1.2.2.2.1.1.2.2.1 p.2.2.1 p.2.2.2.1.1 p.2.2.2.1.2.1 p.2.2.2.1.2.2.1 p.2.2.2.2.1.1 p.2.2.2.2.1.2.1 p.2.2.2.2.2.1.1 p.2.2.2.2.2.1.2.1).trans hp) a w hS
 ·exact fun z E Xc hE hX es q he hs p hp a w hS => ev_sound (z := z) (B := rests_l1_Bk) (loops := []) (leaves := [_]) (top := false) (rests_all N self hself) mixed trivial hE hX ⟨he, trivial⟩ RetOK.no 400 false _ _ _ ((rests_l1_bod N self (fun g_ g2_ g3_ g4_ x_ x2_ x3_ g5_ g6_ best_ best2_ => rests_l1 N self es q.2.1.1.2.1 q.2.1.1.2.2.1 q.2.2.2.2.2.2.1.2.1 q.2.2.2.2.2.2.1.2.2.1 g_ g2_ g3_ g4_ x_ x2_ x3_ g5_ g6_ best_ best2_) q.2.1.1.2.1 q.2.1.1.2.2.1 q.2.2.2.2.2.2.1.2.1 q.2.2.2.2.2.2.1.2.2.1 p.1.1.1.2.1 p.1.1.1.2.2.1 p.2.1.1.2.1.1 p.2.1.1.2.2.2.1.1.2.1 p.2.1.1.2.2.2.1.1.2.2.1 p.2.2.1 p.2.2.2.1.1 p.2.2.2.1.2.1 p.2.2.2.1.2.2.1 p.2.2.2.2.1.1 p.2.2.2.2.1.2.1 p.2.2.2.2.2.1.1 p.2.2.2.2.2.1.2.1 p.2.2.2.2.2.2.1.1 p.2.2.2.2.2.2.1.2.1 p.2.2.2.2.2.2.2.1.1 p.2.2.2.2.2.2.2.1.2.1 p.2.2.2.2.2.2.2.1.2.2.1).trans hp) a w hS
abbrev rests_st : Sta := ⟨[0, 1, 2, 3, 4], ⟨[.agg [.i .i64, .i .i64, .i .i64], .fz [.fe Qb], .fz [.mp 1], .fz [.fn 89 [] [.fe (.int .i64), .fe (.int .i64)]], .own 0 0], [.segs [.fn 121 [] [.fz [.fe Qb], .fz [.mp 1], .fz [.fn 89 [] [.fe (.int .i64), .fe (.int .i64)]], .own 0 0]], .map Qk Qd]⟩⟩
theorem rests_eq (N : Nat) (self : Int → Int → Int → (Qa) → Int → Int → (Qa) → Int → Int → Qg → Option Qp) (x : Int) (x2 : Int) (x3 : Int) (u : Qa) (u2 : Int) (u3 : Int) (g : Qa) (g2 : Int) (g3 : Int) (g4 : List (Qt × Qc)) : ev (Z := Int × Int × Qa × Int × Int × Qg) Try.prog (rests_sp N self) rests_B [rests_l1_L N self] [] (some rests_rt) 400 false [.c [0], .c [1]] (stL rests_st (((x, x2, x3, ()), (u, ()), ((), ()), (((), (u2, u3, ())), ()), (), ()), ((((), ((g, ()), ((), ()), (((), (g2, g3, ())), ()), (), ())), ()), g4, ()))) (stH rests_st (((x, x2, x3, ()), (u, ()), ((), ()), (((), (u2, u3, ())), ()), (), ()), ((((), ((g, ()), ((), ()), (((), (g2, g3, ())), ()), (), ())), ()), g4, ()))) = rests_S N self x x2 x3 u u2 u3 g g2 g3 g4 := by kernel_rfl
theorem rests_self_ok (N : Nat) (self : Int → Int → Int → (Qa) → Int → Int → (Qa) → Int → Int → Qg → Option Qp) (hself : SpecOK Try.prog (rests_self self)) : SpecOK Try.prog (rests_self (rests_S N self)) := fn_sound (B := rests_B) (loops := [rests_l1_L N self]) (leaves := []) (fun p => rests_S N self p.1.1.1 p.1.1.2.1 p.1.1.2.2.1 p.1.2.1.1 p.1.2.2.2.1.1.2.1 p.1.2.2.2.1.1.2.2.1 p.2.1.1.2.1.1 p.2.1.1.2.2.2.1.1.2.1 p.2.1.1.2.2.2.1.1.2.2.1 p.2.2.1) (fun r => (((r.1, r.2.1, ()), ()), ((((), ((r.2.2.1, ()), ((), ()), (((), (r.2.2.2.1, r.2.2.2.2.1, ())), ()), (), ())), ()), r.2.2.2.2.2, ()))) rests_rt (fun _ _ _ => rfl) (fun r z h => by cases h; rfl) Try.func121 (by kernel_rfl) (by kernel_rfl) (by kernel_rfl) rfl rfl (by kernel_rfl) (fun args w => Sem.pv_run _ _ _ (by kernel_rfl) w) (rests_all N self hself) mixed ⟨rests_l1_ok N self hself, trivial⟩ (fun z E Xc hE hX hret => trivial) (fun p => rests_eq N self p.1.1.1 p.1.1.2.1 p.1.1.2.2.1 p.1.2.1.1 p.1.2.2.2.1.1.2.1 p.1.2.2.2.1.1.2.2.1 p.2.1.1.2.1.1 p.2.1.1.2.2.2.1.1.2.1 p.2.1.1.2.2.2.1.1.2.2.1 p.2.2.1)
def rests_R (N : Nat) : Nat → Int → Int → Int → (Qa) → Int → Int → (Qa) → Int → Int → Qg → Option Qp
 | 0 => fun _ _ _ _ _ _ _ _ _ _ => none
 | n + 1 => rests_S N (rests_R N n)
theorem rests_R_ok (N : Nat) : ∀ n, SpecOK Try.prog (rests_self (rests_R N n))
 | 0 => SpecOK.none (fun _ _ _ => rfl) (fun args w => Sem.pv_run _ _ _ (by kernel_rfl) w)
 | n + 1 => rests_self_ok N (rests_R N n) (rests_R_ok N n)
noncomputable abbrev sp_rests (N : Nat) : Spec := rests_self (rests_R N N)
theorem sp_rests_ok (N : Nat) : SpecOK Try.prog (sp_rests N) := rests_R_ok N N

def restss_j1 (N : Nat) (rest : Qa) (rest2 : Int) (rest3 : Int) (g : List (Qt × Qc)) : Option Qg :=
 (rests_R N N 0 0 0 rest rest2 rest3 rest rest2 rest3 g).bind fun (x_1, y_2, y_3, y_4, y_5, y_6) =>
 some (((0, 0, 0), (x_1, y_2)) :: y_6)
def restss_S (N : Nat) (d : Qa) (f : Int) (f2 : Int) : Option Qg :=
 restss_j1 N d f f2 []
noncomputable def restss_sp (N : Nat) : List Spec := [sp_rests N]
theorem restss_all (N : Nat) : AllP (SpecOK Try.prog) (restss_sp N) := ⟨sp_rests_ok N, trivial⟩
noncomputable def restss_c : Code := (Try.f87.body).getD .skip
noncomputable abbrev restss_B : Body := { c := restss_c, n := 15, res := [.tmp 4], outs := [⟨[.mp 0], [.map Qk Qd]⟩], m0 := 0 }
abbrev restss_rt : altD restss_B.outs → Option Qg := fun r => some r.2.1
abbrev restss_j1_at : List PI := [.c [1, 1, 1, 1, 0], .c [1, 1, 1, 1, 1]]
abbrev restss_j1_st : Sta := ⟨[5, 6], ⟨[.fz [.mp 1], .own 0 0], [.segs [.fn 121 [] [.fz [.fe Qb], .fz [.mp 1], .fz [.fn 89 [] [.fe (.int .i64), .fe (.int .i64)]], .own 0 0]], .map Qk Qd]⟩⟩
abbrev restss_j1_k (N : Nat) : Leaf Qg := ⟨restss_j1_at, restss_j1_st, fun p => restss_j1 N p.2.1.1.2.1.1 p.2.1.1.2.2.2.1.1.2.1 p.2.1.1.2.2.2.1.1.2.2.1 p.2.2.1⟩
theorem restss_j1_eq (N : Nat) (rest : Qa) (rest2 : Int) (rest3 : Int) (g : List (Qt × Qc)) : ev (Z := Qg) Try.prog (restss_sp N) restss_B [] [] (some restss_rt) 400 true restss_j1_at (stL restss_j1_st ((((), ()), (), ()), ((((), ((rest, ()), ((), ()), (((), (rest2, rest3, ())), ()), (), ())), ()), g, ()))) (stH restss_j1_st ((((), ()), (), ()), ((((), ((rest, ()), ((), ()), (((), (rest2, rest3, ())), ()), (), ())), ()), g, ()))) = restss_j1 N rest rest2 rest3 g := by kernel_rfl
theorem restss_j1_lf (N : Nat) {z : Qg} {E : EE} {Xc : Ctx} (hE : EOK restss_B.m0 E) (hX : CxOK true Xc) (hret : RetOK Try.prog restss_B E Xc z (some restss_rt)) : LeafOK Try.prog restss_B.c restss_B.n restss_B.m0 E Xc z (restss_j1_k N) := leaf_of_ev (B := restss_B) (loops := []) (leaves := []) (restss_all N) mixed trivial hE hX trivial hret (fun p => restss_j1_eq N p.2.1.1.2.1.1 p.2.1.1.2.2.2.1.1.2.1 p.2.1.1.2.2.2.1.1.2.2.1 p.2.2.1)
abbrev restss_st : Sta := ⟨[0, 1], ⟨[.fe Qb, .agg [.fn 89 [] [.fe (.int .i64), .fe (.int .i64)]]], []⟩⟩
theorem restss_eq (N : Nat) (d : Qa) (f : Int) (f2 : Int) : ev (Z := Qg) Try.prog (restss_sp N) restss_B [] [restss_j1_k N] (some restss_rt) 400 false [.c [0], .c [1]] (stL restss_st ((d, (((), (f, f2, ())), ()), ()), ())) (stH restss_st ((d, (((), (f, f2, ())), ()), ()), ())) = restss_S N d f f2 := by kernel_rfl
noncomputable def sp_restss (N : Nat) : Spec := { f := 87, ins := ⟨[.fe Qb, .agg [.fn 89 [] [.fe (.int .i64), .fe (.int .i64)]]], []⟩, outs := [⟨[.mp 0], [.map Qk Qd]⟩], run := fun p k => (restss_S N p.1.1 p.1.2.1.1.2.1 p.1.2.1.1.2.2.1).bind fun r => k (((), ()), (r, ())) }
theorem sp_restss_ok (N : Nat) : SpecOK Try.prog (sp_restss N) := fn_sound (B := restss_B) (loops := []) (leaves := [restss_j1_k N]) (fun p => restss_S N p.1.1 p.1.2.1.1.2.1 p.1.2.1.1.2.2.1) (fun r => (((), ()), (r, ()))) restss_rt (fun _ _ _ => rfl) (fun r z h => by cases h; rfl) Try.func87 (by kernel_rfl) (by kernel_rfl) (by kernel_rfl) rfl rfl (by kernel_rfl) (fun args w => Sem.pv_run _ _ _ (by kernel_rfl) w) (restss_all N) mixed trivial (fun z E Xc hE hX hret => ⟨restss_j1_lf N hE hX hret, trivial⟩) (fun p => restss_eq N p.1.1 p.1.2.1.1.2.1 p.1.2.1.1.2.2.1)

def firsts_S (N : Nat) (d : Qa) (f : Int) (f2 : Int) : Option Qc :=
 (restss_S N d f f2).bind fun x_1 =>
 some ((((x_1.find? fun y => Ty.beq Qk y.1 (0, 0, 0)).map (·.2)).getD (Ty.dflt Qd)).1, (((x_1.find? fun y => Ty.beq Qk y.1 (0, 0, 0)).map (·.2)).getD (Ty.dflt Qd)).2)
noncomputable def firsts_sp (N : Nat) : List Spec := [sp_restss N]
theorem firsts_all (N : Nat) : AllP (SpecOK Try.prog) (firsts_sp N) := ⟨sp_restss_ok N, trivial⟩
noncomputable def firsts_c : Code := (Try.f82.body).getD .skip
noncomputable abbrev firsts_B : Body := { c := firsts_c, n := 10, res := [.cell 4 129], outs := [⟨[.agg [.i .i64, .i .i64]], []⟩], m0 := 0 }
abbrev firsts_rt : altD firsts_B.outs → Option Qc := fun r => some (r.1.1.1, r.1.1.2.1)
abbrev firsts_st : Sta := ⟨[0, 1], ⟨[.fe Qb, .agg [.fn 89 [] [.fe (.int .i64), .fe (.int .i64)]]], []⟩⟩
theorem firsts_eq (N : Nat) (d : Qa) (f : Int) (f2 : Int) : ev (Z := Int × Int) Try.prog (firsts_sp N) firsts_B [] [] (some firsts_rt) 400 false [.c [0], .c [1]] (stL firsts_st ((d, (((), (f, f2, ())), ()), ()), ())) (stH firsts_st ((d, (((), (f, f2, ())), ()), ()), ())) = firsts_S N d f f2 := by kernel_rfl
noncomputable def sp_firsts (N : Nat) : Spec := { f := 82, ins := ⟨[.fe Qb, .agg [.fn 89 [] [.fe (.int .i64), .fe (.int .i64)]]], []⟩, outs := [⟨[.agg [.i .i64, .i .i64]], []⟩], run := fun p k => (firsts_S N p.1.1 p.1.2.1.1.2.1 p.1.2.1.1.2.2.1).bind fun r => k (((r.1, r.2, ()), ()), ()) }
theorem sp_firsts_ok (N : Nat) : SpecOK Try.prog (sp_firsts N) := fn_sound (B := firsts_B) (loops := []) (leaves := []) (fun p => firsts_S N p.1.1 p.1.2.1.1.2.1 p.1.2.1.1.2.2.1) (fun r => (((r.1, r.2, ()), ()), ())) firsts_rt (fun _ _ _ => rfl) (fun r z h => by cases h; rfl) Try.func82 (by kernel_rfl) (by kernel_rfl) (by kernel_rfl) rfl rfl (by kernel_rfl) (fun args w => Sem.pv_run _ _ _ (by kernel_rfl) w) (firsts_all N) mixed trivial (fun z E Xc hE hX hret => trivial) (fun p => firsts_eq N p.1.1 p.1.2.1.1.2.1 p.1.2.1.1.2.2.1)

def sure_j1 (N : Nat) (rec : (Qa) → Int → Int → Qe → Int → Int → Int → Qe → Int → Option Qw) (d : Qa) (u : Int) (u2 : Int) (u3 : List Int) (u4 : Int) (best : Int) (best2 : Int) (out : List Int) (i : Int) : Option Qw :=
 chk (u4 + 1) <|
 rec d u u2 u3 (u4 + 1) best best2 out i
def sure_l2 (N : Nat) : Nat → (Qa) → Int → Int → Qe → Int → Int → Int → Qe → Int → Option Qw
 | 0, _, _, _, _, _, _, _, _, _ => none
 | n_ + 1, d, u, u2, u3, u4, best, best2, out, i =>
  br (decide (u4 < 3))
   (idx u3 u4 fun x_5 =>
   (firsts_S N d i x_5).bind fun (x_6, y_7) =>
   br (decide (x_6 = best) && decide (y_7 = best2))
    (rng i out.length <|
    get out i.toNat fun _ =>
    sure_j1 N (sure_l2 N n_) d u u2 u3 u4 best best2 (out.set i.toNat x_5) i)
    (sure_j1 N (sure_l2 N n_) d u u2 u3 u4 best best2 out i))
   (some ((d, u, u2, best, best2, out)))
def sure_l1 (N : Nat) : Nat → (Qa) → Int → Int → Int → Int → Qe → Option Qe
 | 0, _, _, _, _, _, _ => none
 | n_ + 1, d, u, u2, best, best2, out =>
  br (decide (u2 < u))
   ((sure_l2 N N d u u2 [1, 2, 3] 0 best best2 out u2).bind fun (d_9, u_10, u2_11, best_12, best2_13, out_14) =>
   chk (u2_11 + 1) <|
   sure_l1 N n_ d_9 u_10 (u2_11 + 1) best_12 best2_13 out_14)
   (some (out))
def sure_S (N : Nat) (e : List Qe) (e2 : List Int) (e3 : Int) (p : Int) (p2 : Int) : Option (List Int × Int) :=
 ((opened_S N e e2 e3 p p2).bind fun e => match e with
 | .inl (x_1, y_2) =>
  (br (!decide (y_2 = 0))
   (some ([], y_2))
   ((all_S N).bind fun _ =>
   (firsta_S N x_1).bind fun (x_3, y_4) =>
   grd (lmI (e2.length : Int)) <|
   (sure_l1 N N x_1 ((List.replicate (e2.length : Int).toNat (0 : Int)).length : Int) 0 x_3 y_4 (List.replicate (e2.length : Int).toNat (0 : Int))).bind fun out_15 =>
   some (out_15, 0)))
 | .inr x_16 =>
  (br (!decide (x_16 = 0))
   (some ([], x_16))
   ((all_S N).bind fun _ =>
   none)))
noncomputable def sure_sp (N : Nat) : List Spec := [sp_opened N, sp_all N, sp_firsta N, sp_firsts N]
theorem sure_all (N : Nat) : AllP (SpecOK Try.prog) (sure_sp N) := ⟨sp_opened_ok N, sp_all_ok N, sp_firsta_ok N, sp_firsts_ok N, trivial⟩
noncomputable def sure_c : Code := (Try.f33.body).getD .skip
noncomputable abbrev sure_B : Body := { c := sure_c, n := 53, res := [.tmp 4, .tmp 5], outs := [⟨[.sl (.int .i64), .i .i64], []⟩], m0 := 0 }
abbrev sure_rt : altD sure_B.outs → Option (List Int × Int) := fun r => some (r.1.1, r.1.2.1)
abbrev sure_l2_at : List PI := [.c [1, 1, 1, 1, 1, 0, 1, 0, 0, 1, 1, 0, 0, 1, 1, 0, 0, 0], .c [1, 1, 1, 1, 1, 0, 1, 0, 0, 1, 1, 0, 0, 1, 1, 0, 0, 1], .l [1, 1, 1, 1, 1, 0, 1, 0, 0, 1, 1, 0, 0, 1, 1, 0, 0], .b 2, .b 1, .c [1, 1, 1, 1, 1, 0, 1, 0, 0, 1, 1, 1], .l [1, 1, 1, 1, 1, 0, 1, 0, 0], .b 0, .c [1, 1, 1, 1, 1, 1]]
abbrev sure_l2_st : Sta := ⟨[6, 8, 9, 10, 31, 32, 35, 36], ⟨[.fe Qb, .own 0 0, .ols 1, .own 2 0, .i .i64, .i .i64, .arr (.int .i64) 3, .i .i64], [.segs [.i .i64, .i .i64], .lst (.int .i64), .segs [.i .i64]]⟩⟩
abbrev sure_l2_h (rec : (Qa) → Int → Int → Qe → Int → Int → Int → Qe → Int → Option Qw) : Leaf Qw := ⟨sure_l2_at, sure_l2_st, fun p => rec p.1.1 p.1.2.2.2.2.1 p.1.2.2.2.2.2.1 p.1.2.2.2.2.2.2.1 p.1.2.2.2.2.2.2.2.1 p.2.1.1 p.2.1.2.1 p.2.2.1 p.2.2.2.1.1⟩
abbrev sure_l2_e0 : Leaf Qw := ⟨[.c [1, 1, 1, 1, 1, 0, 1, 0, 0, 1, 1, 1], .l [1, 1, 1, 1, 1, 0, 1, 0, 0], .b 0, .c [1, 1, 1, 1, 1, 1]], ⟨[6, 8, 9, 31, 32], ⟨[.fe Qb, .own 0 0, .ols 1, .i .i64, .i .i64], [.segs [.i .i64, .i .i64], .lst (.int .i64)]⟩⟩, fun p => some ((p.1.1, p.1.2.2.2.1, p.1.2.2.2.2.1, p.2.1.1, p.2.1.2.1, p.2.2.1))⟩
abbrev sure_j1_at : List PI := [.c [1, 1, 1, 1, 1, 0, 1, 0, 0, 1, 1, 0, 0, 1, 1, 0, 0, 1, 1, 1], .l [1, 1, 1, 1, 1, 0, 1, 0, 0, 1, 1, 0, 0, 1, 1, 0, 0], .b 2, .b 1, .c [1, 1, 1, 1, 1, 0, 1, 0, 0, 1, 1, 1], .l [1, 1, 1, 1, 1, 0, 1, 0, 0], .b 0, .c [1, 1, 1, 1, 1, 1]]
abbrev sure_j1_st : Sta := ⟨[6, 8, 9, 10, 31, 32, 35, 36], ⟨[.fe Qb, .own 0 0, .ols 1, .own 2 0, .i .i64, .i .i64, .arr (.int .i64) 3, .i .i64], [.segs [.i .i64, .i .i64], .lst (.int .i64), .segs [.i .i64]]⟩⟩
abbrev sure_j1_k (N : Nat) (rec : (Qa) → Int → Int → Qe → Int → Int → Int → Qe → Int → Option Qw) : Leaf Qw := ⟨sure_j1_at, sure_j1_st, fun p => sure_j1 N rec p.1.1 p.1.2.2.2.2.1 p.1.2.2.2.2.2.1 p.1.2.2.2.2.2.2.1 p.1.2.2.2.2.2.2.2.1 p.2.1.1 p.2.1.2.1 p.2.2.1 p.2.2.2.1.1⟩
theorem sure_j1_eq (N : Nat) (rec : (Qa) → Int → Int → Qe → Int → Int → Int → Qe → Int → Option Qw) (d : Qa) (u : Int) (u2 : Int) (u3 : List Int) (u4 : Int) (best : Int) (best2 : Int) (out : List Int) (i : Int) : ev (Z := Qa × Int × Int × Int × Int × List Int) Try.prog (sure_sp N) sure_B [] [sure_l2_h rec, sure_l2_e0] none 400 true sure_j1_at (stL sure_j1_st ((d, (), (), (), u, u2, u3, u4, ()), ((best, best2, ()), out, (i, ()), ()))) (stH sure_j1_st ((d, (), (), (), u, u2, u3, u4, ()), ((best, best2, ()), out, (i, ()), ()))) = sure_j1 N rec d u u2 u3 u4 best best2 out i := by kernel_rfl
theorem sure_j1_lf (N : Nat) (rec : (Qa) → Int → Int → Qe → Int → Int → Int → Qe → Int → Option Qw) {z : Qa × Int × Int × Int × Int × List Int} {top : Bool} {E : EE} {Xc : Ctx} (hE : EOK sure_B.m0 E) (hX : CxOK top Xc) (hrec : LeafOK Try.prog sure_B.c sure_B.n sure_B.m0 E Xc z (sure_l2_h rec)) (h0 : LeafOK Try.prog sure_B.c sure_B.n sure_B.m0 E Xc z sure_l2_e0) : LeafOK Try.prog sure_B.c sure_B.n sure_B.m0 E Xc z (sure_j1_k N rec) := leaf_of_ev (B := sure_B) (loops := []) (leaves := [sure_l2_h rec, sure_l2_e0]) (sure_all N) mixed trivial hE hX ⟨hrec, h0, trivial⟩ RetOK.no (fun p => sure_j1_eq N rec p.1.1 p.1.2.2.2.2.1 p.1.2.2.2.2.2.1 p.1.2.2.2.2.2.2.1 p.1.2.2.2.2.2.2.2.1 p.2.1.1 p.2.1.2.1 p.2.2.1 p.2.2.2.1.1)
noncomputable def sure_l2_L (N : Nat) : LoopS := { at_ := sure_l2_at, sta := sure_l2_st, exits := [([.c [1, 1, 1, 1, 1, 0, 1, 0, 0, 1, 1, 1], .l [1, 1, 1, 1, 1, 0, 1, 0, 0], .b 0, .c [1, 1, 1, 1, 1, 1]], ⟨[6, 8, 9, 31, 32], ⟨[.fe Qb, .own 0 0, .ols 1, .i .i64, .i .i64], [.segs [.i .i64, .i .i64], .lst (.int .i64)]⟩⟩)], run := fun p k => (sure_l2 N N p.1.1 p.1.2.2.2.2.1 p.1.2.2.2.2.2.1 p.1.2.2.2.2.2.2.1 p.1.2.2.2.2.2.2.2.1 p.2.1.1 p.2.1.2.1 p.2.2.1 p.2.2.2.1.1).bind fun e => k (.inl ((e.1, (), (), e.2.1, e.2.2.1, ()), ((e.2.2.2.1, e.2.2.2.2.1, ()), e.2.2.2.2.2, ()))) }
theorem sure_l2_eq (N n_ : Nat) (d : Qa) (u : Int) (u2 : Int) (u3 : List Int) (u4 : Int) (best : Int) (best2 : Int) (out : List Int) (i : Int) : ev (Z := Qa × Int × Int × Int × Int × List Int) Try.prog (sure_sp N) sure_B [] [sure_l2_h (sure_l2 N n_), sure_l2_e0, sure_j1_k N (sure_l2 N n_)] none 400 true sure_l2_at (stL sure_l2_st ((d, (), (), (), u, u2, u3, u4, ()), ((best, best2, ()), out, (i, ()), ()))) (stH sure_l2_st ((d, (), (), (), u, u2, u3, u4, ()), ((best, best2, ()), out, (i, ()), ()))) = sure_l2 N (n_ + 1) d u u2 u3 u4 best best2 out i := by kernel_rfl
theorem sure_l2_ok (N : Nat) {top : Bool} : LoopOK Try.prog sure_B.c sure_B.n sure_B.m0 top (sure_l2_L N) := loop_of_ev (Z := Qa × Int × Int × Int × Int × List Int) (N := N) (fun m p => sure_l2 N m p.1.1 p.1.2.2.2.2.1 p.1.2.2.2.2.2.1 p.1.2.2.2.2.2.2.1 p.1.2.2.2.2.2.2.2.1 p.2.1.1 p.2.1.2.1 p.2.2.1 p.2.2.2.1.1) (fun e => .inl ((e.1, (), (), e.2.1, e.2.2.1, ()), ((e.2.2.2.1, e.2.2.2.2.1, ()), e.2.2.2.2.2, ()))) (fun _ _ _ => rfl) (fun _ => rfl) (fun m z E Xc hE hX hrec hx => leaf_of_ev (B := sure_B) (loops := []) (leaves := [sure_l2_h (sure_l2 N m), sure_l2_e0, sure_j1_k N (sure_l2 N m)]) (sure_all N) mixed trivial hE hX ⟨hrec, (fun p hp => by obtain rfl := Option.some.inj hp; exact hx), sure_j1_lf N _ hE hX hrec (fun p hp => by obtain rfl := Option.some.inj hp; exact hx), trivial⟩ RetOK.no (fun p => sure_l2_eq N m p.1.1 p.1.2.2.2.2.1 p.1.2.2.2.2.2.1 p.1.2.2.2.2.2.2.1 p.1.2.2.2.2.2.2.2.1 p.2.1.1 p.2.1.2.1 p.2.2.1 p.2.2.2.1.1))
abbrev sure_l1_at : List PI := [.c [1, 1, 1, 1, 1, 0, 1, 0, 0, 0], .c [1, 1, 1, 1, 1, 0, 1, 0, 0, 1], .l [1, 1, 1, 1, 1, 0, 1, 0, 0], .b 0, .c [1, 1, 1, 1, 1, 1]]
abbrev sure_l1_st : Sta := ⟨[6, 8, 9, 31, 32], ⟨[.fe Qb, .own 0 0, .ols 1, .i .i64, .i .i64], [.segs [.i .i64, .i .i64], .lst (.int .i64)]⟩⟩
abbrev sure_l1_h (rec : (Qa) → Int → Int → Int → Int → Qe → Option Qe) : Leaf Qe := ⟨sure_l1_at, sure_l1_st, fun p => rec p.1.1 p.1.2.2.2.1 p.1.2.2.2.2.1 p.2.1.1 p.2.1.2.1 p.2.2.1⟩
abbrev sure_l1_e0 : Leaf Qe := ⟨[.c [1, 1, 1, 1, 1, 1, 0], .c [1, 1, 1, 1, 1, 1, 1]], ⟨[9], ⟨[.ols 0], [.lst (.int .i64)]⟩⟩, fun p => some (p.2.1)⟩
noncomputable def sure_l1_L (N : Nat) : LoopS := { at_ := sure_l1_at, sta := sure_l1_st, exits := [([.c [1, 1, 1, 1, 1, 1, 0], .c [1, 1, 1, 1, 1, 1, 1]], ⟨[9], ⟨[.ols 0], [.lst (.int .i64)]⟩⟩)], run := fun p k => (sure_l1 N N p.1.1 p.1.2.2.2.1 p.1.2.2.2.2.1 p.2.1.1 p.2.1.2.1 p.2.2.1).bind fun e => k (.inl (((), ()), (e, ()))) }
theorem sure_l1_eq (N n_ : Nat) (d : Qa) (u : Int) (u2 : Int) (best : Int) (best2 : Int) (out : List Int) : ev (Z := List Int) Try.prog (sure_sp N) sure_B [sure_l2_L N] [sure_l1_h (sure_l1 N n_), sure_l1_e0] none 400 true sure_l1_at (stL sure_l1_st ((d, (), (), u, u2, ()), ((best, best2, ()), out, ()))) (stH sure_l1_st ((d, (), (), u, u2, ()), ((best, best2, ()), out, ()))) = sure_l1 N (n_ + 1) d u u2 best best2 out := by kernel_rfl
theorem sure_l1_ok (N : Nat) {top : Bool} : LoopOK Try.prog sure_B.c sure_B.n sure_B.m0 top (sure_l1_L N) := loop_of_ev (Z := List Int) (N := N) (fun m p => sure_l1 N m p.1.1 p.1.2.2.2.1 p.1.2.2.2.2.1 p.2.1.1 p.2.1.2.1 p.2.2.1) (fun e => .inl (((), ()), (e, ()))) (fun _ _ _ => rfl) (fun _ => rfl) (fun m z E Xc hE hX hrec hx => leaf_of_ev (B := sure_B) (loops := [sure_l2_L N]) (leaves := [sure_l1_h (sure_l1 N m), sure_l1_e0]) (sure_all N) mixed ⟨sure_l2_ok N, trivial⟩ hE hX ⟨hrec, (fun p hp => by obtain rfl := Option.some.inj hp; exact hx), trivial⟩ RetOK.no (fun p => sure_l1_eq N m p.1.1 p.1.2.2.2.1 p.1.2.2.2.2.1 p.2.1.1 p.2.1.2.1 p.2.2.1))
abbrev sure_st : Sta := ⟨[0, 1], ⟨[.agg [.sl Qf, .sl (.int .i64), .i .i64], .agg [.i .i64, .i .i64]], []⟩⟩
theorem sure_eq (N : Nat) (e : List Qe) (e2 : List Int) (e3 : Int) (p : Int) (p2 : Int) : ev (Z := List Int × Int) Try.prog (sure_sp N) sure_B [sure_l2_L N, sure_l1_L N] [] (some sure_rt) 400 false [.c [0], .c [1]] (stL sure_st (((e, e2, e3, ()), (p, p2, ()), ()), ())) (stH sure_st (((e, e2, e3, ()), (p, p2, ()), ()), ())) = sure_S N e e2 e3 p p2 := by kernel_rfl
noncomputable def sp_sure (N : Nat) : Spec := { f := 33, ins := ⟨[.agg [.sl Qf, .sl (.int .i64), .i .i64], .agg [.i .i64, .i .i64]], []⟩, outs := [⟨[.sl (.int .i64), .i .i64], []⟩], run := fun p k => (sure_S N p.1.1.1 p.1.1.2.1 p.1.1.2.2.1 p.1.2.1.1 p.1.2.1.2.1).bind fun r => k ((r.1, r.2, ()), ()) }
theorem sp_sure_ok (N : Nat) : SpecOK Try.prog (sp_sure N) := fn_sound (B := sure_B) (loops := [sure_l2_L N, sure_l1_L N]) (leaves := []) (fun p => sure_S N p.1.1.1 p.1.1.2.1 p.1.1.2.2.1 p.1.2.1.1 p.1.2.1.2.1) (fun r => ((r.1, r.2, ()), ())) sure_rt (fun _ _ _ => rfl) (fun r z h => by cases h; rfl) Try.func33 (by kernel_rfl) (by kernel_rfl) (by kernel_rfl) rfl rfl (by kernel_rfl) (fun args w => Sem.pv_run _ _ _ (by kernel_rfl) w) (sure_all N) mixed ⟨sure_l2_ok N, sure_l1_ok N, trivial⟩ (fun z E Xc hE hX hret => trivial) (fun p => sure_eq N p.1.1.1 p.1.1.2.1 p.1.1.2.2.1 p.1.2.1.1 p.1.2.1.2.1)

end Go.Proofs.Ytfcnhnbnjdccfaa

namespace Go.Proofs.Ytfcnhnbnjdccfaa
set_option linter.all false
open Go

def equali_l1 (N : Nat) : Nat → Qe → Qe → Int → Int → Option ((Unit) ⊕ (Unit))
 | 0, _, _, _, _ => none
 | n_ + 1, s1, s2, u, u2 =>
  br (decide (u2 < u))
   (idx s1 u2 fun x_1 =>
   idx s2 u2 fun x_2 =>
   br (!decide (x_1 = x_2))
    (some (.inl ()))
    (chk (u2 + 1) <|
    equali_l1 N n_ s1 s2 u (u2 + 1)))
   (some (.inr ()))
def equali_S (N : Nat) (s1 : List Int) (s2 : List Int) : Option Bool :=
 br (!decide ((s1.length : Int) = (s2.length : Int)))
  (some false)
  ((equali_l1 N N s1 s2 (s1.length : Int) 0).bind fun e => match e with
  | .inl _ =>
   some false
  | .inr _ =>
   some true)
noncomputable def equali_sp (N : Nat) : List Spec := []
theorem equali_all (N : Nat) : AllP (SpecOK Try.prog) (equali_sp N) := trivial
noncomputable def equali_c : Code := (Try.f103.body).getD .skip
noncomputable abbrev equali_B : Body := { c := equali_c, n := 26, res := [.tmp 4], outs := [⟨[.b], []⟩], m0 := 0 }
abbrev equali_rt : altD equali_B.outs → Option Bool := fun r => some r.1.1
abbrev equali_l1_at : List PI := [.c [1, 1, 0, 1, 0, 0, 0], .c [1, 1, 0, 1, 0, 0, 1], .l [1, 1, 0, 1, 0, 0], .b 0, .c [1, 1, 1]]
abbrev equali_l1_st : Sta := ⟨[0, 1, 12, 13], ⟨[.sl (.int .i64), .sl (.int .i64), .i .i64, .i .i64], []⟩⟩
abbrev equali_l1_h (rec : Qe → Qe → Int → Int → Option ((Unit) ⊕ (Unit))) : Leaf ((Unit) ⊕ (Unit)) := ⟨equali_l1_at, equali_l1_st, fun p => rec p.1.1 p.1.2.1 p.1.2.2.1 p.1.2.2.2.1⟩
abbrev equali_l1_e0 : Leaf ((Unit) ⊕ (Unit)) := ⟨[.c [1, 1, 0, 1, 0, 0, 1, 1, 0, 0, 1, 1, 0, 0], .c [1, 1, 0, 1, 0, 0, 1, 1, 0, 0, 1, 1, 0, 1], .b 1, .c [1, 1, 0, 1, 0, 0, 1, 1, 1], .l [1, 1, 0, 1, 0, 0], .b 0, .c [1, 1, 1]], ⟨[], ⟨[], []⟩⟩, fun p => some (.inl ())⟩
abbrev equali_l1_e1 : Leaf ((Unit) ⊕ (Unit)) := ⟨[.c [1, 1, 1, 0], .c [1, 1, 1, 1]], ⟨[], ⟨[], []⟩⟩, fun p => some (.inr ())⟩
noncomputable def equali_l1_L (N : Nat) : LoopS := { at_ := equali_l1_at, sta := equali_l1_st, exits := [([.c [1, 1, 0, 1, 0, 0, 1, 1, 0, 0, 1, 1, 0, 0], .c [1, 1, 0, 1, 0, 0, 1, 1, 0, 0, 1, 1, 0, 1], .b 1, .c [1, 1, 0, 1, 0, 0, 1, 1, 1], .l [1, 1, 0, 1, 0, 0], .b 0, .c [1, 1, 1]], ⟨[], ⟨[], []⟩⟩), ([.c [1, 1, 1, 0], .c [1, 1, 1, 1]], ⟨[], ⟨[], []⟩⟩)], run := fun p k => (equali_l1 N N p.1.1 p.1.2.1 p.1.2.2.1 p.1.2.2.2.1).bind fun e => match e with | .inl x => k (.inl ((), ())) | .inr x => k (.inr (.inl ((), ()))) }
theorem equali_l1_eq (N n_ : Nat) (s1 : List Int) (s2 : List Int) (u : Int) (u2 : Int) : ev (Z := (Unit) ⊕ (Unit)) Try.prog (equali_sp N) equali_B [] [equali_l1_h (equali_l1 N n_), equali_l1_e0, equali_l1_e1] none 400 true equali_l1_at (stL equali_l1_st ((s1, s2, u, u2, ()), ())) (stH equali_l1_st ((s1, s2, u, u2, ()), ())) = equali_l1 N (n_ + 1) s1 s2 u u2 := by kernel_rfl
theorem equali_l1_ok (N : Nat) {top : Bool} : LoopOK Try.prog equali_B.c equali_B.n equali_B.m0 top (equali_l1_L N) := loop_of_ev (Z := (Unit) ⊕ (Unit)) (N := N) (fun m p => equali_l1 N m p.1.1 p.1.2.1 p.1.2.2.1 p.1.2.2.2.1) (fun e => match e with | .inl x => .inl ((), ()) | .inr x => .inr (.inl ((), ()))) (fun _ p k => bind_congr_ (equali_l1 N N p.1.1 p.1.2.1 p.1.2.2.1 p.1.2.2.2.1) _ _ (fun e => by rcases e with x | x <;> rfl)) (fun _ => rfl) (fun m z E Xc hE hX hrec hx => leaf_of_ev (B := equali_B) (loops := []) (leaves := [equali_l1_h (equali_l1 N m), equali_l1_e0, equali_l1_e1]) (equali_all N) mixed trivial hE hX ⟨hrec, (fun p hp => by obtain rfl := Option.some.inj hp; exact hx), (fun p hp => by obtain rfl := Option.some.inj hp; exact hx), trivial⟩ RetOK.no (fun p => equali_l1_eq N m p.1.1 p.1.2.1 p.1.2.2.1 p.1.2.2.2.1))
abbrev equali_st : Sta := ⟨[0, 1], ⟨[.sl (.int .i64), .sl (.int .i64)], []⟩⟩
theorem equali_eq (N : Nat) (s1 : List Int) (s2 : List Int) : ev (Z := Bool) Try.prog (equali_sp N) equali_B [equali_l1_L N] [] (some equali_rt) 400 false [.c [0], .c [1]] (stL equali_st ((s1, s2, ()), ())) (stH equali_st ((s1, s2, ()), ())) = equali_S N s1 s2 := by kernel_rfl
noncomputable def sp_equali (N : Nat) : Spec := { f := 103, ins := ⟨[.sl (.int .i64), .sl (.int .i64)], []⟩, outs := [⟨[.b], []⟩], run := fun p k => (equali_S N p.1.1 p.1.2.1).bind fun r => k ((r, ()), ()) }
theorem sp_equali_ok (N : Nat) : SpecOK Try.prog (sp_equali N) := fn_sound (B := equali_B) (loops := [equali_l1_L N]) (leaves := []) (fun p => equali_S N p.1.1 p.1.2.1) (fun r => ((r, ()), ())) equali_rt (fun _ _ _ => rfl) (fun r z h => by cases h; rfl) Try.func103 (by kernel_rfl) (by kernel_rfl) (by kernel_rfl) rfl rfl (by kernel_rfl) (fun args w => Sem.pv_run _ _ _ (by kernel_rfl) w) (equali_all N) mixed ⟨equali_l1_ok N, trivial⟩ (fun z E Xc hE hX hret => trivial) (fun p => equali_eq N p.1.1 p.1.2.1)

def likei_S (N : Nat) (a : List Int) (b : List Int) : Option Bool :=
 (equali_S N a b).bind fun x_1 =>
 some x_1
noncomputable def likei_sp (N : Nat) : List Spec := [sp_equali N]
theorem likei_all (N : Nat) : AllP (SpecOK Try.prog) (likei_sp N) := ⟨sp_equali_ok N, trivial⟩
noncomputable def likei_c : Code := (Try.f61.body).getD .skip
noncomputable abbrev likei_B : Body := { c := likei_c, n := 8, res := [.tmp 4], outs := [⟨[.b], []⟩], m0 := 0 }
abbrev likei_rt : altD likei_B.outs → Option Bool := fun r => some r.1.1
abbrev likei_st : Sta := ⟨[0, 1], ⟨[.sl (.int .i64), .sl (.int .i64)], []⟩⟩
theorem likei_eq (N : Nat) (a : List Int) (b : List Int) : ev (Z := Bool) Try.prog (likei_sp N) likei_B [] [] (some likei_rt) 400 false [.c [0], .c [1]] (stL likei_st ((a, b, ()), ())) (stH likei_st ((a, b, ()), ())) = likei_S N a b := by kernel_rfl
noncomputable def sp_likei (N : Nat) : Spec := { f := 61, ins := ⟨[.sl (.int .i64), .sl (.int .i64)], []⟩, outs := [⟨[.b], []⟩], run := fun p k => (likei_S N p.1.1 p.1.2.1).bind fun r => k ((r, ()), ()) }
theorem sp_likei_ok (N : Nat) : SpecOK Try.prog (sp_likei N) := fn_sound (B := likei_B) (loops := []) (leaves := []) (fun p => likei_S N p.1.1 p.1.2.1) (fun r => ((r, ()), ())) likei_rt (fun _ _ _ => rfl) (fun r z h => by cases h; rfl) Try.func61 (by kernel_rfl) (by kernel_rfl) (by kernel_rfl) rfl rfl (by kernel_rfl) (fun args w => Sem.pv_run _ _ _ (by kernel_rfl) w) (likei_all N) mixed trivial (fun z E Xc hE hX hret => trivial) (fun p => likei_eq N p.1.1 p.1.2.1)

def equals_l1 (N : Nat) : Nat → Qe → Qe → Int → Int → Option ((Unit) ⊕ (Unit))
 | 0, _, _, _, _ => none
 | n_ + 1, s1, s2, u, u2 =>
  br (decide (u2 < u))
   (idx s1 u2 fun x_1 =>
   idx s2 u2 fun x_2 =>
   br (!decide (x_1 = x_2))
    (some (.inl ()))
    (chk (u2 + 1) <|
    equals_l1 N n_ s1 s2 u (u2 + 1)))
   (some (.inr ()))
def equals_S (N : Nat) (s1 : List Int) (s2 : List Int) : Option Bool :=
 br (!decide ((s1.length : Int) = (s2.length : Int)))
  (some false)
  ((equals_l1 N N s1 s2 (s1.length : Int) 0).bind fun e => match e with
  | .inl _ =>
   some false
  | .inr _ =>
   some true)
noncomputable def equals_sp (N : Nat) : List Spec := []
theorem equals_all (N : Nat) : AllP (SpecOK Try.prog) (equals_sp N) := trivial
noncomputable def equals_c : Code := (Try.f118.body).getD .skip
noncomputable abbrev equals_B : Body := { c := equals_c, n := 26, res := [.tmp 4], outs := [⟨[.b], []⟩], m0 := 0 }
abbrev equals_rt : altD equals_B.outs → Option Bool := fun r => some r.1.1
abbrev equals_l1_at : List PI := [.c [1, 1, 0, 1, 0, 0, 0], .c [1, 1, 0, 1, 0, 0, 1], .l [1, 1, 0, 1, 0, 0], .b 0, .c [1, 1, 1]]
abbrev equals_l1_st : Sta := ⟨[0, 1, 12, 13], ⟨[.sl (.int .i64), .sl (.int .i64), .i .i64, .i .i64], []⟩⟩
abbrev equals_l1_h (rec : Qe → Qe → Int → Int → Option ((Unit) ⊕ (Unit))) : Leaf ((Unit) ⊕ (Unit)) := ⟨equals_l1_at, equals_l1_st, fun p => rec p.1.1 p.1.2.1 p.1.2.2.1 p.1.2.2.2.1⟩
abbrev equals_l1_e0 : Leaf ((Unit) ⊕ (Unit)) := ⟨[.c [1, 1, 0, 1, 0, 0, 1, 1, 0, 0, 1, 1, 0, 0], .c [1, 1, 0, 1, 0, 0, 1, 1, 0, 0, 1, 1, 0, 1], .b 1, .c [1, 1, 0, 1, 0, 0, 1, 1, 1], .l [1, 1, 0, 1, 0, 0], .b 0, .c [1, 1, 1]], ⟨[], ⟨[], []⟩⟩, fun p => some (.inl ())⟩
abbrev equals_l1_e1 : Leaf ((Unit) ⊕ (Unit)) := ⟨[.c [1, 1, 1, 0], .c [1, 1, 1, 1]], ⟨[], ⟨[], []⟩⟩, fun p => some (.inr ())⟩
noncomputable def equals_l1_L (N : Nat) : LoopS := { at_ := equals_l1_at, sta := equals_l1_st, exits := [([.c [1, 1, 0, 1, 0, 0, 1, 1, 0, 0, 1, 1, 0, 0], .c [1, 1, 0, 1, 0, 0, 1, 1, 0, 0, 1, 1, 0, 1], .b 1, .c [1, 1, 0, 1, 0, 0, 1, 1, 1], .l [1, 1, 0, 1, 0, 0], .b 0, .c [1, 1, 1]], ⟨[], ⟨[], []⟩⟩), ([.c [1, 1, 1, 0], .c [1, 1, 1, 1]], ⟨[], ⟨[], []⟩⟩)], run := fun p k => (equals_l1 N N p.1.1 p.1.2.1 p.1.2.2.1 p.1.2.2.2.1).bind fun e => match e with | .inl x => k (.inl ((), ())) | .inr x => k (.inr (.inl ((), ()))) }
theorem equals_l1_eq (N n_ : Nat) (s1 : List Int) (s2 : List Int) (u : Int) (u2 : Int) : ev (Z := (Unit) ⊕ (Unit)) Try.prog (equals_sp N) equals_B [] [equals_l1_h (equals_l1 N n_), equals_l1_e0, equals_l1_e1] none 400 true equals_l1_at (stL equals_l1_st ((s1, s2, u, u2, ()), ())) (stH equals_l1_st ((s1, s2, u, u2, ()), ())) = equals_l1 N (n_ + 1) s1 s2 u u2 := by kernel_rfl
theorem equals_l1_ok (N : Nat) {top : Bool} : LoopOK Try.prog equals_B.c equals_B.n equals_B.m0 top (equals_l1_L N) := loop_of_ev (Z := (Unit) ⊕ (Unit)) (N := N) (fun m p => equals_l1 N m p.1.1 p.1.2.1 p.1.2.2.1 p.1.2.2.2.1) (fun e => match e with | .inl x => .inl ((), ()) | .inr x => .inr (.inl ((), ()))) (fun _ p k => bind_congr_ (equals_l1 N N p.1.1 p.1.2.1 p.1.2.2.1 p.1.2.2.2.1) _ _ (fun e => by rcases e with x | x <;> rfl)) (fun _ => rfl) (fun m z E Xc hE hX hrec hx => leaf_of_ev (B := equals_B) (loops := []) (leaves := [equals_l1_h (equals_l1 N m), equals_l1_e0, equals_l1_e1]) (equals_all N) mixed trivial hE hX ⟨hrec, (fun p hp => by obtain rfl := Option.some.inj hp; exact hx), (fun p hp => by obtain rfl := Option.some.inj hp; exact hx), trivial⟩ RetOK.no (fun p => equals_l1_eq N m p.1.1 p.1.2.1 p.1.2.2.1 p.1.2.2.2.1))
abbrev equals_st : Sta := ⟨[0, 1], ⟨[.sl (.int .i64), .sl (.int .i64)], []⟩⟩
theorem equals_eq (N : Nat) (s1 : List Int) (s2 : List Int) : ev (Z := Bool) Try.prog (equals_sp N) equals_B [equals_l1_L N] [] (some equals_rt) 400 false [.c [0], .c [1]] (stL equals_st ((s1, s2, ()), ())) (stH equals_st ((s1, s2, ()), ())) = equals_S N s1 s2 := by kernel_rfl
noncomputable def sp_equals (N : Nat) : Spec := { f := 118, ins := ⟨[.sl (.int .i64), .sl (.int .i64)], []⟩, outs := [⟨[.b], []⟩], run := fun p k => (equals_S N p.1.1 p.1.2.1).bind fun r => k ((r, ()), ()) }
theorem sp_equals_ok (N : Nat) : SpecOK Try.prog (sp_equals N) := fn_sound (B := equals_B) (loops := [equals_l1_L N]) (leaves := []) (fun p => equals_S N p.1.1 p.1.2.1) (fun r => ((r, ()), ())) equals_rt (fun _ _ _ => rfl) (fun r z h => by cases h; rfl) Try.func118 (by kernel_rfl) (by kernel_rfl) (by kernel_rfl) rfl rfl (by kernel_rfl) (fun args w => Sem.pv_run _ _ _ (by kernel_rfl) w) (equals_all N) mixed ⟨equals_l1_ok N, trivial⟩ (fun z E Xc hE hX hret => trivial) (fun p => equals_eq N p.1.1 p.1.2.1)

def likes_S (N : Nat) (a : List Int) (b : List Int) : Option Bool :=
 (equals_S N a b).bind fun x_1 =>
 some x_1
noncomputable def likes_sp (N : Nat) : List Spec := [sp_equals N]
theorem likes_all (N : Nat) : AllP (SpecOK Try.prog) (likes_sp N) := ⟨sp_equals_ok N, trivial⟩
noncomputable def likes_c : Code := (Try.f79.body).getD .skip
noncomputable abbrev likes_B : Body := { c := likes_c, n := 8, res := [.tmp 4], outs := [⟨[.b], []⟩], m0 := 0 }
abbrev likes_rt : altD likes_B.outs → Option Bool := fun r => some r.1.1
abbrev likes_st : Sta := ⟨[0, 1], ⟨[.sl (.int .i64), .sl (.int .i64)], []⟩⟩
theorem likes_eq (N : Nat) (a : List Int) (b : List Int) : ev (Z := Bool) Try.prog (likes_sp N) likes_B [] [] (some likes_rt) 400 false [.c [0], .c [1]] (stL likes_st ((a, b, ()), ())) (stH likes_st ((a, b, ()), ())) = likes_S N a b := by kernel_rfl
noncomputable def sp_likes (N : Nat) : Spec := { f := 79, ins := ⟨[.sl (.int .i64), .sl (.int .i64)], []⟩, outs := [⟨[.b], []⟩], run := fun p k => (likes_S N p.1.1 p.1.2.1).bind fun r => k ((r, ()), ()) }
theorem sp_likes_ok (N : Nat) : SpecOK Try.prog (sp_likes N) := fn_sound (B := likes_B) (loops := []) (leaves := []) (fun p => likes_S N p.1.1 p.1.2.1) (fun r => ((r, ()), ())) likes_rt (fun _ _ _ => rfl) (fun r z h => by cases h; rfl) Try.func79 (by kernel_rfl) (by kernel_rfl) (by kernel_rfl) rfl rfl (by kernel_rfl) (fun args w => Sem.pv_run _ _ _ (by kernel_rfl) w) (likes_all N) mixed trivial (fun z E Xc hE hX hret => trivial) (fun p => likes_eq N p.1.1 p.1.2.1)

def equalp_l1 (N : Nat) : Nat → Qi → Qi → Int → Int → Option ((Unit) ⊕ (Unit))
 | 0, _, _, _, _ => none
 | n_ + 1, s1, s2, u, u2 =>
  br (decide (u2 < u))
   (idx s1 u2 fun x_1 =>
   idx s2 u2 fun x_2 =>
   br (!(decide (x_1.1 = x_2.1) && decide (x_1.2 = x_2.2)))
    (some (.inl ()))
    (chk (u2 + 1) <|
    equalp_l1 N n_ s1 s2 u (u2 + 1)))
   (some (.inr ()))
def equalp_S (N : Nat) (s1 : List Qc) (s2 : List Qc) : Option Bool :=
 br (!decide ((s1.length : Int) = (s2.length : Int)))
  (some false)
  ((equalp_l1 N N s1 s2 (s1.length : Int) 0).bind fun e => match e with
  | .inl _ =>
   some false
  | .inr _ =>
   some true)
noncomputable def equalp_sp (N : Nat) : List Spec := []
theorem equalp_all (N : Nat) : AllP (SpecOK Try.prog) (equalp_sp N) := trivial
noncomputable def equalp_c : Code := (Try.f119.body).getD .skip
noncomputable abbrev equalp_B : Body := { c := equalp_c, n := 26, res := [.tmp 4], outs := [⟨[.b], []⟩], m0 := 0 }
abbrev equalp_rt : altD equalp_B.outs → Option Bool := fun r => some r.1.1
abbrev equalp_l1_at : List PI := [.c [1, 1, 0, 1, 0, 0, 0], .c [1, 1, 0, 1, 0, 0, 1], .l [1, 1, 0, 1, 0, 0], .b 0, .c [1, 1, 1]]
abbrev equalp_l1_st : Sta := ⟨[0, 1, 12, 13], ⟨[.sl Qd, .sl Qd, .i .i64, .i .i64], []⟩⟩
abbrev equalp_l1_h (rec : Qi → Qi → Int → Int → Option ((Unit) ⊕ (Unit))) : Leaf ((Unit) ⊕ (Unit)) := ⟨equalp_l1_at, equalp_l1_st, fun p => rec p.1.1 p.1.2.1 p.1.2.2.1 p.1.2.2.2.1⟩
abbrev equalp_l1_e0 : Leaf ((Unit) ⊕ (Unit)) := ⟨[.c [1, 1, 0, 1, 0, 0, 1, 1, 0, 0, 1, 1, 0, 0], .c [1, 1, 0, 1, 0, 0, 1, 1, 0, 0, 1, 1, 0, 1], .b 1, .c [1, 1, 0, 1, 0, 0, 1, 1, 1], .l [1, 1, 0, 1, 0, 0], .b 0, .c [1, 1, 1]], ⟨[], ⟨[], []⟩⟩, fun p => some (.inl ())⟩
abbrev equalp_l1_e1 : Leaf ((Unit) ⊕ (Unit)) := ⟨[.c [1, 1, 1, 0], .c [1, 1, 1, 1]], ⟨[], ⟨[], []⟩⟩, fun p => some (.inr ())⟩
noncomputable def equalp_l1_L (N : Nat) : LoopS := { at_ := equalp_l1_at, sta := equalp_l1_st, exits := [([.c [1, 1, 0, 1, 0, 0, 1, 1, 0, 0, 1, 1, 0, 0], .c [1, 1, 0, 1, 0, 0, 1, 1, 0, 0, 1, 1, 0, 1], .b 1, .c [1, 1, 0, 1, 0, 0, 1, 1, 1], .l [1, 1, 0, 1, 0, 0], .b 0, .c [1, 1, 1]], ⟨[], ⟨[], []⟩⟩), ([.c [1, 1, 1, 0], .c [1, 1, 1, 1]], ⟨[], ⟨[], []⟩⟩)], run := fun p k => (equalp_l1 N N p.1.1 p.1.2.1 p.1.2.2.1 p.1.2.2.2.1).bind fun e => match e with | .inl x => k (.inl ((), ())) | .inr x => k (.inr (.inl ((), ()))) }
theorem equalp_l1_eq (N n_ : Nat) (s1 : List Qc) (s2 : List Qc) (u : Int) (u2 : Int) : ev (Z := (Unit) ⊕ (Unit)) Try.prog (equalp_sp N) equalp_B [] [equalp_l1_h (equalp_l1 N n_), equalp_l1_e0, equalp_l1_e1] none 400 true equalp_l1_at (stL equalp_l1_st ((s1, s2, u, u2, ()), ())) (stH equalp_l1_st ((s1, s2, u, u2, ()), ())) = equalp_l1 N (n_ + 1) s1 s2 u u2 := by kernel_rfl
theorem equalp_l1_ok (N : Nat) {top : Bool} : LoopOK Try.prog equalp_B.c equalp_B.n equalp_B.m0 top (equalp_l1_L N) := loop_of_ev (Z := (Unit) ⊕ (Unit)) (N := N) (fun m p => equalp_l1 N m p.1.1 p.1.2.1 p.1.2.2.1 p.1.2.2.2.1) (fun e => match e with | .inl x => .inl ((), ()) | .inr x => .inr (.inl ((), ()))) (fun _ p k => bind_congr_ (equalp_l1 N N p.1.1 p.1.2.1 p.1.2.2.1 p.1.2.2.2.1) _ _ (fun e => by rcases e with x | x <;> rfl)) (fun _ => rfl) (fun m z E Xc hE hX hrec hx => leaf_of_ev (B := equalp_B) (loops := []) (leaves := [equalp_l1_h (equalp_l1 N m), equalp_l1_e0, equalp_l1_e1]) (equalp_all N) mixed trivial hE hX ⟨hrec, (fun p hp => by obtain rfl := Option.some.inj hp; exact hx), (fun p hp => by obtain rfl := Option.some.inj hp; exact hx), trivial⟩ RetOK.no (fun p => equalp_l1_eq N m p.1.1 p.1.2.1 p.1.2.2.1 p.1.2.2.2.1))
abbrev equalp_st : Sta := ⟨[0, 1], ⟨[.sl Qd, .sl Qd], []⟩⟩
theorem equalp_eq (N : Nat) (s1 : List Qc) (s2 : List Qc) : ev (Z := Bool) Try.prog (equalp_sp N) equalp_B [equalp_l1_L N] [] (some equalp_rt) 400 false [.c [0], .c [1]] (stL equalp_st ((s1, s2, ()), ())) (stH equalp_st ((s1, s2, ()), ())) = equalp_S N s1 s2 := by kernel_rfl
noncomputable def sp_equalp (N : Nat) : Spec := { f := 119, ins := ⟨[.sl Qd, .sl Qd], []⟩, outs := [⟨[.b], []⟩], run := fun p k => (equalp_S N p.1.1 p.1.2.1).bind fun r => k ((r, ()), ()) }
theorem sp_equalp_ok (N : Nat) : SpecOK Try.prog (sp_equalp N) := fn_sound (B := equalp_B) (loops := [equalp_l1_L N]) (leaves := []) (fun p => equalp_S N p.1.1 p.1.2.1) (fun r => ((r, ()), ())) equalp_rt (fun _ _ _ => rfl) (fun r z h => by cases h; rfl) Try.func119 (by kernel_rfl) (by kernel_rfl) (by kernel_rfl) rfl rfl (by kernel_rfl) (fun args w => Sem.pv_run _ _ _ (by kernel_rfl) w) (equalp_all N) mixed ⟨equalp_l1_ok N, trivial⟩ (fun z E Xc hE hX hret => trivial) (fun p => equalp_eq N p.1.1 p.1.2.1)

def likep_S (N : Nat) (a : List Qc) (b : List Qc) : Option Bool :=
 (equalp_S N a b).bind fun x_1 =>
 some x_1
noncomputable def likep_sp (N : Nat) : List Spec := [sp_equalp N]
theorem likep_all (N : Nat) : AllP (SpecOK Try.prog) (likep_sp N) := ⟨sp_equalp_ok N, trivial⟩
noncomputable def likep_c : Code := (Try.f80.body).getD .skip
noncomputable abbrev likep_B : Body := { c := likep_c, n := 8, res := [.tmp 4], outs := [⟨[.b], []⟩], m0 := 0 }
abbrev likep_rt : altD likep_B.outs → Option Bool := fun r => some r.1.1
abbrev likep_st : Sta := ⟨[0, 1], ⟨[.sl Qd, .sl Qd], []⟩⟩
theorem likep_eq (N : Nat) (a : List Qc) (b : List Qc) : ev (Z := Bool) Try.prog (likep_sp N) likep_B [] [] (some likep_rt) 400 false [.c [0], .c [1]] (stL likep_st ((a, b, ()), ())) (stH likep_st ((a, b, ()), ())) = likep_S N a b := by kernel_rfl
noncomputable def sp_likep (N : Nat) : Spec := { f := 80, ins := ⟨[.sl Qd, .sl Qd], []⟩, outs := [⟨[.b], []⟩], run := fun p k => (likep_S N p.1.1 p.1.2.1).bind fun r => k ((r, ()), ()) }
theorem sp_likep_ok (N : Nat) : SpecOK Try.prog (sp_likep N) := fn_sound (B := likep_B) (loops := []) (leaves := []) (fun p => likep_S N p.1.1 p.1.2.1) (fun r => ((r, ()), ())) likep_rt (fun _ _ _ => rfl) (fun r z h => by cases h; rfl) Try.func80 (by kernel_rfl) (by kernel_rfl) (by kernel_rfl) rfl rfl (by kernel_rfl) (fun args w => Sem.pv_run _ _ _ (by kernel_rfl) w) (likep_all N) mixed trivial (fun z E Xc hE hX hret => trivial) (fun p => likep_eq N p.1.1 p.1.2.1)

def indexp_l1 (N : Nat) : Nat → Qi → Int → Int → Int → Int → Option ((Int) ⊕ (Unit))
 | 0, _, _, _, _, _ => none
 | n_ + 1, s, u, u2, v, v2 =>
  br (decide (u2 < u))
   (idx s u2 fun x_1 =>
   br (decide (v = x_1.1) && decide (v2 = x_1.2))
    (some (.inl u2))
    (chk (u2 + 1) <|
    indexp_l1 N n_ s u (u2 + 1) v v2))
   (some (.inr ()))
def indexp_S (N : Nat) (s : List Qc) (v : Int) (v2 : Int) : Option Int :=
 (indexp_l1 N N s (s.length : Int) 0 v v2).bind fun e => match e with
 | .inl i_2 =>
  some i_2
 | .inr _ =>
  some (-1)
noncomputable def indexp_sp (N : Nat) : List Spec := []
theorem indexp_all (N : Nat) : AllP (SpecOK Try.prog) (indexp_sp N) := trivial
noncomputable def indexp_c : Code := (Try.f73.body).getD .skip
noncomputable abbrev indexp_B : Body := { c := indexp_c, n := 19, res := [.tmp 4], outs := [⟨[.i .i64], []⟩], m0 := 0 }
abbrev indexp_rt : altD indexp_B.outs → Option Int := fun r => some r.1.1
abbrev indexp_l1_at : List PI := [.c [1, 0, 1, 0, 0, 0], .c [1, 0, 1, 0, 0, 1], .l [1, 0, 1, 0, 0], .b 0, .c [1, 1]]
abbrev indexp_l1_st : Sta := ⟨[0, 3, 7, 8], ⟨[.sl Qd, .own 0 0, .i .i64, .i .i64], [.segs [.i .i64, .i .i64]]⟩⟩
abbrev indexp_l1_h (rec : Qi → Int → Int → Int → Int → Option ((Int) ⊕ (Unit))) : Leaf ((Int) ⊕ (Unit)) := ⟨indexp_l1_at, indexp_l1_st, fun p => rec p.1.1 p.1.2.2.1 p.1.2.2.2.1 p.2.1.1 p.2.1.2.1⟩
abbrev indexp_l1_e0 : Leaf ((Int) ⊕ (Unit)) := ⟨[.c [1, 0, 1, 0, 0, 1, 1, 0, 0, 1, 1, 0, 0], .c [1, 0, 1, 0, 0, 1, 1, 0, 0, 1, 1, 0, 1], .b 1, .c [1, 0, 1, 0, 0, 1, 1, 1], .l [1, 0, 1, 0, 0], .b 0, .c [1, 1]], ⟨[5], ⟨[.i .i64], []⟩⟩, fun p => some (.inl p.1.1)⟩
abbrev indexp_l1_e1 : Leaf ((Int) ⊕ (Unit)) := ⟨[.c [1, 1, 0], .c [1, 1, 1]], ⟨[], ⟨[], []⟩⟩, fun p => some (.inr ())⟩
noncomputable def indexp_l1_L (N : Nat) : LoopS := { at_ := indexp_l1_at, sta := indexp_l1_st, exits := [([.c [1, 0, 1, 0, 0, 1, 1, 0, 0, 1, 1, 0, 0], .c [1, 0, 1, 0, 0, 1, 1, 0, 0, 1, 1, 0, 1], .b 1, .c [1, 0, 1, 0, 0, 1, 1, 1], .l [1, 0, 1, 0, 0], .b 0, .c [1, 1]], ⟨[5], ⟨[.i .i64], []⟩⟩), ([.c [1, 1, 0], .c [1, 1, 1]], ⟨[], ⟨[], []⟩⟩)], run := fun p k => (indexp_l1 N N p.1.1 p.1.2.2.1 p.1.2.2.2.1 p.2.1.1 p.2.1.2.1).bind fun e => match e with | .inl x => k (.inl ((x, ()), ())) | .inr x => k (.inr (.inl ((), ()))) }
theorem indexp_l1_eq (N n_ : Nat) (s : List Qc) (u : Int) (u2 : Int) (v : Int) (v2 : Int) : ev (Z := (Int) ⊕ (Unit)) Try.prog (indexp_sp N) indexp_B [] [indexp_l1_h (indexp_l1 N n_), indexp_l1_e0, indexp_l1_e1] none 400 true indexp_l1_at (stL indexp_l1_st ((s, (), u, u2, ()), ((v, v2, ()), ()))) (stH indexp_l1_st ((s, (), u, u2, ()), ((v, v2, ()), ()))) = indexp_l1 N (n_ + 1) s u u2 v v2 := by kernel_rfl
theorem indexp_l1_ok (N : Nat) {top : Bool} : LoopOK Try.prog indexp_B.c indexp_B.n indexp_B.m0 top (indexp_l1_L N) := loop_of_ev (Z := (Int) ⊕ (Unit)) (N := N) (fun m p => indexp_l1 N m p.1.1 p.1.2.2.1 p.1.2.2.2.1 p.2.1.1 p.2.1.2.1) (fun e => match e with | .inl x => .inl ((x, ()), ()) | .inr x => .inr (.inl ((), ()))) (fun _ p k => bind_congr_ (indexp_l1 N N p.1.1 p.1.2.2.1 p.1.2.2.2.1 p.2.1.1 p.2.1.2.1) _ _ (fun e => by rcases e with x | x <;> rfl)) (fun _ => rfl) (fun m z E Xc hE hX hrec hx => leaf_of_ev (B := indexp_B) (loops := []) (leaves := [indexp_l1_h (indexp_l1 N m), indexp_l1_e0, indexp_l1_e1]) (indexp_all N) mixed trivial hE hX ⟨hrec, (fun p hp => by obtain rfl := Option.some.inj hp; exact hx), (fun p hp => by obtain rfl := Option.some.inj hp; exact hx), trivial⟩ RetOK.no (fun p => indexp_l1_eq N m p.1.1 p.1.2.2.1 p.1.2.2.2.1 p.2.1.1 p.2.1.2.1))
abbrev indexp_st : Sta := ⟨[0, 1], ⟨[.sl Qd, .agg [.i .i64, .i .i64]], []⟩⟩
theorem indexp_eq (N : Nat) (s : List Qc) (v : Int) (v2 : Int) : ev (Z := Int) Try.prog (indexp_sp N) indexp_B [indexp_l1_L N] [] (some indexp_rt) 400 false [.c [0], .c [1]] (stL indexp_st ((s, (v, v2, ()), ()), ())) (stH indexp_st ((s, (v, v2, ()), ()), ())) = indexp_S N s v v2 := by kernel_rfl
noncomputable def sp_indexp (N : Nat) : Spec := { f := 73, ins := ⟨[.sl Qd, .agg [.i .i64, .i .i64]], []⟩, outs := [⟨[.i .i64], []⟩], run := fun p k => (indexp_S N p.1.1 p.1.2.1.1 p.1.2.1.2.1).bind fun r => k ((r, ()), ()) }
theorem sp_indexp_ok (N : Nat) : SpecOK Try.prog (sp_indexp N) := fn_sound (B := indexp_B) (loops := [indexp_l1_L N]) (leaves := []) (fun p => indexp_S N p.1.1 p.1.2.1.1 p.1.2.1.2.1) (fun r => ((r, ()), ())) indexp_rt (fun _ _ _ => rfl) (fun r z h => by cases h; rfl) Try.func73 (by kernel_rfl) (by kernel_rfl) (by kernel_rfl) rfl rfl (by kernel_rfl) (fun args w => Sem.pv_run _ _ _ (by kernel_rfl) w) (indexp_all N) mixed ⟨indexp_l1_ok N, trivial⟩ (fun z E Xc hE hX hret => trivial) (fun p => indexp_eq N p.1.1 p.1.2.1.1 p.1.2.1.2.1)

def containsp_S (N : Nat) (s : List Qc) (v : Int) (v2 : Int) : Option Bool :=
 (indexp_S N s v v2).bind fun x_1 =>
 some (decide (0 ≤ x_1))
noncomputable def containsp_sp (N : Nat) : List Spec := [sp_indexp N]
theorem containsp_all (N : Nat) : AllP (SpecOK Try.prog) (containsp_sp N) := ⟨sp_indexp_ok N, trivial⟩
noncomputable def containsp_c : Code := (Try.f19.body).getD .skip
noncomputable abbrev containsp_B : Body := { c := containsp_c, n := 9, res := [.tmp 4], outs := [⟨[.b], []⟩], m0 := 0 }
abbrev containsp_rt : altD containsp_B.outs → Option Bool := fun r => some r.1.1
abbrev containsp_st : Sta := ⟨[0, 1], ⟨[.sl Qd, .agg [.i .i64, .i .i64]], []⟩⟩
theorem containsp_eq (N : Nat) (s : List Qc) (v : Int) (v2 : Int) : ev (Z := Bool) Try.prog (containsp_sp N) containsp_B [] [] (some containsp_rt) 400 false [.c [0], .c [1]] (stL containsp_st ((s, (v, v2, ()), ()), ())) (stH containsp_st ((s, (v, v2, ()), ()), ())) = containsp_S N s v v2 := by kernel_rfl
noncomputable def sp_containsp (N : Nat) : Spec := { f := 19, ins := ⟨[.sl Qd, .agg [.i .i64, .i .i64]], []⟩, outs := [⟨[.b], []⟩], run := fun p k => (containsp_S N p.1.1 p.1.2.1.1 p.1.2.1.2.1).bind fun r => k ((r, ()), ()) }
theorem sp_containsp_ok (N : Nat) : SpecOK Try.prog (sp_containsp N) := fn_sound (B := containsp_B) (loops := []) (leaves := []) (fun p => containsp_S N p.1.1 p.1.2.1.1 p.1.2.1.2.1) (fun r => ((r, ()), ())) containsp_rt (fun _ _ _ => rfl) (fun r z h => by cases h; rfl) Try.func19 (by kernel_rfl) (by kernel_rfl) (by kernel_rfl) rfl rfl (by kernel_rfl) (fun args w => Sem.pv_run _ _ _ (by kernel_rfl) w) (containsp_all N) mixed trivial (fun z E Xc hE hX hret => trivial) (fun p => containsp_eq N p.1.1 p.1.2.1.1 p.1.2.1.2.1)

def indexi_l1 (N : Nat) : Nat → Qe → Int → Int → Int → Option ((Int) ⊕ (Unit))
 | 0, _, _, _, _ => none
 | n_ + 1, s, v, u, u2 =>
  br (decide (u2 < u))
   (idx s u2 fun x_1 =>
   br (decide (v = x_1))
    (some (.inl u2))
    (chk (u2 + 1) <|
    indexi_l1 N n_ s v u (u2 + 1)))
   (some (.inr ()))
def indexi_S (N : Nat) (s : List Int) (v : Int) : Option Int :=
 (indexi_l1 N N s v (s.length : Int) 0).bind fun e => match e with
 | .inl i_2 =>
  some i_2
 | .inr _ =>
  some (-1)
noncomputable def indexi_sp (N : Nat) : List Spec := []
theorem indexi_all (N : Nat) : AllP (SpecOK Try.prog) (indexi_sp N) := trivial
noncomputable def indexi_c : Code := (Try.f86.body).getD .skip
noncomputable abbrev indexi_B : Body := { c := indexi_c, n := 19, res := [.tmp 4], outs := [⟨[.i .i64], []⟩], m0 := 0 }
abbrev indexi_rt : altD indexi_B.outs → Option Int := fun r => some r.1.1
abbrev indexi_l1_at : List PI := [.c [1, 0, 1, 0, 0, 0], .c [1, 0, 1, 0, 0, 1], .l [1, 0, 1, 0, 0], .b 0, .c [1, 1]]
abbrev indexi_l1_st : Sta := ⟨[0, 1, 7, 8], ⟨[.sl (.int .i64), .i .i64, .i .i64, .i .i64], []⟩⟩
abbrev indexi_l1_h (rec : Qe → Int → Int → Int → Option ((Int) ⊕ (Unit))) : Leaf ((Int) ⊕ (Unit)) := ⟨indexi_l1_at, indexi_l1_st, fun p => rec p.1.1 p.1.2.1 p.1.2.2.1 p.1.2.2.2.1⟩
abbrev indexi_l1_e0 : Leaf ((Int) ⊕ (Unit)) := ⟨[.c [1, 0, 1, 0, 0, 1, 1, 0, 0, 1, 1, 0, 0], .c [1, 0, 1, 0, 0, 1, 1, 0, 0, 1, 1, 0, 1], .b 1, .c [1, 0, 1, 0, 0, 1, 1, 1], .l [1, 0, 1, 0, 0], .b 0, .c [1, 1]], ⟨[5], ⟨[.i .i64], []⟩⟩, fun p => some (.inl p.1.1)⟩
abbrev indexi_l1_e1 : Leaf ((Int) ⊕ (Unit)) := ⟨[.c [1, 1, 0], .c [1, 1, 1]], ⟨[], ⟨[], []⟩⟩, fun p => some (.inr ())⟩
noncomputable def indexi_l1_L (N : Nat) : LoopS := { at_ := indexi_l1_at, sta := indexi_l1_st, exits := [([.c [1, 0, 1, 0, 0, 1, 1, 0, 0, 1, 1, 0, 0], .c [1, 0, 1, 0, 0, 1, 1, 0, 0, 1, 1, 0, 1], .b 1, .c [1, 0, 1, 0, 0, 1, 1, 1], .l [1, 0, 1, 0, 0], .b 0, .c [1, 1]], ⟨[5], ⟨[.i .i64], []⟩⟩), ([.c [1, 1, 0], .c [1, 1, 1]], ⟨[], ⟨[], []⟩⟩)], run := fun p k => (indexi_l1 N N p.1.1 p.1.2.1 p.1.2.2.1 p.1.2.2.2.1).bind fun e => match e with | .inl x => k (.inl ((x, ()), ())) | .inr x => k (.inr (.inl ((), ()))) }
theorem indexi_l1_eq (N n_ : Nat) (s : List Int) (v : Int) (u : Int) (u2 : Int) : ev (Z := (Int) ⊕ (Unit)) Try.prog (indexi_sp N) indexi_B [] [indexi_l1_h (indexi_l1 N n_), indexi_l1_e0, indexi_l1_e1] none 400 true indexi_l1_at (stL indexi_l1_st ((s, v, u, u2, ()), ())) (stH indexi_l1_st ((s, v, u, u2, ()), ())) = indexi_l1 N (n_ + 1) s v u u2 := by kernel_rfl
theorem indexi_l1_ok (N : Nat) {top : Bool} : LoopOK Try.prog indexi_B.c indexi_B.n indexi_B.m0 top (indexi_l1_L N) := loop_of_ev (Z := (Int) ⊕ (Unit)) (N := N) (fun m p => indexi_l1 N m p.1.1 p.1.2.1 p.1.2.2.1 p.1.2.2.2.1) (fun e => match e with | .inl x => .inl ((x, ()), ()) | .inr x => .inr (.inl ((), ()))) (fun _ p k => bind_congr_ (indexi_l1 N N p.1.1 p.1.2.1 p.1.2.2.1 p.1.2.2.2.1) _ _ (fun e => by rcases e with x | x <;> rfl)) (fun _ => rfl) (fun m z E Xc hE hX hrec hx => leaf_of_ev (B := indexi_B) (loops := []) (leaves := [indexi_l1_h (indexi_l1 N m), indexi_l1_e0, indexi_l1_e1]) (indexi_all N) mixed trivial hE hX ⟨hrec, (fun p hp => by obtain rfl := Option.some.inj hp; exact hx), (fun p hp => by obtain rfl := Option.some.inj hp; exact hx), trivial⟩ RetOK.no (fun p => indexi_l1_eq N m p.1.1 p.1.2.1 p.1.2.2.1 p.1.2.2.2.1))
abbrev indexi_st : Sta := ⟨[0, 1], ⟨[.sl (.int .i64), .i .i64], []⟩⟩
theorem indexi_eq (N : Nat) (s : List Int) (v : Int) : ev (Z := Int) Try.prog (indexi_sp N) indexi_B [indexi_l1_L N] [] (some indexi_rt) 400 false [.c [0], .c [1]] (stL indexi_st ((s, v, ()), ())) (stH indexi_st ((s, v, ()), ())) = indexi_S N s v := by kernel_rfl
noncomputable def sp_indexi (N : Nat) : Spec := { f := 86, ins := ⟨[.sl (.int .i64), .i .i64], []⟩, outs := [⟨[.i .i64], []⟩], run := fun p k => (indexi_S N p.1.1 p.1.2.1).bind fun r => k ((r, ()), ()) }
theorem sp_indexi_ok (N : Nat) : SpecOK Try.prog (sp_indexi N) := fn_sound (B := indexi_B) (loops := [indexi_l1_L N]) (leaves := []) (fun p => indexi_S N p.1.1 p.1.2.1) (fun r => ((r, ()), ())) indexi_rt (fun _ _ _ => rfl) (fun r z h => by cases h; rfl) Try.func86 (by kernel_rfl) (by kernel_rfl) (by kernel_rfl) rfl rfl (by kernel_rfl) (fun args w => Sem.pv_run _ _ _ (by kernel_rfl) w) (indexi_all N) mixed ⟨indexi_l1_ok N, trivial⟩ (fun z E Xc hE hX hret => trivial) (fun p => indexi_eq N p.1.1 p.1.2.1)

def two_S (N : Nat) (heard : Int) (faults : Int) : Option (List Qe × List Int × Int) :=
 grd (decide ((0 : Int) ≤ heard ∧ heard ≤ ([1, 4, 2, 2, 3].length : Int))) <|
 some ([[1, 2, 3], [4, 2]], ([1, 4, 2, 2, 3].take heard.toNat), faults)
noncomputable def two_sp (N : Nat) : List Spec := []
theorem two_all (N : Nat) : AllP (SpecOK Try.prog) (two_sp N) := trivial
noncomputable def two_c : Code := (Try.f78.body).getD .skip
noncomputable abbrev two_B : Body := { c := two_c, n := 13, res := [.cell 4 26], outs := [⟨[.agg [.sl Qf, .sl (.int .i64), .i .i64]], []⟩], m0 := 0 }
abbrev two_rt : altD two_B.outs → Option (List Qe × List Int × Int) := fun r => some (r.1.1.1, r.1.1.2.1, r.1.1.2.2.1)
abbrev two_st : Sta := ⟨[0, 1], ⟨[.i .i64, .i .i64], []⟩⟩
theorem two_eq (N : Nat) (heard : Int) (faults : Int) : ev (Z := List Qe × List Int × Int) Try.prog (two_sp N) two_B [] [] (some two_rt) 400 false [.c [0], .c [1]] (stL two_st ((heard, faults, ()), ())) (stH two_st ((heard, faults, ()), ())) = two_S N heard faults := by kernel_rfl
noncomputable def sp_two (N : Nat) : Spec := { f := 78, ins := ⟨[.i .i64, .i .i64], []⟩, outs := [⟨[.agg [.sl Qf, .sl (.int .i64), .i .i64]], []⟩], run := fun p k => (two_S N p.1.1 p.1.2.1).bind fun r => k (((r.1, r.2.1, r.2.2, ()), ()), ()) }
theorem sp_two_ok (N : Nat) : SpecOK Try.prog (sp_two N) := fn_sound (B := two_B) (loops := []) (leaves := []) (fun p => two_S N p.1.1 p.1.2.1) (fun r => (((r.1, r.2.1, r.2.2, ()), ()), ())) two_rt (fun _ _ _ => rfl) (fun r z h => by cases h; rfl) Try.func78 (by kernel_rfl) (by kernel_rfl) (by kernel_rfl) rfl rfl (by kernel_rfl) (fun args w => Sem.pv_run _ _ _ (by kernel_rfl) w) (two_all N) mixed trivial (fun z E Xc hE hX hret => trivial) (fun p => two_eq N p.1.1 p.1.2.1)

def awake_S (N : Nat)  : Option Bool :=
 (two_S N 5 0).bind fun (x_1, y_2, y_3) =>
 (least_S N x_1 y_2 y_3 0 1).bind fun (x_4, y_5) =>
 (two_S N 5 0).bind fun (x_6, y_7, y_8) =>
 (count_S N x_6 y_7 y_8 0 1).bind fun (x_9, y_10) =>
 (two_S N 5 0).bind fun (x_11, y_12, y_13) =>
 (sure_S N x_11 y_12 y_13 0 1).bind fun (x_14, y_15) =>
 (two_S N 5 2).bind fun (x_16, y_17, y_18) =>
 (pairs_S N x_16 y_17 y_18).bind fun (x_19, y_20) =>
 br (!decide (y_5 = 0))
  (some false)
  (br (!decide (y_10 = 0))
   (some false)
   (br (!decide (y_15 = 0))
    (some false)
    (br (!decide (y_20 = 0))
     (some false)
     (br (!decide (x_4 = 0))
      (some false)
      (br (!decide (x_9 = 2))
       (some false)
       ((likes_S N x_14 [1, 2, 0, 0, 1]).bind fun x_21 =>
       br (!x_21)
        (some false)
        ((likep_S N x_19 [(0, 1)]).bind fun x_22 =>
        br (!x_22)
         (some false)
         ((two_S N 3 0).bind fun (x_23, y_24, y_25) =>
         (least_S N x_23 y_24 y_25 0 1).bind fun (x_26, y_27) =>
         (two_S N 5 0).bind fun (x_28, y_29, y_30) =>
         (dist_S N x_28 y_29 y_30 0 1).bind fun (x_31, y_32) =>
         (two_S N 5 0).bind fun (x_33, y_34, y_35) =>
         (commons_S N x_33 y_34 y_35 0 1).bind fun (x_36, y_37) =>
         (two_S N 5 2).bind fun (x_38, y_39, y_40) =>
         (conf_S N x_38 y_39 y_40).bind fun (x_41, y_42) =>
         br (decide (y_27 = 0))
          (br (decide (y_32 = 0))
           (br (decide (y_37 = 0))
            (br (decide (y_42 = 0))
             (br (decide (x_26 = 2))
              (br (decide (x_31 = 3))
               ((likei_S N x_36 [2]).bind fun x_43 =>
               br x_43
                ((likep_S N x_41 [(0, 1)]).bind fun x_44 =>
                some x_44)
                (some false))
               (some false))
              (some false))
             (some false))
            (some false))
           (some false))
          (some false)))))))))
noncomputable def awake_sp (N : Nat) : List Spec := [sp_dist N, sp_commons N, sp_conf N, sp_least N, sp_count N, sp_pairs N, sp_sure N, sp_likei N, sp_likes N, sp_likep N, sp_two N]
theorem awake_all (N : Nat) : AllP (SpecOK Try.prog) (awake_sp N) := ⟨sp_dist_ok N, sp_commons_ok N, sp_conf_ok N, sp_least_ok N, sp_count_ok N, sp_pairs_ok N, sp_sure_ok N, sp_likei_ok N, sp_likes_ok N, sp_likep_ok N, sp_two_ok N, trivial⟩
noncomputable def awake_c : Code := (Try.f26.body).getD .skip
noncomputable abbrev awake_B : Body := { c := awake_c, n := 124, res := [.tmp 0], outs := [⟨[.b], []⟩], m0 := 0 }
abbrev awake_rt : altD awake_B.outs → Option Bool := fun r => some r.1.1
abbrev awake_st : Sta := ⟨[], ⟨[], []⟩⟩
theorem awake_eq (N : Nat)  : ev (Z := Bool) Try.prog (awake_sp N) awake_B [] [] (some awake_rt) 400 false [.c [0], .c [1]] (stL awake_st ((), ())) (stH awake_st ((), ())) = awake_S N := by kernel_rfl
noncomputable def sp_awake (N : Nat) : Spec := { f := 26, ins := ⟨[], []⟩, outs := [⟨[.b], []⟩], run := fun p k => (awake_S N).bind fun r => k ((r, ()), ()) }
theorem sp_awake_ok (N : Nat) : SpecOK Try.prog (sp_awake N) := fn_sound (B := awake_B) (loops := []) (leaves := []) (fun p => awake_S N ) (fun r => ((r, ()), ())) awake_rt (fun _ _ _ => rfl) (fun r z h => by cases h; rfl) Try.func26 (by kernel_rfl) (by kernel_rfl) (by kernel_rfl) rfl rfl (by kernel_rfl) (fun args w => Sem.pv_run _ _ _ (by kernel_rfl) w) (awake_all N) mixed trivial (fun z E Xc hE hX hret => trivial) (fun p => awake_eq N )

def made_l2 (N : Nat) : Nat → Int → Int → Int → Int → Int → Int → Int → Qe → Int → Int → Int → Int → Qe → Qj → Option QB
 | 0, _, _, _, _, _, _, _, _, _, _, _, _, _, _ => none
 | n_ + 1, words, heard, many, u, u2, u3, u4, b, b2, b3, g, x, l, x2 =>
  br (decide (u4 < u3))
   ((stroke_S N many b b2 b3).bind fun (x_17, y_18, y_19, y_20) =>
   lim (l.length + [x_17].length) <|
   chk (u4 + 1) <|
   made_l2 N n_ words heard many u u2 u3 (u4 + 1) y_18 y_19 y_20 g x (l ++ [x_17]) x2)
   (some ((words, heard, many, u, u2, b, b2, b3, g, x, l, x2)))
def made_l1 (N : Nat) : Nat → Int → Int → Int → Int → Int → Qe → Int → Int → Int → Int → Qj → Option (Int × Int × List Int × Int × Int × Int × Int × List Qe)
 | 0, _, _, _, _, _, _, _, _, _, _, _ => none
 | n_ + 1, words, heard, many, u, u2, b, b2, b3, g, x, x2 =>
  br (decide (u2 < u))
   ((strike_S N 1 words b b2 b3).bind fun (x_13, y_14, y_15, y_16) =>
   (made_l2 N N words heard many u u2 x_13 0 y_14 y_15 y_16 g x [] x2).bind fun (words_21, heard_22, many_23, u_24, u2_25, b_26, b2_27, b3_28, g_29, x_30, l_31, x2_32) =>
   lim (x2_32.length + [l_31].length) <|
   chk (u2_25 + 1) <|
   made_l1 N n_ words_21 heard_22 many_23 u_24 (u2_25 + 1) b_26 b2_27 b3_28 g_29 x_30 (x2_32 ++ [l_31]))
   (some ((heard, many, b, b2, b3, g, x, x2)))
def made_j1 (N : Nat) (rec : Int → Int → Qe → Int → Int → Int → Int → Qe → Qe → Qj → Qe → Option Qq) (heard : Int) (many : Int) (b : List Int) (b2 : Int) (b3 : Int) (g : Int) (x : Int) (p : List Int) (q : List Int) (x2 : List Qe) (x3 : List Int) : Option Qq :=
 br (decide ((p.length : Int) = 0))
  ((seldom_S N 5 b b2 b3).bind fun (x_59, y_60, y_61, y_62) =>
  br (!x_59)
   (br (decide ((x3.length : Int) < heard))
    (idx q 0 fun x_63 =>
    lim (x3.length + [x_63].length) <|
    grd (decide ((0 : Int) ≤ 1 ∧ 1 ≤ (q.length : Int))) <|
    rec heard many y_60 y_61 y_62 g x p (q.drop 1) x2 (x3 ++ [x_63]))
    (grd (decide ((0 : Int) ≤ 1 ∧ 1 ≤ (q.length : Int))) <|
    rec heard many y_60 y_61 y_62 g x p (q.drop 1) x2 x3))
   (grd (decide ((0 : Int) ≤ 1 ∧ 1 ≤ (q.length : Int))) <|
   rec heard many y_60 y_61 y_62 g x p (q.drop 1) x2 x3))
  (br (decide (0 < (q.length : Int)))
   ((seldom_S N 2 b b2 b3).bind fun (x_64, y_65, y_66, y_67) =>
   br x_64
    ((seldom_S N 5 y_65 y_66 y_67).bind fun (x_68, y_69, y_70, y_71) =>
    br (!x_68)
     (br (decide ((x3.length : Int) < heard))
      (idx q 0 fun x_72 =>
      lim (x3.length + [x_72].length) <|
      grd (decide ((0 : Int) ≤ 1 ∧ 1 ≤ (q.length : Int))) <|
      rec heard many y_69 y_70 y_71 g x p (q.drop 1) x2 (x3 ++ [x_72]))
      (grd (decide ((0 : Int) ≤ 1 ∧ 1 ≤ (q.length : Int))) <|
      rec heard many y_69 y_70 y_71 g x p (q.drop 1) x2 x3))
     (grd (decide ((0 : Int) ≤ 1 ∧ 1 ≤ (q.length : Int))) <|
     rec heard many y_69 y_70 y_71 g x p (q.drop 1) x2 x3))
    ((seldom_S N 5 y_65 y_66 y_67).bind fun (x_73, y_74, y_75, y_76) =>
    br (!x_73)
     (br (decide ((x3.length : Int) < heard))
      (idx p 0 fun x_77 =>
      lim (x3.length + [x_77].length) <|
      grd (decide ((0 : Int) ≤ 1 ∧ 1 ≤ (p.length : Int))) <|
      rec heard many y_74 y_75 y_76 g x (p.drop 1) q x2 (x3 ++ [x_77]))
      (grd (decide ((0 : Int) ≤ 1 ∧ 1 ≤ (p.length : Int))) <|
      rec heard many y_74 y_75 y_76 g x (p.drop 1) q x2 x3))
     (grd (decide ((0 : Int) ≤ 1 ∧ 1 ≤ (p.length : Int))) <|
     rec heard many y_74 y_75 y_76 g x (p.drop 1) q x2 x3)))
   ((seldom_S N 5 b b2 b3).bind fun (x_78, y_79, y_80, y_81) =>
   br (!x_78)
    (br (decide ((x3.length : Int) < heard))
     (idx p 0 fun x_82 =>
     lim (x3.length + [x_82].length) <|
     grd (decide ((0 : Int) ≤ 1 ∧ 1 ≤ (p.length : Int))) <|
     rec heard many y_79 y_80 y_81 g x (p.drop 1) q x2 (x3 ++ [x_82]))
     (grd (decide ((0 : Int) ≤ 1 ∧ 1 ≤ (p.length : Int))) <|
     rec heard many y_79 y_80 y_81 g x (p.drop 1) q x2 x3))
    (grd (decide ((0 : Int) ≤ 1 ∧ 1 ≤ (p.length : Int))) <|
    rec heard many y_79 y_80 y_81 g x (p.drop 1) q x2 x3)))
def made_l3 (N : Nat) : Nat → Int → Int → Qe → Int → Int → Int → Int → Qe → Qe → Qj → Qe → Option Qq
 | 0, _, _, _, _, _, _, _, _, _, _, _ => none
 | n_ + 1, heard, many, b, b2, b3, g, x, p, q, x2, x3 =>
  chk ((p.length : Int) + (q.length : Int)) <|
  br (decide (0 < ((p.length : Int) + (q.length : Int))))
   (br (decide ((x3.length : Int) < heard))
    ((seldom_S N 8 b b2 b3).bind fun (x_51, y_52, y_53, y_54) =>
    br x_51
     ((stroke_S N many y_52 y_53 y_54).bind fun (x_55, y_56, y_57, y_58) =>
     lim (x3.length + [x_55].length) <|
     made_j1 N (made_l3 N n_) heard many y_56 y_57 y_58 g x p q x2 (x3 ++ [x_55]))
     (made_j1 N (made_l3 N n_) heard many y_52 y_53 y_54 g x p q x2 x3))
    (some ((b, b2, b3, g, x, x2, x3))))
   (some ((b, b2, b3, g, x, x2, x3)))
def made_S (N : Nat) (texts : Int) (words : Int) (heard : Int) (b : List Int) (b2 : Int) (b3 : Int) : Option (List Qe × List Int × Int × List Int × Int × Int) :=
 (stroke_S N 4 b b2 b3).bind fun (x_1, y_2, y_3, y_4) =>
 (strike_S N 1 4 y_2 y_3 y_4).bind fun (x_5, y_6, y_7, y_8) =>
 (strike_S N 1 texts y_6 y_7 y_8).bind fun (x_9, y_10, y_11, y_12) =>
 (made_l1 N N words heard x_5 x_9 0 y_10 y_11 y_12 0 x_1 []).bind fun (heard_33, many_34, b_35, b2_36, b3_37, g_38, x_39, x2_40) =>
 chk ((x2_40.length : Int) - 1) <|
 (stroke_S N ((x2_40.length : Int) - 1) b_35 b2_36 b3_37).bind fun (x_41, y_42, y_43, y_44) =>
 rng x_41 x2_40.length <|
 get x2_40 x_41.toNat fun x_45 =>
 chk ((x2_40.length : Int) - 1) <|
 (stroke_S N ((x2_40.length : Int) - 1) y_42 y_43 y_44).bind fun (x_46, y_47, y_48, y_49) =>
 rng x_46 x2_40.length <|
 get x2_40 x_46.toNat fun x_50 =>
 (made_l3 N N heard_33 many_34 y_47 y_48 y_49 g_38 x_39 x_45 x_50 x2_40 []).bind fun (g_83, g2_84, g3_85, g4_86, x_87, x2_88, x3_89) =>
 some (x2_88, x3_89, x_87, g_83, g2_84, g3_85)
noncomputable def made_sp (N : Nat) : List Spec := [sp_stroke N, sp_strike N, sp_seldom N]
theorem made_all (N : Nat) : AllP (SpecOK Try.prog) (made_sp N) := ⟨sp_stroke_ok N, sp_strike_ok N, sp_seldom_ok N, trivial⟩
noncomputable def made_c : Code := (Try.f15.body).getD .skip
noncomputable abbrev made_B : Body := { c := made_c, n := 126, res := [.cell 8 26], outs := [⟨[.agg [.sl Qf, .sl (.int .i64), .i .i64]], [.segs [.sl (.int .u8), .i .i64, .i .u32]]⟩], m0 := 1 }
abbrev made_rt : altD made_B.outs → Option (List Qe × List Int × Int × List Int × Int × Int) := fun r => some (r.1.1.1, r.1.1.2.1, r.1.1.2.2.1, r.2.1.1, r.2.1.2.1, r.2.1.2.2.1)
abbrev made_l2_at : List PI := [.c [1, 1, 1, 0, 1, 0, 0, 1, 1, 0, 0, 1, 0, 1, 0, 0, 0], .c [1, 1, 1, 0, 1, 0, 0, 1, 1, 0, 0, 1, 0, 1, 0, 0, 1], .l [1, 1, 1, 0, 1, 0, 0, 1, 1, 0, 0, 1, 0, 1, 0, 0], .b 2, .c [1, 1, 1, 0, 1, 0, 0, 1, 1, 0, 0, 1, 1], .b 1, .c [1, 1, 1, 0, 1, 0, 0, 1, 1, 1], .l [1, 1, 1, 0, 1, 0, 0], .b 0, .c [1, 1, 1, 1]]
abbrev made_l2_st : Sta := ⟨[0, 2, 3, 8, 9, 10, 11, 22, 23, 27, 28], ⟨[.own 0 0, .i .i64, .i .i64, .own 1 0, .own 2 0, .i .i64, .ols 3, .i .i64, .i .i64, .i .i64, .i .i64], [.segs [.sl (.int .u8), .i .i64, .i .u32], .segs [.nils, .nils, .i .i64], .segs [.ols 4, .nils, .i .i64], .lst (.int .i64), .lst Qf]⟩⟩
abbrev made_l2_h (rec : Int → Int → Int → Int → Int → Int → Int → Qe → Int → Int → Int → Int → Qe → Qj → Option QB) : Leaf QB := ⟨made_l2_at, made_l2_st, fun p => rec p.1.2.1 p.1.2.2.1 p.1.2.2.2.2.2.1 p.1.2.2.2.2.2.2.2.1 p.1.2.2.2.2.2.2.2.2.1 p.1.2.2.2.2.2.2.2.2.2.1 p.1.2.2.2.2.2.2.2.2.2.2.1 p.2.1.1 p.2.1.2.1 p.2.1.2.2.1 p.2.2.1.2.2.1 p.2.2.2.1.2.2.1 p.2.2.2.2.1 p.2.2.2.2.2.1⟩
abbrev made_l2_e0 : Leaf QB := ⟨[.c [1, 1, 1, 0, 1, 0, 0, 1, 1, 0, 0, 1, 1], .b 1, .c [1, 1, 1, 0, 1, 0, 0, 1, 1, 1], .l [1, 1, 1, 0, 1, 0, 0], .b 0, .c [1, 1, 1, 1]], ⟨[0, 2, 3, 8, 9, 10, 11, 22, 23], ⟨[.own 0 0, .i .i64, .i .i64, .own 1 0, .own 2 0, .i .i64, .ols 3, .i .i64, .i .i64], [.segs [.sl (.int .u8), .i .i64, .i .u32], .segs [.nils, .nils, .i .i64], .segs [.ols 4, .nils, .i .i64], .lst (.int .i64), .lst Qf]⟩⟩, fun p => some ((p.1.2.1, p.1.2.2.1, p.1.2.2.2.2.2.1, p.1.2.2.2.2.2.2.2.1, p.1.2.2.2.2.2.2.2.2.1, p.2.1.1, p.2.1.2.1, p.2.1.2.2.1, p.2.2.1.2.2.1, p.2.2.2.1.2.2.1, p.2.2.2.2.1, p.2.2.2.2.2.1))⟩
noncomputable def made_l2_L (N : Nat) : LoopS := { at_ := made_l2_at, sta := made_l2_st, exits := [([.c [1, 1, 1, 0, 1, 0, 0, 1, 1, 0, 0, 1, 1], .b 1, .c [1, 1, 1, 0, 1, 0, 0, 1, 1, 1], .l [1, 1, 1, 0, 1, 0, 0], .b 0, .c [1, 1, 1, 1]], ⟨[0, 2, 3, 8, 9, 10, 11, 22, 23], ⟨[.own 0 0, .i .i64, .i .i64, .own 1 0, .own 2 0, .i .i64, .ols 3, .i .i64, .i .i64], [.segs [.sl (.int .u8), .i .i64, .i .u32], .segs [.nils, .nils, .i .i64], .segs [.ols 4, .nils, .i .i64], .lst (.int .i64), .lst Qf]⟩⟩)], run := fun p k => (made_l2 N N p.1.2.1 p.1.2.2.1 p.1.2.2.2.2.2.1 p.1.2.2.2.2.2.2.2.1 p.1.2.2.2.2.2.2.2.2.1 p.1.2.2.2.2.2.2.2.2.2.1 p.1.2.2.2.2.2.2.2.2.2.2.1 p.2.1.1 p.2.1.2.1 p.2.1.2.2.1 p.2.2.1.2.2.1 p.2.2.2.1.2.2.1 p.2.2.2.2.1 p.2.2.2.2.2.1).bind fun e => k (.inl (((), e.1, e.2.1, (), (), e.2.2.1, (), e.2.2.2.1, e.2.2.2.2.1, ()), ((e.2.2.2.2.2.1, e.2.2.2.2.2.2.1, e.2.2.2.2.2.2.2.1, ()), ((), (), e.2.2.2.2.2.2.2.2.1, ()), ((), (), e.2.2.2.2.2.2.2.2.2.1, ()), e.2.2.2.2.2.2.2.2.2.2.1, e.2.2.2.2.2.2.2.2.2.2.2, ()))) }
theorem made_l2_eq (N n_ : Nat) (words : Int) (heard : Int) (many : Int) (u : Int) (u2 : Int) (u3 : Int) (u4 : Int) (b : List Int) (b2 : Int) (b3 : Int) (g : Int) (x : Int) (l : List Int) (x2 : List Qe) : ev (Z := Int × Int × Int × Int × Int × List Int × Int × Int × Int × Int × List Int × List Qe) Try.prog (made_sp N) made_B [] [made_l2_h (made_l2 N n_), made_l2_e0] none 400 true made_l2_at (stL made_l2_st (((), words, heard, (), (), many, (), u, u2, u3, u4, ()), ((b, b2, b3, ()), ((), (), g, ()), ((), (), x, ()), l, x2, ()))) (stH made_l2_st (((), words, heard, (), (), many, (), u, u2, u3, u4, ()), ((b, b2, b3, ()), ((), (), g, ()), ((), (), x, ()), l, x2, ()))) = made_l2 N (n_ + 1) words heard many u u2 u3 u4 b b2 b3 g x l x2 := by kernel_rfl
theorem made_l2_ok (N : Nat) {top : Bool} : LoopOK Try.prog made_B.c made_B.n made_B.m0 top (made_l2_L N) := loop_of_ev (Z := Int × Int × Int × Int × Int × List Int × Int × Int × Int × Int × List Int × List Qe) (N := N) (fun m p => made_l2 N m p.1.2.1 p.1.2.2.1 p.1.2.2.2.2.2.1 p.1.2.2.2.2.2.2.2.1 p.1.2.2.2.2.2.2.2.2.1 p.1.2.2.2.2.2.2.2.2.2.1 p.1.2.2.2.2.2.2.2.2.2.2.1 p.2.1.1 p.2.1.2.1 p.2.1.2.2.1 p.2.2.1.2.2.1 p.2.2.2.1.2.2.1 p.2.2.2.2.1 p.2.2.2.2.2.1) (fun e => .inl (((), e.1, e.2.1, (), (), e.2.2.1, (), e.2.2.2.1, e.2.2.2.2.1, ()), ((e.2.2.2.2.2.1, e.2.2.2.2.2.2.1, e.2.2.2.2.2.2.2.1, ()), ((), (), e.2.2.2.2.2.2.2.2.1, ()), ((), (), e.2.2.2.2.2.2.2.2.2.1, ()), e.2.2.2.2.2.2.2.2.2.2.1, e.2.2.2.2.2.2.2.2.2.2.2, ()))) (fun _ _ _ => rfl) (fun _ => rfl) (fun m z E Xc hE hX hrec hx => leaf_of_ev (B := made_B) (loops := []) (leaves := [made_l2_h (made_l2 N m), made_l2_e0]) (made_all N) mixed trivial hE hX ⟨hrec, (fun p hp => by obtain rfl := Option.some.inj hp; exact hx), trivial⟩ RetOK.no (fun p => made_l2_eq N m p.1.2.1 p.1.2.2.1 p.1.2.2.2.2.2.1 p.1.2.2.2.2.2.2.2.1 p.1.2.2.2.2.2.2.2.2.1 p.1.2.2.2.2.2.2.2.2.2.1 p.1.2.2.2.2.2.2.2.2.2.2.1 p.2.1.1 p.2.1.2.1 p.2.1.2.2.1 p.2.2.1.2.2.1 p.2.2.2.1.2.2.1 p.2.2.2.2.1 p.2.2.2.2.2.1))
abbrev made_l1_at : List PI := [.c [1, 1, 1, 0, 1, 0, 0, 0], .c [1, 1, 1, 0, 1, 0, 0, 1], .l [1, 1, 1, 0, 1, 0, 0], .b 0, .c [1, 1, 1, 1]]
abbrev made_l1_st : Sta := ⟨[0, 2, 3, 8, 9, 10, 22, 23], ⟨[.own 0 0, .i .i64, .i .i64, .own 1 0, .own 2 0, .i .i64, .i .i64, .i .i64], [.segs [.sl (.int .u8), .i .i64, .i .u32], .segs [.nils, .nils, .i .i64], .segs [.ols 3, .nils, .i .i64], .lst Qf]⟩⟩
abbrev made_l1_h (rec : Int → Int → Int → Int → Int → Qe → Int → Int → Int → Int → Qj → Option (Int × Int × List Int × Int × Int × Int × Int × List Qe)) : Leaf (Int × Int × List Int × Int × Int × Int × Int × List Qe) := ⟨made_l1_at, made_l1_st, fun p => rec p.1.2.1 p.1.2.2.1 p.1.2.2.2.2.2.1 p.1.2.2.2.2.2.2.1 p.1.2.2.2.2.2.2.2.1 p.2.1.1 p.2.1.2.1 p.2.1.2.2.1 p.2.2.1.2.2.1 p.2.2.2.1.2.2.1 p.2.2.2.2.1⟩
abbrev made_l1_e0 : Leaf (Int × Int × List Int × Int × Int × Int × Int × List Qe) := ⟨[.c [1, 1, 1, 1, 0], .c [1, 1, 1, 1, 1]], ⟨[0, 3, 8, 9, 10], ⟨[.own 0 0, .i .i64, .own 1 0, .own 2 0, .i .i64], [.segs [.sl (.int .u8), .i .i64, .i .u32], .segs [.nils, .nils, .i .i64], .segs [.ols 3, .nils, .i .i64], .lst Qf]⟩⟩, fun p => some ((p.1.2.1, p.1.2.2.2.2.1, p.2.1.1, p.2.1.2.1, p.2.1.2.2.1, p.2.2.1.2.2.1, p.2.2.2.1.2.2.1, p.2.2.2.2.1))⟩
noncomputable def made_l1_L (N : Nat) : LoopS := { at_ := made_l1_at, sta := made_l1_st, exits := [([.c [1, 1, 1, 1, 0], .c [1, 1, 1, 1, 1]], ⟨[0, 3, 8, 9, 10], ⟨[.own 0 0, .i .i64, .own 1 0, .own 2 0, .i .i64], [.segs [.sl (.int .u8), .i .i64, .i .u32], .segs [.nils, .nils, .i .i64], .segs [.ols 3, .nils, .i .i64], .lst Qf]⟩⟩)], run := fun p k => (made_l1 N N p.1.2.1 p.1.2.2.1 p.1.2.2.2.2.2.1 p.1.2.2.2.2.2.2.1 p.1.2.2.2.2.2.2.2.1 p.2.1.1 p.2.1.2.1 p.2.1.2.2.1 p.2.2.1.2.2.1 p.2.2.2.1.2.2.1 p.2.2.2.2.1).bind fun e => k (.inl (((), e.1, (), (), e.2.1, ()), ((e.2.2.1, e.2.2.2.1, e.2.2.2.2.1, ()), ((), (), e.2.2.2.2.2.1, ()), ((), (), e.2.2.2.2.2.2.1, ()), e.2.2.2.2.2.2.2, ()))) }
theorem made_l1_eq (N n_ : Nat) (words : Int) (heard : Int) (many : Int) (u : Int) (u2 : Int) (b : List Int) (b2 : Int) (b3 : Int) (g : Int) (x : Int) (x2 : List Qe) : ev (Z := Int × Int × List Int × Int × Int × Int × Int × List Qe) Try.prog (made_sp N) made_B [made_l2_L N] [made_l1_h (made_l1 N n_), made_l1_e0] none 400 true made_l1_at (stL made_l1_st (((), words, heard, (), (), many, u, u2, ()), ((b, b2, b3, ()), ((), (), g, ()), ((), (), x, ()), x2, ()))) (stH made_l1_st (((), words, heard, (), (), many, u, u2, ()), ((b, b2, b3, ()), ((), (), g, ()), ((), (), x, ()), x2, ()))) = made_l1 N (n_ + 1) words heard many u u2 b b2 b3 g x x2 := by kernel_rfl
theorem made_l1_ok (N : Nat) {top : Bool} : LoopOK Try.prog made_B.c made_B.n made_B.m0 top (made_l1_L N) := loop_of_ev (Z := Int × Int × List Int × Int × Int × Int × Int × List Qe) (N := N) (fun m p => made_l1 N m p.1.2.1 p.1.2.2.1 p.1.2.2.2.2.2.1 p.1.2.2.2.2.2.2.1 p.1.2.2.2.2.2.2.2.1 p.2.1.1 p.2.1.2.1 p.2.1.2.2.1 p.2.2.1.2.2.1 p.2.2.2.1.2.2.1 p.2.2.2.2.1) (fun e => .inl (((), e.1, (), (), e.2.1, ()), ((e.2.2.1, e.2.2.2.1, e.2.2.2.2.1, ()), ((), (), e.2.2.2.2.2.1, ()), ((), (), e.2.2.2.2.2.2.1, ()), e.2.2.2.2.2.2.2, ()))) (fun _ _ _ => rfl) (fun _ => rfl) (fun m z E Xc hE hX hrec hx => leaf_of_ev (B := made_B) (loops := [made_l2_L N]) (leaves := [made_l1_h (made_l1 N m), made_l1_e0]) (made_all N) mixed ⟨made_l2_ok N, trivial⟩ hE hX ⟨hrec, (fun p hp => by obtain rfl := Option.some.inj hp; exact hx), trivial⟩ RetOK.no (fun p => made_l1_eq N m p.1.2.1 p.1.2.2.1 p.1.2.2.2.2.2.1 p.1.2.2.2.2.2.2.1 p.1.2.2.2.2.2.2.2.1 p.2.1.1 p.2.1.2.1 p.2.1.2.2.1 p.2.2.1.2.2.1 p.2.2.2.1.2.2.1 p.2.2.2.2.1))
abbrev made_l3_at : List PI := [.c [1, 1, 1, 1, 1, 0, 0, 0, 0, 0], .c [1, 1, 1, 1, 1, 0, 0, 0, 0, 1], .c [1, 1, 1, 1, 1, 0, 0, 0, 1], .l [1, 1, 1, 1, 1, 0, 0, 0], .b 4, .c [1, 1, 1, 1, 1, 1]]
abbrev made_l3_st : Sta := ⟨[0, 3, 8, 9, 10, 12, 13], ⟨[.own 0 0, .i .i64, .own 1 0, .own 2 0, .i .i64, .own 3 0, .own 4 0], [.segs [.sl (.int .u8), .i .i64, .i .u32], .segs [.nils, .nils, .i .i64], .segs [.ols 5, .ols 6, .i .i64], .segs [.sl (.int .i64)], .segs [.sl (.int .i64)], .lst Qf, .lst (.int .i64)]⟩⟩
abbrev made_l3_h (rec : Int → Int → Qe → Int → Int → Int → Int → Qe → Qe → Qj → Qe → Option Qq) : Leaf Qq := ⟨made_l3_at, made_l3_st, fun p => rec p.1.2.1 p.1.2.2.2.2.1 p.2.1.1 p.2.1.2.1 p.2.1.2.2.1 p.2.2.1.2.2.1 p.2.2.2.1.2.2.1 p.2.2.2.2.1.1 p.2.2.2.2.2.1.1 p.2.2.2.2.2.2.1 p.2.2.2.2.2.2.2.1⟩
abbrev made_l3_e0 : Leaf Qq := ⟨[.c [1, 1, 1, 1, 1, 1, 0], .c [1, 1, 1, 1, 1, 1, 1]], ⟨[8, 9], ⟨[.own 1 0, .own 2 0], [.segs [.sl (.int .u8), .i .i64, .i .u32], .segs [.nils, .nils, .i .i64], .segs [.ols 3, .ols 4, .i .i64], .lst Qf, .lst (.int .i64)]⟩⟩, fun p => some ((p.2.1.1, p.2.1.2.1, p.2.1.2.2.1, p.2.2.1.2.2.1, p.2.2.2.1.2.2.1, p.2.2.2.2.1, p.2.2.2.2.2.1))⟩
abbrev made_j1_at : List PI := [.c [1, 1, 1, 1, 1, 0, 0, 0, 1, 0, 1, 0], .c [1, 1, 1, 1, 1, 0, 0, 0, 1, 0, 1, 1], .b 5, .l [1, 1, 1, 1, 1, 0, 0, 0], .b 4, .c [1, 1, 1, 1, 1, 1]]
abbrev made_j1_st : Sta := ⟨[0, 3, 8, 9, 10, 12, 13], ⟨[.own 0 0, .i .i64, .own 1 0, .own 2 0, .i .i64, .own 3 0, .own 4 0], [.segs [.sl (.int .u8), .i .i64, .i .u32], .segs [.nils, .nils, .i .i64], .segs [.ols 5, .ols 6, .i .i64], .segs [.sl (.int .i64)], .segs [.sl (.int .i64)], .lst Qf, .lst (.int .i64)]⟩⟩
abbrev made_j1_k (N : Nat) (rec : Int → Int → Qe → Int → Int → Int → Int → Qe → Qe → Qj → Qe → Option Qq) : Leaf Qq := ⟨made_j1_at, made_j1_st, fun p => made_j1 N rec p.1.2.1 p.1.2.2.2.2.1 p.2.1.1 p.2.1.2.1 p.2.1.2.2.1 p.2.2.1.2.2.1 p.2.2.2.1.2.2.1 p.2.2.2.2.1.1 p.2.2.2.2.2.1.1 p.2.2.2.2.2.2.1 p.2.2.2.2.2.2.2.1⟩
theorem made_j1_eq (N : Nat) (rec : Int → Int → Qe → Int → Int → Int → Int → Qe → Qe → Qj → Qe → Option Qq) (heard : Int) (many : Int) (b : List Int) (b2 : Int) (b3 : Int) (g : Int) (x : Int) (p : List Int) (q : List Int) (x2 : List Qe) (x3 : List Int) : ev (Z := List Int × Int × Int × Int × Int × List Qe × List Int) Try.prog (made_sp N) made_B [made_l2_L N, made_l1_L N] [made_l3_h rec, made_l3_e0] none 400 true made_j1_at (stL made_j1_st (((), heard, (), (), many, (), (), ()), ((b, b2, b3, ()), ((), (), g, ()), ((), (), x, ()), (p, ()), (q, ()), x2, x3, ()))) (stH made_j1_st (((), heard, (), (), many, (), (), ()), ((b, b2, b3, ()), ((), (), g, ()), ((), (), x, ()), (p, ()), (q, ()), x2, x3, ()))) = made_j1 N rec heard many b b2 b3 g x p q x2 x3 := by kernel_rfl
theorem made_j1_lf (N : Nat) (rec : Int → Int → Qe → Int → Int → Int → Int → Qe → Qe → Qj → Qe → Option Qq) {z : List Int × Int × Int × Int × Int × List Qe × List Int} {top : Bool} {E : EE} {Xc : Ctx} (hE : EOK made_B.m0 E) (hX : CxOK top Xc) (hrec : LeafOK Try.prog made_B.c made_B.n made_B.m0 E Xc z (made_l3_h rec)) (h0 : LeafOK Try.prog made_B.c made_B.n made_B.m0 E Xc z made_l3_e0) : LeafOK Try.prog made_B.c made_B.n made_B.m0 E Xc z (made_j1_k N rec) := leaf_of_ev (B := made_B) (loops := [made_l2_L N, made_l1_L N]) (leaves := [made_l3_h rec, made_l3_e0]) (made_all N) mixed ⟨made_l2_ok N, made_l1_ok N, trivial⟩ hE hX ⟨hrec, h0, trivial⟩ RetOK.no (fun p => made_j1_eq N rec p.1.2.1 p.1.2.2.2.2.1 p.2.1.1 p.2.1.2.1 p.2.1.2.2.1 p.2.2.1.2.2.1 p.2.2.2.1.2.2.1 p.2.2.2.2.1.1 p.2.2.2.2.2.1.1 p.2.2.2.2.2.2.1 p.2.2.2.2.2.2.2.1)
noncomputable def made_l3_L (N : Nat) : LoopS := { at_ := made_l3_at, sta := made_l3_st, exits := [([.c [1, 1, 1, 1, 1, 1, 0], .c [1, 1, 1, 1, 1, 1, 1]], ⟨[8, 9], ⟨[.own 1 0, .own 2 0], [.segs [.sl (.int .u8), .i .i64, .i .u32], .segs [.nils, .nils, .i .i64], .segs [.ols 3, .ols 4, .i .i64], .lst Qf, .lst (.int .i64)]⟩⟩)], run := fun p k => (made_l3 N N p.1.2.1 p.1.2.2.2.2.1 p.2.1.1 p.2.1.2.1 p.2.1.2.2.1 p.2.2.1.2.2.1 p.2.2.2.1.2.2.1 p.2.2.2.2.1.1 p.2.2.2.2.2.1.1 p.2.2.2.2.2.2.1 p.2.2.2.2.2.2.2.1).bind fun e => k (.inl (((), (), ()), ((e.1, e.2.1, e.2.2.1, ()), ((), (), e.2.2.2.1, ()), ((), (), e.2.2.2.2.1, ()), e.2.2.2.2.2.1, e.2.2.2.2.2.2, ()))) }
theorem made_l3_eq (N n_ : Nat) (heard : Int) (many : Int) (b : List Int) (b2 : Int) (b3 : Int) (g : Int) (x : Int) (p : List Int) (q : List Int) (x2 : List Qe) (x3 : List Int) : ev (Z := List Int × Int × Int × Int × Int × List Qe × List Int) Try.prog (made_sp N) made_B [made_l2_L N, made_l1_L N] [made_l3_h (made_l3 N n_), made_l3_e0, made_j1_k N (made_l3 N n_)] none 400 true made_l3_at (stL made_l3_st (((), heard, (), (), many, (), (), ()), ((b, b2, b3, ()), ((), (), g, ()), ((), (), x, ()), (p, ()), (q, ()), x2, x3, ()))) (stH made_l3_st (((), heard, (), (), many, (), (), ()), ((b, b2, b3, ()), ((), (), g, ()), ((), (), x, ()), (p, ()), (q, ()), x2, x3, ()))) = made_l3 N (n_ + 1) heard many b b2 b3 g x p q x2 x3 := by kernel_rfl
theorem made_l3_ok (N : Nat) {top : Bool} : LoopOK Try.prog made_B.c made_B.n made_B.m0 top (made_l3_L N) := loop_of_ev (Z := List Int × Int × Int × Int × Int × List Qe × List Int) (N := N) (fun m p => made_l3 N m p.1.2.1 p.1.2.2.2.2.1 p.2.1.1 p.2.1.2.1 p.2.1.2.2.1 p.2.2.1.2.2.1 p.2.2.2.1.2.2.1 p.2.2.2.2.1.1 p.2.2.2.2.2.1.1 p.2.2.2.2.2.2.1 p.2.2.2.2.2.2.2.1) (fun e => .inl (((), (), ()), ((e.1, e.2.1, e.2.2.1, ()), ((), (), e.2.2.2.1, ()), ((), (), e.2.2.2.2.1, ()), e.2.2.2.2.2.1, e.2.2.2.2.2.2, ()))) (fun _ _ _ => rfl) (fun _ => rfl) (fun m z E Xc hE hX hrec hx => leaf_of_ev (B := made_B) (loops := [made_l2_L N, made_l1_L N]) (leaves := [made_l3_h (made_l3 N m), made_l3_e0, made_j1_k N (made_l3 N m)]) (made_all N) mixed ⟨made_l2_ok N, made_l1_ok N, trivial⟩ hE hX ⟨hrec, (fun p hp => by obtain rfl := Option.some.inj hp; exact hx), made_j1_lf N _ hE hX hrec (fun p hp => by obtain rfl := Option.some.inj hp; exact hx), trivial⟩ RetOK.no (fun p => made_l3_eq N m p.1.2.1 p.1.2.2.2.2.1 p.2.1.1 p.2.1.2.1 p.2.1.2.2.1 p.2.2.1.2.2.1 p.2.2.2.1.2.2.1 p.2.2.2.2.1.1 p.2.2.2.2.2.1.1 p.2.2.2.2.2.2.1 p.2.2.2.2.2.2.2.1))
abbrev made_st : Sta := ⟨[0, 1, 2, 3], ⟨[.own 0 0, .i .i64, .i .i64, .i .i64], [.segs [.sl (.int .u8), .i .i64, .i .u32]]⟩⟩
theorem made_eq (N : Nat) (texts : Int) (words : Int) (heard : Int) (b : List Int) (b2 : Int) (b3 : Int) : ev (Z := List Qe × List Int × Int × List Int × Int × Int) Try.prog (made_sp N) made_B [made_l2_L N, made_l1_L N, made_l3_L N] [] (some made_rt) 400 false [.c [0], .c [1]] (stL made_st (((), texts, words, heard, ()), ((b, b2, b3, ()), ()))) (stH made_st (((), texts, words, heard, ()), ((b, b2, b3, ()), ()))) = made_S N texts words heard b b2 b3 := by kernel_rfl
noncomputable def sp_made (N : Nat) : Spec := { f := 15, ins := ⟨[.own 0 0, .i .i64, .i .i64, .i .i64], [.segs [.sl (.int .u8), .i .i64, .i .u32]]⟩, outs := [⟨[.agg [.sl Qf, .sl (.int .i64), .i .i64]], [.segs [.sl (.int .u8), .i .i64, .i .u32]]⟩], run := fun p k => (made_S N p.1.2.1 p.1.2.2.1 p.1.2.2.2.1 p.2.1.1 p.2.1.2.1 p.2.1.2.2.1).bind fun r => k (((r.1, r.2.1, r.2.2.1, ()), ()), ((r.2.2.2.1, r.2.2.2.2.1, r.2.2.2.2.2, ()), ())) }
theorem sp_made_ok (N : Nat) : SpecOK Try.prog (sp_made N) := fn_sound (B := made_B) (loops := [made_l2_L N, made_l1_L N, made_l3_L N]) (leaves := []) (fun p => made_S N p.1.2.1 p.1.2.2.1 p.1.2.2.2.1 p.2.1.1 p.2.1.2.1 p.2.1.2.2.1) (fun r => (((r.1, r.2.1, r.2.2.1, ()), ()), ((r.2.2.2.1, r.2.2.2.2.1, r.2.2.2.2.2, ()), ()))) made_rt (fun _ _ _ => rfl) (fun r z h => by cases h; rfl) Try.func15 (by kernel_rfl) (by kernel_rfl) (by kernel_rfl) rfl rfl (by kernel_rfl) (fun args w => Sem.pv_run _ _ _ (by kernel_rfl) w) (made_all N) mixed ⟨made_l2_ok N, made_l1_ok N, made_l3_ok N, trivial⟩ (fun z E Xc hE hX hret => trivial) (fun p => made_eq N p.1.2.1 p.1.2.2.1 p.1.2.2.2.1 p.2.1.1 p.2.1.2.1 p.2.1.2.2.1)

def lpairs_l2 (N : Nat) : Nat → Int → Int → Int → Int → Qj → Qe → Int → Qi → Option Qm
 | 0, _, _, _, _, _, _, _, _ => none
 | n_ + 1, a, b, u, u2, x, x2, x3, out =>
  br (decide (b < (x.length : Int)))
   (lim (out.length + [(a, b)].length) <|
   chk (b + 1) <|
   lpairs_l2 N n_ a (b + 1) u u2 x x2 x3 (out ++ [(a, b)]))
   (some ((u, u2, x, x2, x3, out)))
def lpairs_l1 (N : Nat) : Nat → Int → Int → Qj → Qe → Int → Qi → Option Qi
 | 0, _, _, _, _, _, _ => none
 | n_ + 1, u, u2, x, x2, x3, out =>
  br (decide (u2 < u))
   ((lpairs_l2 N N u2 u2 u u2 x x2 x3 out).bind fun (u_1, u2_2, x_3, x2_4, x3_5, out_6) =>
   chk (u2_2 + 1) <|
   lpairs_l1 N n_ u_1 (u2_2 + 1) x_3 x2_4 x3_5 out_6)
   (some (out))
def lpairs_S (N : Nat) (x : List Qe) (x2 : List Int) (x3 : Int) : Option Qi :=
 (lpairs_l1 N N (x.length : Int) 0 x x2 x3 []).bind fun out_7 =>
 some out_7
noncomputable def lpairs_sp (N : Nat) : List Spec := []
theorem lpairs_all (N : Nat) : AllP (SpecOK Try.prog) (lpairs_sp N) := trivial
noncomputable def lpairs_c : Code := (Try.f31.body).getD .skip
noncomputable abbrev lpairs_B : Body := { c := lpairs_c, n := 28, res := [.tmp 2], outs := [⟨[.sl Qd], []⟩], m0 := 0 }
abbrev lpairs_rt : altD lpairs_B.outs → Option Qi := fun r => some r.1.1
abbrev lpairs_l2_at : List PI := [.c [1, 1, 0, 1, 0, 0, 1, 1, 0, 0, 1, 1, 0, 0, 0, 0], .c [1, 1, 0, 1, 0, 0, 1, 1, 0, 0, 1, 1, 0, 0, 0, 1], .c [1, 1, 0, 1, 0, 0, 1, 1, 0, 0, 1, 1, 0, 0, 1], .l [1, 1, 0, 1, 0, 0, 1, 1, 0, 0, 1, 1, 0, 0], .b 2, .b 1, .c [1, 1, 0, 1, 0, 0, 1, 1, 1], .l [1, 1, 0, 1, 0, 0], .b 0, .c [1, 1, 1]]
abbrev lpairs_l2_st : Sta := ⟨[1, 3, 4, 5, 8, 9], ⟨[.own 0 0, .ols 1, .i .i64, .i .i64, .i .i64, .i .i64], [.segs [.sl Qf, .sl (.int .i64), .i .i64], .lst Qd]⟩⟩
abbrev lpairs_l2_h (rec : Int → Int → Int → Int → Qj → Qe → Int → Qi → Option Qm) : Leaf Qm := ⟨lpairs_l2_at, lpairs_l2_st, fun p => rec p.1.2.2.1 p.1.2.2.2.1 p.1.2.2.2.2.1 p.1.2.2.2.2.2.1 p.2.1.1 p.2.1.2.1 p.2.1.2.2.1 p.2.2.1⟩
abbrev lpairs_l2_e0 : Leaf Qm := ⟨[.c [1, 1, 0, 1, 0, 0, 1, 1, 1], .l [1, 1, 0, 1, 0, 0], .b 0, .c [1, 1, 1]], ⟨[1, 3, 8, 9], ⟨[.own 0 0, .ols 1, .i .i64, .i .i64], [.segs [.sl Qf, .sl (.int .i64), .i .i64], .lst Qd]⟩⟩, fun p => some ((p.1.2.2.1, p.1.2.2.2.1, p.2.1.1, p.2.1.2.1, p.2.1.2.2.1, p.2.2.1))⟩
noncomputable def lpairs_l2_L (N : Nat) : LoopS := { at_ := lpairs_l2_at, sta := lpairs_l2_st, exits := [([.c [1, 1, 0, 1, 0, 0, 1, 1, 1], .l [1, 1, 0, 1, 0, 0], .b 0, .c [1, 1, 1]], ⟨[1, 3, 8, 9], ⟨[.own 0 0, .ols 1, .i .i64, .i .i64], [.segs [.sl Qf, .sl (.int .i64), .i .i64], .lst Qd]⟩⟩)], run := fun p k => (lpairs_l2 N N p.1.2.2.1 p.1.2.2.2.1 p.1.2.2.2.2.1 p.1.2.2.2.2.2.1 p.2.1.1 p.2.1.2.1 p.2.1.2.2.1 p.2.2.1).bind fun e => k (.inl (((), (), e.1, e.2.1, ()), ((e.2.2.1, e.2.2.2.1, e.2.2.2.2.1, ()), e.2.2.2.2.2, ()))) }
theorem lpairs_l2_eq (N n_ : Nat) (a : Int) (b : Int) (u : Int) (u2 : Int) (x : List Qe) (x2 : List Int) (x3 : Int) (out : List Qc) : ev (Z := Int × Int × List Qe × List Int × Int × Qi) Try.prog (lpairs_sp N) lpairs_B [] [lpairs_l2_h (lpairs_l2 N n_), lpairs_l2_e0] none 400 true lpairs_l2_at (stL lpairs_l2_st (((), (), a, b, u, u2, ()), ((x, x2, x3, ()), out, ()))) (stH lpairs_l2_st (((), (), a, b, u, u2, ()), ((x, x2, x3, ()), out, ()))) = lpairs_l2 N (n_ + 1) a b u u2 x x2 x3 out := by kernel_rfl
theorem lpairs_l2_ok (N : Nat) {top : Bool} : LoopOK Try.prog lpairs_B.c lpairs_B.n lpairs_B.m0 top (lpairs_l2_L N) := loop_of_ev (Z := Int × Int × List Qe × List Int × Int × Qi) (N := N) (fun m p => lpairs_l2 N m p.1.2.2.1 p.1.2.2.2.1 p.1.2.2.2.2.1 p.1.2.2.2.2.2.1 p.2.1.1 p.2.1.2.1 p.2.1.2.2.1 p.2.2.1) (fun e => .inl (((), (), e.1, e.2.1, ()), ((e.2.2.1, e.2.2.2.1, e.2.2.2.2.1, ()), e.2.2.2.2.2, ()))) (fun _ _ _ => rfl) (fun _ => rfl) (fun m z E Xc hE hX hrec hx => leaf_of_ev (B := lpairs_B) (loops := []) (leaves := [lpairs_l2_h (lpairs_l2 N m), lpairs_l2_e0]) (lpairs_all N) mixed trivial hE hX ⟨hrec, (fun p hp => by obtain rfl := Option.some.inj hp; exact hx), trivial⟩ RetOK.no (fun p => lpairs_l2_eq N m p.1.2.2.1 p.1.2.2.2.1 p.1.2.2.2.2.1 p.1.2.2.2.2.2.1 p.2.1.1 p.2.1.2.1 p.2.1.2.2.1 p.2.2.1))
abbrev lpairs_l1_at : List PI := [.c [1, 1, 0, 1, 0, 0, 0], .c [1, 1, 0, 1, 0, 0, 1], .l [1, 1, 0, 1, 0, 0], .b 0, .c [1, 1, 1]]
abbrev lpairs_l1_st : Sta := ⟨[1, 3, 8, 9], ⟨[.own 0 0, .ols 1, .i .i64, .i .i64], [.segs [.sl Qf, .sl (.int .i64), .i .i64], .lst Qd]⟩⟩
abbrev lpairs_l1_h (rec : Int → Int → Qj → Qe → Int → Qi → Option Qi) : Leaf Qi := ⟨lpairs_l1_at, lpairs_l1_st, fun p => rec p.1.2.2.1 p.1.2.2.2.1 p.2.1.1 p.2.1.2.1 p.2.1.2.2.1 p.2.2.1⟩
abbrev lpairs_l1_e0 : Leaf Qi := ⟨[.c [1, 1, 1, 0], .c [1, 1, 1, 1]], ⟨[3], ⟨[.ols 0], [.lst Qd]⟩⟩, fun p => some (p.2.1)⟩
noncomputable def lpairs_l1_L (N : Nat) : LoopS := { at_ := lpairs_l1_at, sta := lpairs_l1_st, exits := [([.c [1, 1, 1, 0], .c [1, 1, 1, 1]], ⟨[3], ⟨[.ols 0], [.lst Qd]⟩⟩)], run := fun p k => (lpairs_l1 N N p.1.2.2.1 p.1.2.2.2.1 p.2.1.1 p.2.1.2.1 p.2.1.2.2.1 p.2.2.1).bind fun e => k (.inl (((), ()), (e, ()))) }
theorem lpairs_l1_eq (N n_ : Nat) (u : Int) (u2 : Int) (x : List Qe) (x2 : List Int) (x3 : Int) (out : List Qc) : ev (Z := Qi) Try.prog (lpairs_sp N) lpairs_B [lpairs_l2_L N] [lpairs_l1_h (lpairs_l1 N n_), lpairs_l1_e0] none 400 true lpairs_l1_at (stL lpairs_l1_st (((), (), u, u2, ()), ((x, x2, x3, ()), out, ()))) (stH lpairs_l1_st (((), (), u, u2, ()), ((x, x2, x3, ()), out, ()))) = lpairs_l1 N (n_ + 1) u u2 x x2 x3 out := by kernel_rfl
theorem lpairs_l1_ok (N : Nat) {top : Bool} : LoopOK Try.prog lpairs_B.c lpairs_B.n lpairs_B.m0 top (lpairs_l1_L N) := loop_of_ev (Z := Qi) (N := N) (fun m p => lpairs_l1 N m p.1.2.2.1 p.1.2.2.2.1 p.2.1.1 p.2.1.2.1 p.2.1.2.2.1 p.2.2.1) (fun e => .inl (((), ()), (e, ()))) (fun _ _ _ => rfl) (fun _ => rfl) (fun m z E Xc hE hX hrec hx => leaf_of_ev (B := lpairs_B) (loops := [lpairs_l2_L N]) (leaves := [lpairs_l1_h (lpairs_l1 N m), lpairs_l1_e0]) (lpairs_all N) mixed ⟨lpairs_l2_ok N, trivial⟩ hE hX ⟨hrec, (fun p hp => by obtain rfl := Option.some.inj hp; exact hx), trivial⟩ RetOK.no (fun p => lpairs_l1_eq N m p.1.2.2.1 p.1.2.2.2.1 p.2.1.1 p.2.1.2.1 p.2.1.2.2.1 p.2.2.1))
abbrev lpairs_st : Sta := ⟨[0], ⟨[.agg [.sl Qf, .sl (.int .i64), .i .i64]], []⟩⟩
theorem lpairs_eq (N : Nat) (x : List Qe) (x2 : List Int) (x3 : Int) : ev (Z := Qi) Try.prog (lpairs_sp N) lpairs_B [lpairs_l2_L N, lpairs_l1_L N] [] (some lpairs_rt) 400 false [.c [0], .c [1]] (stL lpairs_st (((x, x2, x3, ()), ()), ())) (stH lpairs_st (((x, x2, x3, ()), ()), ())) = lpairs_S N x x2 x3 := by kernel_rfl
noncomputable def sp_lpairs (N : Nat) : Spec := { f := 31, ins := ⟨[.agg [.sl Qf, .sl (.int .i64), .i .i64]], []⟩, outs := [⟨[.sl Qd], []⟩], run := fun p k => (lpairs_S N p.1.1.1 p.1.1.2.1 p.1.1.2.2.1).bind fun r => k ((r, ()), ()) }
theorem sp_lpairs_ok (N : Nat) : SpecOK Try.prog (sp_lpairs N) := fn_sound (B := lpairs_B) (loops := [lpairs_l2_L N, lpairs_l1_L N]) (leaves := []) (fun p => lpairs_S N p.1.1.1 p.1.1.2.1 p.1.1.2.2.1) (fun r => ((r, ()), ())) lpairs_rt (fun _ _ _ => rfl) (fun r z h => by cases h; rfl) Try.func31 (by kernel_rfl) (by kernel_rfl) (by kernel_rfl) rfl rfl (by kernel_rfl) (fun args w => Sem.pv_run _ _ _ (by kernel_rfl) w) (lpairs_all N) mixed ⟨lpairs_l2_ok N, lpairs_l1_ok N, trivial⟩ (fun z E Xc hE hX hret => trivial) (fun p => lpairs_eq N p.1.1.1 p.1.1.2.1 p.1.1.2.2.1)

end Go.Proofs.Ytfcnhnbnjdccfaa

namespace Go.Proofs.Ytfcnhnbnjdccfaa
set_option linter.all false
open Go

/-- A run ends well, with a result of which Q speaks. -/
def Ok {α : Type} (o : Option α) (Q : α → Prop) : Prop := ∃ x, o = some x ∧ Q x
section
variable {α β Z : Type} {Q : Z → Prop} {x y : Option Z}
theorem Ok.some {z : Z} (h : Q z) : Ok (some z) Q := ⟨z, rfl, h⟩
theorem Ok.bind {o : Option α} {P : α → Prop} {f : α → Option Z} (h : Ok o P) (k : ∀ a, P a → Ok (f a) Q) : Ok (o.bind f) Q := by
 obtain ⟨a, rfl, ha⟩ := h
 exact k a ha
theorem Ok.eqb {o : Option α} {a : α} {f : α → Option Z} (h : o = Option.some a) (k : Ok (f a) Q) : Ok (o.bind f) Q := by subst h; exact k
theorem Ok.mono {P : Z → Prop} (h : Ok x P) (k : ∀ a, P a → Q a) : Ok x Q := let ⟨a, e, p⟩ := h; ⟨a, e, k a p⟩
theorem Ok.br {c : Bool} (h1 : c = true → Ok x Q) (h2 : c = false → Ok y Q) : Ok (br c x y) Q := by
 cases c
 ·exact h2 rfl
 ·exact h1 rfl
theorem Ok.brd {p : Prop} [Decidable p] (h1 : p → Ok x Q) (h2 : ¬ p → Ok y Q) : Ok (Proofs.Ytfcnhnbnjdccfaa.br (decide p) x y) Q := by
 by_cases h : p
 ·simpa [h, Proofs.Ytfcnhnbnjdccfaa.br] using h1 h
 ·simpa [h, Proofs.Ytfcnhnbnjdccfaa.br] using h2 h
theorem chk_eq {n : Int} (hn : -9223372036854775808 ≤ n ∧ n ≤ 9223372036854775807) : chk n x = x := by unfold chk; rw [okI_iff.2 hn]
theorem Ok.chk {n : Int} (hn : -9223372036854775808 ≤ n ∧ n ≤ 9223372036854775807) (h : Ok x Q) : Ok (chk n x) Q := by rw [chk_eq hn]; exact h
theorem grd_eq {c : Bool} (hc : c = true) : grd c x = x := by subst hc; rfl
theorem Ok.grd {c : Bool} (hc : c = true) (h : Ok x Q) : Ok (grd c x) Q := by subst hc; exact h
theorem rng_eq {i : Int} {n : Nat} (hi : 0 ≤ i ∧ i < n) : rng i n x = x := by unfold rng; rw [if_pos hi]
theorem Ok.rng {i : Int} {n : Nat} (hi : 0 ≤ i ∧ i < n) (h : Ok x Q) : Ok (rng i n x) Q := by rw [rng_eq hi]; exact h
theorem lim_eq {n : Nat} (hn : n ≤ 1000000) : lim n x = x := by unfold lim; rw [if_pos hn]
theorem Ok.lim {n : Nat} (hn : n ≤ 1000000) (h : Ok x Q) : Ok (lim n x) Q := by rw [lim_eq hn]; exact h
theorem idx_eq {l : List α} {i : Int} {f : α → Option Z} {a : α} (h0 : 0 ≤ i) (h : l[i.toNat]? = Option.some a) : idx l i f = f a := by unfold idx; rw [if_pos h0, h]
theorem idx_get {l : List α} {i : Int} {f : α → Option Z} (d : α) (h0 : 0 ≤ i) (h : i < l.length) : idx l i f = f (l.getD i.toNat d) := by
 refine idx_eq h0 ?_
 have : i.toNat < l.length := by omega
 simp [List.getD, this]
theorem Ok.idx {l : List α} {i : Int} {f : α → Option Z} (h0 : 0 ≤ i) (h : i < l.length) (k : ∀ a, l[i.toNat]? = Option.some a → a ∈ l → Ok (f a) Q) : Ok (idx l i f) Q := by
 have hlt : i.toNat < l.length := by omega
 have e : l[i.toNat]? = Option.some l[i.toNat] := List.getElem?_eq_getElem hlt
 rw [idx_eq h0 e]
 exact k _ e (List.getElem_mem hlt)
theorem get_eq {l : List α} {k : Nat} {f : α → Option Z} {a : α} (h : l[k]? = Option.some a) : get l k f = f a := by unfold get; rw [h]
theorem get_get {l : List α} {k : Nat} {f : α → Option Z} (d : α) (h : k < l.length) : get l k f = f (l.getD k d) := get_eq (by simp [List.getD, h])
theorem Ok.get {l : List α} {k : Nat} {f : α → Option Z} (h : k < l.length) (c : ∀ a, l[k]? = Option.some a → a ∈ l → Ok (f a) Q) : Ok (get l k f) Q := by
 have e : l[k]? = Option.some l[k] := List.getElem?_eq_getElem h
 rw [get_eq e]
 exact c _ e (List.getElem_mem h)
theorem br_true : br true x y = x := rfl
theorem br_false : br false x y = y := rfl
theorem br_dec {p : Prop} [Decidable p] (h : p) : br (decide p) x y = x := by simp [h, br]
theorem br_ndec {p : Prop} [Decidable p] (h : ¬ p) : br (decide p) x y = y := by simp [h, br]
theorem br_nd {p : Prop} [Decidable p] (h : p) : br (!decide p) x y = y := by simp [h, br]
theorem br_nnd {p : Prop} [Decidable p] (h : ¬ p) : br (!decide p) x y = x := by simp [h, br]
end
/-- A list of numbers from lo to hi. -/
def InR (lo hi : Int) (l : List Int) : Prop := ∀ x ∈ l, lo ≤ x ∧ x ≤ hi
theorem InR.append {lo hi : Int} {l : List Int} (h : InR lo hi l) {x : Int} (hx : lo ≤ x ∧ x ≤ hi) : InR lo hi (l ++ [x]) := by
 intro y hy
 rcases List.mem_append.1 hy with hy | hy
 ·exact h y hy
 ·simp at hy; subst hy; exact hx
theorem InR.drop {lo hi : Int} {l : List Int} (h : InR lo hi l) (n : Nat) : InR lo hi (l.drop n) := fun x hx => h x (List.mem_of_mem_drop hx)
theorem InR.nil {lo hi : Int} : InR lo hi [] := fun _ h => by cases h
theorem InR.mono {lo hi lo' hi' : Int} {l : List Int} (h : InR lo hi l) (h1 : lo' ≤ lo) (h2 : hi ≤ hi') : InR lo' hi' l := fun x hx => by have := h x hx; omega

/-! ### Bells -/
theorem wrap32 (x : Int) : 0 ≤ IntKind.u32.wrap x ∧ IntKind.u32.wrap x < 4294967296 := by
 have := wrap_inR .u32 x
 have h1 : IntKind.u32.min = 0 := by decide
 have h2 : IntKind.u32.max = 4294967295 := by decide
 unfold inR at this
 rw [h1, h2] at this
 omega
def Bell (b : List Int) (b2 : Int) : Prop := b.length ≤ 9223372036854775807 ∧ 0 ≤ b2 ∧ b2 ≤ b.length
abbrev BellR (b : List Int) (r : List Int × Int × Int) : Prop := r.1 = b ∧ Bell b r.2.1
theorem and_small (n : Nat) : 0 ≤ IntKind.i64.wrap ((n &&& 65535 : Nat) : Int) ∧ IntKind.i64.wrap ((n &&& 65535 : Nat) : Int) ≤ 65535 := by
 have : n &&& 65535 ≤ 65535 := Nat.and_le_right
 rw [wrap64 (by omega)]
 omega
theorem fdiv_nonneg {x : Int} (h : 0 ≤ x) : 0 ≤ Int.fdiv x (2 ^ 7) := by
 rw [Int.fdiv_eq_ediv_of_nonneg _ (by decide)]
 exact Int.ediv_nonneg h (by decide)
theorem ring_j1_ok (N : Nat) {b : List Int} {b2 b3 : Int} (hb : b.length ≤ 9223372036854775807) (h0 : 0 ≤ b2) (h1 : b2 < b.length ∨ b.length = 0 ∧ b2 = 0) : Ok (ring_j1 N b b2 b3) fun r => (0 ≤ r.1 ∧ r.1 ≤ 65535) ∧ BellR b r.2 := by
 unfold ring_j1
 refine Ok.brd (fun h => ?_) (fun h => ?_)
 ·refine Ok.idx h0 (by omega) (fun a _ _ => Ok.chk (by omega) (Ok.grd ?_ (Ok.grd ?_ (Ok.some ?_))))
  ·simp only [decide_eq_true_eq]; exact ⟨(wrap32 _).1, fdiv_nonneg (wrap32 _).1⟩
  ·simp only [decide_eq_true_eq]; exact ⟨Int.natCast_nonneg _, by decide⟩
  ·exact ⟨and_small _, rfl, hb, by dsimp only; omega, by dsimp only; omega⟩
 ·refine Ok.grd ?_ (Ok.grd ?_ (Ok.some ?_))
  ·simp only [decide_eq_true_eq]; exact ⟨(wrap32 _).1, fdiv_nonneg (wrap32 _).1⟩
  ·simp only [decide_eq_true_eq]; exact ⟨Int.natCast_nonneg _, by decide⟩
  ·exact ⟨and_small _, rfl, hb, by dsimp only; omega, by dsimp only; omega⟩
theorem ring_ok (N : Nat) {b : List Int} {b2 b3 : Int} (hb : Bell b b2) : Ok (ring_S N b b2 b3) fun r => (0 ≤ r.1 ∧ r.1 ≤ 65535) ∧ BellR b r.2 := by
 obtain ⟨h1, h2, h3⟩ := hb
 unfold ring_S
 refine Ok.brd (fun h => ring_j1_ok N h1 (by omega) (by omega)) (fun h => ring_j1_ok N h1 h2 (by omega))
theorem stroke_ok (N : Nat) {n : Int} {b : List Int} {b2 b3 : Int} (hb : Bell b b2) (hn : -1000000 ≤ n ∧ n ≤ 1000000) : Ok (stroke_S N n b b2 b3) fun r => (0 ≤ r.1 ∧ r.1 ≤ max 0 n) ∧ BellR b r.2 := by
 unfold stroke_S
 refine Ok.bind (ring_ok N hb) (fun r hr => ?_)
 obtain ⟨x, c, c2, c3⟩ := r
 refine Ok.chk (by omega) (Ok.grd (by simp only [Bool.not_eq_true', decide_eq_false_iff_not]; omega) (Ok.some ⟨?_, hr.2⟩))
 obtain ⟨⟨h1, h2⟩, _⟩ := hr
 dsimp only at *
 have hm : 0 < max 1 (n + 1) := by omega
 have := Int.tmod_lt_of_pos x hm
 have := Int.tmod_nonneg (max 1 (n + 1)) h1
 omega
theorem strike_ok (N : Nat) {lo hi : Int} {b : List Int} {b2 b3 : Int} (hb : Bell b b2) (hn : (-1000 ≤ lo ∧ lo ≤ 1000) ∧ -1000 ≤ hi ∧ hi ≤ 1000) : Ok (strike_S N lo hi b b2 b3) fun r => (lo ≤ r.1 ∧ r.1 ≤ max lo hi) ∧ BellR b r.2 := by
 unfold strike_S
 refine Ok.chk (by omega) (Ok.bind (stroke_ok N hb (by omega)) (fun r hr => ?_))
 obtain ⟨x, c, c2, c3⟩ := r
 obtain ⟨h, h2⟩ := hr
 dsimp only at *
 refine Ok.chk (by omega) (Ok.some ⟨by dsimp only; omega, h2⟩)
theorem seldom_ok (N : Nat) {n : Int} {b : List Int} {b2 b3 : Int} (hb : Bell b b2) (hn : -1000 ≤ n ∧ n ≤ 1000) : Ok (seldom_S N n b b2 b3) fun r => BellR b r.2 := by
 unfold seldom_S
 refine Ok.chk (by omega) (Ok.bind (stroke_ok N hb (by omega)) (fun r hr => ?_))
 obtain ⟨x, c, c2, c3⟩ := r
 exact Ok.some hr.2
end Go.Proofs.Ytfcnhnbnjdccfaa

namespace Go.Proofs.Ytfcnhnbnjdccfaa
set_option linter.all false
open Go

/-! ### The first element that is so -/
def ixL {α : Type} (f : α → Option Bool) : Nat → List α → Int → Int → Option (Int ⊕ Unit)
 | 0, _, _, _ => none
 | n + 1, s, u, u2 => br (decide (u2 < u)) (idx s u2 fun x => (f x).bind fun c => br c (some (.inl u2)) (chk (u2 + 1) <| ixL f n s u (u2 + 1))) (some (.inr ()))
def ixS {α : Type} (f : α → Option Bool) (N : Nat) (s : List α) : Option Int := (ixL f N s (s.length : Int) 0).bind fun e => match e with
 | .inl i => some i
 | .inr _ => some (-1)
theorem ixL_ok {α : Type} {f : α → Option Bool} {p : α → Bool} {s : List α} (hf : ∀ x ∈ s, f x = some (p x)) (hs : s.length ≤ 1000000) : ∀ (n k : Nat), s.length < n + k → k ≤ s.length →
  Ok (ixL f n s (s.length : Int) (k : Int)) fun r => match r with | .inl i => (0 ≤ i ∧ i < s.length) ∧ (s.drop k).any p = true | .inr _ => (s.drop k).any p = false
 | 0, k, h, hk => by omega
 | n + 1, k, h, hk => by
  unfold ixL
  refine Ok.brd (fun h1 => ?_) (fun h1 => Ok.some ?_)
  ·have hlt : k < s.length := by omega
   refine Ok.idx (by omega) h1 (fun a ha hm => ?_)
   have hd : s.drop k = a :: s.drop (k + 1) := by
    rw [List.drop_eq_getElem_cons hlt]
    have : s[k]? = some a := by simpa using ha
    rw [List.getElem?_eq_getElem hlt] at this
    simp only [Option.some.injEq] at this
    rw [this]
   refine Ok.eqb (hf a hm) (Ok.br (fun hp => Ok.some ?_) (fun hp => Ok.chk (by omega) ?_))
   ·exact ⟨⟨by omega, by omega⟩, by rw [hd]; simp [hp]⟩
   ·have := ixL_ok hf hs n (k + 1) (by omega) (by omega)
    rw [show ((k + 1 : Nat) : Int) = (k : Int) + 1 by omega] at this
    refine this.mono (fun r hr => ?_)
    rw [hd]
    cases r <;> simpa [hp] using hr
  ·have : s.drop k = [] := List.drop_of_length_le (by omega)
   simp [this]
theorem ixS_any {α : Type} {f : α → Option Bool} {p : α → Bool} {s : List α} {N : Nat} (hf : ∀ x ∈ s, f x = some (p x)) (hs : s.length ≤ 1000000) (hN : s.length < N) : ((ixS f N s).bind fun x => some (decide (0 ≤ x))) = some (s.any p) := by
 obtain ⟨r, h1, h2⟩ := ixL_ok hf hs N 0 (by omega) (by omega)
 unfold ixS
 rw [show ((0 : Nat) : Int) = 0 from rfl] at h1
 rw [h1]
 cases r with
 | inl i => simp only [List.drop_zero] at h2; simp [h2.1.1, h2.2]
 | inr u => simp only [List.drop_zero] at h2; simp [h2]

theorem in_v (N : Nat) (n lo hi : Int) : in__S N n lo hi = some (decide (lo ≤ n ∧ n ≤ hi)) := by
 unfold in__S
 by_cases h : lo ≤ n <;> simp [h, br]
theorem any_not {α : Type} (p : α → Bool) (s : List α) : (!(s.any fun x => !p x)) = s.all p := by
 induction s with
 | nil => rfl
 | cons a s ih => simp only [List.any_cons, List.all_cons, Bool.not_or, Bool.not_not, ih]
def okW (w : Int) : Bool := decide (0 ≤ w ∧ w ≤ 9)
theorem ixfi_gen (N : Nat) : ∀ (n : Nat) (s : List Int) (u u2 : Int), ixfi_l1 N n s u u2 = ixL (every1i_S N) n s u u2
 | 0, _, _, _ => rfl
 | n + 1, s, u, u2 => by simp only [ixfi_l1, ixL, ixfi_gen N n]
theorem ixfa_gen (N : Nat) : ∀ (n : Nat) (s : List (List Int)) (u u2 : Int), ixfa_l1 N n s u u2 = ixL (every1a_S N) n s u u2
 | 0, _, _, _ => rfl
 | n + 1, s, u, u2 => by simp only [ixfa_l1, ixL, ixfa_gen N n]
theorem ixfb_gen (N : Nat) : ∀ (n : Nat) (s : List (List Int)) (u u2 : Int), ixfb_l1 N n s u u2 = ixL (every1b_S N) n s u u2
 | 0, _, _, _ => rfl
 | n + 1, s, u, u2 => by simp only [ixfb_l1, ixL, ixfb_gen N n]
theorem everyi_v (N : Nat) {l : List Int} (h : l.length ≤ 1000000) (hN : l.length < N) : everyi_S N l = some (l.all okW) := by
 have := ixS_any (f := every1i_S N) (p := fun x => !okW x) (s := l) (N := N) (fun x _ => by simp [every1i_S, check11_S, in_v, okW]) h hN
 unfold everyi_S cofi_S
 have e : ixfi_S N l = ixS (every1i_S N) N l := by
  unfold ixfi_S ixS
  rw [ixfi_gen] <;> rfl
 rw [e, this]
 simp [any_not]
theorem everya_v (N : Nat) {l : List (List Int)} (h : l.length ≤ 1000000) (hN : l.length < N) (hl : ∀ x ∈ l, x.length ≤ 1000000 ∧ x.length < N) : everya_S N l = some (l.all fun x => x.all okW) := by
 have := ixS_any (f := every1a_S N) (p := fun x => !(x.all okW)) (s := l) (N := N) (fun x hx => by simp [every1a_S, check1_S, everyi_v N (hl x hx).1 (hl x hx).2]) h hN
 unfold everya_S cofa_S
 have e : ixfa_S N l = ixS (every1a_S N) N l := by
  unfold ixfa_S ixS
  rw [ixfa_gen] <;> rfl
 rw [e, this]
 simp [any_not]
def okL (x : List Int) : Bool := decide (1 ≤ (x.length : Int) ∧ (x.length : Int) ≤ 6)
theorem everyb_v (N : Nat) {l : List (List Int)} (h : l.length ≤ 1000000) (hN : l.length < N) : everyb_S N l = some (l.all okL) := by
 have := ixS_any (f := every1b_S N) (p := fun x => !okL x) (s := l) (N := N) (fun x _ => by simp [every1b_S, check2_S, in_v, okL]) h hN
 unfold everyb_S cofb_S
 have e : ixfb_S N l = ixS (every1b_S N) N l := by
  unfold ixfb_S ixS
  rw [ixfb_gen] <;> rfl
 rw [e, this]
 simp [any_not]

/-! ### The error of an echo -/
def checkE (T : List (List Int)) (H : List Int) (f : Int) : Int :=
 if ¬ (1 ≤ T.length ∧ T.length ≤ 5) then 2 else if 10 < H.length then 2 else if ¬ T.all okL then 2 else if ¬ T.all (fun x => x.all okW) then 3 else if ¬ H.all okW then 3 else if ¬ (0 ≤ f ∧ f ≤ 8) then 3 else 0
theorem check_v {N : Nat} (hN : 20 ≤ N) (T : List (List Int)) (H : List Int) (f : Int) : check_S N T H f = some (checkE T H f) := by
 unfold check_S checkE
 rw [in_v]
 simp only [Option.bind_some]
 by_cases h1 : 1 ≤ T.length ∧ T.length ≤ 5
 ·rw [show decide (1 ≤ (T.length : Int) ∧ (T.length : Int) ≤ 5) = true by simpa using (by omega), if_neg (by simpa using h1)]
  simp only [Bool.not_true, br_false]
  by_cases h2 : 10 < H.length
  ·rw [br_dec (by omega), if_pos h2]
  ·rw [br_ndec (by omega), if_neg h2, everyb_v N (by omega) (by omega)]
   simp only [Option.bind_some]
   cases hb : T.all okL with
   | false => simp [br]
   | true =>
    simp only [Bool.not_true, br_false]
    rw [if_neg (by simp)]
    have hl : ∀ x ∈ T, x.length ≤ 6 := fun x hx => by
     have := List.all_eq_true.1 hb x hx
     simp only [okL, decide_eq_true_eq] at this; omega
    rw [everya_v N (by omega) (by omega) (fun x hx => by have := hl x hx; omega)]
    simp only [Option.bind_some]
    cases ha : T.all fun x => x.all okW with
    | false => simp [br]
    | true =>
     simp only [Bool.not_true, br_false]
     rw [if_neg (by simp), show check1_S N H = some (H.all okW) by simp [check1_S, everyi_v N (l := H) (by omega) (by omega)]]
     simp only [Option.bind_some]
     cases hh : H.all okW with
     | false => simp [br]
     | true =>
      simp only [Bool.not_true, br_false]
      rw [if_neg (by simp), in_v]
      simp only [Option.bind_some]
      by_cases h3 : 0 ≤ f ∧ f ≤ 8 <;> simp [h3, br]
 ·rw [show decide (1 ≤ (T.length : Int) ∧ (T.length : Int) ≤ 5) = false by simpa using (by omega), if_pos (by simpa using h1)]
  rfl
/-- An echo without an error. -/
structure Fine (T : List (List Int)) (H : List Int) (f : Int) : Prop where
 n : 1 ≤ T.length ∧ T.length ≤ 5
 h : H.length ≤ 10
 l : ∀ x ∈ T, 1 ≤ x.length ∧ x.length ≤ 6
 w : ∀ x ∈ T, InR 0 9 x
 hw : InR 0 9 H
 f : 0 ≤ f ∧ f ≤ 8
theorem okW_all {x : List Int} : x.all okW = true ↔ InR 0 9 x := by simp [okW, InR]
theorem Fine.check {T : List (List Int)} {H : List Int} {f : Int} (h : Fine T H f) : checkE T H f = 0 := by
 unfold checkE
 have h1 : T.all okL = true := List.all_eq_true.2 fun x hx => by
  have := h.l x hx
  simp only [okL, decide_eq_true_eq]; omega
 have h2 : (T.all fun x => x.all okW) = true := List.all_eq_true.2 fun x hx => okW_all.2 (h.w x hx)
 rw [if_neg (by simpa using h.n), if_neg (by have := h.h; omega), if_neg (by rw [h1]; simp), if_neg (by rw [h2]; simp), if_neg (by rw [okW_all.2 h.hw]; simp), if_neg (by simpa using h.f)]
theorem fine_of {T : List (List Int)} {H : List Int} {f : Int} (h : checkE T H f = 0) : Fine T H f := by
 unfold checkE at h
 split at h; · simp at h
 split at h; · simp at h
 split at h; · simp at h
 split at h; · simp at h
 split at h; · simp at h
 split at h; · simp at h
 rename_i h1 h2 h3 h4 h5 h6
 simp only [Decidable.not_not, Bool.not_eq_true, Bool.not_eq_false, List.all_eq_true (l := T)] at *
 refine ⟨h1, by omega, fun x hx => ?_, fun x hx => okW_all.1 (h4 x hx), okW_all.1 h5, h6⟩
 have := h3 x hx
 simp only [okL, decide_eq_true_eq] at this; omega
theorem text_v (N : Nat) {T : List (List Int)} (H : List Int) (f n : Int) (hT : T.length ≤ 1000000) : text_S N T H f n = some (decide (0 ≤ n ∧ n < T.length)) := by
 unfold text_S
 rw [chk_eq (by omega), in_v]
 simp only [Option.bind_some, Option.some.injEq]
 congr 1
 apply propext; omega
/-- An echo at work, or the error. -/
def openE (T : List (List Int)) (H : List Int) (f a b : Int) : Int := if checkE T H f ≠ 0 then checkE T H f else if ¬ (0 ≤ a ∧ a < T.length) ∨ ¬ (0 ≤ b ∧ b < T.length) then 1 else 0
theorem opened_bad {N : Nat} (hN : 20 ≤ N) {T : List (List Int)} {H : List Int} {f a b : Int} (h : openE T H f a b ≠ 0) : opened_S N T H f a b = some (.inr (openE T H f a b)) := by
 unfold openE at h ⊢
 unfold opened_S
 rw [check_v hN]
 simp only [Option.bind_some]
 by_cases hc : checkE T H f = 0
 ·have hF := fine_of hc
  rw [if_neg (by simpa using hc)] at h ⊢
  have hT := hF.n
  simp only [hc, decide_true, Bool.not_true, br_false]
  rw [text_v N H f a (by omega), text_v N H f b (by omega)]
  simp only [Option.bind_some]
  by_cases ha : 0 ≤ a ∧ a < T.length
  ·by_cases hb : 0 ≤ b ∧ b < T.length
   ·exact absurd rfl (by rw [if_neg (by simp; omega)] at h; exact h)
   ·rw [if_pos (.inr hb)]; simp [ha, hb, br]
  ·rw [if_pos (.inl ha)]; simp [ha, br]
 ·rw [if_pos hc]; simp [hc, br]
theorem opened_good {N : Nat} (hN : 20 ≤ N) {T : List (List Int)} {H : List Int} {f a b : Int} (h : openE T H f a b = 0) : Fine T H f ∧ (0 ≤ a ∧ a < T.length) ∧ (0 ≤ b ∧ b < T.length) ∧ opened_S N T H f a b = some (.inl ((T, H, f, T.getD a.toNat [], T.getD b.toNat []), 0)) := by
 unfold openE at h
 unfold opened_S
 rw [check_v hN]
 simp only [Option.bind_some]
 by_cases hc : checkE T H f = 0
 ·have hF := fine_of hc
  rw [if_neg (by simpa using hc)] at h
  have hT := hF.n
  by_cases ha : 0 ≤ a ∧ a < T.length
  ·by_cases hb : 0 ≤ b ∧ b < T.length
   ·refine ⟨hF, ha, hb, ?_⟩
    simp only [hc, decide_true, Bool.not_true, br_false]
    rw [text_v N H f a (by omega), text_v N H f b (by omega)]
    simp only [Option.bind_some, ha, hb, and_self, decide_true, Bool.not_true, br_false]
    rw [idx_get [] ha.1 ha.2, idx_get [] hb.1 hb.2]
   ·rw [if_pos (.inr hb)] at h; simp at h
  ·rw [if_pos (.inl ha)] at h; simp at h
 ·rw [if_pos hc] at h; exact absurd h hc
theorem Fine.open {T : List (List Int)} {H : List Int} {f a b : Int} (h : Fine T H f) (ha : 0 ≤ a ∧ a < T.length) (hb : 0 ≤ b ∧ b < T.length) : openE T H f a b = 0 := by
 unfold openE
 rw [if_neg (by simpa using h.check), if_neg (by simp only [not_or, Decidable.not_not]; exact ⟨ha, hb⟩)]
end Go.Proofs.Ytfcnhnbnjdccfaa

namespace Go.Proofs.Ytfcnhnbnjdccfaa
set_option linter.all false
open Go

/-- How many words two lists have in common at most. -/
def lc : List Int → List Int → Nat
 | [], _ => 0
 | _ :: _, [] => 0
 | x :: xs, y :: ys => if x = y then max (max (lc xs (y :: ys)) (lc (x :: xs) ys)) (lc xs ys + 1) else max (lc xs (y :: ys)) (lc (x :: xs) ys)
termination_by a b => a.length + b.length
theorem lc_nil_right (a : List Int) : lc a [] = 0 := by cases a <;> simp [lc]
theorem drop_cons {a : List Int} {i : Nat} (h : i < a.length) : a.drop i = a.getD i 0 :: a.drop (i + 1) := by
 rw [List.drop_eq_getElem_cons h]; simp [List.getD, h]
/-- What the table of common words holds so far: rows behind i, and in row i places behind k. -/
def GridTo (a b : List Int) (l : List Int) (i k : Int) : Prop :=
 l.length = 49 ∧ a.length ≤ 6 ∧ b.length ≤ 6 ∧ ∀ i' k' : Nat, i' ≤ a.length → k' ≤ b.length → (i' = a.length ∨ k' = b.length ∨ i < i' ∨ (i = i' ∧ k < k')) → l[i' * 7 + k']? = some ((lc (a.drop i') (b.drop k') : Nat) : Int)
theorem GridTo.start (a b : List Int) (ha : a.length ≤ 6) (hb : b.length ≤ 6) : GridTo a b (List.replicate 49 (0 : Int)) ((a.length : Int) - 1) b.length := by
 refine ⟨by simp, ha, hb, fun i' k' hi hk h => ?_⟩
 have : lc (a.drop i') (b.drop k') = 0 := by
  rcases h with h | h | h | h
  ·rw [h, List.drop_length]; simp [lc]
  ·rw [h, List.drop_length, lc_nil_right]
  ·have : i' = a.length := by omega
   rw [this, List.drop_length]; simp [lc]
  ·omega
 rw [this, List.getElem?_replicate, if_pos (by omega)]; rfl
theorem GridTo.row {a b : List Int} {l : List Int} {i : Int} (h : GridTo a b l i b.length) : GridTo a b l i ((b.length : Int) - 1) :=
 ⟨h.1, h.2.1, h.2.2.1, fun i' k' hi hk hh => h.2.2.2 i' k' hi hk (by omega)⟩
theorem GridTo.next {a b : List Int} {l : List Int} {i : Int} (h : GridTo a b l i (-1)) : GridTo a b l (i - 1) b.length :=
 ⟨h.1, h.2.1, h.2.2.1, fun i' k' hi hk hh => h.2.2.2 i' k' hi hk (by omega)⟩
theorem GridTo.get {a b : List Int} {l : List Int} {i k : Int} (h : GridTo a b l i k) (i' k' : Nat) (hi : i' ≤ a.length) (hk : k' ≤ b.length) (hh : i' = a.length ∨ k' = b.length ∨ i < i' ∨ (i = i' ∧ k < k')) :
  l[i' * 7 + k']? = some ((lc (a.drop i') (b.drop k') : Nat) : Int) := h.2.2.2 i' k' hi hk hh
theorem GridTo.lt {a b : List Int} {l : List Int} {i k : Int} (h : GridTo a b l i k) (i' k' : Nat) (hi : i' ≤ a.length) (hk : k' ≤ b.length) : i' * 7 + k' < l.length := by
 have := h.1; have := h.2.1; have := h.2.2.1; omega
theorem GridTo.set {a b : List Int} {l : List Int} {i k : Int} (h : GridTo a b l i k) (h0 : 0 ≤ i) (h1 : i < a.length) (h2 : 0 ≤ k) (h3 : k < b.length) (v : Int) : GridTo a b (l.set (i.toNat * 7 + k.toNat) v) i k := by
 refine ⟨by simp [h.1], h.2.1, h.2.2.1, fun i' k' hi hk hh => ?_⟩
 have hla := h.2.1; have hlb := h.2.2.1
 rw [List.getElem?_set_ne (by omega)]
 exact h.get i' k' hi hk hh
theorem GridTo.step {a b : List Int} {l : List Int} {i k : Int} (h : GridTo a b l i k) (h0 : 0 ≤ i) (h1 : i < a.length) (h2 : 0 ≤ k) (h3 : k < b.length) (hv : l[i.toNat * 7 + k.toNat]? = some ((lc (a.drop i.toNat) (b.drop k.toNat) : Nat) : Int)) : GridTo a b l i (k - 1) := by
 refine ⟨h.1, h.2.1, h.2.2.1, fun i' k' hi hk hh => ?_⟩
 by_cases e : i' = i.toNat ∧ k' = k.toNat
 ·obtain ⟨rfl, rfl⟩ := e; exact hv
 ·exact h.get i' k' hi hk (by omega)
theorem GridTo.self {a b : List Int} {l : List Int} {i k : Int} (h : GridTo a b l i k) (h0 : 0 ≤ i) (h1 : i < a.length) (h2 : 0 ≤ k) (h3 : k < b.length) (v : Int) : (l.set (i.toNat * 7 + k.toNat) v)[i.toNat * 7 + k.toNat]? = some v := by
 rw [List.getElem?_set_self (h.lt _ _ (by omega) (by omega))]
/-- Of pairs in order those that are wanted. -/
def rowTo (p : Nat → Nat → Bool) (a s b : Nat) : List (Int × Int) := ((List.range' s (b - s)).filter (p a)).map (fun (x : Nat) => ((a : Int), (x : Int)))
def allTo (p : Nat → Nat → Bool) (n d a : Nat) : List (Int × Int) := (List.range a).flatMap fun x => rowTo p x (x + d) n
theorem rowTo_zero (p : Nat → Nat → Bool) (a s : Nat) : rowTo p a s s = [] := by simp [rowTo]
theorem rowTo_yes {p : Nat → Nat → Bool} {a s b : Nat} (h : s ≤ b) (hp : p a b = true) : rowTo p a s (b + 1) = rowTo p a s b ++ [((a : Int), (b : Int))] := by
 unfold rowTo
 rw [show b + 1 - s = (b - s) + 1 by omega, List.range'_concat]
 simp [List.filter_append, show s + (b - s) = b by omega, hp]
theorem rowTo_no {p : Nat → Nat → Bool} {a s b : Nat} (h : s ≤ b) (hp : p a b = false) : rowTo p a s (b + 1) = rowTo p a s b := by
 unfold rowTo
 rw [show b + 1 - s = (b - s) + 1 by omega, List.range'_concat]
 simp [List.filter_append, show s + (b - s) = b by omega, hp]
theorem allTo_succ (p : Nat → Nat → Bool) (n d a : Nat) : allTo p n d (a + 1) = allTo p n d a ++ rowTo p a (a + d) n := by
 simp [allTo, List.range_succ]
theorem allTo_len (p : Nat → Nat → Bool) (n d a : Nat) : (allTo p n d a).length ≤ a * n := by
 induction a with
 | zero => simp [allTo]
 | succ a ih =>
  rw [allTo_succ, List.length_append, Nat.succ_mul]
  have : (rowTo p a (a + d) n).length ≤ n := by
   unfold rowTo
   rw [List.length_map]
   have := List.length_filter_le (p a) (List.range' (a + d) (n - (a + d)))
   simp at this; omega
  omega
theorem rowTo_len (p : Nat → Nat → Bool) (a s b : Nat) : (rowTo p a s b).length ≤ b := by
 unfold rowTo
 rw [List.length_map]
 have := List.length_filter_le (p a) (List.range' s (b - s))
 simp at this; omega

/-! ### Pairs in order -/
theorem mem_rowTo {p : Nat → Nat → Bool} {a s b : Nat} {x : Int × Int} : x ∈ rowTo p a s b ↔ ∃ j : Nat, s ≤ j ∧ j < b ∧ p a j = true ∧ x = ((a : Int), (j : Int)) := by
 unfold rowTo
 simp only [List.mem_map, List.mem_filter, List.mem_range'_1]
 constructor
 ·rintro ⟨j, ⟨⟨h1, h2⟩, h3⟩, rfl⟩; exact ⟨j, h1, by omega, h3, rfl⟩
 ·rintro ⟨j, h1, h2, h3, rfl⟩; exact ⟨j, ⟨⟨h1, by omega⟩, h3⟩, rfl⟩
theorem mem_allTo {p : Nat → Nat → Bool} {n d a : Nat} {x : Int × Int} : x ∈ allTo p n d a ↔ ∃ i j : Nat, i < a ∧ i + d ≤ j ∧ j < n ∧ p i j = true ∧ x = ((i : Int), (j : Int)) := by
 unfold allTo
 simp only [List.mem_flatMap, List.mem_range, mem_rowTo]
 constructor
 ·rintro ⟨i, hi, j, h1, h2, h3, rfl⟩; exact ⟨i, j, hi, h1, h2, h3, rfl⟩
 ·rintro ⟨i, j, hi, h1, h2, h3, rfl⟩; exact ⟨i, hi, j, h1, h2, h3, rfl⟩
end Go.Proofs.Ytfcnhnbnjdccfaa

namespace Go.Proofs.Ytfcnhnbnjdccfaa
set_option linter.all false
open Go

theorem getD_mem {α : Type} {l : List α} {i : Nat} {d : α} (h : i < l.length) : l.getD i d ∈ l := by
 simp [List.getD, h]
end Go.Proofs.Ytfcnhnbnjdccfaa

namespace Go.Proofs.Ytfcnhnbnjdccfaa
set_option linter.all false
open Go

/-! ### The most words that can be told behind a place, and in how many ways -/
def wT (side w : Int) : Int := if 0 ≤ w ∧ side ≠ 3 then w + 1 else w
theorem wT_bnd {side w n : Int} (h : -1 ≤ w ∧ w ≤ n) : -1 ≤ wT side w ∧ wT side w ≤ n + 1 := by unfold wT; split <;> omega
def stepT (may : Nat → Int × Int → Bool) (h : Nat) (t : At3 → Int × Int) (best : Int × Int) (m : Mv) : Int × Int :=
 if may h m.1 = true then (if best.1 < wT m.1.1 (t m.2).1 then (wT m.1.1 (t m.2).1, (t m.2).2) else if wT m.1.1 (t m.2).1 = best.1 then (best.1, best.2 + (t m.2).2) else best) else best
def tvx (may : Nat → Int × Int → Bool) (H A B : List Int) : Nat → At3 → Int × Int
 | 0, _ => (0, 1)
 | n + 1, x => (movesL A B (H.getD x.1 0) x).foldl (stepT may x.1 (tvx may H A B n)) (-1, 0)
def tv (may : Nat → Int × Int → Bool) (H A B : List Int) (x : At3) : Int × Int := tvx may H A B (H.length - x.1) x
theorem standsL_len (l : List Int) (w : Int) (k : Nat) : (standsL l w k).length ≤ l.length := by
 unfold standsL
 have := List.length_filter_le (fun j => l.getD j 0 == w) (List.range' k (l.length - k))
 rw [List.length_range'] at this
 omega
theorem movesL_len (A B : List Int) (w : Int) (x : At3) : (movesL A B w x).length ≤ 1 + A.length + B.length := by
 simp only [movesL, List.length_cons, List.length_append, List.length_map]
 have := standsL_len A w x.2.1
 have := standsL_len B w x.2.2
 omega
theorem movesL_ok {A B : List Int} {w : Int} {x : At3} (ha : x.2.1 ≤ A.length) (hb : x.2.2 ≤ B.length) {m : Mv} (h : m ∈ movesL A B w x) : m.2.1 = x.1 + 1 ∧ m.2.2.1 ≤ A.length ∧ m.2.2.2 ≤ B.length := by
 simp only [movesL, List.mem_cons, List.mem_append, List.mem_map] at h
 rcases h with rfl | ⟨j, hj, rfl⟩ | ⟨j, hj, rfl⟩
 ·exact ⟨rfl, ha, hb⟩
 ·have := mem_standsL.1 hj; exact ⟨rfl, by dsimp only; omega, hb⟩
 ·have := mem_standsL.1 hj; exact ⟨rfl, ha, by dsimp only; omega⟩
/-- How great they can be. -/
def Bnd13 (n : Nat) (v : Int × Int) : Prop := -1 ≤ v.1 ∧ v.1 ≤ n ∧ 0 ≤ v.2 ∧ v.2 ≤ ((13 ^ n : Nat) : Int)
def Bst (n c : Nat) (v : Int × Int) : Prop := -1 ≤ v.1 ∧ v.1 ≤ ((n + 1 : Nat) : Int) ∧ 0 ≤ v.2 ∧ v.2 ≤ ((c * 13 ^ n : Nat) : Int)
theorem stepT_bnd {may : Nat → Int × Int → Bool} {h n c : Nat} {t : At3 → Int × Int} {m : Mv} {best : Int × Int} (ht : Bnd13 n (t m.2)) (hb : Bst n c best) : Bst n (c + 1) (stepT may h t best m) := by
 obtain ⟨h1, h2, h3, h4⟩ := ht
 obtain ⟨b1, b2, b3, b4⟩ := hb
 have e : (((c + 1) * 13 ^ n : Nat) : Int) = ((c * 13 ^ n : Nat) : Int) + ((13 ^ n : Nat) : Int) := by rw [Nat.succ_mul]; simp
 have p1 : (0 : Int) ≤ ((c * 13 ^ n : Nat) : Int) := Int.natCast_nonneg _
 unfold Bst
 rw [e]
 have hw := wT_bnd (side := m.1.1) ⟨h1, h2⟩
 unfold stepT
 generalize ((c * 13 ^ n : Nat) : Int) = P at *
 generalize ((13 ^ n : Nat) : Int) = R at *
 generalize wT m.1.1 (t m.2).1 = W at *
 by_cases c1 : may h m.1 = true
 ·rw [if_pos c1]
  by_cases c2 : best.1 < W
  ·rw [if_pos c2]; exact ⟨hw.1, by dsimp only; omega, h3, by dsimp only; omega⟩
  ·rw [if_neg c2]
   by_cases c3 : W = best.1
   ·rw [if_pos c3]; exact ⟨b1, b2, by dsimp only; omega, by dsimp only; omega⟩
   ·rw [if_neg c3]; exact ⟨b1, b2, b3, by omega⟩
 ·rw [if_neg c1]; exact ⟨b1, b2, b3, by omega⟩
theorem fold_bnd {may : Nat → Int × Int → Bool} {h n : Nat} {t : At3 → Int × Int} (ht : ∀ y, Bnd13 n (t y)) : ∀ (ms : List Mv) (c : Nat) (best : Int × Int), Bst n c best → Bst n (c + ms.length) (ms.foldl (stepT may h t) best)
 | [], c, best, hb => hb
 | m :: ms, c, best, hb => by
  have := fold_bnd (may := may) (h := h) ht ms (c + 1) _ (stepT_bnd (may := may) (h := h) (m := m) (ht m.2) hb)
  rw [List.length_cons, show c + (ms.length + 1) = c + 1 + ms.length by omega]
  exact this
theorem tvx_bnd (may : Nat → Int × Int → Bool) {H A B : List Int} (hA : A.length ≤ 6) (hB : B.length ≤ 6) : ∀ (n : Nat) (x : At3), Bnd13 n (tvx may H A B n x)
 | 0, x => by simp [tvx, Bnd13]
 | n + 1, x => by
  have := fold_bnd (may := may) (h := x.1) (t := tvx may H A B n) (tvx_bnd may hA hB n) (movesL A B (H.getD x.1 0) x) 0 (-1, 0) (by refine ⟨?_, ?_, ?_, ?_⟩ <;> simp; omega)
  simp only [Nat.zero_add] at this
  obtain ⟨h1, h2, h3, h4⟩ := this
  refine ⟨h1, h2, h3, Int.le_trans h4 ?_⟩
  have := movesL_len A B (H.getD x.1 0) x
  have h5 : (movesL A B (H.getD x.1 0) x).length * 13 ^ n ≤ 13 * 13 ^ n := Nat.mul_le_mul_right _ (by omega)
  rw [Nat.pow_succ, Nat.mul_comm (13 ^ n) 13]
  exact Int.ofNat_le.2 h5
theorem pow13 {n : Nat} (h : n ≤ 10) : 13 ^ n ≤ 137858491849 := Nat.le_trans (Nat.pow_le_pow_right (by decide) h) (by decide)

/-! ### The memory -/
abbrev Memo := List ((Int × (Int × Int)) × (Int × Int))
abbrev Desk := (List (List Int)) × ((List Int) × (Int × ((List Int) × (List Int))))
def MapOK (may : Nat → Int × Int → Bool) (H A B : List Int) (m : Memo) : Prop := ∀ e ∈ m, ∃ x : At3, e = ((((x.1 : Nat) : Int), ((x.2.1 : Nat) : Int), ((x.2.2 : Nat) : Int)), tv may H A B x)
theorem MapOK.nil (may : Nat → Int × Int → Bool) (H A B : List Int) : MapOK may H A B [] := fun _ h => by cases h
theorem MapOK.cons {may : Nat → Int × Int → Bool} {H A B : List Int} {m : Memo} (h : MapOK may H A B m) (x : At3) : MapOK may H A B (((((x.1 : Nat) : Int), ((x.2.1 : Nat) : Int), ((x.2.2 : Nat) : Int)), tv may H A B x) :: m) := fun e he => by
 rcases List.mem_cons.1 he with rfl | he
 ·exact ⟨x, rfl⟩
 ·exact h e he
theorem MapOK.find {may : Nat → Int × Int → Bool} {H A B : List Int} {m : Memo} (h : MapOK may H A B m) (x : At3) {e : (Int × (Int × Int)) × (Int × Int)} (he : m.find? (fun y => Ty.beq (.pair (.int .i64) (.pair (.int .i64) (.int .i64))) y.1 (((x.1 : Nat) : Int), ((x.2.1 : Nat) : Int), ((x.2.2 : Nat) : Int))) = some e) : e.2 = tv may H A B x := by
 obtain ⟨y, rfl⟩ := h e (List.mem_of_find?_eq_some he)
 have := List.find?_some he
 have := (beq_iff_ (y := .pair (.int .i64) (.pair (.int .i64) (.int .i64))) rfl).1 this
 simp only [Prod.mk.injEq] at this
 have e : y = x := by
  obtain ⟨a, b, c⟩ := x
  obtain ⟨a', b', c'⟩ := y
  dsimp only at this
  simp only [Prod.mk.injEq]; omega
 rw [e]
end Go.Proofs.Ytfcnhnbnjdccfaa

/-
  Parts of a proof, put together: SE2.
  Conditions: none.
-/
import Derived.Test.YtbjmmfjfmjdadaaZd
namespace Go.Proofs.Ytbjmmfjfmjdadaa
set_option linter.all false
open Go

def next_S (N : Nat) (d : ((List (List Int)) × ((List Int) × (Int × ((List Int) × (List Int)))))) (x : Int) (x2 : Int) (x3 : Int) : Option ((Int × (Int × Int)) × ((List (List Int)) × ((List Int) × (Int × ((List Int) × (List Int)))))) :=
  some ((x, x2, x3), d)
noncomputable def next_sp (N : Nat) : List Spec := []
theorem next_all (N : Nat) : AllP (SpecOK Try.prog) (next_sp N) := trivial
noncomputable def next_c : Code := (Try.f67.body).getD .skip
noncomputable abbrev next_B : Body := { c := next_c, n := 6, res := [.tmp 4], outs := [⟨[.fn 75 [] [.fe (.pair (.int .i64) (.pair (.int .i64) (.int .i64))), .fe (.ptr (.pair (.sl (.sl (.int .i64))) (.pair (.sl (.int .i64)) (.pair (.int .i64) (.pair (.sl (.int .i64)) (.sl (.int .i64)))))))]], []⟩], m0 := 0 }
abbrev next_rt : altD next_B.outs → Option ((Int × (Int × Int)) × ((List (List Int)) × ((List Int) × (Int × ((List Int) × (List Int)))))) := fun r => some (r.1.1.2.1, r.1.1.2.2.1)
abbrev next_st : Sta := ⟨[0, 1], ⟨[.fe (.pair (.sl (.sl (.int .i64))) (.pair (.sl (.int .i64)) (.pair (.int .i64) (.pair (.sl (.int .i64)) (.sl (.int .i64)))))), .agg [.i .i64, .i .i64, .i .i64]], []⟩⟩
theorem next_eq (N : Nat) (d : ((List (List Int)) × ((List Int) × (Int × ((List Int) × (List Int)))))) (x : Int) (x2 : Int) (x3 : Int) : ev (Z := (Int × (Int × Int)) × ((List (List Int)) × ((List Int) × (Int × ((List Int) × (List Int)))))) Try.prog (next_sp N) next_B [] [] (some next_rt) 400 false [.c [0], .c [1]] (stL next_st ((d, (x, x2, x3, ()), ()), ())) (stH next_st ((d, (x, x2, x3, ()), ()), ())) = next_S N d x x2 x3 := by kernel_rfl
noncomputable def sp_next (N : Nat) : Spec := { f := 67, ins := ⟨[.fe (.pair (.sl (.sl (.int .i64))) (.pair (.sl (.int .i64)) (.pair (.int .i64) (.pair (.sl (.int .i64)) (.sl (.int .i64)))))), .agg [.i .i64, .i .i64, .i .i64]], []⟩, outs := [⟨[.fn 75 [] [.fe (.pair (.int .i64) (.pair (.int .i64) (.int .i64))), .fe (.ptr (.pair (.sl (.sl (.int .i64))) (.pair (.sl (.int .i64)) (.pair (.int .i64) (.pair (.sl (.int .i64)) (.sl (.int .i64)))))))]], []⟩], run := fun p k => (next_S N p.1.1 p.1.2.1.1 p.1.2.1.2.1 p.1.2.1.2.2.1).bind fun r => k ((((), (r.1, r.2, ())), ()), ()) }
theorem sp_next_ok (N : Nat) : SpecOK Try.prog (sp_next N) := fn_sound (B := next_B) (loops := []) (leaves := []) (fun p => next_S N p.1.1 p.1.2.1.1 p.1.2.1.2.1 p.1.2.1.2.2.1) (fun r => ((((), (r.1, r.2, ())), ()), ())) next_rt (fun _ _ _ => rfl) (fun r z h => by cases h; rfl) Try.func67 (by kernel_rfl) (by kernel_rfl) (by kernel_rfl) rfl rfl (by kernel_rfl) (fun args w => Sem.pv_run _ _ _ (by kernel_rfl) w) (next_all N) mixed trivial (fun z E Xc hE hX hret => trivial) (fun p => next_eq N p.1.1 p.1.2.1.1 p.1.2.1.2.1 p.1.2.1.2.2.1)

def dfaults_S (N : Nat) (d : ((List (List Int)) × ((List Int) × (Int × ((List Int) × (List Int)))))) (told : Int) : Option Int :=
  chk ((d.2.2.2.1.length : Int) + (d.2.2.2.2.length : Int)) <|
  chk (((d.2.2.2.1.length : Int) + (d.2.2.2.2.length : Int)) + (d.2.1.length : Int)) <|
  chk (2 * told) <|
  chk ((((d.2.2.2.1.length : Int) + (d.2.2.2.2.length : Int)) + (d.2.1.length : Int)) - (2 * told)) <|
  some ((((d.2.2.2.1.length : Int) + (d.2.2.2.2.length : Int)) + (d.2.1.length : Int)) - (2 * told))
noncomputable def dfaults_sp (N : Nat) : List Spec := []
theorem dfaults_all (N : Nat) : AllP (SpecOK Try.prog) (dfaults_sp N) := trivial
noncomputable def dfaults_c : Code := (Try.f29.body).getD .skip
noncomputable abbrev dfaults_B : Body := { c := dfaults_c, n := 26, res := [.tmp 4], outs := [⟨[.i .i64], []⟩], m0 := 0 }
abbrev dfaults_rt : altD dfaults_B.outs → Option Int := fun r => some r.1.1
abbrev dfaults_st : Sta := ⟨[0, 1], ⟨[.fe (.pair (.sl (.sl (.int .i64))) (.pair (.sl (.int .i64)) (.pair (.int .i64) (.pair (.sl (.int .i64)) (.sl (.int .i64)))))), .i .i64], []⟩⟩
theorem dfaults_eq (N : Nat) (d : ((List (List Int)) × ((List Int) × (Int × ((List Int) × (List Int)))))) (told : Int) : ev (Z := Int) Try.prog (dfaults_sp N) dfaults_B [] [] (some dfaults_rt) 400 false [.c [0], .c [1]] (stL dfaults_st ((d, told, ()), ())) (stH dfaults_st ((d, told, ()), ())) = dfaults_S N d told := by kernel_rfl
noncomputable def sp_dfaults (N : Nat) : Spec := { f := 29, ins := ⟨[.fe (.pair (.sl (.sl (.int .i64))) (.pair (.sl (.int .i64)) (.pair (.int .i64) (.pair (.sl (.int .i64)) (.sl (.int .i64)))))), .i .i64], []⟩, outs := [⟨[.i .i64], []⟩], run := fun p k => (dfaults_S N p.1.1 p.1.2.1).bind fun r => k ((r, ()), ()) }
theorem sp_dfaults_ok (N : Nat) : SpecOK Try.prog (sp_dfaults N) := fn_sound (B := dfaults_B) (loops := []) (leaves := []) (fun p => dfaults_S N p.1.1 p.1.2.1) (fun r => ((r, ()), ())) dfaults_rt (fun _ _ _ => rfl) (fun r z h => by cases h; rfl) Try.func29 (by kernel_rfl) (by kernel_rfl) (by kernel_rfl) rfl rfl (by kernel_rfl) (fun args w => Sem.pv_run _ _ _ (by kernel_rfl) w) (dfaults_all N) mixed trivial (fun z E Xc hE hX hret => trivial) (fun p => dfaults_eq N p.1.1 p.1.2.1)

def all1_S (N : Nat) (u : Int) (u2 : Int) (u3 : Int) : Option Bool :=
  some true
noncomputable def all1_sp (N : Nat) : List Spec := []
theorem all1_all (N : Nat) : AllP (SpecOK Try.prog) (all1_sp N) := trivial
noncomputable def all1_c : Code := (Try.f47.body).getD .skip
noncomputable abbrev all1_B : Body := { c := all1_c, n := 5, res := [.tmp 4], outs := [⟨[.b], []⟩], m0 := 0 }
abbrev all1_rt : altD all1_B.outs → Option Bool := fun r => some r.1.1
abbrev all1_st : Sta := ⟨[0, 1], ⟨[.i .i64, .agg [.i .i64, .i .i64]], []⟩⟩
theorem all1_eq (N : Nat) (u : Int) (u2 : Int) (u3 : Int) : ev (Z := Bool) Try.prog (all1_sp N) all1_B [] [] (some all1_rt) 400 false [.c [0], .c [1]] (stL all1_st ((u, (u2, u3, ()), ()), ())) (stH all1_st ((u, (u2, u3, ()), ()), ())) = all1_S N u u2 u3 := by kernel_rfl
noncomputable def sp_all1 (N : Nat) : Spec := { f := 47, ins := ⟨[.i .i64, .agg [.i .i64, .i .i64]], []⟩, outs := [⟨[.b], []⟩], run := fun p k => (all1_S N p.1.1 p.1.2.1.1 p.1.2.1.2.1).bind fun r => k ((r, ()), ()) }
theorem sp_all1_ok (N : Nat) : SpecOK Try.prog (sp_all1 N) := fn_sound (B := all1_B) (loops := []) (leaves := []) (fun p => all1_S N p.1.1 p.1.2.1.1 p.1.2.1.2.1) (fun r => ((r, ()), ())) all1_rt (fun _ _ _ => rfl) (fun r z h => by cases h; rfl) Try.func47 (by kernel_rfl) (by kernel_rfl) (by kernel_rfl) rfl rfl (by kernel_rfl) (fun args w => Sem.pv_run _ _ _ (by kernel_rfl) w) (all1_all N) mixed trivial (fun z E Xc hE hX hret => trivial) (fun p => all1_eq N p.1.1 p.1.2.1.1 p.1.2.1.2.1)

def all_S (N : Nat)  : Option Unit :=
  some ()
noncomputable def all_sp (N : Nat) : List Spec := []
theorem all_all (N : Nat) : AllP (SpecOK Try.prog) (all_sp N) := trivial
noncomputable def all_c : Code := (Try.f31.body).getD .skip
noncomputable abbrev all_B : Body := { c := all_c, n := 2, res := [.cell 0 84], outs := [⟨[.agg [.fn 47 [] []]], []⟩], m0 := 0 }
abbrev all_rt : altD all_B.outs → Option Unit := fun r => some ()
abbrev all_st : Sta := ⟨[], ⟨[], []⟩⟩
theorem all_eq (N : Nat)  : ev (Z := Unit) Try.prog (all_sp N) all_B [] [] (some all_rt) 400 false [.c [0], .c [1]] (stL all_st ((), ())) (stH all_st ((), ())) = all_S N := by kernel_rfl
noncomputable def sp_all (N : Nat) : Spec := { f := 31, ins := ⟨[], []⟩, outs := [⟨[.agg [.fn 47 [] []]], []⟩], run := fun p k => (all_S N).bind fun r => k (((((), ()), ()), ()), ()) }
theorem sp_all_ok (N : Nat) : SpecOK Try.prog (sp_all N) := fn_sound (B := all_B) (loops := []) (leaves := []) (fun p => all_S N ) (fun r => (((((), ()), ()), ()), ())) all_rt (fun _ _ _ => rfl) (fun r z h => by cases h; rfl) Try.func31 (by kernel_rfl) (by kernel_rfl) (by kernel_rfl) rfl rfl (by kernel_rfl) (fun args w => Sem.pv_run _ _ _ (by kernel_rfl) w) (all_all N) mixed trivial (fun z E Xc hE hX hret => trivial) (fun p => all_eq N )

noncomputable abbrev resta_self (self : Int → Int → Int → (((List (List Int)) × ((List Int) × (Int × ((List Int) × (List Int)))))) → (((List (List Int)) × ((List Int) × (Int × ((List Int) × (List Int)))))) → (List ((Int × (Int × Int)) × (Int × Int))) → Option (Int × Int × ((List (List Int)) × ((List Int) × (Int × ((List Int) × (List Int))))) × (List ((Int × (Int × Int)) × (Int × Int))))) : Spec := { f := 66, ins := ⟨[.agg [.i .i64, .i .i64, .i .i64], .fz [.fe (.pair (.sl (.sl (.int .i64))) (.pair (.sl (.int .i64)) (.pair (.int .i64) (.pair (.sl (.int .i64)) (.sl (.int .i64))))))], .fz [.mp 1], .fz [.fn 47 [] []], .own 0 0], [.segs [.fn 66 [] [.fz [.fe (.pair (.sl (.sl (.int .i64))) (.pair (.sl (.int .i64)) (.pair (.int .i64) (.pair (.sl (.int .i64)) (.sl (.int .i64))))))], .fz [.mp 1], .fz [.fn 47 [] []], .own 0 0]], .map (.pair (.int .i64) (.pair (.int .i64) (.int .i64))) (.pair (.int .i64) (.int .i64))]⟩, outs := [⟨[.agg [.i .i64, .i .i64]], [.segs [.fn 66 [] [.fz [.fe (.pair (.sl (.sl (.int .i64))) (.pair (.sl (.int .i64)) (.pair (.int .i64) (.pair (.sl (.int .i64)) (.sl (.int .i64))))))], .fz [.mp 1], .fz [.fn 47 [] []], .own 0 0]], .map (.pair (.int .i64) (.pair (.int .i64) (.int .i64))) (.pair (.int .i64) (.int .i64))]⟩], run := fun p k => (self p.1.1.1 p.1.1.2.1 p.1.1.2.2.1 p.1.2.1.1 p.2.1.1.2.1.1 p.2.2.1).bind fun r => k (((r.1, r.2.1, ()), ()), ((((), ((r.2.2.1, ()), ((), ()), (((), ()), ()), (), ())), ()), r.2.2.2, ())) }
def resta_l1_b (N : Nat) (self : Int → Int → Int → (((List (List Int)) × ((List Int) × (Int × ((List Int) × (List Int)))))) → (((List (List Int)) × ((List Int) × (Int × ((List Int) × (List Int)))))) → (List ((Int × (Int × Int)) × (Int × Int))) → Option (Int × Int × ((List (List Int)) × ((List Int) × (Int × ((List Int) × (List Int))))) × (List ((Int × (Int × Int)) × (Int × Int))))) (rec : (((List (List Int)) × ((List Int) × (Int × ((List Int) × (List Int)))))) → (List ((Int × (Int × Int)) × (Int × Int))) → Int → Int → Int → Int → Int → Int → Int → Option (((List (List Int)) × ((List Int) × (Int × ((List Int) × (List Int))))) × (List ((Int × (Int × Int)) × (Int × Int))) × Int × Int × Int × Int × Int × Int × Int)) (u : (Int × (Int × Int))) (u2 : ((List (List Int)) × ((List Int) × (Int × ((List Int) × (List Int)))))) (g' : ((List (List Int)) × ((List Int) × (Int × ((List Int) × (List Int)))))) (g2' : List ((Int × (Int × Int)) × (Int × Int))) (x' : Int) (x2' : Int) (x3' : Int) (g3' : Int) (g4' : Int) (best' : Int) (best2' : Int) (p' : Int) (p2' : Int) (y' : Int) (y2' : Int) (y3' : Int) : Option (((List (List Int)) × ((List Int) × (Int × ((List Int) × (List Int))))) × (List ((Int × (Int × Int)) × (Int × Int))) × Int × Int × Int × Int × Int × Int × Int) :=
  (all1_S N x' p' p2').bind fun x_3 =>
  br (!x_3)
    (rec g' g2' x' x2' x3' g3' g4' best' best2')
    ((self y' y2' y3' g' g' g2').bind fun (x_4, y_5, y_6, y_7) =>
    br (decide (0 ≤ x_4))
      (br (!decide (p' = 3))
        (chk (x_4 + 1) <|
        br (decide (best' < (x_4 + 1)))
          (rec y_6 y_7 x' x2' x3' g3' g4' (x_4 + 1) y_5)
          (br (decide ((x_4 + 1) = best'))
            (chk (best2' + y_5) <|
            rec y_6 y_7 x' x2' x3' g3' g4' best' (best2' + y_5))
            (rec y_6 y_7 x' x2' x3' g3' g4' best' best2')))
        (br (decide (best' < x_4))
          (rec y_6 y_7 x' x2' x3' g3' g4' x_4 y_5)
          (br (decide (x_4 = best'))
            (chk (best2' + y_5) <|
            rec y_6 y_7 x' x2' x3' g3' g4' best' (best2' + y_5))
            (rec y_6 y_7 x' x2' x3' g3' g4' best' best2'))))
      (br (decide (best' < x_4))
        (rec y_6 y_7 x' x2' x3' g3' g4' x_4 y_5)
        (br (decide (x_4 = best'))
          (chk (best2' + y_5) <|
          rec y_6 y_7 x' x2' x3' g3' g4' best' (best2' + y_5))
          (rec y_6 y_7 x' x2' x3' g3' g4' best' best2'))))
def resta_l1 (N : Nat) (self : Int → Int → Int → (((List (List Int)) × ((List Int) × (Int × ((List Int) × (List Int)))))) → (((List (List Int)) × ((List Int) × (Int × ((List Int) × (List Int)))))) → (List ((Int × (Int × Int)) × (Int × Int))) → Option (Int × Int × ((List (List Int)) × ((List Int) × (Int × ((List Int) × (List Int))))) × (List ((Int × (Int × Int)) × (Int × Int))))) : List Move → ((Int × (Int × Int))) → (((List (List Int)) × ((List Int) × (Int × ((List Int) × (List Int)))))) → (((List (List Int)) × ((List Int) × (Int × ((List Int) × (List Int)))))) → (List ((Int × (Int × Int)) × (Int × Int))) → Int → Int → Int → Int → Int → Int → Int → Option (((List (List Int)) × ((List Int) × (Int × ((List Int) × (List Int))))) × (List ((Int × (Int × Int)) × (Int × Int))) × Int × Int × Int × Int × Int × Int × Int)
  | [], u, u2, g, g2, x, x2, x3, g3, g4, best, best2 =>
    some ((g, g2, x, x2, x3, g3, g4, best, best2))
  | e :: es, u, u2, g, g2, x, x2, x3, g3, g4, best, best2 =>
    resta_l1_b N self (fun g_ g2_ x_ x2_ x3_ g3_ g4_ best_ best2_ => resta_l1 N self es u u2 g_ g2_ x_ x2_ x3_ g3_ g4_ best_ best2_) u u2 g g2 x x2 x3 g3 g4 best best2 e.1.1 e.1.2.1 e.2.1.1 e.2.1.2.1 e.2.1.2.2.1
def resta_S (N : Nat) (self : Int → Int → Int → (((List (List Int)) × ((List Int) × (Int × ((List Int) × (List Int)))))) → (((List (List Int)) × ((List Int) × (Int × ((List Int) × (List Int)))))) → (List ((Int × (Int × Int)) × (Int × Int))) → Option (Int × Int × ((List (List Int)) × ((List Int) × (Int × ((List Int) × (List Int))))) × (List ((Int × (Int × Int)) × (Int × Int))))) (x : Int) (x2 : Int) (x3 : Int) (u : ((List (List Int)) × ((List Int) × (Int × ((List Int) × (List Int)))))) (g : ((List (List Int)) × ((List Int) × (Int × ((List Int) × (List Int)))))) (g2 : List ((Int × (Int × Int)) × (Int × Int))) : Option (Int × Int × ((List (List Int)) × ((List Int) × (Int × ((List Int) × (List Int))))) × (List ((Int × (Int × Int)) × (Int × Int)))) :=
  br (decide (x = (u.2.1.length : Int)))
    (some (0, 1, g, g2))
    (br ((g2.find? fun (y : (Int × (Int × Int)) × (Int × Int)) => Ty.beq (.pair (.int .i64) (.pair (.int .i64) (.int .i64))) y.1 (x, x2, x3)).isSome)
      (some ((((g2.find? fun (y : (Int × (Int × Int)) × (Int × Int)) => Ty.beq (.pair (.int .i64) (.pair (.int .i64) (.int .i64))) y.1 (x, x2, x3)).map (·.2)).getD (Ty.dflt (.pair (.int .i64) (.int .i64)))).1, (((g2.find? fun (y : (Int × (Int × Int)) × (Int × Int)) => Ty.beq (.pair (.int .i64) (.pair (.int .i64) (.int .i64))) y.1 (x, x2, x3)).map (·.2)).getD (Ty.dflt (.pair (.int .i64) (.int .i64)))).2, g, g2))
      ((next_S N u x x2 x3).bind fun (x_1, y_2) =>
      ((nextR x_1 y_2).bind fun es => resta_l1 N self es x_1 y_2 g g2 x x2 x3 0 0 (-1) 0).bind fun (g_8, g2_9, x_10, x2_11, x3_12, g3_13, g4_14, best_15, best2_16) =>
      some (best_15, best2_16, g_8, (((x_10, x2_11, x3_12), (best_15, best2_16)) :: g2_9))))
noncomputable def resta_sp (N : Nat) (self : Int → Int → Int → (((List (List Int)) × ((List Int) × (Int × ((List Int) × (List Int)))))) → (((List (List Int)) × ((List Int) × (Int × ((List Int) × (List Int)))))) → (List ((Int × (Int × Int)) × (Int × Int))) → Option (Int × Int × ((List (List Int)) × ((List Int) × (Int × ((List Int) × (List Int))))) × (List ((Int × (Int × Int)) × (Int × Int))))) : List Spec := [sp_next N, sp_all1 N, resta_self self]
theorem resta_all (N : Nat) (self : Int → Int → Int → (((List (List Int)) × ((List Int) × (Int × ((List Int) × (List Int)))))) → (((List (List Int)) × ((List Int) × (Int × ((List Int) × (List Int)))))) → (List ((Int × (Int × Int)) × (Int × Int))) → Option (Int × Int × ((List (List Int)) × ((List Int) × (Int × ((List Int) × (List Int))))) × (List ((Int × (Int × Int)) × (Int × Int))))) (hself : SpecOK Try.prog (resta_self self)) : AllP (SpecOK Try.prog) (resta_sp N self) := ⟨sp_next_ok N, sp_all1_ok N, hself, trivial⟩
noncomputable def resta_c : Code := (Try.f66.body).getD .skip
noncomputable abbrev resta_B : Body := { c := resta_c, n := 82, res := [.cell 6 80], outs := [⟨[.agg [.i .i64, .i .i64]], [.segs [.fn 66 [] [.fz [.fe (.pair (.sl (.sl (.int .i64))) (.pair (.sl (.int .i64)) (.pair (.int .i64) (.pair (.sl (.int .i64)) (.sl (.int .i64))))))], .fz [.mp 1], .fz [.fn 47 [] []], .own 0 0]], .map (.pair (.int .i64) (.pair (.int .i64) (.int .i64))) (.pair (.int .i64) (.int .i64))]⟩], m0 := 2 }
abbrev resta_rt : altD resta_B.outs → Option (Int × Int × ((List (List Int)) × ((List Int) × (Int × ((List Int) × (List Int))))) × (List ((Int × (Int × Int)) × (Int × Int)))) := fun r => some (r.1.1.1, r.1.1.2.1, r.2.1.1.2.1.1, r.2.2.1)
abbrev resta_l1_st : Sta := ⟨[2, 3, 4, 5, 6, 9, 34], ⟨[.fz [.mp 1], .fz [.fn 47 [] []], .own 0 0, .own 2 0, .own 3 0, .own 4 0, .fn 75 [] [.fe (.pair (.int .i64) (.pair (.int .i64) (.int .i64))), .fe (.ptr (.pair (.sl (.sl (.int .i64))) (.pair (.sl (.int .i64)) (.pair (.int .i64) (.pair (.sl (.int .i64)) (.sl (.int .i64)))))))]], [.segs [.fn 66 [] [.fz [.fe (.pair (.sl (.sl (.int .i64))) (.pair (.sl (.int .i64)) (.pair (.int .i64) (.pair (.sl (.int .i64)) (.sl (.int .i64))))))], .fz [.mp 1], .fz [.fn 47 [] []], .own 0 0]], .map (.pair (.int .i64) (.pair (.int .i64) (.int .i64))) (.pair (.int .i64) (.int .i64)), .segs [.i .i64, .i .i64, .i .i64], .segs [.i .i64, .i .i64], .segs [.i .i64, .i .i64]]⟩⟩
abbrev resta_l1_stA : Sta := ⟨[3, 4, 5, 6, 9, 10, 11], ⟨[.fz [.fn 47 [] []], .own 0 0, .own 2 0, .own 3 0, .own 4 0, .own 5 0, .own 6 0], [.segs [.fn 66 [] [.fz [.fe (.pair (.sl (.sl (.int .i64))) (.pair (.sl (.int .i64)) (.pair (.int .i64) (.pair (.sl (.int .i64)) (.sl (.int .i64))))))], .fz [.mp 1], .fz [.fn 47 [] []], .own 0 0]], .map (.pair (.int .i64) (.pair (.int .i64) (.int .i64))) (.pair (.int .i64) (.int .i64)), .segs [.i .i64, .i .i64, .i .i64], .segs [.i .i64, .i .i64], .segs [.i .i64, .i .i64], .segs [.i .i64, .i .i64], .segs [.i .i64, .i .i64, .i .i64]]⟩⟩
abbrev resta_l1_e0 : Leaf (((List (List Int)) × ((List Int) × (Int × ((List Int) × (List Int))))) × (List ((Int × (Int × Int)) × (Int × Int))) × Int × Int × Int × Int × Int × Int × Int) := ⟨[.c [1, 1, 1, 1, 1, 0], .c [1, 1, 1, 1, 1, 1]], ⟨[2, 5, 6, 9], ⟨[.fz [.mp 1], .own 2 0, .own 3 0, .own 4 0], [.segs [.fn 66 [] [.fz [.fe (.pair (.sl (.sl (.int .i64))) (.pair (.sl (.int .i64)) (.pair (.int .i64) (.pair (.sl (.int .i64)) (.sl (.int .i64))))))], .fz [.mp 1], .fz [.fn 47 [] []], .own 0 0]], .map (.pair (.int .i64) (.pair (.int .i64) (.int .i64))) (.pair (.int .i64) (.int .i64)), .segs [.i .i64, .i .i64, .i .i64], .segs [.i .i64, .i .i64], .segs [.i .i64, .i .i64]]⟩⟩, fun p => some ((p.2.1.1.2.1.1, p.2.2.1, p.2.2.2.1.1, p.2.2.2.1.2.1, p.2.2.2.1.2.2.1, p.2.2.2.2.1.1, p.2.2.2.2.1.2.1, p.2.2.2.2.2.1.1, p.2.2.2.2.2.1.2.1))⟩
noncomputable def resta_l1_L (N : Nat) (self : Int → Int → Int → (((List (List Int)) × ((List Int) × (Int × ((List Int) × (List Int)))))) → (((List (List Int)) × ((List Int) × (Int × ((List Int) × (List Int)))))) → (List ((Int × (Int × Int)) × (Int × Int))) → Option (Int × Int × ((List (List Int)) × ((List Int) × (Int × ((List Int) × (List Int))))) × (List ((Int × (Int × Int)) × (Int × Int))))) : LoopS := { at_ := [.c [1, 1, 1, 1, 0, 1, 0], .b 0, .c [1, 1, 1, 1, 1]], sta := resta_l1_st, exits := [([.c [1, 1, 1, 1, 1, 0], .c [1, 1, 1, 1, 1, 1]], ⟨[2, 5, 6, 9], ⟨[.fz [.mp 1], .own 2 0, .own 3 0, .own 4 0], [.segs [.fn 66 [] [.fz [.fe (.pair (.sl (.sl (.int .i64))) (.pair (.sl (.int .i64)) (.pair (.int .i64) (.pair (.sl (.int .i64)) (.sl (.int .i64))))))], .fz [.mp 1], .fz [.fn 47 [] []], .own 0 0]], .map (.pair (.int .i64) (.pair (.int .i64) (.int .i64))) (.pair (.int .i64) (.int .i64)), .segs [.i .i64, .i .i64, .i .i64], .segs [.i .i64, .i .i64], .segs [.i .i64, .i .i64]]⟩⟩)], run := fun p k => ((nextR p.1.2.2.2.2.2.2.1.2.1 p.1.2.2.2.2.2.2.1.2.2.1).bind fun es => resta_l1 N self es p.1.2.2.2.2.2.2.1.2.1 p.1.2.2.2.2.2.2.1.2.2.1 p.2.1.1.2.1.1 p.2.2.1 p.2.2.2.1.1 p.2.2.2.1.2.1 p.2.2.2.1.2.2.1 p.2.2.2.2.1.1 p.2.2.2.2.1.2.1 p.2.2.2.2.2.1.1 p.2.2.2.2.2.1.2.1).bind fun e => k (.inl ((((), ()), (), (), (), ()), ((((), ((e.1, ()), ((), ()), (((), ()), ()), (), ())), ()), e.2.1, (e.2.2.1, e.2.2.2.1, e.2.2.2.2.1, ()), (e.2.2.2.2.2.1, e.2.2.2.2.2.2.1, ()), (e.2.2.2.2.2.2.2.1, e.2.2.2.2.2.2.2.2, ()), ()))) }
noncomputable abbrev resta_l1_Bk : Body := { c := resta_c, n := resta_B.n, res := resta_B.res, outs := resta_B.outs, m0 := 5 }
theorem resta_l1_end (N : Nat) (self : Int → Int → Int → (((List (List Int)) × ((List Int) × (Int × ((List Int) × (List Int)))))) → (((List (List Int)) × ((List Int) × (Int × ((List Int) × (List Int)))))) → (List ((Int × (Int × Int)) × (Int × Int))) → Option (Int × Int × ((List (List Int)) × ((List Int) × (Int × ((List Int) × (List Int))))) × (List ((Int × (Int × Int)) × (Int × Int))))) (u : (Int × (Int × Int))) (u2 : ((List (List Int)) × ((List Int) × (Int × ((List Int) × (List Int)))))) (g : ((List (List Int)) × ((List Int) × (Int × ((List Int) × (List Int)))))) (g2 : List ((Int × (Int × Int)) × (Int × Int))) (x : Int) (x2 : Int) (x3 : Int) (g3 : Int) (g4 : Int) (best : Int) (best2 : Int) : ev (Z := ((List (List Int)) × ((List Int) × (Int × ((List Int) × (List Int))))) × (List ((Int × (Int × Int)) × (Int × Int))) × Int × Int × Int × Int × Int × Int × Int) Try.prog (resta_sp N self) resta_B [] [resta_l1_e0] none 400 false (nrm resta_B.c 99 [.b 0, .c [1, 1, 1, 1, 1]]) (stL resta_l1_st ((((), ()), (((), ()), ()), (), (), (), (), ((), (u, u2, ())), ()), ((((), ((g, ()), ((), ()), (((), ()), ()), (), ())), ()), g2, (x, x2, x3, ()), (g3, g4, ()), (best, best2, ()), ()))) (stH resta_l1_st ((((), ()), (((), ()), ()), (), (), (), (), ((), (u, u2, ())), ()), ((((), ((g, ()), ((), ()), (((), ()), ()), (), ())), ()), g2, (x, x2, x3, ()), (g3, g4, ()), (best, best2, ()), ()))) = resta_l1 N self [] u u2 g g2 x x2 x3 g3 g4 best best2 := by kernel_rfl
theorem resta_l1_asg (N : Nat) (self : Int → Int → Int → (((List (List Int)) × ((List Int) × (Int × ((List Int) × (List Int)))))) → (((List (List Int)) × ((List Int) × (Int × ((List Int) × (List Int)))))) → (List ((Int × (Int × Int)) × (Int × Int))) → Option (Int × Int × ((List (List Int)) × ((List Int) × (Int × ((List Int) × (List Int))))) × (List ((Int × (Int × Int)) × (Int × Int))))) (e : Move) (es : List Move) (u : (Int × (Int × Int))) (u2 : ((List (List Int)) × ((List Int) × (Int × ((List Int) × (List Int)))))) (g : ((List (List Int)) × ((List Int) × (Int × ((List Int) × (List Int)))))) (g2 : List ((Int × (Int × Int)) × (Int × Int))) (x : Int) (x2 : Int) (x3 : Int) (g3 : Int) (g4 : Int) (best : Int) (best2 : Int) : ev (Z := ((List (List Int)) × ((List Int) × (Int × ((List Int) × (List Int))))) × (List ((Int × (Int × Int)) × (Int × Int))) × Int × Int × Int × Int × Int × Int × Int) Try.prog (resta_sp N self) resta_l1_Bk [] [⟨[.r, .c [1, 1, 1, 1, 0, 1, 0, 1]], resta_l1_stA, fun p => resta_l1_b N self (fun g_ g2_ x_ x2_ x3_ g3_ g4_ best_ best2_ => resta_l1 N self es u u2 g_ g2_ x_ x2_ x3_ g3_ g4_ best_ best2_) u u2 p.2.1.1.2.1.1 p.2.2.1 p.2.2.2.1.1 p.2.2.2.1.2.1 p.2.2.2.1.2.2.1 p.2.2.2.2.1.1 p.2.2.2.2.1.2.1 p.2.2.2.2.2.1.1 p.2.2.2.2.2.1.2.1 p.2.2.2.2.2.2.1.1 p.2.2.2.2.2.2.1.2.1 p.2.2.2.2.2.2.2.1.1 p.2.2.2.2.2.2.2.1.2.1 p.2.2.2.2.2.2.2.1.2.2.1⟩] none 400 false (nrm resta_B.c 99 [.c [1, 1, 1, 1, 0, 1, 0, 0], .r, .c [1, 1, 1, 1, 0, 1, 0, 1]]) (pars [35, 36] (encs id is_next.elem e) (stL resta_l1_st ((((), ()), (((), ()), ()), (), (), (), (), ((), (u, u2, ())), ()), ((((), ((g, ()), ((), ()), (((), ()), ()), (), ())), ()), g2, (x, x2, x3, ()), (g3, g4, ()), (best, best2, ()), ())))) (stH resta_l1_st ((((), ()), (((), ()), ()), (), (), (), (), ((), (u, u2, ())), ()), ((((), ((g, ()), ((), ()), (((), ()), ()), (), ())), ()), g2, (x, x2, x3, ()), (g3, g4, ()), (best, best2, ()), ()))) = resta_l1 N self (e :: es) u u2 g g2 x x2 x3 g3 g4 best best2 := by kernel_rfl
theorem resta_l1_bod (N : Nat) (self : Int → Int → Int → (((List (List Int)) × ((List Int) × (Int × ((List Int) × (List Int)))))) → (((List (List Int)) × ((List Int) × (Int × ((List Int) × (List Int)))))) → (List ((Int × (Int × Int)) × (Int × Int))) → Option (Int × Int × ((List (List Int)) × ((List Int) × (Int × ((List Int) × (List Int))))) × (List ((Int × (Int × Int)) × (Int × Int))))) (rec : (((List (List Int)) × ((List Int) × (Int × ((List Int) × (List Int)))))) → (List ((Int × (Int × Int)) × (Int × Int))) → Int → Int → Int → Int → Int → Int → Int → Option (((List (List Int)) × ((List Int) × (Int × ((List Int) × (List Int))))) × (List ((Int × (Int × Int)) × (Int × Int))) × Int × Int × Int × Int × Int × Int × Int)) (u : (Int × (Int × Int))) (u2 : ((List (List Int)) × ((List Int) × (Int × ((List Int) × (List Int)))))) (g' : ((List (List Int)) × ((List Int) × (Int × ((List Int) × (List Int)))))) (g2' : List ((Int × (Int × Int)) × (Int × Int))) (x' : Int) (x2' : Int) (x3' : Int) (g3' : Int) (g4' : Int) (best' : Int) (best2' : Int) (p' : Int) (p2' : Int) (y' : Int) (y2' : Int) (y3' : Int) : ev (Z := ((List (List Int)) × ((List Int) × (Int × ((List Int) × (List Int))))) × (List ((Int × (Int × Int)) × (Int × Int))) × Int × Int × Int × Int × Int × Int × Int) Try.prog (resta_sp N self) resta_l1_Bk [] [⟨[], ⟨[], ⟨[], [.segs [.fn 66 [] [.fz [.fe (.pair (.sl (.sl (.int .i64))) (.pair (.sl (.int .i64)) (.pair (.int .i64) (.pair (.sl (.int .i64)) (.sl (.int .i64))))))], .fz [.mp 1], .fz [.fn 47 [] []], .own 0 0]], .map (.pair (.int .i64) (.pair (.int .i64) (.int .i64))) (.pair (.int .i64) (.int .i64)), .segs [.i .i64, .i .i64, .i .i64], .segs [.i .i64, .i .i64], .segs [.i .i64, .i .i64]]⟩⟩, fun p => rec p.2.1.1.2.1.1 p.2.2.1 p.2.2.2.1.1 p.2.2.2.1.2.1 p.2.2.2.1.2.2.1 p.2.2.2.2.1.1 p.2.2.2.2.1.2.1 p.2.2.2.2.2.1.1 p.2.2.2.2.2.1.2.1⟩] none 400 false (nrm resta_B.c 99 [.c [1, 1, 1, 1, 0, 1, 0, 1]]) (stL resta_l1_stA (((((), ()), ()), (), (), (), (), (), (), ()), ((((), ((g', ()), ((), ()), (((), ()), ()), (), ())), ()), g2', (x', x2', x3', ()), (g3', g4', ()), (best', best2', ()), (p', p2', ()), (y', y2', y3', ()), ()))) (stH resta_l1_stA (((((), ()), ()), (), (), (), (), (), (), ()), ((((), ((g', ()), ((), ()), (((), ()), ()), (), ())), ()), g2', (x', x2', x3', ()), (g3', g4', ()), (best', best2', ()), (p', p2', ()), (y', y2', y3', ()), ()))) = resta_l1_b N self rec u u2 g' g2' x' x2' x3' g3' g4' best' best2' p' p2' y' y2' y3' := by kernel_rfl
theorem resta_l1_ok (N : Nat) (self : Int → Int → Int → (((List (List Int)) × ((List Int) × (Int × ((List Int) × (List Int)))))) → (((List (List Int)) × ((List Int) × (Int × ((List Int) × (List Int)))))) → (List ((Int × (Int × Int)) × (Int × Int))) → Option (Int × Int × ((List (List Int)) × ((List Int) × (Int × ((List Int) × (List Int))))) × (List ((Int × (Int × Int)) × (Int × Int))))) (hself : SpecOK Try.prog (resta_self self)) : LoopOK Try.prog resta_B.c resta_B.n resta_B.m0 true (resta_l1_L N self) := by
  refine range_ok (B := resta_B) (is := is_next) (g := .tmp 34) (ps := #[35, 36]) (assign := sub resta_c [1, 1, 1, 1, 0, 1, 0, 0]) (body := sub resta_c [1, 1, 1, 1, 0, 1, 0, 1]) (Z := ((List (List Int)) × ((List Int) × (Int × ((List Int) × (List Int))))) × (List ((Int × (Int × Int)) × (Int × Int))) × Int × Int × Int × Int × Int × Int × Int) (x := resta_l1_L N self) (fun p => (p.1.2.2.2.2.2.2.1.2.1, p.1.2.2.2.2.2.2.1.2.2.1, ())) (fun es p => resta_l1 N self es p.1.2.2.2.2.2.2.1.2.1 p.1.2.2.2.2.2.2.1.2.2.1 p.2.1.1.2.1.1 p.2.2.1 p.2.2.2.1.1 p.2.2.2.1.2.1 p.2.2.2.1.2.2.1 p.2.2.2.2.1.1 p.2.2.2.2.1.2.1 p.2.2.2.2.2.1.1 p.2.2.2.2.2.1.2.1) (staA := resta_l1_stA) (fun es q p => resta_l1_b N self (fun g_ g2_ x_ x2_ x3_ g3_ g4_ best_ best2_ => resta_l1 N self es q.2.2.2.2.2.2.1.2.1 q.2.2.2.2.2.2.1.2.2.1 g_ g2_ x_ x2_ x3_ g3_ g4_ best_ best2_) q.2.2.2.2.2.2.1.2.1 q.2.2.2.2.2.2.1.2.2.1 p.2.1.1.2.1.1 p.2.2.1 p.2.2.2.1.1 p.2.2.2.1.2.1 p.2.2.2.1.2.2.1 p.2.2.2.2.1.1 p.2.2.2.2.1.2.1 p.2.2.2.2.2.1.1 p.2.2.2.2.2.1.2.1 p.2.2.2.2.2.2.1.1 p.2.2.2.2.2.2.1.2.1 p.2.2.2.2.2.2.2.1.1 p.2.2.2.2.2.2.2.1.2.1 p.2.2.2.2.2.2.2.1.2.2.1) [] (fun e => .inl ((((), ()), (), (), (), ()), ((((), ((e.1, ()), ((), ()), (((), ()), ()), (), ())), ()), e.2.1, (e.2.2.1, e.2.2.2.1, e.2.2.2.2.1, ()), (e.2.2.2.2.2.1, e.2.2.2.2.2.2.1, ()), (e.2.2.2.2.2.2.2.1, e.2.2.2.2.2.2.2.2, ()), ()))) (fun _ _ _ => rfl) rfl (by kernel_rfl) (fun _ => by kernel_rfl) (by kernel_rfl) is_next_ok (Nat.le_of_ble_eq_true (by kernel_rfl)) (by kernel_rfl) ?_ ?_ ?_ ?_
  · exact fun z E Xc hE hX hx p hp a w hS => ev_sound (z := z) (B := resta_B) (loops := []) (leaves := [resta_l1_e0]) (top := true) (resta_all N self hself) mixed trivial hE hX ⟨(fun p hp => by obtain rfl := Option.some.inj hp; exact hx), trivial⟩ RetOK.no 400 false _ _ _ ((resta_l1_end N self p.1.2.2.2.2.2.2.1.2.1 p.1.2.2.2.2.2.2.1.2.2.1 p.2.1.1.2.1.1 p.2.2.1 p.2.2.2.1.1 p.2.2.2.1.2.1 p.2.2.2.1.2.2.1 p.2.2.2.2.1.1 p.2.2.2.2.1.2.1 p.2.2.2.2.2.1.1 p.2.2.2.2.2.1.2.1).trans hp) a w hS
  · intro z E Xc hE hX hx e he q b hb a w hS
    simp only [List.not_mem_nil] at he
  · exact fun z E Xc hE hX e es p hl hp a w hS => ev_sound (z := z) (B := resta_l1_Bk) (loops := []) (leaves := [_]) (top := false) (resta_all N self hself) mixed trivial hE hX ⟨hl, trivial⟩ RetOK.no 400 false _ _ _ ((resta_l1_asg N self e es p.1.2.2.2.2.2.2.1.2.1 p.1.2.2.2.2.2.2.1.2.2.1 p.2.1.1.2.1.1 p.2.2.1 p.2.2.2.1.1 p.2.2.2.1.2.1 p.2.2.2.1.2.2.1 p.2.2.2.2.1.1 p.2.2.2.2.1.2.1 p.2.2.2.2.2.1.1 p.2.2.2.2.2.1.2.1).trans hp) a w hS
  · exact fun z E Xc hE hX es q he hs p hp a w hS => ev_sound (z := z) (B := resta_l1_Bk) (loops := []) (leaves := [_]) (top := false) (resta_all N self hself) mixed trivial hE hX ⟨he, trivial⟩ RetOK.no 400 false _ _ _ ((resta_l1_bod N self (fun g_ g2_ x_ x2_ x3_ g3_ g4_ best_ best2_ => resta_l1 N self es q.2.2.2.2.2.2.1.2.1 q.2.2.2.2.2.2.1.2.2.1 g_ g2_ x_ x2_ x3_ g3_ g4_ best_ best2_) q.2.2.2.2.2.2.1.2.1 q.2.2.2.2.2.2.1.2.2.1 p.2.1.1.2.1.1 p.2.2.1 p.2.2.2.1.1 p.2.2.2.1.2.1 p.2.2.2.1.2.2.1 p.2.2.2.2.1.1 p.2.2.2.2.1.2.1 p.2.2.2.2.2.1.1 p.2.2.2.2.2.1.2.1 p.2.2.2.2.2.2.1.1 p.2.2.2.2.2.2.1.2.1 p.2.2.2.2.2.2.2.1.1 p.2.2.2.2.2.2.2.1.2.1 p.2.2.2.2.2.2.2.1.2.2.1).trans hp) a w hS
abbrev resta_st : Sta := ⟨[0, 1, 2, 3, 4], ⟨[.agg [.i .i64, .i .i64, .i .i64], .fz [.fe (.pair (.sl (.sl (.int .i64))) (.pair (.sl (.int .i64)) (.pair (.int .i64) (.pair (.sl (.int .i64)) (.sl (.int .i64))))))], .fz [.mp 1], .fz [.fn 47 [] []], .own 0 0], [.segs [.fn 66 [] [.fz [.fe (.pair (.sl (.sl (.int .i64))) (.pair (.sl (.int .i64)) (.pair (.int .i64) (.pair (.sl (.int .i64)) (.sl (.int .i64))))))], .fz [.mp 1], .fz [.fn 47 [] []], .own 0 0]], .map (.pair (.int .i64) (.pair (.int .i64) (.int .i64))) (.pair (.int .i64) (.int .i64))]⟩⟩
theorem resta_eq (N : Nat) (self : Int → Int → Int → (((List (List Int)) × ((List Int) × (Int × ((List Int) × (List Int)))))) → (((List (List Int)) × ((List Int) × (Int × ((List Int) × (List Int)))))) → (List ((Int × (Int × Int)) × (Int × Int))) → Option (Int × Int × ((List (List Int)) × ((List Int) × (Int × ((List Int) × (List Int))))) × (List ((Int × (Int × Int)) × (Int × Int))))) (x : Int) (x2 : Int) (x3 : Int) (u : ((List (List Int)) × ((List Int) × (Int × ((List Int) × (List Int)))))) (g : ((List (List Int)) × ((List Int) × (Int × ((List Int) × (List Int)))))) (g2 : List ((Int × (Int × Int)) × (Int × Int))) : ev (Z := Int × Int × ((List (List Int)) × ((List Int) × (Int × ((List Int) × (List Int))))) × (List ((Int × (Int × Int)) × (Int × Int)))) Try.prog (resta_sp N self) resta_B [resta_l1_L N self] [] (some resta_rt) 400 false [.c [0], .c [1]] (stL resta_st (((x, x2, x3, ()), (u, ()), ((), ()), (((), ()), ()), (), ()), ((((), ((g, ()), ((), ()), (((), ()), ()), (), ())), ()), g2, ()))) (stH resta_st (((x, x2, x3, ()), (u, ()), ((), ()), (((), ()), ()), (), ()), ((((), ((g, ()), ((), ()), (((), ()), ()), (), ())), ()), g2, ()))) = resta_S N self x x2 x3 u g g2 := by kernel_rfl
theorem resta_self_ok (N : Nat) (self : Int → Int → Int → (((List (List Int)) × ((List Int) × (Int × ((List Int) × (List Int)))))) → (((List (List Int)) × ((List Int) × (Int × ((List Int) × (List Int)))))) → (List ((Int × (Int × Int)) × (Int × Int))) → Option (Int × Int × ((List (List Int)) × ((List Int) × (Int × ((List Int) × (List Int))))) × (List ((Int × (Int × Int)) × (Int × Int))))) (hself : SpecOK Try.prog (resta_self self)) : SpecOK Try.prog (resta_self (resta_S N self)) := fn_sound (B := resta_B) (loops := [resta_l1_L N self]) (leaves := []) (fun p => resta_S N self p.1.1.1 p.1.1.2.1 p.1.1.2.2.1 p.1.2.1.1 p.2.1.1.2.1.1 p.2.2.1) (fun r => (((r.1, r.2.1, ()), ()), ((((), ((r.2.2.1, ()), ((), ()), (((), ()), ()), (), ())), ()), r.2.2.2, ()))) resta_rt (fun _ _ _ => rfl) (fun r z h => by cases h; rfl) Try.func66 (by kernel_rfl) (by kernel_rfl) (by kernel_rfl) rfl rfl (by kernel_rfl) (fun args w => Sem.pv_run _ _ _ (by kernel_rfl) w) (resta_all N self hself) mixed ⟨resta_l1_ok N self hself, trivial⟩ (fun z E Xc hE hX hret => trivial) (fun p => resta_eq N self p.1.1.1 p.1.1.2.1 p.1.1.2.2.1 p.1.2.1.1 p.2.1.1.2.1.1 p.2.2.1)
def resta_R (N : Nat) : Nat → Int → Int → Int → (((List (List Int)) × ((List Int) × (Int × ((List Int) × (List Int)))))) → (((List (List Int)) × ((List Int) × (Int × ((List Int) × (List Int)))))) → (List ((Int × (Int × Int)) × (Int × Int))) → Option (Int × Int × ((List (List Int)) × ((List Int) × (Int × ((List Int) × (List Int))))) × (List ((Int × (Int × Int)) × (Int × Int))))
  | 0 => fun _ _ _ _ _ _ => none
  | n + 1 => resta_S N (resta_R N n)
theorem resta_R_ok (N : Nat) : ∀ n, SpecOK Try.prog (resta_self (resta_R N n))
  | 0 => SpecOK.none (fun _ _ _ => rfl) (fun args w => Sem.pv_run _ _ _ (by kernel_rfl) w)
  | n + 1 => resta_self_ok N (resta_R N n) (resta_R_ok N n)
noncomputable abbrev sp_resta (N : Nat) : Spec := resta_self (resta_R N N)
theorem sp_resta_ok (N : Nat) : SpecOK Try.prog (sp_resta N) := resta_R_ok N N

def restsa_j1 (N : Nat) (rest : ((List (List Int)) × ((List Int) × (Int × ((List Int) × (List Int)))))) (g : List ((Int × (Int × Int)) × (Int × Int))) : Option (List ((Int × (Int × Int)) × (Int × Int))) :=
  (resta_R N N 0 0 0 rest rest g).bind fun (x_1, y_2, y_3, y_4) =>
  some (((0, 0, 0), (x_1, y_2)) :: y_4)
def restsa_S (N : Nat) (d : ((List (List Int)) × ((List Int) × (Int × ((List Int) × (List Int)))))) : Option (List ((Int × (Int × Int)) × (Int × Int))) :=
  restsa_j1 N d []
noncomputable def restsa_sp (N : Nat) : List Spec := [sp_resta N]
theorem restsa_all (N : Nat) : AllP (SpecOK Try.prog) (restsa_sp N) := ⟨sp_resta_ok N, trivial⟩
noncomputable def restsa_c : Code := (Try.f46.body).getD .skip
noncomputable abbrev restsa_B : Body := { c := restsa_c, n := 15, res := [.tmp 4], outs := [⟨[.mp 0], [.map (.pair (.int .i64) (.pair (.int .i64) (.int .i64))) (.pair (.int .i64) (.int .i64))]⟩], m0 := 0 }
abbrev restsa_rt : altD restsa_B.outs → Option (List ((Int × (Int × Int)) × (Int × Int))) := fun r => some r.2.1
abbrev restsa_j1_at : List PI := [.c [1, 1, 1, 1, 0], .c [1, 1, 1, 1, 1]]
abbrev restsa_j1_st : Sta := ⟨[5, 6], ⟨[.fz [.mp 1], .own 0 0], [.segs [.fn 66 [] [.fz [.fe (.pair (.sl (.sl (.int .i64))) (.pair (.sl (.int .i64)) (.pair (.int .i64) (.pair (.sl (.int .i64)) (.sl (.int .i64))))))], .fz [.mp 1], .fz [.fn 47 [] []], .own 0 0]], .map (.pair (.int .i64) (.pair (.int .i64) (.int .i64))) (.pair (.int .i64) (.int .i64))]⟩⟩
abbrev restsa_j1_k (N : Nat) : Leaf (List ((Int × (Int × Int)) × (Int × Int))) := ⟨restsa_j1_at, restsa_j1_st, fun p => restsa_j1 N p.2.1.1.2.1.1 p.2.2.1⟩
theorem restsa_j1_eq (N : Nat) (rest : ((List (List Int)) × ((List Int) × (Int × ((List Int) × (List Int)))))) (g : List ((Int × (Int × Int)) × (Int × Int))) : ev (Z := (List ((Int × (Int × Int)) × (Int × Int)))) Try.prog (restsa_sp N) restsa_B [] [] (some restsa_rt) 400 true restsa_j1_at (stL restsa_j1_st ((((), ()), (), ()), ((((), ((rest, ()), ((), ()), (((), ()), ()), (), ())), ()), g, ()))) (stH restsa_j1_st ((((), ()), (), ()), ((((), ((rest, ()), ((), ()), (((), ()), ()), (), ())), ()), g, ()))) = restsa_j1 N rest g := by kernel_rfl
theorem restsa_j1_lf (N : Nat) {z : (List ((Int × (Int × Int)) × (Int × Int)))} {E : EE} {Xc : Ctx} (hE : EOK restsa_B.m0 E) (hX : CxOK true Xc) (hret : RetOK Try.prog restsa_B E Xc z (some restsa_rt)) : LeafOK Try.prog restsa_B.c restsa_B.n restsa_B.m0 E Xc z (restsa_j1_k N) := leaf_of_ev (B := restsa_B) (loops := []) (leaves := []) (restsa_all N) mixed trivial hE hX trivial hret (fun p => restsa_j1_eq N p.2.1.1.2.1.1 p.2.2.1)
abbrev restsa_st : Sta := ⟨[0, 1], ⟨[.fe (.pair (.sl (.sl (.int .i64))) (.pair (.sl (.int .i64)) (.pair (.int .i64) (.pair (.sl (.int .i64)) (.sl (.int .i64)))))), .agg [.fn 47 [] []]], []⟩⟩
theorem restsa_eq (N : Nat) (d : ((List (List Int)) × ((List Int) × (Int × ((List Int) × (List Int)))))) : ev (Z := (List ((Int × (Int × Int)) × (Int × Int)))) Try.prog (restsa_sp N) restsa_B [] [restsa_j1_k N] (some restsa_rt) 400 false [.c [0], .c [1]] (stL restsa_st ((d, (((), ()), ()), ()), ())) (stH restsa_st ((d, (((), ()), ()), ()), ())) = restsa_S N d := by kernel_rfl
noncomputable def sp_restsa (N : Nat) : Spec := { f := 46, ins := ⟨[.fe (.pair (.sl (.sl (.int .i64))) (.pair (.sl (.int .i64)) (.pair (.int .i64) (.pair (.sl (.int .i64)) (.sl (.int .i64)))))), .agg [.fn 47 [] []]], []⟩, outs := [⟨[.mp 0], [.map (.pair (.int .i64) (.pair (.int .i64) (.int .i64))) (.pair (.int .i64) (.int .i64))]⟩], run := fun p k => (restsa_S N p.1.1).bind fun r => k (((), ()), (r, ())) }
theorem sp_restsa_ok (N : Nat) : SpecOK Try.prog (sp_restsa N) := fn_sound (B := restsa_B) (loops := []) (leaves := [restsa_j1_k N]) (fun p => restsa_S N p.1.1) (fun r => (((), ()), (r, ()))) restsa_rt (fun _ _ _ => rfl) (fun r z h => by cases h; rfl) Try.func46 (by kernel_rfl) (by kernel_rfl) (by kernel_rfl) rfl rfl (by kernel_rfl) (fun args w => Sem.pv_run _ _ _ (by kernel_rfl) w) (restsa_all N) mixed trivial (fun z E Xc hE hX hret => ⟨restsa_j1_lf N hE hX hret, trivial⟩) (fun p => restsa_eq N p.1.1)

def firsta_S (N : Nat) (d : ((List (List Int)) × ((List Int) × (Int × ((List Int) × (List Int)))))) : Option (Int × Int) :=
  (restsa_S N d).bind fun x_1 =>
  some ((((x_1.find? fun (y : (Int × (Int × Int)) × (Int × Int)) => Ty.beq (.pair (.int .i64) (.pair (.int .i64) (.int .i64))) y.1 (0, 0, 0)).map (·.2)).getD (Ty.dflt (.pair (.int .i64) (.int .i64)))).1, (((x_1.find? fun (y : (Int × (Int × Int)) × (Int × Int)) => Ty.beq (.pair (.int .i64) (.pair (.int .i64) (.int .i64))) y.1 (0, 0, 0)).map (·.2)).getD (Ty.dflt (.pair (.int .i64) (.int .i64)))).2)
noncomputable def firsta_sp (N : Nat) : List Spec := [sp_restsa N]
theorem firsta_all (N : Nat) : AllP (SpecOK Try.prog) (firsta_sp N) := ⟨sp_restsa_ok N, trivial⟩
noncomputable def firsta_c : Code := (Try.f30.body).getD .skip
noncomputable abbrev firsta_B : Body := { c := firsta_c, n := 10, res := [.cell 4 80], outs := [⟨[.agg [.i .i64, .i .i64]], []⟩], m0 := 0 }
abbrev firsta_rt : altD firsta_B.outs → Option (Int × Int) := fun r => some (r.1.1.1, r.1.1.2.1)
abbrev firsta_st : Sta := ⟨[0, 1], ⟨[.fe (.pair (.sl (.sl (.int .i64))) (.pair (.sl (.int .i64)) (.pair (.int .i64) (.pair (.sl (.int .i64)) (.sl (.int .i64)))))), .agg [.fn 47 [] []]], []⟩⟩
theorem firsta_eq (N : Nat) (d : ((List (List Int)) × ((List Int) × (Int × ((List Int) × (List Int)))))) : ev (Z := Int × Int) Try.prog (firsta_sp N) firsta_B [] [] (some firsta_rt) 400 false [.c [0], .c [1]] (stL firsta_st ((d, (((), ()), ()), ()), ())) (stH firsta_st ((d, (((), ()), ()), ()), ())) = firsta_S N d := by kernel_rfl
noncomputable def sp_firsta (N : Nat) : Spec := { f := 30, ins := ⟨[.fe (.pair (.sl (.sl (.int .i64))) (.pair (.sl (.int .i64)) (.pair (.int .i64) (.pair (.sl (.int .i64)) (.sl (.int .i64)))))), .agg [.fn 47 [] []]], []⟩, outs := [⟨[.agg [.i .i64, .i .i64]], []⟩], run := fun p k => (firsta_S N p.1.1).bind fun r => k (((r.1, r.2, ()), ()), ()) }
theorem sp_firsta_ok (N : Nat) : SpecOK Try.prog (sp_firsta N) := fn_sound (B := firsta_B) (loops := []) (leaves := []) (fun p => firsta_S N p.1.1) (fun r => (((r.1, r.2, ()), ()), ())) firsta_rt (fun _ _ _ => rfl) (fun r z h => by cases h; rfl) Try.func30 (by kernel_rfl) (by kernel_rfl) (by kernel_rfl) rfl rfl (by kernel_rfl) (fun args w => Sem.pv_run _ _ _ (by kernel_rfl) w) (firsta_all N) mixed trivial (fun z E Xc hE hX hret => trivial) (fun p => firsta_eq N p.1.1)

def least_S (N : Nat) (e : List (List Int)) (e2 : List Int) (e3 : Int) (p : Int) (p2 : Int) : Option (Int × Int) :=
  ((opened_S N e e2 e3 p p2).bind fun e => match e with
  | .inl (x_1, y_2) =>
    (br (!decide (y_2 = 0))
      (some (0, y_2))
      ((all_S N).bind fun _ =>
      (firsta_S N x_1).bind fun (x_3, y_4) =>
      (dfaults_S N x_1 x_3).bind fun x_5 =>
      some (x_5, 0)))
  | .inr x_6 =>
    (br (!decide (x_6 = 0))
      (some (0, x_6))
      ((all_S N).bind fun _ =>
      none)))
noncomputable def least_sp (N : Nat) : List Spec := [sp_opened N, sp_dfaults N, sp_all N, sp_firsta N]
theorem least_all (N : Nat) : AllP (SpecOK Try.prog) (least_sp N) := ⟨sp_opened_ok N, sp_dfaults_ok N, sp_all_ok N, sp_firsta_ok N, trivial⟩
noncomputable def least_c : Code := (Try.f8.body).getD .skip
noncomputable abbrev least_B : Body := { c := least_c, n := 23, res := [.tmp 4, .tmp 5], outs := [⟨[.i .i64, .i .i64], []⟩], m0 := 0 }
abbrev least_rt : altD least_B.outs → Option (Int × Int) := fun r => some (r.1.1, r.1.2.1)
abbrev least_st : Sta := ⟨[0, 1], ⟨[.agg [.sl (.sl (.int .i64)), .sl (.int .i64), .i .i64], .agg [.i .i64, .i .i64]], []⟩⟩
theorem least_eq (N : Nat) (e : List (List Int)) (e2 : List Int) (e3 : Int) (p : Int) (p2 : Int) : ev (Z := Int × Int) Try.prog (least_sp N) least_B [] [] (some least_rt) 400 false [.c [0], .c [1]] (stL least_st (((e, e2, e3, ()), (p, p2, ()), ()), ())) (stH least_st (((e, e2, e3, ()), (p, p2, ()), ()), ())) = least_S N e e2 e3 p p2 := by kernel_rfl
noncomputable def sp_least (N : Nat) : Spec := { f := 8, ins := ⟨[.agg [.sl (.sl (.int .i64)), .sl (.int .i64), .i .i64], .agg [.i .i64, .i .i64]], []⟩, outs := [⟨[.i .i64, .i .i64], []⟩], run := fun p k => (least_S N p.1.1.1 p.1.1.2.1 p.1.1.2.2.1 p.1.2.1.1 p.1.2.1.2.1).bind fun r => k ((r.1, r.2, ()), ()) }
theorem sp_least_ok (N : Nat) : SpecOK Try.prog (sp_least N) := fn_sound (B := least_B) (loops := []) (leaves := []) (fun p => least_S N p.1.1.1 p.1.1.2.1 p.1.1.2.2.1 p.1.2.1.1 p.1.2.1.2.1) (fun r => ((r.1, r.2, ()), ())) least_rt (fun _ _ _ => rfl) (fun r z h => by cases h; rfl) Try.func8 (by kernel_rfl) (by kernel_rfl) (by kernel_rfl) rfl rfl (by kernel_rfl) (fun args w => Sem.pv_run _ _ _ (by kernel_rfl) w) (least_all N) mixed trivial (fun z E Xc hE hX hret => trivial) (fun p => least_eq N p.1.1.1 p.1.1.2.1 p.1.1.2.2.1 p.1.2.1.1 p.1.2.1.2.1)

def count_S (N : Nat) (e : List (List Int)) (e2 : List Int) (e3 : Int) (p : Int) (p2 : Int) : Option (Int × Int) :=
  ((opened_S N e e2 e3 p p2).bind fun e => match e with
  | .inl (x_1, y_2) =>
    (br (!decide (y_2 = 0))
      (some (0, y_2))
      ((all_S N).bind fun _ =>
      (firsta_S N x_1).bind fun (x_3, y_4) =>
      some (y_4, 0)))
  | .inr x_5 =>
    (br (!decide (x_5 = 0))
      (some (0, x_5))
      ((all_S N).bind fun _ =>
      none)))
noncomputable def count_sp (N : Nat) : List Spec := [sp_opened N, sp_all N, sp_firsta N]
theorem count_all (N : Nat) : AllP (SpecOK Try.prog) (count_sp N) := ⟨sp_opened_ok N, sp_all_ok N, sp_firsta_ok N, trivial⟩
noncomputable def count_c : Code := (Try.f10.body).getD .skip
noncomputable abbrev count_B : Body := { c := count_c, n := 21, res := [.tmp 4, .tmp 5], outs := [⟨[.i .i64, .i .i64], []⟩], m0 := 0 }
abbrev count_rt : altD count_B.outs → Option (Int × Int) := fun r => some (r.1.1, r.1.2.1)
abbrev count_st : Sta := ⟨[0, 1], ⟨[.agg [.sl (.sl (.int .i64)), .sl (.int .i64), .i .i64], .agg [.i .i64, .i .i64]], []⟩⟩
theorem count_eq (N : Nat) (e : List (List Int)) (e2 : List Int) (e3 : Int) (p : Int) (p2 : Int) : ev (Z := Int × Int) Try.prog (count_sp N) count_B [] [] (some count_rt) 400 false [.c [0], .c [1]] (stL count_st (((e, e2, e3, ()), (p, p2, ()), ()), ())) (stH count_st (((e, e2, e3, ()), (p, p2, ()), ()), ())) = count_S N e e2 e3 p p2 := by kernel_rfl
noncomputable def sp_count (N : Nat) : Spec := { f := 10, ins := ⟨[.agg [.sl (.sl (.int .i64)), .sl (.int .i64), .i .i64], .agg [.i .i64, .i .i64]], []⟩, outs := [⟨[.i .i64, .i .i64], []⟩], run := fun p k => (count_S N p.1.1.1 p.1.1.2.1 p.1.1.2.2.1 p.1.2.1.1 p.1.2.1.2.1).bind fun r => k ((r.1, r.2, ()), ()) }
theorem sp_count_ok (N : Nat) : SpecOK Try.prog (sp_count N) := fn_sound (B := count_B) (loops := []) (leaves := []) (fun p => count_S N p.1.1.1 p.1.1.2.1 p.1.1.2.2.1 p.1.2.1.1 p.1.2.1.2.1) (fun r => ((r.1, r.2, ()), ())) count_rt (fun _ _ _ => rfl) (fun r z h => by cases h; rfl) Try.func10 (by kernel_rfl) (by kernel_rfl) (by kernel_rfl) rfl rfl (by kernel_rfl) (fun args w => Sem.pv_run _ _ _ (by kernel_rfl) w) (count_all N) mixed trivial (fun z E Xc hE hX hret => trivial) (fun p => count_eq N p.1.1.1 p.1.1.2.1 p.1.1.2.2.1 p.1.2.1.1 p.1.2.1.2.1)

def eleast_S (N : Nat) (e : List (List Int)) (e2 : List Int) (e3 : Int) (a : Int) (b : Int) : Option Int :=
  idx e a fun x_1 =>
  idx e b fun x_2 =>
  (all_S N).bind fun _ =>
  (firsta_S N (e, e2, e3, x_1, x_2)).bind fun (x_3, y_4) =>
  (dfaults_S N (e, e2, e3, x_1, x_2) x_3).bind fun x_5 =>
  some x_5
noncomputable def eleast_sp (N : Nat) : List Spec := [sp_dfaults N, sp_all N, sp_firsta N]
theorem eleast_all (N : Nat) : AllP (SpecOK Try.prog) (eleast_sp N) := ⟨sp_dfaults_ok N, sp_all_ok N, sp_firsta_ok N, trivial⟩
noncomputable def eleast_c : Code := (Try.f64.body).getD .skip
noncomputable abbrev eleast_B : Body := { c := eleast_c, n := 27, res := [.tmp 6], outs := [⟨[.i .i64], []⟩], m0 := 0 }
abbrev eleast_rt : altD eleast_B.outs → Option Int := fun r => some r.1.1
abbrev eleast_st : Sta := ⟨[0, 1, 2], ⟨[.agg [.sl (.sl (.int .i64)), .sl (.int .i64), .i .i64], .i .i64, .i .i64], []⟩⟩
theorem eleast_eq (N : Nat) (e : List (List Int)) (e2 : List Int) (e3 : Int) (a : Int) (b : Int) : ev (Z := Int) Try.prog (eleast_sp N) eleast_B [] [] (some eleast_rt) 400 false [.c [0], .c [1]] (stL eleast_st (((e, e2, e3, ()), a, b, ()), ())) (stH eleast_st (((e, e2, e3, ()), a, b, ()), ())) = eleast_S N e e2 e3 a b := by kernel_rfl
noncomputable def sp_eleast (N : Nat) : Spec := { f := 64, ins := ⟨[.agg [.sl (.sl (.int .i64)), .sl (.int .i64), .i .i64], .i .i64, .i .i64], []⟩, outs := [⟨[.i .i64], []⟩], run := fun p k => (eleast_S N p.1.1.1 p.1.1.2.1 p.1.1.2.2.1 p.1.2.1 p.1.2.2.1).bind fun r => k ((r, ()), ()) }
theorem sp_eleast_ok (N : Nat) : SpecOK Try.prog (sp_eleast N) := fn_sound (B := eleast_B) (loops := []) (leaves := []) (fun p => eleast_S N p.1.1.1 p.1.1.2.1 p.1.1.2.2.1 p.1.2.1 p.1.2.2.1) (fun r => ((r, ()), ())) eleast_rt (fun _ _ _ => rfl) (fun r z h => by cases h; rfl) Try.func64 (by kernel_rfl) (by kernel_rfl) (by kernel_rfl) rfl rfl (by kernel_rfl) (fun args w => Sem.pv_run _ _ _ (by kernel_rfl) w) (eleast_all N) mixed trivial (fun z E Xc hE hX hret => trivial) (fun p => eleast_eq N p.1.1.1 p.1.1.2.1 p.1.1.2.2.1 p.1.2.1 p.1.2.2.1)

def epairs_j1 (N : Nat) (rec : Int → Int → Int → Int → (List (List Int)) → (List Int) → Int → (List (Int × Int)) → Option (Int × Int × List (List Int) × List Int × Int × (List (Int × Int)))) (a : Int) (b : Int) (u : Int) (u2 : Int) (e : List (List Int)) (e2 : List Int) (e3 : Int) (out : List (Int × Int)) : Option (Int × Int × List (List Int) × List Int × Int × (List (Int × Int))) :=
  chk (b + 1) <|
  rec a (b + 1) u u2 e e2 e3 out
def epairs_l2 (N : Nat) : Nat → Int → Int → Int → Int → (List (List Int)) → (List Int) → Int → (List (Int × Int)) → Option (Int × Int × List (List Int) × List Int × Int × (List (Int × Int)))
  | 0, _, _, _, _, _, _, _, _ => none
  | n_ + 1, a, b, u, u2, e, e2, e3, out =>
    br (decide (b < (e.length : Int)))
      ((eleast_S N e e2 e3 a b).bind fun x_1 =>
      br (decide (x_1 ≤ e3))
        (lim (out.length + [(a, b)].length) <|
        epairs_j1 N (epairs_l2 N n_) a b u u2 e e2 e3 (out ++ [(a, b)]))
        (epairs_j1 N (epairs_l2 N n_) a b u u2 e e2 e3 out))
      (some ((u, u2, e, e2, e3, out)))
def epairs_l1 (N : Nat) : Nat → Int → Int → (List (List Int)) → (List Int) → Int → (List (Int × Int)) → Option (List (Int × Int))
  | 0, _, _, _, _, _, _ => none
  | n_ + 1, u, u2, e, e2, e3, out =>
    br (decide (u2 < u))
      ((epairs_l2 N N u2 u2 u u2 e e2 e3 out).bind fun (u_2, u2_3, e_4, e2_5, e3_6, out_7) =>
      chk (u2_3 + 1) <|
      epairs_l1 N n_ u_2 (u2_3 + 1) e_4 e2_5 e3_6 out_7)
      (some (out))
def epairs_S (N : Nat) (e : List (List Int)) (e2 : List Int) (e3 : Int) : Option (List (Int × Int)) :=
  (epairs_l1 N N (e.length : Int) 0 e e2 e3 []).bind fun out_8 =>
  some out_8
noncomputable def epairs_sp (N : Nat) : List Spec := [sp_eleast N]
theorem epairs_all (N : Nat) : AllP (SpecOK Try.prog) (epairs_sp N) := ⟨sp_eleast_ok N, trivial⟩
noncomputable def epairs_c : Code := (Try.f41.body).getD .skip
noncomputable abbrev epairs_B : Body := { c := epairs_c, n := 35, res := [.tmp 2], outs := [⟨[.sl (.pair (.int .i64) (.int .i64))], []⟩], m0 := 0 }
abbrev epairs_rt : altD epairs_B.outs → Option (List (Int × Int)) := fun r => some r.1.1
abbrev epairs_l2_at : List PI := [.c [1, 1, 0, 1, 0, 0, 1, 1, 0, 0, 1, 1, 0, 0, 0, 0], .c [1, 1, 0, 1, 0, 0, 1, 1, 0, 0, 1, 1, 0, 0, 0, 1], .c [1, 1, 0, 1, 0, 0, 1, 1, 0, 0, 1, 1, 0, 0, 1], .l [1, 1, 0, 1, 0, 0, 1, 1, 0, 0, 1, 1, 0, 0], .b 2, .b 1, .c [1, 1, 0, 1, 0, 0, 1, 1, 1], .l [1, 1, 0, 1, 0, 0], .b 0, .c [1, 1, 1]]
abbrev epairs_l2_st : Sta := ⟨[1, 3, 4, 5, 8, 9], ⟨[.own 0 0, .ols 1, .i .i64, .i .i64, .i .i64, .i .i64], [.segs [.sl (.sl (.int .i64)), .sl (.int .i64), .i .i64], .lst (.pair (.int .i64) (.int .i64))]⟩⟩
abbrev epairs_l2_h (rec : Int → Int → Int → Int → (List (List Int)) → (List Int) → Int → (List (Int × Int)) → Option (Int × Int × List (List Int) × List Int × Int × (List (Int × Int)))) : Leaf (Int × Int × List (List Int) × List Int × Int × (List (Int × Int))) := ⟨epairs_l2_at, epairs_l2_st, fun p => rec p.1.2.2.1 p.1.2.2.2.1 p.1.2.2.2.2.1 p.1.2.2.2.2.2.1 p.2.1.1 p.2.1.2.1 p.2.1.2.2.1 p.2.2.1⟩
abbrev epairs_l2_e0 : Leaf (Int × Int × List (List Int) × List Int × Int × (List (Int × Int))) := ⟨[.c [1, 1, 0, 1, 0, 0, 1, 1, 1], .l [1, 1, 0, 1, 0, 0], .b 0, .c [1, 1, 1]], ⟨[1, 3, 8, 9], ⟨[.own 0 0, .ols 1, .i .i64, .i .i64], [.segs [.sl (.sl (.int .i64)), .sl (.int .i64), .i .i64], .lst (.pair (.int .i64) (.int .i64))]⟩⟩, fun p => some ((p.1.2.2.1, p.1.2.2.2.1, p.2.1.1, p.2.1.2.1, p.2.1.2.2.1, p.2.2.1))⟩
abbrev epairs_j1_at : List PI := [.c [1, 1, 0, 1, 0, 0, 1, 1, 0, 0, 1, 1, 0, 0, 1, 1], .l [1, 1, 0, 1, 0, 0, 1, 1, 0, 0, 1, 1, 0, 0], .b 2, .b 1, .c [1, 1, 0, 1, 0, 0, 1, 1, 1], .l [1, 1, 0, 1, 0, 0], .b 0, .c [1, 1, 1]]
abbrev epairs_j1_st : Sta := ⟨[1, 3, 4, 5, 8, 9], ⟨[.own 0 0, .ols 1, .i .i64, .i .i64, .i .i64, .i .i64], [.segs [.sl (.sl (.int .i64)), .sl (.int .i64), .i .i64], .lst (.pair (.int .i64) (.int .i64))]⟩⟩
abbrev epairs_j1_k (N : Nat) (rec : Int → Int → Int → Int → (List (List Int)) → (List Int) → Int → (List (Int × Int)) → Option (Int × Int × List (List Int) × List Int × Int × (List (Int × Int)))) : Leaf (Int × Int × List (List Int) × List Int × Int × (List (Int × Int))) := ⟨epairs_j1_at, epairs_j1_st, fun p => epairs_j1 N rec p.1.2.2.1 p.1.2.2.2.1 p.1.2.2.2.2.1 p.1.2.2.2.2.2.1 p.2.1.1 p.2.1.2.1 p.2.1.2.2.1 p.2.2.1⟩
theorem epairs_j1_eq (N : Nat) (rec : Int → Int → Int → Int → (List (List Int)) → (List Int) → Int → (List (Int × Int)) → Option (Int × Int × List (List Int) × List Int × Int × (List (Int × Int)))) (a : Int) (b : Int) (u : Int) (u2 : Int) (e : List (List Int)) (e2 : List Int) (e3 : Int) (out : List (Int × Int)) : ev (Z := Int × Int × List (List Int) × List Int × Int × (List (Int × Int))) Try.prog (epairs_sp N) epairs_B [] [epairs_l2_h rec, epairs_l2_e0] none 400 true epairs_j1_at (stL epairs_j1_st (((), (), a, b, u, u2, ()), ((e, e2, e3, ()), out, ()))) (stH epairs_j1_st (((), (), a, b, u, u2, ()), ((e, e2, e3, ()), out, ()))) = epairs_j1 N rec a b u u2 e e2 e3 out := by kernel_rfl
theorem epairs_j1_lf (N : Nat) (rec : Int → Int → Int → Int → (List (List Int)) → (List Int) → Int → (List (Int × Int)) → Option (Int × Int × List (List Int) × List Int × Int × (List (Int × Int)))) {z : Int × Int × List (List Int) × List Int × Int × (List (Int × Int))} {top : Bool} {E : EE} {Xc : Ctx} (hE : EOK epairs_B.m0 E) (hX : CxOK top Xc) (hrec : LeafOK Try.prog epairs_B.c epairs_B.n epairs_B.m0 E Xc z (epairs_l2_h rec)) (h0 : LeafOK Try.prog epairs_B.c epairs_B.n epairs_B.m0 E Xc z epairs_l2_e0) : LeafOK Try.prog epairs_B.c epairs_B.n epairs_B.m0 E Xc z (epairs_j1_k N rec) := leaf_of_ev (B := epairs_B) (loops := []) (leaves := [epairs_l2_h rec, epairs_l2_e0]) (epairs_all N) mixed trivial hE hX ⟨hrec, h0, trivial⟩ RetOK.no (fun p => epairs_j1_eq N rec p.1.2.2.1 p.1.2.2.2.1 p.1.2.2.2.2.1 p.1.2.2.2.2.2.1 p.2.1.1 p.2.1.2.1 p.2.1.2.2.1 p.2.2.1)
noncomputable def epairs_l2_L (N : Nat) : LoopS := { at_ := epairs_l2_at, sta := epairs_l2_st, exits := [([.c [1, 1, 0, 1, 0, 0, 1, 1, 1], .l [1, 1, 0, 1, 0, 0], .b 0, .c [1, 1, 1]], ⟨[1, 3, 8, 9], ⟨[.own 0 0, .ols 1, .i .i64, .i .i64], [.segs [.sl (.sl (.int .i64)), .sl (.int .i64), .i .i64], .lst (.pair (.int .i64) (.int .i64))]⟩⟩)], run := fun p k => (epairs_l2 N N p.1.2.2.1 p.1.2.2.2.1 p.1.2.2.2.2.1 p.1.2.2.2.2.2.1 p.2.1.1 p.2.1.2.1 p.2.1.2.2.1 p.2.2.1).bind fun e => k (.inl (((), (), e.1, e.2.1, ()), ((e.2.2.1, e.2.2.2.1, e.2.2.2.2.1, ()), e.2.2.2.2.2, ()))) }
theorem epairs_l2_eq (N n_ : Nat) (a : Int) (b : Int) (u : Int) (u2 : Int) (e : List (List Int)) (e2 : List Int) (e3 : Int) (out : List (Int × Int)) : ev (Z := Int × Int × List (List Int) × List Int × Int × (List (Int × Int))) Try.prog (epairs_sp N) epairs_B [] [epairs_l2_h (epairs_l2 N n_), epairs_l2_e0, epairs_j1_k N (epairs_l2 N n_)] none 400 true epairs_l2_at (stL epairs_l2_st (((), (), a, b, u, u2, ()), ((e, e2, e3, ()), out, ()))) (stH epairs_l2_st (((), (), a, b, u, u2, ()), ((e, e2, e3, ()), out, ()))) = epairs_l2 N (n_ + 1) a b u u2 e e2 e3 out := by kernel_rfl
theorem epairs_l2_ok (N : Nat) {top : Bool} : LoopOK Try.prog epairs_B.c epairs_B.n epairs_B.m0 top (epairs_l2_L N) := loop_of_ev (Z := Int × Int × List (List Int) × List Int × Int × (List (Int × Int))) (N := N) (fun m p => epairs_l2 N m p.1.2.2.1 p.1.2.2.2.1 p.1.2.2.2.2.1 p.1.2.2.2.2.2.1 p.2.1.1 p.2.1.2.1 p.2.1.2.2.1 p.2.2.1) (fun e => .inl (((), (), e.1, e.2.1, ()), ((e.2.2.1, e.2.2.2.1, e.2.2.2.2.1, ()), e.2.2.2.2.2, ()))) (fun _ _ _ => rfl) (fun _ => rfl) (fun m z E Xc hE hX hrec hx => leaf_of_ev (B := epairs_B) (loops := []) (leaves := [epairs_l2_h (epairs_l2 N m), epairs_l2_e0, epairs_j1_k N (epairs_l2 N m)]) (epairs_all N) mixed trivial hE hX ⟨hrec, (fun p hp => by obtain rfl := Option.some.inj hp; exact hx), epairs_j1_lf N _ hE hX hrec (fun p hp => by obtain rfl := Option.some.inj hp; exact hx), trivial⟩ RetOK.no (fun p => epairs_l2_eq N m p.1.2.2.1 p.1.2.2.2.1 p.1.2.2.2.2.1 p.1.2.2.2.2.2.1 p.2.1.1 p.2.1.2.1 p.2.1.2.2.1 p.2.2.1))
abbrev epairs_l1_at : List PI := [.c [1, 1, 0, 1, 0, 0, 0], .c [1, 1, 0, 1, 0, 0, 1], .l [1, 1, 0, 1, 0, 0], .b 0, .c [1, 1, 1]]
abbrev epairs_l1_st : Sta := ⟨[1, 3, 8, 9], ⟨[.own 0 0, .ols 1, .i .i64, .i .i64], [.segs [.sl (.sl (.int .i64)), .sl (.int .i64), .i .i64], .lst (.pair (.int .i64) (.int .i64))]⟩⟩
abbrev epairs_l1_h (rec : Int → Int → (List (List Int)) → (List Int) → Int → (List (Int × Int)) → Option (List (Int × Int))) : Leaf (List (Int × Int)) := ⟨epairs_l1_at, epairs_l1_st, fun p => rec p.1.2.2.1 p.1.2.2.2.1 p.2.1.1 p.2.1.2.1 p.2.1.2.2.1 p.2.2.1⟩
abbrev epairs_l1_e0 : Leaf (List (Int × Int)) := ⟨[.c [1, 1, 1, 0], .c [1, 1, 1, 1]], ⟨[3], ⟨[.ols 0], [.lst (.pair (.int .i64) (.int .i64))]⟩⟩, fun p => some (p.2.1)⟩
noncomputable def epairs_l1_L (N : Nat) : LoopS := { at_ := epairs_l1_at, sta := epairs_l1_st, exits := [([.c [1, 1, 1, 0], .c [1, 1, 1, 1]], ⟨[3], ⟨[.ols 0], [.lst (.pair (.int .i64) (.int .i64))]⟩⟩)], run := fun p k => (epairs_l1 N N p.1.2.2.1 p.1.2.2.2.1 p.2.1.1 p.2.1.2.1 p.2.1.2.2.1 p.2.2.1).bind fun e => k (.inl (((), ()), (e, ()))) }
theorem epairs_l1_eq (N n_ : Nat) (u : Int) (u2 : Int) (e : List (List Int)) (e2 : List Int) (e3 : Int) (out : List (Int × Int)) : ev (Z := (List (Int × Int))) Try.prog (epairs_sp N) epairs_B [epairs_l2_L N] [epairs_l1_h (epairs_l1 N n_), epairs_l1_e0] none 400 true epairs_l1_at (stL epairs_l1_st (((), (), u, u2, ()), ((e, e2, e3, ()), out, ()))) (stH epairs_l1_st (((), (), u, u2, ()), ((e, e2, e3, ()), out, ()))) = epairs_l1 N (n_ + 1) u u2 e e2 e3 out := by kernel_rfl
theorem epairs_l1_ok (N : Nat) {top : Bool} : LoopOK Try.prog epairs_B.c epairs_B.n epairs_B.m0 top (epairs_l1_L N) := loop_of_ev (Z := (List (Int × Int))) (N := N) (fun m p => epairs_l1 N m p.1.2.2.1 p.1.2.2.2.1 p.2.1.1 p.2.1.2.1 p.2.1.2.2.1 p.2.2.1) (fun e => .inl (((), ()), (e, ()))) (fun _ _ _ => rfl) (fun _ => rfl) (fun m z E Xc hE hX hrec hx => leaf_of_ev (B := epairs_B) (loops := [epairs_l2_L N]) (leaves := [epairs_l1_h (epairs_l1 N m), epairs_l1_e0]) (epairs_all N) mixed ⟨epairs_l2_ok N, trivial⟩ hE hX ⟨hrec, (fun p hp => by obtain rfl := Option.some.inj hp; exact hx), trivial⟩ RetOK.no (fun p => epairs_l1_eq N m p.1.2.2.1 p.1.2.2.2.1 p.2.1.1 p.2.1.2.1 p.2.1.2.2.1 p.2.2.1))
abbrev epairs_st : Sta := ⟨[0], ⟨[.agg [.sl (.sl (.int .i64)), .sl (.int .i64), .i .i64]], []⟩⟩
theorem epairs_eq (N : Nat) (e : List (List Int)) (e2 : List Int) (e3 : Int) : ev (Z := (List (Int × Int))) Try.prog (epairs_sp N) epairs_B [epairs_l2_L N, epairs_l1_L N] [] (some epairs_rt) 400 false [.c [0], .c [1]] (stL epairs_st (((e, e2, e3, ()), ()), ())) (stH epairs_st (((e, e2, e3, ()), ()), ())) = epairs_S N e e2 e3 := by kernel_rfl
noncomputable def sp_epairs (N : Nat) : Spec := { f := 41, ins := ⟨[.agg [.sl (.sl (.int .i64)), .sl (.int .i64), .i .i64]], []⟩, outs := [⟨[.sl (.pair (.int .i64) (.int .i64))], []⟩], run := fun p k => (epairs_S N p.1.1.1 p.1.1.2.1 p.1.1.2.2.1).bind fun r => k ((r, ()), ()) }
theorem sp_epairs_ok (N : Nat) : SpecOK Try.prog (sp_epairs N) := fn_sound (B := epairs_B) (loops := [epairs_l2_L N, epairs_l1_L N]) (leaves := []) (fun p => epairs_S N p.1.1.1 p.1.1.2.1 p.1.1.2.2.1) (fun r => ((r, ()), ())) epairs_rt (fun _ _ _ => rfl) (fun r z h => by cases h; rfl) Try.func41 (by kernel_rfl) (by kernel_rfl) (by kernel_rfl) rfl rfl (by kernel_rfl) (fun args w => Sem.pv_run _ _ _ (by kernel_rfl) w) (epairs_all N) mixed ⟨epairs_l2_ok N, epairs_l1_ok N, trivial⟩ (fun z E Xc hE hX hret => trivial) (fun p => epairs_eq N p.1.1.1 p.1.1.2.1 p.1.1.2.2.1)

def pairs_S (N : Nat) (e : List (List Int)) (e2 : List Int) (e3 : Int) : Option ((List (Int × Int)) × Int) :=
  (check_S N e e2 e3).bind fun x_1 =>
  br (!decide (x_1 = 0))
    (some ([], x_1))
    ((epairs_S N e e2 e3).bind fun x_2 =>
    some (x_2, 0))
noncomputable def pairs_sp (N : Nat) : List Spec := [sp_check N, sp_epairs N]
theorem pairs_all (N : Nat) : AllP (SpecOK Try.prog) (pairs_sp N) := ⟨sp_check_ok N, sp_epairs_ok N, trivial⟩
noncomputable def pairs_c : Code := (Try.f22.body).getD .skip
noncomputable abbrev pairs_B : Body := { c := pairs_c, n := 12, res := [.tmp 2, .tmp 3], outs := [⟨[.sl (.pair (.int .i64) (.int .i64)), .i .i64], []⟩], m0 := 0 }
abbrev pairs_rt : altD pairs_B.outs → Option ((List (Int × Int)) × Int) := fun r => some (r.1.1, r.1.2.1)
abbrev pairs_st : Sta := ⟨[0], ⟨[.agg [.sl (.sl (.int .i64)), .sl (.int .i64), .i .i64]], []⟩⟩
theorem pairs_eq (N : Nat) (e : List (List Int)) (e2 : List Int) (e3 : Int) : ev (Z := (List (Int × Int)) × Int) Try.prog (pairs_sp N) pairs_B [] [] (some pairs_rt) 400 false [.c [0], .c [1]] (stL pairs_st (((e, e2, e3, ()), ()), ())) (stH pairs_st (((e, e2, e3, ()), ()), ())) = pairs_S N e e2 e3 := by kernel_rfl
noncomputable def sp_pairs (N : Nat) : Spec := { f := 22, ins := ⟨[.agg [.sl (.sl (.int .i64)), .sl (.int .i64), .i .i64]], []⟩, outs := [⟨[.sl (.pair (.int .i64) (.int .i64)), .i .i64], []⟩], run := fun p k => (pairs_S N p.1.1.1 p.1.1.2.1 p.1.1.2.2.1).bind fun r => k ((r.1, r.2, ()), ()) }
theorem sp_pairs_ok (N : Nat) : SpecOK Try.prog (sp_pairs N) := fn_sound (B := pairs_B) (loops := []) (leaves := []) (fun p => pairs_S N p.1.1.1 p.1.1.2.1 p.1.1.2.2.1) (fun r => ((r.1, r.2, ()), ())) pairs_rt (fun _ _ _ => rfl) (fun r z h => by cases h; rfl) Try.func22 (by kernel_rfl) (by kernel_rfl) (by kernel_rfl) rfl rfl (by kernel_rfl) (fun args w => Sem.pv_run _ _ _ (by kernel_rfl) w) (pairs_all N) mixed trivial (fun z E Xc hE hX hret => trivial) (fun p => pairs_eq N p.1.1.1 p.1.1.2.1 p.1.1.2.2.1)

def sure1_S (N : Nat) (heard : Int) (q : Int) (q2 : Int) (u : Int) (u2 : Int) : Option Bool :=
  br (!decide (heard = u))
    (some true)
    (some (decide (q = u2)))
noncomputable def sure1_sp (N : Nat) : List Spec := []
theorem sure1_all (N : Nat) : AllP (SpecOK Try.prog) (sure1_sp N) := trivial
noncomputable def sure1_c : Code := (Try.f32.body).getD .skip
noncomputable abbrev sure1_B : Body := { c := sure1_c, n := 16, res := [.tmp 6], outs := [⟨[.b], []⟩], m0 := 0 }
abbrev sure1_rt : altD sure1_B.outs → Option Bool := fun r => some r.1.1
abbrev sure1_st : Sta := ⟨[0, 1, 2, 3], ⟨[.i .i64, .agg [.i .i64, .i .i64], .fe (.int .i64), .fe (.int .i64)], []⟩⟩
theorem sure1_eq (N : Nat) (heard : Int) (q : Int) (q2 : Int) (u : Int) (u2 : Int) : ev (Z := Bool) Try.prog (sure1_sp N) sure1_B [] [] (some sure1_rt) 400 false [.c [0], .c [1]] (stL sure1_st ((heard, (q, q2, ()), u, u2, ()), ())) (stH sure1_st ((heard, (q, q2, ()), u, u2, ()), ())) = sure1_S N heard q q2 u u2 := by kernel_rfl
noncomputable def sp_sure1 (N : Nat) : Spec := { f := 32, ins := ⟨[.i .i64, .agg [.i .i64, .i .i64], .fe (.int .i64), .fe (.int .i64)], []⟩, outs := [⟨[.b], []⟩], run := fun p k => (sure1_S N p.1.1 p.1.2.1.1 p.1.2.1.2.1 p.1.2.2.1 p.1.2.2.2.1).bind fun r => k ((r, ()), ()) }
theorem sp_sure1_ok (N : Nat) : SpecOK Try.prog (sp_sure1 N) := fn_sound (B := sure1_B) (loops := []) (leaves := []) (fun p => sure1_S N p.1.1 p.1.2.1.1 p.1.2.1.2.1 p.1.2.2.1 p.1.2.2.2.1) (fun r => ((r, ()), ())) sure1_rt (fun _ _ _ => rfl) (fun r z h => by cases h; rfl) Try.func32 (by kernel_rfl) (by kernel_rfl) (by kernel_rfl) rfl rfl (by kernel_rfl) (fun args w => Sem.pv_run _ _ _ (by kernel_rfl) w) (sure1_all N) mixed trivial (fun z E Xc hE hX hret => trivial) (fun p => sure1_eq N p.1.1 p.1.2.1.1 p.1.2.1.2.1 p.1.2.2.1 p.1.2.2.2.1)

noncomputable abbrev rests_self (self : Int → Int → Int → (((List (List Int)) × ((List Int) × (Int × ((List Int) × (List Int)))))) → Int → Int → (((List (List Int)) × ((List Int) × (Int × ((List Int) × (List Int)))))) → Int → Int → (List ((Int × (Int × Int)) × (Int × Int))) → Option (Int × Int × ((List (List Int)) × ((List Int) × (Int × ((List Int) × (List Int))))) × Int × Int × (List ((Int × (Int × Int)) × (Int × Int))))) : Spec := { f := 66, ins := ⟨[.agg [.i .i64, .i .i64, .i .i64], .fz [.fe (.pair (.sl (.sl (.int .i64))) (.pair (.sl (.int .i64)) (.pair (.int .i64) (.pair (.sl (.int .i64)) (.sl (.int .i64))))))], .fz [.mp 1], .fz [.fn 32 [] [.fe (.int .i64), .fe (.int .i64)]], .own 0 0], [.segs [.fn 66 [] [.fz [.fe (.pair (.sl (.sl (.int .i64))) (.pair (.sl (.int .i64)) (.pair (.int .i64) (.pair (.sl (.int .i64)) (.sl (.int .i64))))))], .fz [.mp 1], .fz [.fn 32 [] [.fe (.int .i64), .fe (.int .i64)]], .own 0 0]], .map (.pair (.int .i64) (.pair (.int .i64) (.int .i64))) (.pair (.int .i64) (.int .i64))]⟩, outs := [⟨[.agg [.i .i64, .i .i64]], [.segs [.fn 66 [] [.fz [.fe (.pair (.sl (.sl (.int .i64))) (.pair (.sl (.int .i64)) (.pair (.int .i64) (.pair (.sl (.int .i64)) (.sl (.int .i64))))))], .fz [.mp 1], .fz [.fn 32 [] [.fe (.int .i64), .fe (.int .i64)]], .own 0 0]], .map (.pair (.int .i64) (.pair (.int .i64) (.int .i64))) (.pair (.int .i64) (.int .i64))]⟩], run := fun p k => (self p.1.1.1 p.1.1.2.1 p.1.1.2.2.1 p.1.2.1.1 p.1.2.2.2.1.1.2.1 p.1.2.2.2.1.1.2.2.1 p.2.1.1.2.1.1 p.2.1.1.2.2.2.1.1.2.1 p.2.1.1.2.2.2.1.1.2.2.1 p.2.2.1).bind fun r => k (((r.1, r.2.1, ()), ()), ((((), ((r.2.2.1, ()), ((), ()), (((), (r.2.2.2.1, r.2.2.2.2.1, ())), ()), (), ())), ()), r.2.2.2.2.2, ())) }
def rests_l1_b (N : Nat) (self : Int → Int → Int → (((List (List Int)) × ((List Int) × (Int × ((List Int) × (List Int)))))) → Int → Int → (((List (List Int)) × ((List Int) × (Int × ((List Int) × (List Int)))))) → Int → Int → (List ((Int × (Int × Int)) × (Int × Int))) → Option (Int × Int × ((List (List Int)) × ((List Int) × (Int × ((List Int) × (List Int))))) × Int × Int × (List ((Int × (Int × Int)) × (Int × Int))))) (rec : (((List (List Int)) × ((List Int) × (Int × ((List Int) × (List Int)))))) → Int → Int → (List ((Int × (Int × Int)) × (Int × Int))) → Int → Int → Int → Int → Int → Int → Int → Option (((List (List Int)) × ((List Int) × (Int × ((List Int) × (List Int))))) × Int × Int × (List ((Int × (Int × Int)) × (Int × Int))) × Int × Int × Int × Int × Int × Int × Int)) (u : Int) (u2 : Int) (u3 : (Int × (Int × Int))) (u4 : ((List (List Int)) × ((List Int) × (Int × ((List Int) × (List Int)))))) (u' : Int) (u2' : Int) (g' : ((List (List Int)) × ((List Int) × (Int × ((List Int) × (List Int)))))) (g2' : Int) (g3' : Int) (g4' : List ((Int × (Int × Int)) × (Int × Int))) (x' : Int) (x2' : Int) (x3' : Int) (g5' : Int) (g6' : Int) (best' : Int) (best2' : Int) (p' : Int) (p2' : Int) (y' : Int) (y2' : Int) (y3' : Int) : Option (((List (List Int)) × ((List Int) × (Int × ((List Int) × (List Int))))) × Int × Int × (List ((Int × (Int × Int)) × (Int × Int))) × Int × Int × Int × Int × Int × Int × Int) :=
  (sure1_S N x' p' p2' u' u2').bind fun x_3 =>
  br (!x_3)
    (rec g' g2' g3' g4' x' x2' x3' g5' g6' best' best2')
    ((self y' y2' y3' g' g2' g3' g' g2' g3' g4').bind fun (x_4, y_5, y_6, y_7, y_8, y_9) =>
    br (decide (0 ≤ x_4))
      (br (!decide (p' = 3))
        (chk (x_4 + 1) <|
        br (decide (best' < (x_4 + 1)))
          (rec y_6 y_7 y_8 y_9 x' x2' x3' g5' g6' (x_4 + 1) y_5)
          (br (decide ((x_4 + 1) = best'))
            (chk (best2' + y_5) <|
            rec y_6 y_7 y_8 y_9 x' x2' x3' g5' g6' best' (best2' + y_5))
            (rec y_6 y_7 y_8 y_9 x' x2' x3' g5' g6' best' best2')))
        (br (decide (best' < x_4))
          (rec y_6 y_7 y_8 y_9 x' x2' x3' g5' g6' x_4 y_5)
          (br (decide (x_4 = best'))
            (chk (best2' + y_5) <|
            rec y_6 y_7 y_8 y_9 x' x2' x3' g5' g6' best' (best2' + y_5))
            (rec y_6 y_7 y_8 y_9 x' x2' x3' g5' g6' best' best2'))))
      (br (decide (best' < x_4))
        (rec y_6 y_7 y_8 y_9 x' x2' x3' g5' g6' x_4 y_5)
        (br (decide (x_4 = best'))
          (chk (best2' + y_5) <|
          rec y_6 y_7 y_8 y_9 x' x2' x3' g5' g6' best' (best2' + y_5))
          (rec y_6 y_7 y_8 y_9 x' x2' x3' g5' g6' best' best2'))))
def rests_l1 (N : Nat) (self : Int → Int → Int → (((List (List Int)) × ((List Int) × (Int × ((List Int) × (List Int)))))) → Int → Int → (((List (List Int)) × ((List Int) × (Int × ((List Int) × (List Int)))))) → Int → Int → (List ((Int × (Int × Int)) × (Int × Int))) → Option (Int × Int × ((List (List Int)) × ((List Int) × (Int × ((List Int) × (List Int))))) × Int × Int × (List ((Int × (Int × Int)) × (Int × Int))))) : List Move → Int → Int → ((Int × (Int × Int))) → (((List (List Int)) × ((List Int) × (Int × ((List Int) × (List Int)))))) → (((List (List Int)) × ((List Int) × (Int × ((List Int) × (List Int)))))) → Int → Int → (List ((Int × (Int × Int)) × (Int × Int))) → Int → Int → Int → Int → Int → Int → Int → Option (((List (List Int)) × ((List Int) × (Int × ((List Int) × (List Int))))) × Int × Int × (List ((Int × (Int × Int)) × (Int × Int))) × Int × Int × Int × Int × Int × Int × Int)
  | [], u, u2, u3, u4, g, g2, g3, g4, x, x2, x3, g5, g6, best, best2 =>
    some ((g, g2, g3, g4, x, x2, x3, g5, g6, best, best2))
  | e :: es, u, u2, u3, u4, g, g2, g3, g4, x, x2, x3, g5, g6, best, best2 =>
    rests_l1_b N self (fun g_ g2_ g3_ g4_ x_ x2_ x3_ g5_ g6_ best_ best2_ => rests_l1 N self es u u2 u3 u4 g_ g2_ g3_ g4_ x_ x2_ x3_ g5_ g6_ best_ best2_) u u2 u3 u4 u u2 g g2 g3 g4 x x2 x3 g5 g6 best best2 e.1.1 e.1.2.1 e.2.1.1 e.2.1.2.1 e.2.1.2.2.1
def rests_S (N : Nat) (self : Int → Int → Int → (((List (List Int)) × ((List Int) × (Int × ((List Int) × (List Int)))))) → Int → Int → (((List (List Int)) × ((List Int) × (Int × ((List Int) × (List Int)))))) → Int → Int → (List ((Int × (Int × Int)) × (Int × Int))) → Option (Int × Int × ((List (List Int)) × ((List Int) × (Int × ((List Int) × (List Int))))) × Int × Int × (List ((Int × (Int × Int)) × (Int × Int))))) (x : Int) (x2 : Int) (x3 : Int) (u : ((List (List Int)) × ((List Int) × (Int × ((List Int) × (List Int)))))) (u2 : Int) (u3 : Int) (g : ((List (List Int)) × ((List Int) × (Int × ((List Int) × (List Int)))))) (g2 : Int) (g3 : Int) (g4 : List ((Int × (Int × Int)) × (Int × Int))) : Option (Int × Int × ((List (List Int)) × ((List Int) × (Int × ((List Int) × (List Int))))) × Int × Int × (List ((Int × (Int × Int)) × (Int × Int)))) :=
  br (decide (x = (u.2.1.length : Int)))
    (some (0, 1, g, g2, g3, g4))
    (br ((g4.find? fun (y : (Int × (Int × Int)) × (Int × Int)) => Ty.beq (.pair (.int .i64) (.pair (.int .i64) (.int .i64))) y.1 (x, x2, x3)).isSome)
      (some ((((g4.find? fun (y : (Int × (Int × Int)) × (Int × Int)) => Ty.beq (.pair (.int .i64) (.pair (.int .i64) (.int .i64))) y.1 (x, x2, x3)).map (·.2)).getD (Ty.dflt (.pair (.int .i64) (.int .i64)))).1, (((g4.find? fun (y : (Int × (Int × Int)) × (Int × Int)) => Ty.beq (.pair (.int .i64) (.pair (.int .i64) (.int .i64))) y.1 (x, x2, x3)).map (·.2)).getD (Ty.dflt (.pair (.int .i64) (.int .i64)))).2, g, g2, g3, g4))
      ((next_S N u x x2 x3).bind fun (x_1, y_2) =>
      ((nextR x_1 y_2).bind fun es => rests_l1 N self es u2 u3 x_1 y_2 g g2 g3 g4 x x2 x3 0 0 (-1) 0).bind fun (g_10, g2_11, g3_12, g4_13, x_14, x2_15, x3_16, g5_17, g6_18, best_19, best2_20) =>
      some (best_19, best2_20, g_10, g2_11, g3_12, (((x_14, x2_15, x3_16), (best_19, best2_20)) :: g4_13))))
noncomputable def rests_sp (N : Nat) (self : Int → Int → Int → (((List (List Int)) × ((List Int) × (Int × ((List Int) × (List Int)))))) → Int → Int → (((List (List Int)) × ((List Int) × (Int × ((List Int) × (List Int)))))) → Int → Int → (List ((Int × (Int × Int)) × (Int × Int))) → Option (Int × Int × ((List (List Int)) × ((List Int) × (Int × ((List Int) × (List Int))))) × Int × Int × (List ((Int × (Int × Int)) × (Int × Int))))) : List Spec := [sp_next N, sp_sure1 N, rests_self self]
theorem rests_all (N : Nat) (self : Int → Int → Int → (((List (List Int)) × ((List Int) × (Int × ((List Int) × (List Int)))))) → Int → Int → (((List (List Int)) × ((List Int) × (Int × ((List Int) × (List Int)))))) → Int → Int → (List ((Int × (Int × Int)) × (Int × Int))) → Option (Int × Int × ((List (List Int)) × ((List Int) × (Int × ((List Int) × (List Int))))) × Int × Int × (List ((Int × (Int × Int)) × (Int × Int))))) (hself : SpecOK Try.prog (rests_self self)) : AllP (SpecOK Try.prog) (rests_sp N self) := ⟨sp_next_ok N, sp_sure1_ok N, hself, trivial⟩
noncomputable def rests_c : Code := (Try.f66.body).getD .skip
noncomputable abbrev rests_B : Body := { c := rests_c, n := 82, res := [.cell 6 80], outs := [⟨[.agg [.i .i64, .i .i64]], [.segs [.fn 66 [] [.fz [.fe (.pair (.sl (.sl (.int .i64))) (.pair (.sl (.int .i64)) (.pair (.int .i64) (.pair (.sl (.int .i64)) (.sl (.int .i64))))))], .fz [.mp 1], .fz [.fn 32 [] [.fe (.int .i64), .fe (.int .i64)]], .own 0 0]], .map (.pair (.int .i64) (.pair (.int .i64) (.int .i64))) (.pair (.int .i64) (.int .i64))]⟩], m0 := 2 }
abbrev rests_rt : altD rests_B.outs → Option (Int × Int × ((List (List Int)) × ((List Int) × (Int × ((List Int) × (List Int))))) × Int × Int × (List ((Int × (Int × Int)) × (Int × Int)))) := fun r => some (r.1.1.1, r.1.1.2.1, r.2.1.1.2.1.1, r.2.1.1.2.2.2.1.1.2.1, r.2.1.1.2.2.2.1.1.2.2.1, r.2.2.1)
abbrev rests_l1_st : Sta := ⟨[2, 3, 4, 5, 6, 9, 34], ⟨[.fz [.mp 1], .fz [.fn 32 [] [.fe (.int .i64), .fe (.int .i64)]], .own 0 0, .own 2 0, .own 3 0, .own 4 0, .fn 75 [] [.fe (.pair (.int .i64) (.pair (.int .i64) (.int .i64))), .fe (.ptr (.pair (.sl (.sl (.int .i64))) (.pair (.sl (.int .i64)) (.pair (.int .i64) (.pair (.sl (.int .i64)) (.sl (.int .i64)))))))]], [.segs [.fn 66 [] [.fz [.fe (.pair (.sl (.sl (.int .i64))) (.pair (.sl (.int .i64)) (.pair (.int .i64) (.pair (.sl (.int .i64)) (.sl (.int .i64))))))], .fz [.mp 1], .fz [.fn 32 [] [.fe (.int .i64), .fe (.int .i64)]], .own 0 0]], .map (.pair (.int .i64) (.pair (.int .i64) (.int .i64))) (.pair (.int .i64) (.int .i64)), .segs [.i .i64, .i .i64, .i .i64], .segs [.i .i64, .i .i64], .segs [.i .i64, .i .i64]]⟩⟩
abbrev rests_l1_stA : Sta := ⟨[3, 4, 5, 6, 9, 10, 11], ⟨[.fz [.fn 32 [] [.fe (.int .i64), .fe (.int .i64)]], .own 0 0, .own 2 0, .own 3 0, .own 4 0, .own 5 0, .own 6 0], [.segs [.fn 66 [] [.fz [.fe (.pair (.sl (.sl (.int .i64))) (.pair (.sl (.int .i64)) (.pair (.int .i64) (.pair (.sl (.int .i64)) (.sl (.int .i64))))))], .fz [.mp 1], .fz [.fn 32 [] [.fe (.int .i64), .fe (.int .i64)]], .own 0 0]], .map (.pair (.int .i64) (.pair (.int .i64) (.int .i64))) (.pair (.int .i64) (.int .i64)), .segs [.i .i64, .i .i64, .i .i64], .segs [.i .i64, .i .i64], .segs [.i .i64, .i .i64], .segs [.i .i64, .i .i64], .segs [.i .i64, .i .i64, .i .i64]]⟩⟩
abbrev rests_l1_e0 : Leaf (((List (List Int)) × ((List Int) × (Int × ((List Int) × (List Int))))) × Int × Int × (List ((Int × (Int × Int)) × (Int × Int))) × Int × Int × Int × Int × Int × Int × Int) := ⟨[.c [1, 1, 1, 1, 1, 0], .c [1, 1, 1, 1, 1, 1]], ⟨[2, 5, 6, 9], ⟨[.fz [.mp 1], .own 2 0, .own 3 0, .own 4 0], [.segs [.fn 66 [] [.fz [.fe (.pair (.sl (.sl (.int .i64))) (.pair (.sl (.int .i64)) (.pair (.int .i64) (.pair (.sl (.int .i64)) (.sl (.int .i64))))))], .fz [.mp 1], .fz [.fn 32 [] [.fe (.int .i64), .fe (.int .i64)]], .own 0 0]], .map (.pair (.int .i64) (.pair (.int .i64) (.int .i64))) (.pair (.int .i64) (.int .i64)), .segs [.i .i64, .i .i64, .i .i64], .segs [.i .i64, .i .i64], .segs [.i .i64, .i .i64]]⟩⟩, fun p => some ((p.2.1.1.2.1.1, p.2.1.1.2.2.2.1.1.2.1, p.2.1.1.2.2.2.1.1.2.2.1, p.2.2.1, p.2.2.2.1.1, p.2.2.2.1.2.1, p.2.2.2.1.2.2.1, p.2.2.2.2.1.1, p.2.2.2.2.1.2.1, p.2.2.2.2.2.1.1, p.2.2.2.2.2.1.2.1))⟩
noncomputable def rests_l1_L (N : Nat) (self : Int → Int → Int → (((List (List Int)) × ((List Int) × (Int × ((List Int) × (List Int)))))) → Int → Int → (((List (List Int)) × ((List Int) × (Int × ((List Int) × (List Int)))))) → Int → Int → (List ((Int × (Int × Int)) × (Int × Int))) → Option (Int × Int × ((List (List Int)) × ((List Int) × (Int × ((List Int) × (List Int))))) × Int × Int × (List ((Int × (Int × Int)) × (Int × Int))))) : LoopS := { at_ := [.c [1, 1, 1, 1, 0, 1, 0], .b 0, .c [1, 1, 1, 1, 1]], sta := rests_l1_st, exits := [([.c [1, 1, 1, 1, 1, 0], .c [1, 1, 1, 1, 1, 1]], ⟨[2, 5, 6, 9], ⟨[.fz [.mp 1], .own 2 0, .own 3 0, .own 4 0], [.segs [.fn 66 [] [.fz [.fe (.pair (.sl (.sl (.int .i64))) (.pair (.sl (.int .i64)) (.pair (.int .i64) (.pair (.sl (.int .i64)) (.sl (.int .i64))))))], .fz [.mp 1], .fz [.fn 32 [] [.fe (.int .i64), .fe (.int .i64)]], .own 0 0]], .map (.pair (.int .i64) (.pair (.int .i64) (.int .i64))) (.pair (.int .i64) (.int .i64)), .segs [.i .i64, .i .i64, .i .i64], .segs [.i .i64, .i .i64], .segs [.i .i64, .i .i64]]⟩⟩)], run := fun p k => ((nextR p.1.2.2.2.2.2.2.1.2.1 p.1.2.2.2.2.2.2.1.2.2.1).bind fun es => rests_l1 N self es p.1.2.1.1.2.1 p.1.2.1.1.2.2.1 p.1.2.2.2.2.2.2.1.2.1 p.1.2.2.2.2.2.2.1.2.2.1 p.2.1.1.2.1.1 p.2.1.1.2.2.2.1.1.2.1 p.2.1.1.2.2.2.1.1.2.2.1 p.2.2.1 p.2.2.2.1.1 p.2.2.2.1.2.1 p.2.2.2.1.2.2.1 p.2.2.2.2.1.1 p.2.2.2.2.1.2.1 p.2.2.2.2.2.1.1 p.2.2.2.2.2.1.2.1).bind fun e => k (.inl ((((), ()), (), (), (), ()), ((((), ((e.1, ()), ((), ()), (((), (e.2.1, e.2.2.1, ())), ()), (), ())), ()), e.2.2.2.1, (e.2.2.2.2.1, e.2.2.2.2.2.1, e.2.2.2.2.2.2.1, ()), (e.2.2.2.2.2.2.2.1, e.2.2.2.2.2.2.2.2.1, ()), (e.2.2.2.2.2.2.2.2.2.1, e.2.2.2.2.2.2.2.2.2.2, ()), ()))) }
noncomputable abbrev rests_l1_Bk : Body := { c := rests_c, n := rests_B.n, res := rests_B.res, outs := rests_B.outs, m0 := 5 }
theorem rests_l1_end (N : Nat) (self : Int → Int → Int → (((List (List Int)) × ((List Int) × (Int × ((List Int) × (List Int)))))) → Int → Int → (((List (List Int)) × ((List Int) × (Int × ((List Int) × (List Int)))))) → Int → Int → (List ((Int × (Int × Int)) × (Int × Int))) → Option (Int × Int × ((List (List Int)) × ((List Int) × (Int × ((List Int) × (List Int))))) × Int × Int × (List ((Int × (Int × Int)) × (Int × Int))))) (u : Int) (u2 : Int) (u3 : (Int × (Int × Int))) (u4 : ((List (List Int)) × ((List Int) × (Int × ((List Int) × (List Int)))))) (g : ((List (List Int)) × ((List Int) × (Int × ((List Int) × (List Int)))))) (g2 : Int) (g3 : Int) (g4 : List ((Int × (Int × Int)) × (Int × Int))) (x : Int) (x2 : Int) (x3 : Int) (g5 : Int) (g6 : Int) (best : Int) (best2 : Int) : ev (Z := ((List (List Int)) × ((List Int) × (Int × ((List Int) × (List Int))))) × Int × Int × (List ((Int × (Int × Int)) × (Int × Int))) × Int × Int × Int × Int × Int × Int × Int) Try.prog (rests_sp N self) rests_B [] [rests_l1_e0] none 400 false (nrm rests_B.c 99 [.b 0, .c [1, 1, 1, 1, 1]]) (stL rests_l1_st ((((), ()), (((), (u, u2, ())), ()), (), (), (), (), ((), (u3, u4, ())), ()), ((((), ((g, ()), ((), ()), (((), (g2, g3, ())), ()), (), ())), ()), g4, (x, x2, x3, ()), (g5, g6, ()), (best, best2, ()), ()))) (stH rests_l1_st ((((), ()), (((), (u, u2, ())), ()), (), (), (), (), ((), (u3, u4, ())), ()), ((((), ((g, ()), ((), ()), (((), (g2, g3, ())), ()), (), ())), ()), g4, (x, x2, x3, ()), (g5, g6, ()), (best, best2, ()), ()))) = rests_l1 N self [] u u2 u3 u4 g g2 g3 g4 x x2 x3 g5 g6 best best2 := by kernel_rfl
theorem rests_l1_asg (N : Nat) (self : Int → Int → Int → (((List (List Int)) × ((List Int) × (Int × ((List Int) × (List Int)))))) → Int → Int → (((List (List Int)) × ((List Int) × (Int × ((List Int) × (List Int)))))) → Int → Int → (List ((Int × (Int × Int)) × (Int × Int))) → Option (Int × Int × ((List (List Int)) × ((List Int) × (Int × ((List Int) × (List Int))))) × Int × Int × (List ((Int × (Int × Int)) × (Int × Int))))) (e : Move) (es : List Move) (u : Int) (u2 : Int) (u3 : (Int × (Int × Int))) (u4 : ((List (List Int)) × ((List Int) × (Int × ((List Int) × (List Int)))))) (g : ((List (List Int)) × ((List Int) × (Int × ((List Int) × (List Int)))))) (g2 : Int) (g3 : Int) (g4 : List ((Int × (Int × Int)) × (Int × Int))) (x : Int) (x2 : Int) (x3 : Int) (g5 : Int) (g6 : Int) (best : Int) (best2 : Int) : ev (Z := ((List (List Int)) × ((List Int) × (Int × ((List Int) × (List Int))))) × Int × Int × (List ((Int × (Int × Int)) × (Int × Int))) × Int × Int × Int × Int × Int × Int × Int) Try.prog (rests_sp N self) rests_l1_Bk [] [⟨[.r, .c [1, 1, 1, 1, 0, 1, 0, 1]], rests_l1_stA, fun p => rests_l1_b N self (fun g_ g2_ g3_ g4_ x_ x2_ x3_ g5_ g6_ best_ best2_ => rests_l1 N self es u u2 u3 u4 g_ g2_ g3_ g4_ x_ x2_ x3_ g5_ g6_ best_ best2_) u u2 u3 u4 p.1.1.1.2.1 p.1.1.1.2.2.1 p.2.1.1.2.1.1 p.2.1.1.2.2.2.1.1.2.1 p.2.1.1.2.2.2.1.1.2.2.1 p.2.2.1 p.2.2.2.1.1 p.2.2.2.1.2.1 p.2.2.2.1.2.2.1 p.2.2.2.2.1.1 p.2.2.2.2.1.2.1 p.2.2.2.2.2.1.1 p.2.2.2.2.2.1.2.1 p.2.2.2.2.2.2.1.1 p.2.2.2.2.2.2.1.2.1 p.2.2.2.2.2.2.2.1.1 p.2.2.2.2.2.2.2.1.2.1 p.2.2.2.2.2.2.2.1.2.2.1⟩] none 400 false (nrm rests_B.c 99 [.c [1, 1, 1, 1, 0, 1, 0, 0], .r, .c [1, 1, 1, 1, 0, 1, 0, 1]]) (pars [35, 36] (encs id is_next.elem e) (stL rests_l1_st ((((), ()), (((), (u, u2, ())), ()), (), (), (), (), ((), (u3, u4, ())), ()), ((((), ((g, ()), ((), ()), (((), (g2, g3, ())), ()), (), ())), ()), g4, (x, x2, x3, ()), (g5, g6, ()), (best, best2, ()), ())))) (stH rests_l1_st ((((), ()), (((), (u, u2, ())), ()), (), (), (), (), ((), (u3, u4, ())), ()), ((((), ((g, ()), ((), ()), (((), (g2, g3, ())), ()), (), ())), ()), g4, (x, x2, x3, ()), (g5, g6, ()), (best, best2, ()), ()))) = rests_l1 N self (e :: es) u u2 u3 u4 g g2 g3 g4 x x2 x3 g5 g6 best best2 := by kernel_rfl
theorem rests_l1_bod (N : Nat) (self : Int → Int → Int → (((List (List Int)) × ((List Int) × (Int × ((List Int) × (List Int)))))) → Int → Int → (((List (List Int)) × ((List Int) × (Int × ((List Int) × (List Int)))))) → Int → Int → (List ((Int × (Int × Int)) × (Int × Int))) → Option (Int × Int × ((List (List Int)) × ((List Int) × (Int × ((List Int) × (List Int))))) × Int × Int × (List ((Int × (Int × Int)) × (Int × Int))))) (rec : (((List (List Int)) × ((List Int) × (Int × ((List Int) × (List Int)))))) → Int → Int → (List ((Int × (Int × Int)) × (Int × Int))) → Int → Int → Int → Int → Int → Int → Int → Option (((List (List Int)) × ((List Int) × (Int × ((List Int) × (List Int))))) × Int × Int × (List ((Int × (Int × Int)) × (Int × Int))) × Int × Int × Int × Int × Int × Int × Int)) (u : Int) (u2 : Int) (u3 : (Int × (Int × Int))) (u4 : ((List (List Int)) × ((List Int) × (Int × ((List Int) × (List Int)))))) (u' : Int) (u2' : Int) (g' : ((List (List Int)) × ((List Int) × (Int × ((List Int) × (List Int)))))) (g2' : Int) (g3' : Int) (g4' : List ((Int × (Int × Int)) × (Int × Int))) (x' : Int) (x2' : Int) (x3' : Int) (g5' : Int) (g6' : Int) (best' : Int) (best2' : Int) (p' : Int) (p2' : Int) (y' : Int) (y2' : Int) (y3' : Int) : ev (Z := ((List (List Int)) × ((List Int) × (Int × ((List Int) × (List Int))))) × Int × Int × (List ((Int × (Int × Int)) × (Int × Int))) × Int × Int × Int × Int × Int × Int × Int) Try.prog (rests_sp N self) rests_l1_Bk [] [⟨[], ⟨[], ⟨[], [.segs [.fn 66 [] [.fz [.fe (.pair (.sl (.sl (.int .i64))) (.pair (.sl (.int .i64)) (.pair (.int .i64) (.pair (.sl (.int .i64)) (.sl (.int .i64))))))], .fz [.mp 1], .fz [.fn 32 [] [.fe (.int .i64), .fe (.int .i64)]], .own 0 0]], .map (.pair (.int .i64) (.pair (.int .i64) (.int .i64))) (.pair (.int .i64) (.int .i64)), .segs [.i .i64, .i .i64, .i .i64], .segs [.i .i64, .i .i64], .segs [.i .i64, .i .i64]]⟩⟩, fun p => rec p.2.1.1.2.1.1 p.2.1.1.2.2.2.1.1.2.1 p.2.1.1.2.2.2.1.1.2.2.1 p.2.2.1 p.2.2.2.1.1 p.2.2.2.1.2.1 p.2.2.2.1.2.2.1 p.2.2.2.2.1.1 p.2.2.2.2.1.2.1 p.2.2.2.2.2.1.1 p.2.2.2.2.2.1.2.1⟩] none 400 false (nrm rests_B.c 99 [.c [1, 1, 1, 1, 0, 1, 0, 1]]) (stL rests_l1_stA (((((), (u', u2', ())), ()), (), (), (), (), (), (), ()), ((((), ((g', ()), ((), ()), (((), (g2', g3', ())), ()), (), ())), ()), g4', (x', x2', x3', ()), (g5', g6', ()), (best', best2', ()), (p', p2', ()), (y', y2', y3', ()), ()))) (stH rests_l1_stA (((((), (u', u2', ())), ()), (), (), (), (), (), (), ()), ((((), ((g', ()), ((), ()), (((), (g2', g3', ())), ()), (), ())), ()), g4', (x', x2', x3', ()), (g5', g6', ()), (best', best2', ()), (p', p2', ()), (y', y2', y3', ()), ()))) = rests_l1_b N self rec u u2 u3 u4 u' u2' g' g2' g3' g4' x' x2' x3' g5' g6' best' best2' p' p2' y' y2' y3' := by kernel_rfl
theorem rests_l1_ok (N : Nat) (self : Int → Int → Int → (((List (List Int)) × ((List Int) × (Int × ((List Int) × (List Int)))))) → Int → Int → (((List (List Int)) × ((List Int) × (Int × ((List Int) × (List Int)))))) → Int → Int → (List ((Int × (Int × Int)) × (Int × Int))) → Option (Int × Int × ((List (List Int)) × ((List Int) × (Int × ((List Int) × (List Int))))) × Int × Int × (List ((Int × (Int × Int)) × (Int × Int))))) (hself : SpecOK Try.prog (rests_self self)) : LoopOK Try.prog rests_B.c rests_B.n rests_B.m0 true (rests_l1_L N self) := by
  refine range_ok (B := rests_B) (is := is_next) (g := .tmp 34) (ps := #[35, 36]) (assign := sub rests_c [1, 1, 1, 1, 0, 1, 0, 0]) (body := sub rests_c [1, 1, 1, 1, 0, 1, 0, 1]) (Z := ((List (List Int)) × ((List Int) × (Int × ((List Int) × (List Int))))) × Int × Int × (List ((Int × (Int × Int)) × (Int × Int))) × Int × Int × Int × Int × Int × Int × Int) (x := rests_l1_L N self) (fun p => (p.1.2.2.2.2.2.2.1.2.1, p.1.2.2.2.2.2.2.1.2.2.1, ())) (fun es p => rests_l1 N self es p.1.2.1.1.2.1 p.1.2.1.1.2.2.1 p.1.2.2.2.2.2.2.1.2.1 p.1.2.2.2.2.2.2.1.2.2.1 p.2.1.1.2.1.1 p.2.1.1.2.2.2.1.1.2.1 p.2.1.1.2.2.2.1.1.2.2.1 p.2.2.1 p.2.2.2.1.1 p.2.2.2.1.2.1 p.2.2.2.1.2.2.1 p.2.2.2.2.1.1 p.2.2.2.2.1.2.1 p.2.2.2.2.2.1.1 p.2.2.2.2.2.1.2.1) (staA := rests_l1_stA) (fun es q p => rests_l1_b N self (fun g_ g2_ g3_ g4_ x_ x2_ x3_ g5_ g6_ best_ best2_ => rests_l1 N self es q.2.1.1.2.1 q.2.1.1.2.2.1 q.2.2.2.2.2.2.1.2.1 q.2.2.2.2.2.2.1.2.2.1 g_ g2_ g3_ g4_ x_ x2_ x3_ g5_ g6_ best_ best2_) q.2.1.1.2.1 q.2.1.1.2.2.1 q.2.2.2.2.2.2.1.2.1 q.2.2.2.2.2.2.1.2.2.1 p.1.1.1.2.1 p.1.1.1.2.2.1 p.2.1.1.2.1.1 p.2.1.1.2.2.2.1.1.2.1 p.2.1.1.2.2.2.1.1.2.2.1 p.2.2.1 p.2.2.2.1.1 p.2.2.2.1.2.1 p.2.2.2.1.2.2.1 p.2.2.2.2.1.1 p.2.2.2.2.1.2.1 p.2.2.2.2.2.1.1 p.2.2.2.2.2.1.2.1 p.2.2.2.2.2.2.1.1 p.2.2.2.2.2.2.1.2.1 p.2.2.2.2.2.2.2.1.1 p.2.2.2.2.2.2.2.1.2.1 p.2.2.2.2.2.2.2.1.2.2.1) [] (fun e => .inl ((((), ()), (), (), (), ()), ((((), ((e.1, ()), ((), ()), (((), (e.2.1, e.2.2.1, ())), ()), (), ())), ()), e.2.2.2.1, (e.2.2.2.2.1, e.2.2.2.2.2.1, e.2.2.2.2.2.2.1, ()), (e.2.2.2.2.2.2.2.1, e.2.2.2.2.2.2.2.2.1, ()), (e.2.2.2.2.2.2.2.2.2.1, e.2.2.2.2.2.2.2.2.2.2, ()), ()))) (fun _ _ _ => rfl) rfl (by kernel_rfl) (fun _ => by kernel_rfl) (by kernel_rfl) is_next_ok (Nat.le_of_ble_eq_true (by kernel_rfl)) (by kernel_rfl) ?_ ?_ ?_ ?_
  · exact fun z E Xc hE hX hx p hp a w hS => ev_sound (z := z) (B := rests_B) (loops := []) (leaves := [rests_l1_e0]) (top := true) (rests_all N self hself) mixed trivial hE hX ⟨(fun p hp => by obtain rfl := Option.some.inj hp; exact hx), trivial⟩ RetOK.no 400 false _ _ _ ((rests_l1_end N self p.1.2.1.1.2.1 p.1.2.1.1.2.2.1 p.1.2.2.2.2.2.2.1.2.1 p.1.2.2.2.2.2.2.1.2.2.1 p.2.1.1.2.1.1 p.2.1.1.2.2.2.1.1.2.1 p.2.1.1.2.2.2.1.1.2.2.1 p.2.2.1 p.2.2.2.1.1 p.2.2.2.1.2.1 p.2.2.2.1.2.2.1 p.2.2.2.2.1.1 p.2.2.2.2.1.2.1 p.2.2.2.2.2.1.1 p.2.2.2.2.2.1.2.1).trans hp) a w hS
  · intro z E Xc hE hX hx e he q b hb a w hS
    simp only [List.not_mem_nil] at he
  · exact fun z E Xc hE hX e es p hl hp a w hS => ev_sound (z := z) (B := rests_l1_Bk) (loops := []) (leaves := [_]) (top := false) (rests_all N self hself) mixed trivial hE hX ⟨hl, trivial⟩ RetOK.no 400 false _ _ _ ((rests_l1_asg N self e es p.1.2.1.1.2.1 p.1.2.1.1.2.2.1 p.1.2.2.2.2.2.2.1.2.1 p.1.2.2.2.2.2.2.1.2.2.1 p.2.1.1.2.1.1 p.2.1.1.2.2.2.1.1.2.1 p.2.1.1.2.2.2.1.1.2.2.1 p.2.2.1 p.2.2.2.1.1 p.2.2.2.1.2.1 p.2.2.2.1.2.2.1 p.2.2.2.2.1.1 p.2.2.2.2.1.2.1 p.2.2.2.2.2.1.1 p.2.2.2.2.2.1.2.1).trans hp) a w hS
  · exact fun z E Xc hE hX es q he hs p hp a w hS => ev_sound (z := z) (B := rests_l1_Bk) (loops := []) (leaves := [_]) (top := false) (rests_all N self hself) mixed trivial hE hX ⟨he, trivial⟩ RetOK.no 400 false _ _ _ ((rests_l1_bod N self (fun g_ g2_ g3_ g4_ x_ x2_ x3_ g5_ g6_ best_ best2_ => rests_l1 N self es q.2.1.1.2.1 q.2.1.1.2.2.1 q.2.2.2.2.2.2.1.2.1 q.2.2.2.2.2.2.1.2.2.1 g_ g2_ g3_ g4_ x_ x2_ x3_ g5_ g6_ best_ best2_) q.2.1.1.2.1 q.2.1.1.2.2.1 q.2.2.2.2.2.2.1.2.1 q.2.2.2.2.2.2.1.2.2.1 p.1.1.1.2.1 p.1.1.1.2.2.1 p.2.1.1.2.1.1 p.2.1.1.2.2.2.1.1.2.1 p.2.1.1.2.2.2.1.1.2.2.1 p.2.2.1 p.2.2.2.1.1 p.2.2.2.1.2.1 p.2.2.2.1.2.2.1 p.2.2.2.2.1.1 p.2.2.2.2.1.2.1 p.2.2.2.2.2.1.1 p.2.2.2.2.2.1.2.1 p.2.2.2.2.2.2.1.1 p.2.2.2.2.2.2.1.2.1 p.2.2.2.2.2.2.2.1.1 p.2.2.2.2.2.2.2.1.2.1 p.2.2.2.2.2.2.2.1.2.2.1).trans hp) a w hS
abbrev rests_st : Sta := ⟨[0, 1, 2, 3, 4], ⟨[.agg [.i .i64, .i .i64, .i .i64], .fz [.fe (.pair (.sl (.sl (.int .i64))) (.pair (.sl (.int .i64)) (.pair (.int .i64) (.pair (.sl (.int .i64)) (.sl (.int .i64))))))], .fz [.mp 1], .fz [.fn 32 [] [.fe (.int .i64), .fe (.int .i64)]], .own 0 0], [.segs [.fn 66 [] [.fz [.fe (.pair (.sl (.sl (.int .i64))) (.pair (.sl (.int .i64)) (.pair (.int .i64) (.pair (.sl (.int .i64)) (.sl (.int .i64))))))], .fz [.mp 1], .fz [.fn 32 [] [.fe (.int .i64), .fe (.int .i64)]], .own 0 0]], .map (.pair (.int .i64) (.pair (.int .i64) (.int .i64))) (.pair (.int .i64) (.int .i64))]⟩⟩
theorem rests_eq (N : Nat) (self : Int → Int → Int → (((List (List Int)) × ((List Int) × (Int × ((List Int) × (List Int)))))) → Int → Int → (((List (List Int)) × ((List Int) × (Int × ((List Int) × (List Int)))))) → Int → Int → (List ((Int × (Int × Int)) × (Int × Int))) → Option (Int × Int × ((List (List Int)) × ((List Int) × (Int × ((List Int) × (List Int))))) × Int × Int × (List ((Int × (Int × Int)) × (Int × Int))))) (x : Int) (x2 : Int) (x3 : Int) (u : ((List (List Int)) × ((List Int) × (Int × ((List Int) × (List Int)))))) (u2 : Int) (u3 : Int) (g : ((List (List Int)) × ((List Int) × (Int × ((List Int) × (List Int)))))) (g2 : Int) (g3 : Int) (g4 : List ((Int × (Int × Int)) × (Int × Int))) : ev (Z := Int × Int × ((List (List Int)) × ((List Int) × (Int × ((List Int) × (List Int))))) × Int × Int × (List ((Int × (Int × Int)) × (Int × Int)))) Try.prog (rests_sp N self) rests_B [rests_l1_L N self] [] (some rests_rt) 400 false [.c [0], .c [1]] (stL rests_st (((x, x2, x3, ()), (u, ()), ((), ()), (((), (u2, u3, ())), ()), (), ()), ((((), ((g, ()), ((), ()), (((), (g2, g3, ())), ()), (), ())), ()), g4, ()))) (stH rests_st (((x, x2, x3, ()), (u, ()), ((), ()), (((), (u2, u3, ())), ()), (), ()), ((((), ((g, ()), ((), ()), (((), (g2, g3, ())), ()), (), ())), ()), g4, ()))) = rests_S N self x x2 x3 u u2 u3 g g2 g3 g4 := by kernel_rfl
theorem rests_self_ok (N : Nat) (self : Int → Int → Int → (((List (List Int)) × ((List Int) × (Int × ((List Int) × (List Int)))))) → Int → Int → (((List (List Int)) × ((List Int) × (Int × ((List Int) × (List Int)))))) → Int → Int → (List ((Int × (Int × Int)) × (Int × Int))) → Option (Int × Int × ((List (List Int)) × ((List Int) × (Int × ((List Int) × (List Int))))) × Int × Int × (List ((Int × (Int × Int)) × (Int × Int))))) (hself : SpecOK Try.prog (rests_self self)) : SpecOK Try.prog (rests_self (rests_S N self)) := fn_sound (B := rests_B) (loops := [rests_l1_L N self]) (leaves := []) (fun p => rests_S N self p.1.1.1 p.1.1.2.1 p.1.1.2.2.1 p.1.2.1.1 p.1.2.2.2.1.1.2.1 p.1.2.2.2.1.1.2.2.1 p.2.1.1.2.1.1 p.2.1.1.2.2.2.1.1.2.1 p.2.1.1.2.2.2.1.1.2.2.1 p.2.2.1) (fun r => (((r.1, r.2.1, ()), ()), ((((), ((r.2.2.1, ()), ((), ()), (((), (r.2.2.2.1, r.2.2.2.2.1, ())), ()), (), ())), ()), r.2.2.2.2.2, ()))) rests_rt (fun _ _ _ => rfl) (fun r z h => by cases h; rfl) Try.func66 (by kernel_rfl) (by kernel_rfl) (by kernel_rfl) rfl rfl (by kernel_rfl) (fun args w => Sem.pv_run _ _ _ (by kernel_rfl) w) (rests_all N self hself) mixed ⟨rests_l1_ok N self hself, trivial⟩ (fun z E Xc hE hX hret => trivial) (fun p => rests_eq N self p.1.1.1 p.1.1.2.1 p.1.1.2.2.1 p.1.2.1.1 p.1.2.2.2.1.1.2.1 p.1.2.2.2.1.1.2.2.1 p.2.1.1.2.1.1 p.2.1.1.2.2.2.1.1.2.1 p.2.1.1.2.2.2.1.1.2.2.1 p.2.2.1)
def rests_R (N : Nat) : Nat → Int → Int → Int → (((List (List Int)) × ((List Int) × (Int × ((List Int) × (List Int)))))) → Int → Int → (((List (List Int)) × ((List Int) × (Int × ((List Int) × (List Int)))))) → Int → Int → (List ((Int × (Int × Int)) × (Int × Int))) → Option (Int × Int × ((List (List Int)) × ((List Int) × (Int × ((List Int) × (List Int))))) × Int × Int × (List ((Int × (Int × Int)) × (Int × Int))))
  | 0 => fun _ _ _ _ _ _ _ _ _ _ => none
  | n + 1 => rests_S N (rests_R N n)
theorem rests_R_ok (N : Nat) : ∀ n, SpecOK Try.prog (rests_self (rests_R N n))
  | 0 => SpecOK.none (fun _ _ _ => rfl) (fun args w => Sem.pv_run _ _ _ (by kernel_rfl) w)
  | n + 1 => rests_self_ok N (rests_R N n) (rests_R_ok N n)
noncomputable abbrev sp_rests (N : Nat) : Spec := rests_self (rests_R N N)
theorem sp_rests_ok (N : Nat) : SpecOK Try.prog (sp_rests N) := rests_R_ok N N

def restss_j1 (N : Nat) (rest : ((List (List Int)) × ((List Int) × (Int × ((List Int) × (List Int)))))) (rest2 : Int) (rest3 : Int) (g : List ((Int × (Int × Int)) × (Int × Int))) : Option (List ((Int × (Int × Int)) × (Int × Int))) :=
  (rests_R N N 0 0 0 rest rest2 rest3 rest rest2 rest3 g).bind fun (x_1, y_2, y_3, y_4, y_5, y_6) =>
  some (((0, 0, 0), (x_1, y_2)) :: y_6)
def restss_S (N : Nat) (d : ((List (List Int)) × ((List Int) × (Int × ((List Int) × (List Int)))))) (f : Int) (f2 : Int) : Option (List ((Int × (Int × Int)) × (Int × Int))) :=
  restss_j1 N d f f2 []
noncomputable def restss_sp (N : Nat) : List Spec := [sp_rests N]
theorem restss_all (N : Nat) : AllP (SpecOK Try.prog) (restss_sp N) := ⟨sp_rests_ok N, trivial⟩
noncomputable def restss_c : Code := (Try.f46.body).getD .skip
noncomputable abbrev restss_B : Body := { c := restss_c, n := 15, res := [.tmp 4], outs := [⟨[.mp 0], [.map (.pair (.int .i64) (.pair (.int .i64) (.int .i64))) (.pair (.int .i64) (.int .i64))]⟩], m0 := 0 }
abbrev restss_rt : altD restss_B.outs → Option (List ((Int × (Int × Int)) × (Int × Int))) := fun r => some r.2.1
abbrev restss_j1_at : List PI := [.c [1, 1, 1, 1, 0], .c [1, 1, 1, 1, 1]]
abbrev restss_j1_st : Sta := ⟨[5, 6], ⟨[.fz [.mp 1], .own 0 0], [.segs [.fn 66 [] [.fz [.fe (.pair (.sl (.sl (.int .i64))) (.pair (.sl (.int .i64)) (.pair (.int .i64) (.pair (.sl (.int .i64)) (.sl (.int .i64))))))], .fz [.mp 1], .fz [.fn 32 [] [.fe (.int .i64), .fe (.int .i64)]], .own 0 0]], .map (.pair (.int .i64) (.pair (.int .i64) (.int .i64))) (.pair (.int .i64) (.int .i64))]⟩⟩
abbrev restss_j1_k (N : Nat) : Leaf (List ((Int × (Int × Int)) × (Int × Int))) := ⟨restss_j1_at, restss_j1_st, fun p => restss_j1 N p.2.1.1.2.1.1 p.2.1.1.2.2.2.1.1.2.1 p.2.1.1.2.2.2.1.1.2.2.1 p.2.2.1⟩
theorem restss_j1_eq (N : Nat) (rest : ((List (List Int)) × ((List Int) × (Int × ((List Int) × (List Int)))))) (rest2 : Int) (rest3 : Int) (g : List ((Int × (Int × Int)) × (Int × Int))) : ev (Z := (List ((Int × (Int × Int)) × (Int × Int)))) Try.prog (restss_sp N) restss_B [] [] (some restss_rt) 400 true restss_j1_at (stL restss_j1_st ((((), ()), (), ()), ((((), ((rest, ()), ((), ()), (((), (rest2, rest3, ())), ()), (), ())), ()), g, ()))) (stH restss_j1_st ((((), ()), (), ()), ((((), ((rest, ()), ((), ()), (((), (rest2, rest3, ())), ()), (), ())), ()), g, ()))) = restss_j1 N rest rest2 rest3 g := by kernel_rfl
theorem restss_j1_lf (N : Nat) {z : (List ((Int × (Int × Int)) × (Int × Int)))} {E : EE} {Xc : Ctx} (hE : EOK restss_B.m0 E) (hX : CxOK true Xc) (hret : RetOK Try.prog restss_B E Xc z (some restss_rt)) : LeafOK Try.prog restss_B.c restss_B.n restss_B.m0 E Xc z (restss_j1_k N) := leaf_of_ev (B := restss_B) (loops := []) (leaves := []) (restss_all N) mixed trivial hE hX trivial hret (fun p => restss_j1_eq N p.2.1.1.2.1.1 p.2.1.1.2.2.2.1.1.2.1 p.2.1.1.2.2.2.1.1.2.2.1 p.2.2.1)
abbrev restss_st : Sta := ⟨[0, 1], ⟨[.fe (.pair (.sl (.sl (.int .i64))) (.pair (.sl (.int .i64)) (.pair (.int .i64) (.pair (.sl (.int .i64)) (.sl (.int .i64)))))), .agg [.fn 32 [] [.fe (.int .i64), .fe (.int .i64)]]], []⟩⟩
theorem restss_eq (N : Nat) (d : ((List (List Int)) × ((List Int) × (Int × ((List Int) × (List Int)))))) (f : Int) (f2 : Int) : ev (Z := (List ((Int × (Int × Int)) × (Int × Int)))) Try.prog (restss_sp N) restss_B [] [restss_j1_k N] (some restss_rt) 400 false [.c [0], .c [1]] (stL restss_st ((d, (((), (f, f2, ())), ()), ()), ())) (stH restss_st ((d, (((), (f, f2, ())), ()), ()), ())) = restss_S N d f f2 := by kernel_rfl
noncomputable def sp_restss (N : Nat) : Spec := { f := 46, ins := ⟨[.fe (.pair (.sl (.sl (.int .i64))) (.pair (.sl (.int .i64)) (.pair (.int .i64) (.pair (.sl (.int .i64)) (.sl (.int .i64)))))), .agg [.fn 32 [] [.fe (.int .i64), .fe (.int .i64)]]], []⟩, outs := [⟨[.mp 0], [.map (.pair (.int .i64) (.pair (.int .i64) (.int .i64))) (.pair (.int .i64) (.int .i64))]⟩], run := fun p k => (restss_S N p.1.1 p.1.2.1.1.2.1 p.1.2.1.1.2.2.1).bind fun r => k (((), ()), (r, ())) }
theorem sp_restss_ok (N : Nat) : SpecOK Try.prog (sp_restss N) := fn_sound (B := restss_B) (loops := []) (leaves := [restss_j1_k N]) (fun p => restss_S N p.1.1 p.1.2.1.1.2.1 p.1.2.1.1.2.2.1) (fun r => (((), ()), (r, ()))) restss_rt (fun _ _ _ => rfl) (fun r z h => by cases h; rfl) Try.func46 (by kernel_rfl) (by kernel_rfl) (by kernel_rfl) rfl rfl (by kernel_rfl) (fun args w => Sem.pv_run _ _ _ (by kernel_rfl) w) (restss_all N) mixed trivial (fun z E Xc hE hX hret => ⟨restss_j1_lf N hE hX hret, trivial⟩) (fun p => restss_eq N p.1.1 p.1.2.1.1.2.1 p.1.2.1.1.2.2.1)

def firsts_S (N : Nat) (d : ((List (List Int)) × ((List Int) × (Int × ((List Int) × (List Int)))))) (f : Int) (f2 : Int) : Option (Int × Int) :=
  (restss_S N d f f2).bind fun x_1 =>
  some ((((x_1.find? fun (y : (Int × (Int × Int)) × (Int × Int)) => Ty.beq (.pair (.int .i64) (.pair (.int .i64) (.int .i64))) y.1 (0, 0, 0)).map (·.2)).getD (Ty.dflt (.pair (.int .i64) (.int .i64)))).1, (((x_1.find? fun (y : (Int × (Int × Int)) × (Int × Int)) => Ty.beq (.pair (.int .i64) (.pair (.int .i64) (.int .i64))) y.1 (0, 0, 0)).map (·.2)).getD (Ty.dflt (.pair (.int .i64) (.int .i64)))).2)
noncomputable def firsts_sp (N : Nat) : List Spec := [sp_restss N]
theorem firsts_all (N : Nat) : AllP (SpecOK Try.prog) (firsts_sp N) := ⟨sp_restss_ok N, trivial⟩
noncomputable def firsts_c : Code := (Try.f30.body).getD .skip
noncomputable abbrev firsts_B : Body := { c := firsts_c, n := 10, res := [.cell 4 80], outs := [⟨[.agg [.i .i64, .i .i64]], []⟩], m0 := 0 }
abbrev firsts_rt : altD firsts_B.outs → Option (Int × Int) := fun r => some (r.1.1.1, r.1.1.2.1)
abbrev firsts_st : Sta := ⟨[0, 1], ⟨[.fe (.pair (.sl (.sl (.int .i64))) (.pair (.sl (.int .i64)) (.pair (.int .i64) (.pair (.sl (.int .i64)) (.sl (.int .i64)))))), .agg [.fn 32 [] [.fe (.int .i64), .fe (.int .i64)]]], []⟩⟩
theorem firsts_eq (N : Nat) (d : ((List (List Int)) × ((List Int) × (Int × ((List Int) × (List Int)))))) (f : Int) (f2 : Int) : ev (Z := Int × Int) Try.prog (firsts_sp N) firsts_B [] [] (some firsts_rt) 400 false [.c [0], .c [1]] (stL firsts_st ((d, (((), (f, f2, ())), ()), ()), ())) (stH firsts_st ((d, (((), (f, f2, ())), ()), ()), ())) = firsts_S N d f f2 := by kernel_rfl
noncomputable def sp_firsts (N : Nat) : Spec := { f := 30, ins := ⟨[.fe (.pair (.sl (.sl (.int .i64))) (.pair (.sl (.int .i64)) (.pair (.int .i64) (.pair (.sl (.int .i64)) (.sl (.int .i64)))))), .agg [.fn 32 [] [.fe (.int .i64), .fe (.int .i64)]]], []⟩, outs := [⟨[.agg [.i .i64, .i .i64]], []⟩], run := fun p k => (firsts_S N p.1.1 p.1.2.1.1.2.1 p.1.2.1.1.2.2.1).bind fun r => k (((r.1, r.2, ()), ()), ()) }
theorem sp_firsts_ok (N : Nat) : SpecOK Try.prog (sp_firsts N) := fn_sound (B := firsts_B) (loops := []) (leaves := []) (fun p => firsts_S N p.1.1 p.1.2.1.1.2.1 p.1.2.1.1.2.2.1) (fun r => (((r.1, r.2, ()), ()), ())) firsts_rt (fun _ _ _ => rfl) (fun r z h => by cases h; rfl) Try.func30 (by kernel_rfl) (by kernel_rfl) (by kernel_rfl) rfl rfl (by kernel_rfl) (fun args w => Sem.pv_run _ _ _ (by kernel_rfl) w) (firsts_all N) mixed trivial (fun z E Xc hE hX hret => trivial) (fun p => firsts_eq N p.1.1 p.1.2.1.1.2.1 p.1.2.1.1.2.2.1)

def sure_j1 (N : Nat) (rec : (((List (List Int)) × ((List Int) × (Int × ((List Int) × (List Int)))))) → Int → Int → (List Int) → Int → Int → Int → (List Int) → Int → Option (((List (List Int)) × ((List Int) × (Int × ((List Int) × (List Int))))) × Int × Int × Int × Int × List Int)) (d : ((List (List Int)) × ((List Int) × (Int × ((List Int) × (List Int)))))) (u : Int) (u2 : Int) (u3 : List Int) (u4 : Int) (best : Int) (best2 : Int) (out : List Int) (i : Int) : Option (((List (List Int)) × ((List Int) × (Int × ((List Int) × (List Int))))) × Int × Int × Int × Int × List Int) :=
  chk (u4 + 1) <|
  rec d u u2 u3 (u4 + 1) best best2 out i
def sure_l2 (N : Nat) : Nat → (((List (List Int)) × ((List Int) × (Int × ((List Int) × (List Int)))))) → Int → Int → (List Int) → Int → Int → Int → (List Int) → Int → Option (((List (List Int)) × ((List Int) × (Int × ((List Int) × (List Int))))) × Int × Int × Int × Int × List Int)
  | 0, _, _, _, _, _, _, _, _, _ => none
  | n_ + 1, d, u, u2, u3, u4, best, best2, out, i =>
    br (decide (u4 < 3))
      (idx u3 u4 fun x_5 =>
      (firsts_S N d i x_5).bind fun (x_6, y_7) =>
      br (decide (x_6 = best) && decide (y_7 = best2))
        (rng i out.length <|
        get out i.toNat fun _ =>
        sure_j1 N (sure_l2 N n_) d u u2 u3 u4 best best2 (out.set i.toNat x_5) i)
        (sure_j1 N (sure_l2 N n_) d u u2 u3 u4 best best2 out i))
      (some ((d, u, u2, best, best2, out)))
def sure_l1 (N : Nat) : Nat → (((List (List Int)) × ((List Int) × (Int × ((List Int) × (List Int)))))) → Int → Int → Int → Int → (List Int) → Option (List Int)
  | 0, _, _, _, _, _, _ => none
  | n_ + 1, d, u, u2, best, best2, out =>
    br (decide (u2 < u))
      ((sure_l2 N N d u u2 [1, 2, 3] 0 best best2 out u2).bind fun (d_9, u_10, u2_11, best_12, best2_13, out_14) =>
      chk (u2_11 + 1) <|
      sure_l1 N n_ d_9 u_10 (u2_11 + 1) best_12 best2_13 out_14)
      (some (out))
def sure_S (N : Nat) (e : List (List Int)) (e2 : List Int) (e3 : Int) (p : Int) (p2 : Int) : Option (List Int × Int) :=
  ((opened_S N e e2 e3 p p2).bind fun e => match e with
  | .inl (x_1, y_2) =>
    (br (!decide (y_2 = 0))
      (some ([], y_2))
      ((all_S N).bind fun _ =>
      (firsta_S N x_1).bind fun (x_3, y_4) =>
      grd (lmI (e2.length : Int)) <|
      (sure_l1 N N x_1 ((List.replicate (e2.length : Int).toNat (0 : Int)).length : Int) 0 x_3 y_4 (List.replicate (e2.length : Int).toNat (0 : Int))).bind fun out_15 =>
      some (out_15, 0)))
  | .inr x_16 =>
    (br (!decide (x_16 = 0))
      (some ([], x_16))
      ((all_S N).bind fun _ =>
      none)))
noncomputable def sure_sp (N : Nat) : List Spec := [sp_opened N, sp_all N, sp_firsta N, sp_firsts N]
theorem sure_all (N : Nat) : AllP (SpecOK Try.prog) (sure_sp N) := ⟨sp_opened_ok N, sp_all_ok N, sp_firsta_ok N, sp_firsts_ok N, trivial⟩
noncomputable def sure_c : Code := (Try.f9.body).getD .skip
noncomputable abbrev sure_B : Body := { c := sure_c, n := 53, res := [.tmp 4, .tmp 5], outs := [⟨[.sl (.int .i64), .i .i64], []⟩], m0 := 0 }
abbrev sure_rt : altD sure_B.outs → Option (List Int × Int) := fun r => some (r.1.1, r.1.2.1)
abbrev sure_l2_at : List PI := [.c [1, 1, 1, 1, 1, 0, 1, 0, 0, 1, 1, 0, 0, 1, 1, 0, 0, 0], .c [1, 1, 1, 1, 1, 0, 1, 0, 0, 1, 1, 0, 0, 1, 1, 0, 0, 1], .l [1, 1, 1, 1, 1, 0, 1, 0, 0, 1, 1, 0, 0, 1, 1, 0, 0], .b 2, .b 1, .c [1, 1, 1, 1, 1, 0, 1, 0, 0, 1, 1, 1], .l [1, 1, 1, 1, 1, 0, 1, 0, 0], .b 0, .c [1, 1, 1, 1, 1, 1]]
abbrev sure_l2_st : Sta := ⟨[6, 8, 9, 10, 31, 32, 35, 36], ⟨[.fe (.pair (.sl (.sl (.int .i64))) (.pair (.sl (.int .i64)) (.pair (.int .i64) (.pair (.sl (.int .i64)) (.sl (.int .i64)))))), .own 0 0, .ols 1, .own 2 0, .i .i64, .i .i64, .arr (.int .i64) 3, .i .i64], [.segs [.i .i64, .i .i64], .lst (.int .i64), .segs [.i .i64]]⟩⟩
abbrev sure_l2_h (rec : (((List (List Int)) × ((List Int) × (Int × ((List Int) × (List Int)))))) → Int → Int → (List Int) → Int → Int → Int → (List Int) → Int → Option (((List (List Int)) × ((List Int) × (Int × ((List Int) × (List Int))))) × Int × Int × Int × Int × List Int)) : Leaf (((List (List Int)) × ((List Int) × (Int × ((List Int) × (List Int))))) × Int × Int × Int × Int × List Int) := ⟨sure_l2_at, sure_l2_st, fun p => rec p.1.1 p.1.2.2.2.2.1 p.1.2.2.2.2.2.1 p.1.2.2.2.2.2.2.1 p.1.2.2.2.2.2.2.2.1 p.2.1.1 p.2.1.2.1 p.2.2.1 p.2.2.2.1.1⟩
abbrev sure_l2_e0 : Leaf (((List (List Int)) × ((List Int) × (Int × ((List Int) × (List Int))))) × Int × Int × Int × Int × List Int) := ⟨[.c [1, 1, 1, 1, 1, 0, 1, 0, 0, 1, 1, 1], .l [1, 1, 1, 1, 1, 0, 1, 0, 0], .b 0, .c [1, 1, 1, 1, 1, 1]], ⟨[6, 8, 9, 31, 32], ⟨[.fe (.pair (.sl (.sl (.int .i64))) (.pair (.sl (.int .i64)) (.pair (.int .i64) (.pair (.sl (.int .i64)) (.sl (.int .i64)))))), .own 0 0, .ols 1, .i .i64, .i .i64], [.segs [.i .i64, .i .i64], .lst (.int .i64)]⟩⟩, fun p => some ((p.1.1, p.1.2.2.2.1, p.1.2.2.2.2.1, p.2.1.1, p.2.1.2.1, p.2.2.1))⟩
abbrev sure_j1_at : List PI := [.c [1, 1, 1, 1, 1, 0, 1, 0, 0, 1, 1, 0, 0, 1, 1, 0, 0, 1, 1, 1], .l [1, 1, 1, 1, 1, 0, 1, 0, 0, 1, 1, 0, 0, 1, 1, 0, 0], .b 2, .b 1, .c [1, 1, 1, 1, 1, 0, 1, 0, 0, 1, 1, 1], .l [1, 1, 1, 1, 1, 0, 1, 0, 0], .b 0, .c [1, 1, 1, 1, 1, 1]]
abbrev sure_j1_st : Sta := ⟨[6, 8, 9, 10, 31, 32, 35, 36], ⟨[.fe (.pair (.sl (.sl (.int .i64))) (.pair (.sl (.int .i64)) (.pair (.int .i64) (.pair (.sl (.int .i64)) (.sl (.int .i64)))))), .own 0 0, .ols 1, .own 2 0, .i .i64, .i .i64, .arr (.int .i64) 3, .i .i64], [.segs [.i .i64, .i .i64], .lst (.int .i64), .segs [.i .i64]]⟩⟩
abbrev sure_j1_k (N : Nat) (rec : (((List (List Int)) × ((List Int) × (Int × ((List Int) × (List Int)))))) → Int → Int → (List Int) → Int → Int → Int → (List Int) → Int → Option (((List (List Int)) × ((List Int) × (Int × ((List Int) × (List Int))))) × Int × Int × Int × Int × List Int)) : Leaf (((List (List Int)) × ((List Int) × (Int × ((List Int) × (List Int))))) × Int × Int × Int × Int × List Int) := ⟨sure_j1_at, sure_j1_st, fun p => sure_j1 N rec p.1.1 p.1.2.2.2.2.1 p.1.2.2.2.2.2.1 p.1.2.2.2.2.2.2.1 p.1.2.2.2.2.2.2.2.1 p.2.1.1 p.2.1.2.1 p.2.2.1 p.2.2.2.1.1⟩
theorem sure_j1_eq (N : Nat) (rec : (((List (List Int)) × ((List Int) × (Int × ((List Int) × (List Int)))))) → Int → Int → (List Int) → Int → Int → Int → (List Int) → Int → Option (((List (List Int)) × ((List Int) × (Int × ((List Int) × (List Int))))) × Int × Int × Int × Int × List Int)) (d : ((List (List Int)) × ((List Int) × (Int × ((List Int) × (List Int)))))) (u : Int) (u2 : Int) (u3 : List Int) (u4 : Int) (best : Int) (best2 : Int) (out : List Int) (i : Int) : ev (Z := ((List (List Int)) × ((List Int) × (Int × ((List Int) × (List Int))))) × Int × Int × Int × Int × List Int) Try.prog (sure_sp N) sure_B [] [sure_l2_h rec, sure_l2_e0] none 400 true sure_j1_at (stL sure_j1_st ((d, (), (), (), u, u2, u3, u4, ()), ((best, best2, ()), out, (i, ()), ()))) (stH sure_j1_st ((d, (), (), (), u, u2, u3, u4, ()), ((best, best2, ()), out, (i, ()), ()))) = sure_j1 N rec d u u2 u3 u4 best best2 out i := by kernel_rfl
theorem sure_j1_lf (N : Nat) (rec : (((List (List Int)) × ((List Int) × (Int × ((List Int) × (List Int)))))) → Int → Int → (List Int) → Int → Int → Int → (List Int) → Int → Option (((List (List Int)) × ((List Int) × (Int × ((List Int) × (List Int))))) × Int × Int × Int × Int × List Int)) {z : ((List (List Int)) × ((List Int) × (Int × ((List Int) × (List Int))))) × Int × Int × Int × Int × List Int} {top : Bool} {E : EE} {Xc : Ctx} (hE : EOK sure_B.m0 E) (hX : CxOK top Xc) (hrec : LeafOK Try.prog sure_B.c sure_B.n sure_B.m0 E Xc z (sure_l2_h rec)) (h0 : LeafOK Try.prog sure_B.c sure_B.n sure_B.m0 E Xc z sure_l2_e0) : LeafOK Try.prog sure_B.c sure_B.n sure_B.m0 E Xc z (sure_j1_k N rec) := leaf_of_ev (B := sure_B) (loops := []) (leaves := [sure_l2_h rec, sure_l2_e0]) (sure_all N) mixed trivial hE hX ⟨hrec, h0, trivial⟩ RetOK.no (fun p => sure_j1_eq N rec p.1.1 p.1.2.2.2.2.1 p.1.2.2.2.2.2.1 p.1.2.2.2.2.2.2.1 p.1.2.2.2.2.2.2.2.1 p.2.1.1 p.2.1.2.1 p.2.2.1 p.2.2.2.1.1)
noncomputable def sure_l2_L (N : Nat) : LoopS := { at_ := sure_l2_at, sta := sure_l2_st, exits := [([.c [1, 1, 1, 1, 1, 0, 1, 0, 0, 1, 1, 1], .l [1, 1, 1, 1, 1, 0, 1, 0, 0], .b 0, .c [1, 1, 1, 1, 1, 1]], ⟨[6, 8, 9, 31, 32], ⟨[.fe (.pair (.sl (.sl (.int .i64))) (.pair (.sl (.int .i64)) (.pair (.int .i64) (.pair (.sl (.int .i64)) (.sl (.int .i64)))))), .own 0 0, .ols 1, .i .i64, .i .i64], [.segs [.i .i64, .i .i64], .lst (.int .i64)]⟩⟩)], run := fun p k => (sure_l2 N N p.1.1 p.1.2.2.2.2.1 p.1.2.2.2.2.2.1 p.1.2.2.2.2.2.2.1 p.1.2.2.2.2.2.2.2.1 p.2.1.1 p.2.1.2.1 p.2.2.1 p.2.2.2.1.1).bind fun e => k (.inl ((e.1, (), (), e.2.1, e.2.2.1, ()), ((e.2.2.2.1, e.2.2.2.2.1, ()), e.2.2.2.2.2, ()))) }
theorem sure_l2_eq (N n_ : Nat) (d : ((List (List Int)) × ((List Int) × (Int × ((List Int) × (List Int)))))) (u : Int) (u2 : Int) (u3 : List Int) (u4 : Int) (best : Int) (best2 : Int) (out : List Int) (i : Int) : ev (Z := ((List (List Int)) × ((List Int) × (Int × ((List Int) × (List Int))))) × Int × Int × Int × Int × List Int) Try.prog (sure_sp N) sure_B [] [sure_l2_h (sure_l2 N n_), sure_l2_e0, sure_j1_k N (sure_l2 N n_)] none 400 true sure_l2_at (stL sure_l2_st ((d, (), (), (), u, u2, u3, u4, ()), ((best, best2, ()), out, (i, ()), ()))) (stH sure_l2_st ((d, (), (), (), u, u2, u3, u4, ()), ((best, best2, ()), out, (i, ()), ()))) = sure_l2 N (n_ + 1) d u u2 u3 u4 best best2 out i := by kernel_rfl
theorem sure_l2_ok (N : Nat) {top : Bool} : LoopOK Try.prog sure_B.c sure_B.n sure_B.m0 top (sure_l2_L N) := loop_of_ev (Z := ((List (List Int)) × ((List Int) × (Int × ((List Int) × (List Int))))) × Int × Int × Int × Int × List Int) (N := N) (fun m p => sure_l2 N m p.1.1 p.1.2.2.2.2.1 p.1.2.2.2.2.2.1 p.1.2.2.2.2.2.2.1 p.1.2.2.2.2.2.2.2.1 p.2.1.1 p.2.1.2.1 p.2.2.1 p.2.2.2.1.1) (fun e => .inl ((e.1, (), (), e.2.1, e.2.2.1, ()), ((e.2.2.2.1, e.2.2.2.2.1, ()), e.2.2.2.2.2, ()))) (fun _ _ _ => rfl) (fun _ => rfl) (fun m z E Xc hE hX hrec hx => leaf_of_ev (B := sure_B) (loops := []) (leaves := [sure_l2_h (sure_l2 N m), sure_l2_e0, sure_j1_k N (sure_l2 N m)]) (sure_all N) mixed trivial hE hX ⟨hrec, (fun p hp => by obtain rfl := Option.some.inj hp; exact hx), sure_j1_lf N _ hE hX hrec (fun p hp => by obtain rfl := Option.some.inj hp; exact hx), trivial⟩ RetOK.no (fun p => sure_l2_eq N m p.1.1 p.1.2.2.2.2.1 p.1.2.2.2.2.2.1 p.1.2.2.2.2.2.2.1 p.1.2.2.2.2.2.2.2.1 p.2.1.1 p.2.1.2.1 p.2.2.1 p.2.2.2.1.1))
abbrev sure_l1_at : List PI := [.c [1, 1, 1, 1, 1, 0, 1, 0, 0, 0], .c [1, 1, 1, 1, 1, 0, 1, 0, 0, 1], .l [1, 1, 1, 1, 1, 0, 1, 0, 0], .b 0, .c [1, 1, 1, 1, 1, 1]]
abbrev sure_l1_st : Sta := ⟨[6, 8, 9, 31, 32], ⟨[.fe (.pair (.sl (.sl (.int .i64))) (.pair (.sl (.int .i64)) (.pair (.int .i64) (.pair (.sl (.int .i64)) (.sl (.int .i64)))))), .own 0 0, .ols 1, .i .i64, .i .i64], [.segs [.i .i64, .i .i64], .lst (.int .i64)]⟩⟩
abbrev sure_l1_h (rec : (((List (List Int)) × ((List Int) × (Int × ((List Int) × (List Int)))))) → Int → Int → Int → Int → (List Int) → Option (List Int)) : Leaf (List Int) := ⟨sure_l1_at, sure_l1_st, fun p => rec p.1.1 p.1.2.2.2.1 p.1.2.2.2.2.1 p.2.1.1 p.2.1.2.1 p.2.2.1⟩
abbrev sure_l1_e0 : Leaf (List Int) := ⟨[.c [1, 1, 1, 1, 1, 1, 0], .c [1, 1, 1, 1, 1, 1, 1]], ⟨[9], ⟨[.ols 0], [.lst (.int .i64)]⟩⟩, fun p => some (p.2.1)⟩
noncomputable def sure_l1_L (N : Nat) : LoopS := { at_ := sure_l1_at, sta := sure_l1_st, exits := [([.c [1, 1, 1, 1, 1, 1, 0], .c [1, 1, 1, 1, 1, 1, 1]], ⟨[9], ⟨[.ols 0], [.lst (.int .i64)]⟩⟩)], run := fun p k => (sure_l1 N N p.1.1 p.1.2.2.2.1 p.1.2.2.2.2.1 p.2.1.1 p.2.1.2.1 p.2.2.1).bind fun e => k (.inl (((), ()), (e, ()))) }
theorem sure_l1_eq (N n_ : Nat) (d : ((List (List Int)) × ((List Int) × (Int × ((List Int) × (List Int)))))) (u : Int) (u2 : Int) (best : Int) (best2 : Int) (out : List Int) : ev (Z := List Int) Try.prog (sure_sp N) sure_B [sure_l2_L N] [sure_l1_h (sure_l1 N n_), sure_l1_e0] none 400 true sure_l1_at (stL sure_l1_st ((d, (), (), u, u2, ()), ((best, best2, ()), out, ()))) (stH sure_l1_st ((d, (), (), u, u2, ()), ((best, best2, ()), out, ()))) = sure_l1 N (n_ + 1) d u u2 best best2 out := by kernel_rfl
theorem sure_l1_ok (N : Nat) {top : Bool} : LoopOK Try.prog sure_B.c sure_B.n sure_B.m0 top (sure_l1_L N) := loop_of_ev (Z := List Int) (N := N) (fun m p => sure_l1 N m p.1.1 p.1.2.2.2.1 p.1.2.2.2.2.1 p.2.1.1 p.2.1.2.1 p.2.2.1) (fun e => .inl (((), ()), (e, ()))) (fun _ _ _ => rfl) (fun _ => rfl) (fun m z E Xc hE hX hrec hx => leaf_of_ev (B := sure_B) (loops := [sure_l2_L N]) (leaves := [sure_l1_h (sure_l1 N m), sure_l1_e0]) (sure_all N) mixed ⟨sure_l2_ok N, trivial⟩ hE hX ⟨hrec, (fun p hp => by obtain rfl := Option.some.inj hp; exact hx), trivial⟩ RetOK.no (fun p => sure_l1_eq N m p.1.1 p.1.2.2.2.1 p.1.2.2.2.2.1 p.2.1.1 p.2.1.2.1 p.2.2.1))
abbrev sure_st : Sta := ⟨[0, 1], ⟨[.agg [.sl (.sl (.int .i64)), .sl (.int .i64), .i .i64], .agg [.i .i64, .i .i64]], []⟩⟩
theorem sure_eq (N : Nat) (e : List (List Int)) (e2 : List Int) (e3 : Int) (p : Int) (p2 : Int) : ev (Z := List Int × Int) Try.prog (sure_sp N) sure_B [sure_l2_L N, sure_l1_L N] [] (some sure_rt) 400 false [.c [0], .c [1]] (stL sure_st (((e, e2, e3, ()), (p, p2, ()), ()), ())) (stH sure_st (((e, e2, e3, ()), (p, p2, ()), ()), ())) = sure_S N e e2 e3 p p2 := by kernel_rfl
noncomputable def sp_sure (N : Nat) : Spec := { f := 9, ins := ⟨[.agg [.sl (.sl (.int .i64)), .sl (.int .i64), .i .i64], .agg [.i .i64, .i .i64]], []⟩, outs := [⟨[.sl (.int .i64), .i .i64], []⟩], run := fun p k => (sure_S N p.1.1.1 p.1.1.2.1 p.1.1.2.2.1 p.1.2.1.1 p.1.2.1.2.1).bind fun r => k ((r.1, r.2, ()), ()) }
theorem sp_sure_ok (N : Nat) : SpecOK Try.prog (sp_sure N) := fn_sound (B := sure_B) (loops := [sure_l2_L N, sure_l1_L N]) (leaves := []) (fun p => sure_S N p.1.1.1 p.1.1.2.1 p.1.1.2.2.1 p.1.2.1.1 p.1.2.1.2.1) (fun r => ((r.1, r.2, ()), ())) sure_rt (fun _ _ _ => rfl) (fun r z h => by cases h; rfl) Try.func9 (by kernel_rfl) (by kernel_rfl) (by kernel_rfl) rfl rfl (by kernel_rfl) (fun args w => Sem.pv_run _ _ _ (by kernel_rfl) w) (sure_all N) mixed ⟨sure_l2_ok N, sure_l1_ok N, trivial⟩ (fun z E Xc hE hX hret => trivial) (fun p => sure_eq N p.1.1.1 p.1.1.2.1 p.1.1.2.2.1 p.1.2.1.1 p.1.2.1.2.1)

def equali_l1 (N : Nat) : Nat → (List Int) → (List Int) → Int → Int → Option ((Unit) ⊕ (Unit))
  | 0, _, _, _, _ => none
  | n_ + 1, s1, s2, u, u2 =>
    br (decide (u2 < u))
      (idx s1 u2 fun x_1 =>
      idx s2 u2 fun x_2 =>
      br (!decide (x_1 = x_2))
        (some (.inl ()))
        (chk (u2 + 1) <|
        equali_l1 N n_ s1 s2 u (u2 + 1)))
      (some (.inr ()))
def equali_S (N : Nat) (s1 : List Int) (s2 : List Int) : Option Bool :=
  br (!decide ((s1.length : Int) = (s2.length : Int)))
    (some false)
    ((equali_l1 N N s1 s2 (s1.length : Int) 0).bind fun e => match e with
    | .inl _ =>
      some false
    | .inr _ =>
      some true)
noncomputable def equali_sp (N : Nat) : List Spec := []
theorem equali_all (N : Nat) : AllP (SpecOK Try.prog) (equali_sp N) := trivial
noncomputable def equali_c : Code := (Try.f44.body).getD .skip
noncomputable abbrev equali_B : Body := { c := equali_c, n := 26, res := [.tmp 4], outs := [⟨[.b], []⟩], m0 := 0 }
abbrev equali_rt : altD equali_B.outs → Option Bool := fun r => some r.1.1
abbrev equali_l1_at : List PI := [.c [1, 1, 0, 1, 0, 0, 0], .c [1, 1, 0, 1, 0, 0, 1], .l [1, 1, 0, 1, 0, 0], .b 0, .c [1, 1, 1]]
abbrev equali_l1_st : Sta := ⟨[0, 1, 12, 13], ⟨[.sl (.int .i64), .sl (.int .i64), .i .i64, .i .i64], []⟩⟩
abbrev equali_l1_h (rec : (List Int) → (List Int) → Int → Int → Option ((Unit) ⊕ (Unit))) : Leaf ((Unit) ⊕ (Unit)) := ⟨equali_l1_at, equali_l1_st, fun p => rec p.1.1 p.1.2.1 p.1.2.2.1 p.1.2.2.2.1⟩
abbrev equali_l1_e0 : Leaf ((Unit) ⊕ (Unit)) := ⟨[.c [1, 1, 0, 1, 0, 0, 1, 1, 0, 0, 1, 1, 0, 0], .c [1, 1, 0, 1, 0, 0, 1, 1, 0, 0, 1, 1, 0, 1], .b 1, .c [1, 1, 0, 1, 0, 0, 1, 1, 1], .l [1, 1, 0, 1, 0, 0], .b 0, .c [1, 1, 1]], ⟨[], ⟨[], []⟩⟩, fun p => some (.inl ())⟩
abbrev equali_l1_e1 : Leaf ((Unit) ⊕ (Unit)) := ⟨[.c [1, 1, 1, 0], .c [1, 1, 1, 1]], ⟨[], ⟨[], []⟩⟩, fun p => some (.inr ())⟩
noncomputable def equali_l1_L (N : Nat) : LoopS := { at_ := equali_l1_at, sta := equali_l1_st, exits := [([.c [1, 1, 0, 1, 0, 0, 1, 1, 0, 0, 1, 1, 0, 0], .c [1, 1, 0, 1, 0, 0, 1, 1, 0, 0, 1, 1, 0, 1], .b 1, .c [1, 1, 0, 1, 0, 0, 1, 1, 1], .l [1, 1, 0, 1, 0, 0], .b 0, .c [1, 1, 1]], ⟨[], ⟨[], []⟩⟩), ([.c [1, 1, 1, 0], .c [1, 1, 1, 1]], ⟨[], ⟨[], []⟩⟩)], run := fun p k => (equali_l1 N N p.1.1 p.1.2.1 p.1.2.2.1 p.1.2.2.2.1).bind fun e => match e with | .inl x => k (.inl ((), ())) | .inr x => k (.inr (.inl ((), ()))) }
theorem equali_l1_eq (N n_ : Nat) (s1 : List Int) (s2 : List Int) (u : Int) (u2 : Int) : ev (Z := (Unit) ⊕ (Unit)) Try.prog (equali_sp N) equali_B [] [equali_l1_h (equali_l1 N n_), equali_l1_e0, equali_l1_e1] none 400 true equali_l1_at (stL equali_l1_st ((s1, s2, u, u2, ()), ())) (stH equali_l1_st ((s1, s2, u, u2, ()), ())) = equali_l1 N (n_ + 1) s1 s2 u u2 := by kernel_rfl
theorem equali_l1_ok (N : Nat) {top : Bool} : LoopOK Try.prog equali_B.c equali_B.n equali_B.m0 top (equali_l1_L N) := loop_of_ev (Z := (Unit) ⊕ (Unit)) (N := N) (fun m p => equali_l1 N m p.1.1 p.1.2.1 p.1.2.2.1 p.1.2.2.2.1) (fun e => match e with | .inl x => .inl ((), ()) | .inr x => .inr (.inl ((), ()))) (fun _ p k => bind_congr_ (equali_l1 N N p.1.1 p.1.2.1 p.1.2.2.1 p.1.2.2.2.1) _ _ (fun e => by rcases e with x | x <;> rfl)) (fun _ => rfl) (fun m z E Xc hE hX hrec hx => leaf_of_ev (B := equali_B) (loops := []) (leaves := [equali_l1_h (equali_l1 N m), equali_l1_e0, equali_l1_e1]) (equali_all N) mixed trivial hE hX ⟨hrec, (fun p hp => by obtain rfl := Option.some.inj hp; exact hx), (fun p hp => by obtain rfl := Option.some.inj hp; exact hx), trivial⟩ RetOK.no (fun p => equali_l1_eq N m p.1.1 p.1.2.1 p.1.2.2.1 p.1.2.2.2.1))
abbrev equali_st : Sta := ⟨[0, 1], ⟨[.sl (.int .i64), .sl (.int .i64)], []⟩⟩
theorem equali_eq (N : Nat) (s1 : List Int) (s2 : List Int) : ev (Z := Bool) Try.prog (equali_sp N) equali_B [equali_l1_L N] [] (some equali_rt) 400 false [.c [0], .c [1]] (stL equali_st ((s1, s2, ()), ())) (stH equali_st ((s1, s2, ()), ())) = equali_S N s1 s2 := by kernel_rfl
noncomputable def sp_equali (N : Nat) : Spec := { f := 44, ins := ⟨[.sl (.int .i64), .sl (.int .i64)], []⟩, outs := [⟨[.b], []⟩], run := fun p k => (equali_S N p.1.1 p.1.2.1).bind fun r => k ((r, ()), ()) }
theorem sp_equali_ok (N : Nat) : SpecOK Try.prog (sp_equali N) := fn_sound (B := equali_B) (loops := [equali_l1_L N]) (leaves := []) (fun p => equali_S N p.1.1 p.1.2.1) (fun r => ((r, ()), ())) equali_rt (fun _ _ _ => rfl) (fun r z h => by cases h; rfl) Try.func44 (by kernel_rfl) (by kernel_rfl) (by kernel_rfl) rfl rfl (by kernel_rfl) (fun args w => Sem.pv_run _ _ _ (by kernel_rfl) w) (equali_all N) mixed ⟨equali_l1_ok N, trivial⟩ (fun z E Xc hE hX hret => trivial) (fun p => equali_eq N p.1.1 p.1.2.1)

def likei_S (N : Nat) (a : List Int) (b : List Int) : Option Bool :=
  (equali_S N a b).bind fun x_1 =>
  some x_1
noncomputable def likei_sp (N : Nat) : List Spec := [sp_equali N]
theorem likei_all (N : Nat) : AllP (SpecOK Try.prog) (likei_sp N) := ⟨sp_equali_ok N, trivial⟩
noncomputable def likei_c : Code := (Try.f27.body).getD .skip
noncomputable abbrev likei_B : Body := { c := likei_c, n := 8, res := [.tmp 4], outs := [⟨[.b], []⟩], m0 := 0 }
abbrev likei_rt : altD likei_B.outs → Option Bool := fun r => some r.1.1
abbrev likei_st : Sta := ⟨[0, 1], ⟨[.sl (.int .i64), .sl (.int .i64)], []⟩⟩
theorem likei_eq (N : Nat) (a : List Int) (b : List Int) : ev (Z := Bool) Try.prog (likei_sp N) likei_B [] [] (some likei_rt) 400 false [.c [0], .c [1]] (stL likei_st ((a, b, ()), ())) (stH likei_st ((a, b, ()), ())) = likei_S N a b := by kernel_rfl
noncomputable def sp_likei (N : Nat) : Spec := { f := 27, ins := ⟨[.sl (.int .i64), .sl (.int .i64)], []⟩, outs := [⟨[.b], []⟩], run := fun p k => (likei_S N p.1.1 p.1.2.1).bind fun r => k ((r, ()), ()) }
theorem sp_likei_ok (N : Nat) : SpecOK Try.prog (sp_likei N) := fn_sound (B := likei_B) (loops := []) (leaves := []) (fun p => likei_S N p.1.1 p.1.2.1) (fun r => ((r, ()), ())) likei_rt (fun _ _ _ => rfl) (fun r z h => by cases h; rfl) Try.func27 (by kernel_rfl) (by kernel_rfl) (by kernel_rfl) rfl rfl (by kernel_rfl) (fun args w => Sem.pv_run _ _ _ (by kernel_rfl) w) (likei_all N) mixed trivial (fun z E Xc hE hX hret => trivial) (fun p => likei_eq N p.1.1 p.1.2.1)

def equals_l1 (N : Nat) : Nat → (List Int) → (List Int) → Int → Int → Option ((Unit) ⊕ (Unit))
  | 0, _, _, _, _ => none
  | n_ + 1, s1, s2, u, u2 =>
    br (decide (u2 < u))
      (idx s1 u2 fun x_1 =>
      idx s2 u2 fun x_2 =>
      br (!decide (x_1 = x_2))
        (some (.inl ()))
        (chk (u2 + 1) <|
        equals_l1 N n_ s1 s2 u (u2 + 1)))
      (some (.inr ()))
def equals_S (N : Nat) (s1 : List Int) (s2 : List Int) : Option Bool :=
  br (!decide ((s1.length : Int) = (s2.length : Int)))
    (some false)
    ((equals_l1 N N s1 s2 (s1.length : Int) 0).bind fun e => match e with
    | .inl _ =>
      some false
    | .inr _ =>
      some true)
noncomputable def equals_sp (N : Nat) : List Spec := []
theorem equals_all (N : Nat) : AllP (SpecOK Try.prog) (equals_sp N) := trivial
noncomputable def equals_c : Code := (Try.f33.body).getD .skip
noncomputable abbrev equals_B : Body := { c := equals_c, n := 26, res := [.tmp 4], outs := [⟨[.b], []⟩], m0 := 0 }
abbrev equals_rt : altD equals_B.outs → Option Bool := fun r => some r.1.1
abbrev equals_l1_at : List PI := [.c [1, 1, 0, 1, 0, 0, 0], .c [1, 1, 0, 1, 0, 0, 1], .l [1, 1, 0, 1, 0, 0], .b 0, .c [1, 1, 1]]
abbrev equals_l1_st : Sta := ⟨[0, 1, 12, 13], ⟨[.sl (.int .i64), .sl (.int .i64), .i .i64, .i .i64], []⟩⟩
abbrev equals_l1_h (rec : (List Int) → (List Int) → Int → Int → Option ((Unit) ⊕ (Unit))) : Leaf ((Unit) ⊕ (Unit)) := ⟨equals_l1_at, equals_l1_st, fun p => rec p.1.1 p.1.2.1 p.1.2.2.1 p.1.2.2.2.1⟩
abbrev equals_l1_e0 : Leaf ((Unit) ⊕ (Unit)) := ⟨[.c [1, 1, 0, 1, 0, 0, 1, 1, 0, 0, 1, 1, 0, 0], .c [1, 1, 0, 1, 0, 0, 1, 1, 0, 0, 1, 1, 0, 1], .b 1, .c [1, 1, 0, 1, 0, 0, 1, 1, 1], .l [1, 1, 0, 1, 0, 0], .b 0, .c [1, 1, 1]], ⟨[], ⟨[], []⟩⟩, fun p => some (.inl ())⟩
abbrev equals_l1_e1 : Leaf ((Unit) ⊕ (Unit)) := ⟨[.c [1, 1, 1, 0], .c [1, 1, 1, 1]], ⟨[], ⟨[], []⟩⟩, fun p => some (.inr ())⟩
noncomputable def equals_l1_L (N : Nat) : LoopS := { at_ := equals_l1_at, sta := equals_l1_st, exits := [([.c [1, 1, 0, 1, 0, 0, 1, 1, 0, 0, 1, 1, 0, 0], .c [1, 1, 0, 1, 0, 0, 1, 1, 0, 0, 1, 1, 0, 1], .b 1, .c [1, 1, 0, 1, 0, 0, 1, 1, 1], .l [1, 1, 0, 1, 0, 0], .b 0, .c [1, 1, 1]], ⟨[], ⟨[], []⟩⟩), ([.c [1, 1, 1, 0], .c [1, 1, 1, 1]], ⟨[], ⟨[], []⟩⟩)], run := fun p k => (equals_l1 N N p.1.1 p.1.2.1 p.1.2.2.1 p.1.2.2.2.1).bind fun e => match e with | .inl x => k (.inl ((), ())) | .inr x => k (.inr (.inl ((), ()))) }
theorem equals_l1_eq (N n_ : Nat) (s1 : List Int) (s2 : List Int) (u : Int) (u2 : Int) : ev (Z := (Unit) ⊕ (Unit)) Try.prog (equals_sp N) equals_B [] [equals_l1_h (equals_l1 N n_), equals_l1_e0, equals_l1_e1] none 400 true equals_l1_at (stL equals_l1_st ((s1, s2, u, u2, ()), ())) (stH equals_l1_st ((s1, s2, u, u2, ()), ())) = equals_l1 N (n_ + 1) s1 s2 u u2 := by kernel_rfl
theorem equals_l1_ok (N : Nat) {top : Bool} : LoopOK Try.prog equals_B.c equals_B.n equals_B.m0 top (equals_l1_L N) := loop_of_ev (Z := (Unit) ⊕ (Unit)) (N := N) (fun m p => equals_l1 N m p.1.1 p.1.2.1 p.1.2.2.1 p.1.2.2.2.1) (fun e => match e with | .inl x => .inl ((), ()) | .inr x => .inr (.inl ((), ()))) (fun _ p k => bind_congr_ (equals_l1 N N p.1.1 p.1.2.1 p.1.2.2.1 p.1.2.2.2.1) _ _ (fun e => by rcases e with x | x <;> rfl)) (fun _ => rfl) (fun m z E Xc hE hX hrec hx => leaf_of_ev (B := equals_B) (loops := []) (leaves := [equals_l1_h (equals_l1 N m), equals_l1_e0, equals_l1_e1]) (equals_all N) mixed trivial hE hX ⟨hrec, (fun p hp => by obtain rfl := Option.some.inj hp; exact hx), (fun p hp => by obtain rfl := Option.some.inj hp; exact hx), trivial⟩ RetOK.no (fun p => equals_l1_eq N m p.1.1 p.1.2.1 p.1.2.2.1 p.1.2.2.2.1))
abbrev equals_st : Sta := ⟨[0, 1], ⟨[.sl (.int .i64), .sl (.int .i64)], []⟩⟩
theorem equals_eq (N : Nat) (s1 : List Int) (s2 : List Int) : ev (Z := Bool) Try.prog (equals_sp N) equals_B [equals_l1_L N] [] (some equals_rt) 400 false [.c [0], .c [1]] (stL equals_st ((s1, s2, ()), ())) (stH equals_st ((s1, s2, ()), ())) = equals_S N s1 s2 := by kernel_rfl
noncomputable def sp_equals (N : Nat) : Spec := { f := 33, ins := ⟨[.sl (.int .i64), .sl (.int .i64)], []⟩, outs := [⟨[.b], []⟩], run := fun p k => (equals_S N p.1.1 p.1.2.1).bind fun r => k ((r, ()), ()) }
theorem sp_equals_ok (N : Nat) : SpecOK Try.prog (sp_equals N) := fn_sound (B := equals_B) (loops := [equals_l1_L N]) (leaves := []) (fun p => equals_S N p.1.1 p.1.2.1) (fun r => ((r, ()), ())) equals_rt (fun _ _ _ => rfl) (fun r z h => by cases h; rfl) Try.func33 (by kernel_rfl) (by kernel_rfl) (by kernel_rfl) rfl rfl (by kernel_rfl) (fun args w => Sem.pv_run _ _ _ (by kernel_rfl) w) (equals_all N) mixed ⟨equals_l1_ok N, trivial⟩ (fun z E Xc hE hX hret => trivial) (fun p => equals_eq N p.1.1 p.1.2.1)

def likes_S (N : Nat) (a : List Int) (b : List Int) : Option Bool :=
  (equals_S N a b).bind fun x_1 =>
  some x_1
noncomputable def likes_sp (N : Nat) : List Spec := [sp_equals N]
theorem likes_all (N : Nat) : AllP (SpecOK Try.prog) (likes_sp N) := ⟨sp_equals_ok N, trivial⟩
noncomputable def likes_c : Code := (Try.f11.body).getD .skip
noncomputable abbrev likes_B : Body := { c := likes_c, n := 8, res := [.tmp 4], outs := [⟨[.b], []⟩], m0 := 0 }
abbrev likes_rt : altD likes_B.outs → Option Bool := fun r => some r.1.1
abbrev likes_st : Sta := ⟨[0, 1], ⟨[.sl (.int .i64), .sl (.int .i64)], []⟩⟩
theorem likes_eq (N : Nat) (a : List Int) (b : List Int) : ev (Z := Bool) Try.prog (likes_sp N) likes_B [] [] (some likes_rt) 400 false [.c [0], .c [1]] (stL likes_st ((a, b, ()), ())) (stH likes_st ((a, b, ()), ())) = likes_S N a b := by kernel_rfl
noncomputable def sp_likes (N : Nat) : Spec := { f := 11, ins := ⟨[.sl (.int .i64), .sl (.int .i64)], []⟩, outs := [⟨[.b], []⟩], run := fun p k => (likes_S N p.1.1 p.1.2.1).bind fun r => k ((r, ()), ()) }
theorem sp_likes_ok (N : Nat) : SpecOK Try.prog (sp_likes N) := fn_sound (B := likes_B) (loops := []) (leaves := []) (fun p => likes_S N p.1.1 p.1.2.1) (fun r => ((r, ()), ())) likes_rt (fun _ _ _ => rfl) (fun r z h => by cases h; rfl) Try.func11 (by kernel_rfl) (by kernel_rfl) (by kernel_rfl) rfl rfl (by kernel_rfl) (fun args w => Sem.pv_run _ _ _ (by kernel_rfl) w) (likes_all N) mixed trivial (fun z E Xc hE hX hret => trivial) (fun p => likes_eq N p.1.1 p.1.2.1)

def equalp_l1 (N : Nat) : Nat → (List (Int × Int)) → (List (Int × Int)) → Int → Int → Option ((Unit) ⊕ (Unit))
  | 0, _, _, _, _ => none
  | n_ + 1, s1, s2, u, u2 =>
    br (decide (u2 < u))
      (idx s1 u2 fun x_1 =>
      idx s2 u2 fun x_2 =>
      br (!(decide (x_1.1 = x_2.1) && decide (x_1.2 = x_2.2)))
        (some (.inl ()))
        (chk (u2 + 1) <|
        equalp_l1 N n_ s1 s2 u (u2 + 1)))
      (some (.inr ()))
def equalp_S (N : Nat) (s1 : List (Int × Int)) (s2 : List (Int × Int)) : Option Bool :=
  br (!decide ((s1.length : Int) = (s2.length : Int)))
    (some false)
    ((equalp_l1 N N s1 s2 (s1.length : Int) 0).bind fun e => match e with
    | .inl _ =>
      some false
    | .inr _ =>
      some true)
noncomputable def equalp_sp (N : Nat) : List Spec := []
theorem equalp_all (N : Nat) : AllP (SpecOK Try.prog) (equalp_sp N) := trivial
noncomputable def equalp_c : Code := (Try.f42.body).getD .skip
noncomputable abbrev equalp_B : Body := { c := equalp_c, n := 26, res := [.tmp 4], outs := [⟨[.b], []⟩], m0 := 0 }
abbrev equalp_rt : altD equalp_B.outs → Option Bool := fun r => some r.1.1
abbrev equalp_l1_at : List PI := [.c [1, 1, 0, 1, 0, 0, 0], .c [1, 1, 0, 1, 0, 0, 1], .l [1, 1, 0, 1, 0, 0], .b 0, .c [1, 1, 1]]
abbrev equalp_l1_st : Sta := ⟨[0, 1, 12, 13], ⟨[.sl (.pair (.int .i64) (.int .i64)), .sl (.pair (.int .i64) (.int .i64)), .i .i64, .i .i64], []⟩⟩
abbrev equalp_l1_h (rec : (List (Int × Int)) → (List (Int × Int)) → Int → Int → Option ((Unit) ⊕ (Unit))) : Leaf ((Unit) ⊕ (Unit)) := ⟨equalp_l1_at, equalp_l1_st, fun p => rec p.1.1 p.1.2.1 p.1.2.2.1 p.1.2.2.2.1⟩
abbrev equalp_l1_e0 : Leaf ((Unit) ⊕ (Unit)) := ⟨[.c [1, 1, 0, 1, 0, 0, 1, 1, 0, 0, 1, 1, 0, 0], .c [1, 1, 0, 1, 0, 0, 1, 1, 0, 0, 1, 1, 0, 1], .b 1, .c [1, 1, 0, 1, 0, 0, 1, 1, 1], .l [1, 1, 0, 1, 0, 0], .b 0, .c [1, 1, 1]], ⟨[], ⟨[], []⟩⟩, fun p => some (.inl ())⟩
abbrev equalp_l1_e1 : Leaf ((Unit) ⊕ (Unit)) := ⟨[.c [1, 1, 1, 0], .c [1, 1, 1, 1]], ⟨[], ⟨[], []⟩⟩, fun p => some (.inr ())⟩
noncomputable def equalp_l1_L (N : Nat) : LoopS := { at_ := equalp_l1_at, sta := equalp_l1_st, exits := [([.c [1, 1, 0, 1, 0, 0, 1, 1, 0, 0, 1, 1, 0, 0], .c [1, 1, 0, 1, 0, 0, 1, 1, 0, 0, 1, 1, 0, 1], .b 1, .c [1, 1, 0, 1, 0, 0, 1, 1, 1], .l [1, 1, 0, 1, 0, 0], .b 0, .c [1, 1, 1]], ⟨[], ⟨[], []⟩⟩), ([.c [1, 1, 1, 0], .c [1, 1, 1, 1]], ⟨[], ⟨[], []⟩⟩)], run := fun p k => (equalp_l1 N N p.1.1 p.1.2.1 p.1.2.2.1 p.1.2.2.2.1).bind fun e => match e with | .inl x => k (.inl ((), ())) | .inr x => k (.inr (.inl ((), ()))) }
theorem equalp_l1_eq (N n_ : Nat) (s1 : List (Int × Int)) (s2 : List (Int × Int)) (u : Int) (u2 : Int) : ev (Z := (Unit) ⊕ (Unit)) Try.prog (equalp_sp N) equalp_B [] [equalp_l1_h (equalp_l1 N n_), equalp_l1_e0, equalp_l1_e1] none 400 true equalp_l1_at (stL equalp_l1_st ((s1, s2, u, u2, ()), ())) (stH equalp_l1_st ((s1, s2, u, u2, ()), ())) = equalp_l1 N (n_ + 1) s1 s2 u u2 := by kernel_rfl
theorem equalp_l1_ok (N : Nat) {top : Bool} : LoopOK Try.prog equalp_B.c equalp_B.n equalp_B.m0 top (equalp_l1_L N) := loop_of_ev (Z := (Unit) ⊕ (Unit)) (N := N) (fun m p => equalp_l1 N m p.1.1 p.1.2.1 p.1.2.2.1 p.1.2.2.2.1) (fun e => match e with | .inl x => .inl ((), ()) | .inr x => .inr (.inl ((), ()))) (fun _ p k => bind_congr_ (equalp_l1 N N p.1.1 p.1.2.1 p.1.2.2.1 p.1.2.2.2.1) _ _ (fun e => by rcases e with x | x <;> rfl)) (fun _ => rfl) (fun m z E Xc hE hX hrec hx => leaf_of_ev (B := equalp_B) (loops := []) (leaves := [equalp_l1_h (equalp_l1 N m), equalp_l1_e0, equalp_l1_e1]) (equalp_all N) mixed trivial hE hX ⟨hrec, (fun p hp => by obtain rfl := Option.some.inj hp; exact hx), (fun p hp => by obtain rfl := Option.some.inj hp; exact hx), trivial⟩ RetOK.no (fun p => equalp_l1_eq N m p.1.1 p.1.2.1 p.1.2.2.1 p.1.2.2.2.1))
abbrev equalp_st : Sta := ⟨[0, 1], ⟨[.sl (.pair (.int .i64) (.int .i64)), .sl (.pair (.int .i64) (.int .i64))], []⟩⟩
theorem equalp_eq (N : Nat) (s1 : List (Int × Int)) (s2 : List (Int × Int)) : ev (Z := Bool) Try.prog (equalp_sp N) equalp_B [equalp_l1_L N] [] (some equalp_rt) 400 false [.c [0], .c [1]] (stL equalp_st ((s1, s2, ()), ())) (stH equalp_st ((s1, s2, ()), ())) = equalp_S N s1 s2 := by kernel_rfl
noncomputable def sp_equalp (N : Nat) : Spec := { f := 42, ins := ⟨[.sl (.pair (.int .i64) (.int .i64)), .sl (.pair (.int .i64) (.int .i64))], []⟩, outs := [⟨[.b], []⟩], run := fun p k => (equalp_S N p.1.1 p.1.2.1).bind fun r => k ((r, ()), ()) }
theorem sp_equalp_ok (N : Nat) : SpecOK Try.prog (sp_equalp N) := fn_sound (B := equalp_B) (loops := [equalp_l1_L N]) (leaves := []) (fun p => equalp_S N p.1.1 p.1.2.1) (fun r => ((r, ()), ())) equalp_rt (fun _ _ _ => rfl) (fun r z h => by cases h; rfl) Try.func42 (by kernel_rfl) (by kernel_rfl) (by kernel_rfl) rfl rfl (by kernel_rfl) (fun args w => Sem.pv_run _ _ _ (by kernel_rfl) w) (equalp_all N) mixed ⟨equalp_l1_ok N, trivial⟩ (fun z E Xc hE hX hret => trivial) (fun p => equalp_eq N p.1.1 p.1.2.1)

def likep_S (N : Nat) (a : List (Int × Int)) (b : List (Int × Int)) : Option Bool :=
  (equalp_S N a b).bind fun x_1 =>
  some x_1
noncomputable def likep_sp (N : Nat) : List Spec := [sp_equalp N]
theorem likep_all (N : Nat) : AllP (SpecOK Try.prog) (likep_sp N) := ⟨sp_equalp_ok N, trivial⟩
noncomputable def likep_c : Code := (Try.f23.body).getD .skip
noncomputable abbrev likep_B : Body := { c := likep_c, n := 8, res := [.tmp 4], outs := [⟨[.b], []⟩], m0 := 0 }
abbrev likep_rt : altD likep_B.outs → Option Bool := fun r => some r.1.1
abbrev likep_st : Sta := ⟨[0, 1], ⟨[.sl (.pair (.int .i64) (.int .i64)), .sl (.pair (.int .i64) (.int .i64))], []⟩⟩
theorem likep_eq (N : Nat) (a : List (Int × Int)) (b : List (Int × Int)) : ev (Z := Bool) Try.prog (likep_sp N) likep_B [] [] (some likep_rt) 400 false [.c [0], .c [1]] (stL likep_st ((a, b, ()), ())) (stH likep_st ((a, b, ()), ())) = likep_S N a b := by kernel_rfl
noncomputable def sp_likep (N : Nat) : Spec := { f := 23, ins := ⟨[.sl (.pair (.int .i64) (.int .i64)), .sl (.pair (.int .i64) (.int .i64))], []⟩, outs := [⟨[.b], []⟩], run := fun p k => (likep_S N p.1.1 p.1.2.1).bind fun r => k ((r, ()), ()) }
theorem sp_likep_ok (N : Nat) : SpecOK Try.prog (sp_likep N) := fn_sound (B := likep_B) (loops := []) (leaves := []) (fun p => likep_S N p.1.1 p.1.2.1) (fun r => ((r, ()), ())) likep_rt (fun _ _ _ => rfl) (fun r z h => by cases h; rfl) Try.func23 (by kernel_rfl) (by kernel_rfl) (by kernel_rfl) rfl rfl (by kernel_rfl) (fun args w => Sem.pv_run _ _ _ (by kernel_rfl) w) (likep_all N) mixed trivial (fun z E Xc hE hX hret => trivial) (fun p => likep_eq N p.1.1 p.1.2.1)

def two_S (N : Nat) (heard : Int) (faults : Int) : Option (List (List Int) × List Int × Int) :=
  grd (decide ((0 : Int) ≤ heard ∧ heard ≤ ([1, 4, 2, 2, 3].length : Int))) <|
  some ([[1, 2, 3], [4, 2]], ([1, 4, 2, 2, 3].take heard.toNat), faults)
noncomputable def two_sp (N : Nat) : List Spec := []
theorem two_all (N : Nat) : AllP (SpecOK Try.prog) (two_sp N) := trivial
noncomputable def two_c : Code := (Try.f21.body).getD .skip
noncomputable abbrev two_B : Body := { c := two_c, n := 13, res := [.cell 4 37], outs := [⟨[.agg [.sl (.sl (.int .i64)), .sl (.int .i64), .i .i64]], []⟩], m0 := 0 }
abbrev two_rt : altD two_B.outs → Option (List (List Int) × List Int × Int) := fun r => some (r.1.1.1, r.1.1.2.1, r.1.1.2.2.1)
abbrev two_st : Sta := ⟨[0, 1], ⟨[.i .i64, .i .i64], []⟩⟩
theorem two_eq (N : Nat) (heard : Int) (faults : Int) : ev (Z := List (List Int) × List Int × Int) Try.prog (two_sp N) two_B [] [] (some two_rt) 400 false [.c [0], .c [1]] (stL two_st ((heard, faults, ()), ())) (stH two_st ((heard, faults, ()), ())) = two_S N heard faults := by kernel_rfl
noncomputable def sp_two (N : Nat) : Spec := { f := 21, ins := ⟨[.i .i64, .i .i64], []⟩, outs := [⟨[.agg [.sl (.sl (.int .i64)), .sl (.int .i64), .i .i64]], []⟩], run := fun p k => (two_S N p.1.1 p.1.2.1).bind fun r => k (((r.1, r.2.1, r.2.2, ()), ()), ()) }
theorem sp_two_ok (N : Nat) : SpecOK Try.prog (sp_two N) := fn_sound (B := two_B) (loops := []) (leaves := []) (fun p => two_S N p.1.1 p.1.2.1) (fun r => (((r.1, r.2.1, r.2.2, ()), ()), ())) two_rt (fun _ _ _ => rfl) (fun r z h => by cases h; rfl) Try.func21 (by kernel_rfl) (by kernel_rfl) (by kernel_rfl) rfl rfl (by kernel_rfl) (fun args w => Sem.pv_run _ _ _ (by kernel_rfl) w) (two_all N) mixed trivial (fun z E Xc hE hX hret => trivial) (fun p => two_eq N p.1.1 p.1.2.1)

def awake_S (N : Nat)  : Option Bool :=
  (two_S N 5 0).bind fun (x_1, y_2, y_3) =>
  (least_S N x_1 y_2 y_3 0 1).bind fun (x_4, y_5) =>
  (two_S N 5 0).bind fun (x_6, y_7, y_8) =>
  (count_S N x_6 y_7 y_8 0 1).bind fun (x_9, y_10) =>
  (two_S N 5 0).bind fun (x_11, y_12, y_13) =>
  (sure_S N x_11 y_12 y_13 0 1).bind fun (x_14, y_15) =>
  (two_S N 5 2).bind fun (x_16, y_17, y_18) =>
  (pairs_S N x_16 y_17 y_18).bind fun (x_19, y_20) =>
  br (!decide (y_5 = 0))
    (some false)
    (br (!decide (y_10 = 0))
      (some false)
      (br (!decide (y_15 = 0))
        (some false)
        (br (!decide (y_20 = 0))
          (some false)
          (br (!decide (x_4 = 0))
            (some false)
            (br (!decide (x_9 = 2))
              (some false)
              ((likes_S N x_14 [1, 2, 0, 0, 1]).bind fun x_21 =>
              br (!x_21)
                (some false)
                ((likep_S N x_19 [(0, 1)]).bind fun x_22 =>
                br (!x_22)
                  (some false)
                  ((two_S N 3 0).bind fun (x_23, y_24, y_25) =>
                  (least_S N x_23 y_24 y_25 0 1).bind fun (x_26, y_27) =>
                  (two_S N 5 0).bind fun (x_28, y_29, y_30) =>
                  (dist_S N x_28 y_29 y_30 0 1).bind fun (x_31, y_32) =>
                  (two_S N 5 0).bind fun (x_33, y_34, y_35) =>
                  (commons_S N x_33 y_34 y_35 0 1).bind fun (x_36, y_37) =>
                  (two_S N 5 2).bind fun (x_38, y_39, y_40) =>
                  (conf_S N x_38 y_39 y_40).bind fun (x_41, y_42) =>
                  br (decide (y_27 = 0))
                    (br (decide (y_32 = 0))
                      (br (decide (y_37 = 0))
                        (br (decide (y_42 = 0))
                          (br (decide (x_26 = 2))
                            (br (decide (x_31 = 3))
                              ((likei_S N x_36 [2]).bind fun x_43 =>
                              br x_43
                                ((likep_S N x_41 [(0, 1)]).bind fun x_44 =>
                                some x_44)
                                (some false))
                              (some false))
                            (some false))
                          (some false))
                        (some false))
                      (some false))
                    (some false)))))))))
noncomputable def awake_sp (N : Nat) : List Spec := [sp_dist N, sp_commons N, sp_conf N, sp_least N, sp_count N, sp_pairs N, sp_sure N, sp_likei N, sp_likes N, sp_likep N, sp_two N]
theorem awake_all (N : Nat) : AllP (SpecOK Try.prog) (awake_sp N) := ⟨sp_dist_ok N, sp_commons_ok N, sp_conf_ok N, sp_least_ok N, sp_count_ok N, sp_pairs_ok N, sp_sure_ok N, sp_likei_ok N, sp_likes_ok N, sp_likep_ok N, sp_two_ok N, trivial⟩
noncomputable def awake_c : Code := (Try.f7.body).getD .skip
noncomputable abbrev awake_B : Body := { c := awake_c, n := 124, res := [.tmp 0], outs := [⟨[.b], []⟩], m0 := 0 }
abbrev awake_rt : altD awake_B.outs → Option Bool := fun r => some r.1.1
abbrev awake_st : Sta := ⟨[], ⟨[], []⟩⟩
theorem awake_eq (N : Nat)  : ev (Z := Bool) Try.prog (awake_sp N) awake_B [] [] (some awake_rt) 400 false [.c [0], .c [1]] (stL awake_st ((), ())) (stH awake_st ((), ())) = awake_S N := by kernel_rfl
noncomputable def sp_awake (N : Nat) : Spec := { f := 7, ins := ⟨[], []⟩, outs := [⟨[.b], []⟩], run := fun p k => (awake_S N).bind fun r => k ((r, ()), ()) }
theorem sp_awake_ok (N : Nat) : SpecOK Try.prog (sp_awake N) := fn_sound (B := awake_B) (loops := []) (leaves := []) (fun p => awake_S N ) (fun r => ((r, ()), ())) awake_rt (fun _ _ _ => rfl) (fun r z h => by cases h; rfl) Try.func7 (by kernel_rfl) (by kernel_rfl) (by kernel_rfl) rfl rfl (by kernel_rfl) (fun args w => Sem.pv_run _ _ _ (by kernel_rfl) w) (awake_all N) mixed trivial (fun z E Xc hE hX hret => trivial) (fun p => awake_eq N )

end Go.Proofs.Ytbjmmfjfmjdadaa

/-
  Parts of a proof, put together: E2, E3, Pl1, Pl2, LcP, Pl3, Pl4, Pl5, Pl6, Pl7, Pl8, Pl9, Pl10, Pl11.
  Conditions: none.
-/
import Derived.Test.YtfcnhnbnjdccfaaZe
namespace Go.Proofs.Ytfcnhnbnjdccfaa
set_option linter.all false
open Go

def next_S (N : Nat) (d : ((List (List Int)) × ((List Int) × (Int × ((List Int) × (List Int)))))) (x : Int) (x2 : Int) (x3 : Int) : Option ((Int × (Int × Int)) × ((List (List Int)) × ((List Int) × (Int × ((List Int) × (List Int)))))) :=
  some ((x, x2, x3), d)
noncomputable def next_sp (N : Nat) : List Spec := []
theorem next_all (N : Nat) : AllP (SpecOK Try.prog) (next_sp N) := trivial
noncomputable def next_c : Code := (Try.f88.body).getD .skip
noncomputable abbrev next_B : Body := { c := next_c, n := 6, res := [.tmp 4], outs := [⟨[.fn 122 [] [.fe (.pair (.int .i64) (.pair (.int .i64) (.int .i64))), .fe (.ptr (.pair (.sl (.sl (.int .i64))) (.pair (.sl (.int .i64)) (.pair (.int .i64) (.pair (.sl (.int .i64)) (.sl (.int .i64)))))))]], []⟩], m0 := 0 }
abbrev next_rt : altD next_B.outs → Option ((Int × (Int × Int)) × ((List (List Int)) × ((List Int) × (Int × ((List Int) × (List Int)))))) := fun r => some (r.1.1.2.1, r.1.1.2.2.1)
abbrev next_st : Sta := ⟨[0, 1], ⟨[.fe (.pair (.sl (.sl (.int .i64))) (.pair (.sl (.int .i64)) (.pair (.int .i64) (.pair (.sl (.int .i64)) (.sl (.int .i64)))))), .agg [.i .i64, .i .i64, .i .i64]], []⟩⟩
theorem next_eq (N : Nat) (d : ((List (List Int)) × ((List Int) × (Int × ((List Int) × (List Int)))))) (x : Int) (x2 : Int) (x3 : Int) : ev (Z := (Int × (Int × Int)) × ((List (List Int)) × ((List Int) × (Int × ((List Int) × (List Int)))))) Try.prog (next_sp N) next_B [] [] (some next_rt) 400 false [.c [0], .c [1]] (stL next_st ((d, (x, x2, x3, ()), ()), ())) (stH next_st ((d, (x, x2, x3, ()), ()), ())) = next_S N d x x2 x3 := by kernel_rfl
noncomputable def sp_next (N : Nat) : Spec := { f := 88, ins := ⟨[.fe (.pair (.sl (.sl (.int .i64))) (.pair (.sl (.int .i64)) (.pair (.int .i64) (.pair (.sl (.int .i64)) (.sl (.int .i64)))))), .agg [.i .i64, .i .i64, .i .i64]], []⟩, outs := [⟨[.fn 122 [] [.fe (.pair (.int .i64) (.pair (.int .i64) (.int .i64))), .fe (.ptr (.pair (.sl (.sl (.int .i64))) (.pair (.sl (.int .i64)) (.pair (.int .i64) (.pair (.sl (.int .i64)) (.sl (.int .i64)))))))]], []⟩], run := fun p k => (next_S N p.1.1 p.1.2.1.1 p.1.2.1.2.1 p.1.2.1.2.2.1).bind fun r => k ((((), (r.1, r.2, ())), ()), ()) }
theorem sp_next_ok (N : Nat) : SpecOK Try.prog (sp_next N) := fn_sound (B := next_B) (loops := []) (leaves := []) (fun p => next_S N p.1.1 p.1.2.1.1 p.1.2.1.2.1 p.1.2.1.2.2.1) (fun r => ((((), (r.1, r.2, ())), ()), ())) next_rt (fun _ _ _ => rfl) (fun r z h => by cases h; rfl) Try.func88 (by kernel_rfl) (by kernel_rfl) (by kernel_rfl) rfl rfl (by kernel_rfl) (fun args w => Sem.pv_run _ _ _ (by kernel_rfl) w) (next_all N) mixed trivial (fun z E Xc hE hX hret => trivial) (fun p => next_eq N p.1.1 p.1.2.1.1 p.1.2.1.2.1 p.1.2.1.2.2.1)

def dfaults_S (N : Nat) (d : ((List (List Int)) × ((List Int) × (Int × ((List Int) × (List Int)))))) (told : Int) : Option Int :=
  chk ((d.2.2.2.1.length : Int) + (d.2.2.2.2.length : Int)) <|
  chk (((d.2.2.2.1.length : Int) + (d.2.2.2.2.length : Int)) + (d.2.1.length : Int)) <|
  chk (2 * told) <|
  chk ((((d.2.2.2.1.length : Int) + (d.2.2.2.2.length : Int)) + (d.2.1.length : Int)) - (2 * told)) <|
  some ((((d.2.2.2.1.length : Int) + (d.2.2.2.2.length : Int)) + (d.2.1.length : Int)) - (2 * told))
noncomputable def dfaults_sp (N : Nat) : List Spec := []
theorem dfaults_all (N : Nat) : AllP (SpecOK Try.prog) (dfaults_sp N) := trivial
noncomputable def dfaults_c : Code := (Try.f81.body).getD .skip
noncomputable abbrev dfaults_B : Body := { c := dfaults_c, n := 26, res := [.tmp 4], outs := [⟨[.i .i64], []⟩], m0 := 0 }
abbrev dfaults_rt : altD dfaults_B.outs → Option Int := fun r => some r.1.1
abbrev dfaults_st : Sta := ⟨[0, 1], ⟨[.fe (.pair (.sl (.sl (.int .i64))) (.pair (.sl (.int .i64)) (.pair (.int .i64) (.pair (.sl (.int .i64)) (.sl (.int .i64)))))), .i .i64], []⟩⟩
theorem dfaults_eq (N : Nat) (d : ((List (List Int)) × ((List Int) × (Int × ((List Int) × (List Int)))))) (told : Int) : ev (Z := Int) Try.prog (dfaults_sp N) dfaults_B [] [] (some dfaults_rt) 400 false [.c [0], .c [1]] (stL dfaults_st ((d, told, ()), ())) (stH dfaults_st ((d, told, ()), ())) = dfaults_S N d told := by kernel_rfl
noncomputable def sp_dfaults (N : Nat) : Spec := { f := 81, ins := ⟨[.fe (.pair (.sl (.sl (.int .i64))) (.pair (.sl (.int .i64)) (.pair (.int .i64) (.pair (.sl (.int .i64)) (.sl (.int .i64)))))), .i .i64], []⟩, outs := [⟨[.i .i64], []⟩], run := fun p k => (dfaults_S N p.1.1 p.1.2.1).bind fun r => k ((r, ()), ()) }
theorem sp_dfaults_ok (N : Nat) : SpecOK Try.prog (sp_dfaults N) := fn_sound (B := dfaults_B) (loops := []) (leaves := []) (fun p => dfaults_S N p.1.1 p.1.2.1) (fun r => ((r, ()), ())) dfaults_rt (fun _ _ _ => rfl) (fun r z h => by cases h; rfl) Try.func81 (by kernel_rfl) (by kernel_rfl) (by kernel_rfl) rfl rfl (by kernel_rfl) (fun args w => Sem.pv_run _ _ _ (by kernel_rfl) w) (dfaults_all N) mixed trivial (fun z E Xc hE hX hret => trivial) (fun p => dfaults_eq N p.1.1 p.1.2.1)

def all1_S (N : Nat) (u : Int) (u2 : Int) (u3 : Int) : Option Bool :=
  some true
noncomputable def all1_sp (N : Nat) : List Spec := []
theorem all1_all (N : Nat) : AllP (SpecOK Try.prog) (all1_sp N) := trivial
noncomputable def all1_c : Code := (Try.f120.body).getD .skip
noncomputable abbrev all1_B : Body := { c := all1_c, n := 5, res := [.tmp 4], outs := [⟨[.b], []⟩], m0 := 0 }
abbrev all1_rt : altD all1_B.outs → Option Bool := fun r => some r.1.1
abbrev all1_st : Sta := ⟨[0, 1], ⟨[.i .i64, .agg [.i .i64, .i .i64]], []⟩⟩
theorem all1_eq (N : Nat) (u : Int) (u2 : Int) (u3 : Int) : ev (Z := Bool) Try.prog (all1_sp N) all1_B [] [] (some all1_rt) 400 false [.c [0], .c [1]] (stL all1_st ((u, (u2, u3, ()), ()), ())) (stH all1_st ((u, (u2, u3, ()), ()), ())) = all1_S N u u2 u3 := by kernel_rfl
noncomputable def sp_all1 (N : Nat) : Spec := { f := 120, ins := ⟨[.i .i64, .agg [.i .i64, .i .i64]], []⟩, outs := [⟨[.b], []⟩], run := fun p k => (all1_S N p.1.1 p.1.2.1.1 p.1.2.1.2.1).bind fun r => k ((r, ()), ()) }
theorem sp_all1_ok (N : Nat) : SpecOK Try.prog (sp_all1 N) := fn_sound (B := all1_B) (loops := []) (leaves := []) (fun p => all1_S N p.1.1 p.1.2.1.1 p.1.2.1.2.1) (fun r => ((r, ()), ())) all1_rt (fun _ _ _ => rfl) (fun r z h => by cases h; rfl) Try.func120 (by kernel_rfl) (by kernel_rfl) (by kernel_rfl) rfl rfl (by kernel_rfl) (fun args w => Sem.pv_run _ _ _ (by kernel_rfl) w) (all1_all N) mixed trivial (fun z E Xc hE hX hret => trivial) (fun p => all1_eq N p.1.1 p.1.2.1.1 p.1.2.1.2.1)

def all_S (N : Nat)  : Option Unit :=
  some ()
noncomputable def all_sp (N : Nat) : List Spec := []
theorem all_all (N : Nat) : AllP (SpecOK Try.prog) (all_sp N) := trivial
noncomputable def all_c : Code := (Try.f83.body).getD .skip
noncomputable abbrev all_B : Body := { c := all_c, n := 2, res := [.cell 0 133], outs := [⟨[.agg [.fn 120 [] []]], []⟩], m0 := 0 }
abbrev all_rt : altD all_B.outs → Option Unit := fun r => some ()
abbrev all_st : Sta := ⟨[], ⟨[], []⟩⟩
theorem all_eq (N : Nat)  : ev (Z := Unit) Try.prog (all_sp N) all_B [] [] (some all_rt) 400 false [.c [0], .c [1]] (stL all_st ((), ())) (stH all_st ((), ())) = all_S N := by kernel_rfl
noncomputable def sp_all (N : Nat) : Spec := { f := 83, ins := ⟨[], []⟩, outs := [⟨[.agg [.fn 120 [] []]], []⟩], run := fun p k => (all_S N).bind fun r => k (((((), ()), ()), ()), ()) }
theorem sp_all_ok (N : Nat) : SpecOK Try.prog (sp_all N) := fn_sound (B := all_B) (loops := []) (leaves := []) (fun p => all_S N ) (fun r => (((((), ()), ()), ()), ())) all_rt (fun _ _ _ => rfl) (fun r z h => by cases h; rfl) Try.func83 (by kernel_rfl) (by kernel_rfl) (by kernel_rfl) rfl rfl (by kernel_rfl) (fun args w => Sem.pv_run _ _ _ (by kernel_rfl) w) (all_all N) mixed trivial (fun z E Xc hE hX hret => trivial) (fun p => all_eq N )

noncomputable abbrev resta_self (self : Int → Int → Int → (((List (List Int)) × ((List Int) × (Int × ((List Int) × (List Int)))))) → (((List (List Int)) × ((List Int) × (Int × ((List Int) × (List Int)))))) → (List ((Int × (Int × Int)) × (Int × Int))) → Option (Int × Int × ((List (List Int)) × ((List Int) × (Int × ((List Int) × (List Int))))) × (List ((Int × (Int × Int)) × (Int × Int))))) : Spec := { f := 121, ins := ⟨[.agg [.i .i64, .i .i64, .i .i64], .fz [.fe (.pair (.sl (.sl (.int .i64))) (.pair (.sl (.int .i64)) (.pair (.int .i64) (.pair (.sl (.int .i64)) (.sl (.int .i64))))))], .fz [.mp 1], .fz [.fn 120 [] []], .own 0 0], [.segs [.fn 121 [] [.fz [.fe (.pair (.sl (.sl (.int .i64))) (.pair (.sl (.int .i64)) (.pair (.int .i64) (.pair (.sl (.int .i64)) (.sl (.int .i64))))))], .fz [.mp 1], .fz [.fn 120 [] []], .own 0 0]], .map (.pair (.int .i64) (.pair (.int .i64) (.int .i64))) (.pair (.int .i64) (.int .i64))]⟩, outs := [⟨[.agg [.i .i64, .i .i64]], [.segs [.fn 121 [] [.fz [.fe (.pair (.sl (.sl (.int .i64))) (.pair (.sl (.int .i64)) (.pair (.int .i64) (.pair (.sl (.int .i64)) (.sl (.int .i64))))))], .fz [.mp 1], .fz [.fn 120 [] []], .own 0 0]], .map (.pair (.int .i64) (.pair (.int .i64) (.int .i64))) (.pair (.int .i64) (.int .i64))]⟩], run := fun p k => (self p.1.1.1 p.1.1.2.1 p.1.1.2.2.1 p.1.2.1.1 p.2.1.1.2.1.1 p.2.2.1).bind fun r => k (((r.1, r.2.1, ()), ()), ((((), ((r.2.2.1, ()), ((), ()), (((), ()), ()), (), ())), ()), r.2.2.2, ())) }
def resta_l1_b (N : Nat) (self : Int → Int → Int → (((List (List Int)) × ((List Int) × (Int × ((List Int) × (List Int)))))) → (((List (List Int)) × ((List Int) × (Int × ((List Int) × (List Int)))))) → (List ((Int × (Int × Int)) × (Int × Int))) → Option (Int × Int × ((List (List Int)) × ((List Int) × (Int × ((List Int) × (List Int))))) × (List ((Int × (Int × Int)) × (Int × Int))))) (rec : (((List (List Int)) × ((List Int) × (Int × ((List Int) × (List Int)))))) → (List ((Int × (Int × Int)) × (Int × Int))) → Int → Int → Int → Int → Int → Int → Int → Option (((List (List Int)) × ((List Int) × (Int × ((List Int) × (List Int))))) × (List ((Int × (Int × Int)) × (Int × Int))) × Int × Int × Int × Int × Int × Int × Int)) (u : (Int × (Int × Int))) (u2 : ((List (List Int)) × ((List Int) × (Int × ((List Int) × (List Int)))))) (g' : ((List (List Int)) × ((List Int) × (Int × ((List Int) × (List Int)))))) (g2' : List ((Int × (Int × Int)) × (Int × Int))) (x' : Int) (x2' : Int) (x3' : Int) (g3' : Int) (g4' : Int) (best' : Int) (best2' : Int) (p' : Int) (p2' : Int) (y' : Int) (y2' : Int) (y3' : Int) : Option (((List (List Int)) × ((List Int) × (Int × ((List Int) × (List Int))))) × (List ((Int × (Int × Int)) × (Int × Int))) × Int × Int × Int × Int × Int × Int × Int) :=
  (all1_S N x' p' p2').bind fun x_3 =>
  br (!x_3)
    (rec g' g2' x' x2' x3' g3' g4' best' best2')
    ((self y' y2' y3' g' g' g2').bind fun (x_4, y_5, y_6, y_7) =>
    br (decide (0 ≤ x_4))
      (br (!decide (p' = 3))
        (chk (x_4 + 1) <|
        br (decide (best' < (x_4 + 1)))
          (rec y_6 y_7 x' x2' x3' g3' g4' (x_4 + 1) y_5)
          (br (decide ((x_4 + 1) = best'))
            (chk (best2' + y_5) <|
            rec y_6 y_7 x' x2' x3' g3' g4' best' (best2' + y_5))
            (rec y_6 y_7 x' x2' x3' g3' g4' best' best2')))
        (br (decide (best' < x_4))
          (rec y_6 y_7 x' x2' x3' g3' g4' x_4 y_5)
          (br (decide (x_4 = best'))
            (chk (best2' + y_5) <|
            rec y_6 y_7 x' x2' x3' g3' g4' best' (best2' + y_5))
            (rec y_6 y_7 x' x2' x3' g3' g4' best' best2'))))
      (br (decide (best' < x_4))
        (rec y_6 y_7 x' x2' x3' g3' g4' x_4 y_5)
        (br (decide (x_4 = best'))
          (chk (best2' + y_5) <|
          rec y_6 y_7 x' x2' x3' g3' g4' best' (best2' + y_5))
          (rec y_6 y_7 x' x2' x3' g3' g4' best' best2'))))
def resta_l1 (N : Nat) (self : Int → Int → Int → (((List (List Int)) × ((List Int) × (Int × ((List Int) × (List Int)))))) → (((List (List Int)) × ((List Int) × (Int × ((List Int) × (List Int)))))) → (List ((Int × (Int × Int)) × (Int × Int))) → Option (Int × Int × ((List (List Int)) × ((List Int) × (Int × ((List Int) × (List Int))))) × (List ((Int × (Int × Int)) × (Int × Int))))) : List Move → ((Int × (Int × Int))) → (((List (List Int)) × ((List Int) × (Int × ((List Int) × (List Int)))))) → (((List (List Int)) × ((List Int) × (Int × ((List Int) × (List Int)))))) → (List ((Int × (Int × Int)) × (Int × Int))) → Int → Int → Int → Int → Int → Int → Int → Option (((List (List Int)) × ((List Int) × (Int × ((List Int) × (List Int))))) × (List ((Int × (Int × Int)) × (Int × Int))) × Int × Int × Int × Int × Int × Int × Int)
  | [], u, u2, g, g2, x, x2, x3, g3, g4, best, best2 =>
    some ((g, g2, x, x2, x3, g3, g4, best, best2))
  | e :: es, u, u2, g, g2, x, x2, x3, g3, g4, best, best2 =>
    resta_l1_b N self (fun g_ g2_ x_ x2_ x3_ g3_ g4_ best_ best2_ => resta_l1 N self es u u2 g_ g2_ x_ x2_ x3_ g3_ g4_ best_ best2_) u u2 g g2 x x2 x3 g3 g4 best best2 e.1.1 e.1.2.1 e.2.1.1 e.2.1.2.1 e.2.1.2.2.1
def resta_S (N : Nat) (self : Int → Int → Int → (((List (List Int)) × ((List Int) × (Int × ((List Int) × (List Int)))))) → (((List (List Int)) × ((List Int) × (Int × ((List Int) × (List Int)))))) → (List ((Int × (Int × Int)) × (Int × Int))) → Option (Int × Int × ((List (List Int)) × ((List Int) × (Int × ((List Int) × (List Int))))) × (List ((Int × (Int × Int)) × (Int × Int))))) (x : Int) (x2 : Int) (x3 : Int) (u : ((List (List Int)) × ((List Int) × (Int × ((List Int) × (List Int)))))) (g : ((List (List Int)) × ((List Int) × (Int × ((List Int) × (List Int)))))) (g2 : List ((Int × (Int × Int)) × (Int × Int))) : Option (Int × Int × ((List (List Int)) × ((List Int) × (Int × ((List Int) × (List Int))))) × (List ((Int × (Int × Int)) × (Int × Int)))) :=
  br (decide (x = (u.2.1.length : Int)))
    (some (0, 1, g, g2))
    (br ((g2.find? fun y => Ty.beq (.pair (.int .i64) (.pair (.int .i64) (.int .i64))) y.1 (x, x2, x3)).isSome)
      (some ((((g2.find? fun y => Ty.beq (.pair (.int .i64) (.pair (.int .i64) (.int .i64))) y.1 (x, x2, x3)).map (·.2)).getD (Ty.dflt (.pair (.int .i64) (.int .i64)))).1, (((g2.find? fun y => Ty.beq (.pair (.int .i64) (.pair (.int .i64) (.int .i64))) y.1 (x, x2, x3)).map (·.2)).getD (Ty.dflt (.pair (.int .i64) (.int .i64)))).2, g, g2))
      ((next_S N u x x2 x3).bind fun (x_1, y_2) =>
      ((nextR x_1 y_2).bind fun es => resta_l1 N self es x_1 y_2 g g2 x x2 x3 0 0 (-1) 0).bind fun (g_8, g2_9, x_10, x2_11, x3_12, g3_13, g4_14, best_15, best2_16) =>
      some (best_15, best2_16, g_8, (((x_10, x2_11, x3_12), (best_15, best2_16)) :: g2_9))))
noncomputable def resta_sp (N : Nat) (self : Int → Int → Int → (((List (List Int)) × ((List Int) × (Int × ((List Int) × (List Int)))))) → (((List (List Int)) × ((List Int) × (Int × ((List Int) × (List Int)))))) → (List ((Int × (Int × Int)) × (Int × Int))) → Option (Int × Int × ((List (List Int)) × ((List Int) × (Int × ((List Int) × (List Int))))) × (List ((Int × (Int × Int)) × (Int × Int))))) : List Spec := [sp_next N, sp_all1 N, resta_self self]
theorem resta_all (N : Nat) (self : Int → Int → Int → (((List (List Int)) × ((List Int) × (Int × ((List Int) × (List Int)))))) → (((List (List Int)) × ((List Int) × (Int × ((List Int) × (List Int)))))) → (List ((Int × (Int × Int)) × (Int × Int))) → Option (Int × Int × ((List (List Int)) × ((List Int) × (Int × ((List Int) × (List Int))))) × (List ((Int × (Int × Int)) × (Int × Int))))) (hself : SpecOK Try.prog (resta_self self)) : AllP (SpecOK Try.prog) (resta_sp N self) := ⟨sp_next_ok N, sp_all1_ok N, hself, trivial⟩
noncomputable def resta_c : Code := (Try.f121.body).getD .skip
noncomputable abbrev resta_B : Body := { c := resta_c, n := 82, res := [.cell 6 129], outs := [⟨[.agg [.i .i64, .i .i64]], [.segs [.fn 121 [] [.fz [.fe (.pair (.sl (.sl (.int .i64))) (.pair (.sl (.int .i64)) (.pair (.int .i64) (.pair (.sl (.int .i64)) (.sl (.int .i64))))))], .fz [.mp 1], .fz [.fn 120 [] []], .own 0 0]], .map (.pair (.int .i64) (.pair (.int .i64) (.int .i64))) (.pair (.int .i64) (.int .i64))]⟩], m0 := 2 }
abbrev resta_rt : altD resta_B.outs → Option (Int × Int × ((List (List Int)) × ((List Int) × (Int × ((List Int) × (List Int))))) × (List ((Int × (Int × Int)) × (Int × Int)))) := fun r => some (r.1.1.1, r.1.1.2.1, r.2.1.1.2.1.1, r.2.2.1)
abbrev resta_l1_st : Sta := ⟨[2, 3, 4, 5, 6, 9, 34], ⟨[.fz [.mp 1], .fz [.fn 120 [] []], .own 0 0, .own 2 0, .own 3 0, .own 4 0, .fn 122 [] [.fe (.pair (.int .i64) (.pair (.int .i64) (.int .i64))), .fe (.ptr (.pair (.sl (.sl (.int .i64))) (.pair (.sl (.int .i64)) (.pair (.int .i64) (.pair (.sl (.int .i64)) (.sl (.int .i64)))))))]], [.segs [.fn 121 [] [.fz [.fe (.pair (.sl (.sl (.int .i64))) (.pair (.sl (.int .i64)) (.pair (.int .i64) (.pair (.sl (.int .i64)) (.sl (.int .i64))))))], .fz [.mp 1], .fz [.fn 120 [] []], .own 0 0]], .map (.pair (.int .i64) (.pair (.int .i64) (.int .i64))) (.pair (.int .i64) (.int .i64)), .segs [.i .i64, .i .i64, .i .i64], .segs [.i .i64, .i .i64], .segs [.i .i64, .i .i64]]⟩⟩
abbrev resta_l1_stA : Sta := ⟨[3, 4, 5, 6, 9, 10, 11], ⟨[.fz [.fn 120 [] []], .own 0 0, .own 2 0, .own 3 0, .own 4 0, .own 5 0, .own 6 0], [.segs [.fn 121 [] [.fz [.fe (.pair (.sl (.sl (.int .i64))) (.pair (.sl (.int .i64)) (.pair (.int .i64) (.pair (.sl (.int .i64)) (.sl (.int .i64))))))], .fz [.mp 1], .fz [.fn 120 [] []], .own 0 0]], .map (.pair (.int .i64) (.pair (.int .i64) (.int .i64))) (.pair (.int .i64) (.int .i64)), .segs [.i .i64, .i .i64, .i .i64], .segs [.i .i64, .i .i64], .segs [.i .i64, .i .i64], .segs [.i .i64, .i .i64], .segs [.i .i64, .i .i64, .i .i64]]⟩⟩
abbrev resta_l1_e0 : Leaf (((List (List Int)) × ((List Int) × (Int × ((List Int) × (List Int))))) × (List ((Int × (Int × Int)) × (Int × Int))) × Int × Int × Int × Int × Int × Int × Int) := ⟨[.c [1, 1, 1, 1, 1, 0], .c [1, 1, 1, 1, 1, 1]], ⟨[2, 5, 6, 9], ⟨[.fz [.mp 1], .own 2 0, .own 3 0, .own 4 0], [.segs [.fn 121 [] [.fz [.fe (.pair (.sl (.sl (.int .i64))) (.pair (.sl (.int .i64)) (.pair (.int .i64) (.pair (.sl (.int .i64)) (.sl (.int .i64))))))], .fz [.mp 1], .fz [.fn 120 [] []], .own 0 0]], .map (.pair (.int .i64) (.pair (.int .i64) (.int .i64))) (.pair (.int .i64) (.int .i64)), .segs [.i .i64, .i .i64, .i .i64], .segs [.i .i64, .i .i64], .segs [.i .i64, .i .i64]]⟩⟩, fun p => some ((p.2.1.1.2.1.1, p.2.2.1, p.2.2.2.1.1, p.2.2.2.1.2.1, p.2.2.2.1.2.2.1, p.2.2.2.2.1.1, p.2.2.2.2.1.2.1, p.2.2.2.2.2.1.1, p.2.2.2.2.2.1.2.1))⟩
noncomputable def resta_l1_L (N : Nat) (self : Int → Int → Int → (((List (List Int)) × ((List Int) × (Int × ((List Int) × (List Int)))))) → (((List (List Int)) × ((List Int) × (Int × ((List Int) × (List Int)))))) → (List ((Int × (Int × Int)) × (Int × Int))) → Option (Int × Int × ((List (List Int)) × ((List Int) × (Int × ((List Int) × (List Int))))) × (List ((Int × (Int × Int)) × (Int × Int))))) : LoopS := { at_ := [.c [1, 1, 1, 1, 0, 1, 0], .b 0, .c [1, 1, 1, 1, 1]], sta := resta_l1_st, exits := [([.c [1, 1, 1, 1, 1, 0], .c [1, 1, 1, 1, 1, 1]], ⟨[2, 5, 6, 9], ⟨[.fz [.mp 1], .own 2 0, .own 3 0, .own 4 0], [.segs [.fn 121 [] [.fz [.fe (.pair (.sl (.sl (.int .i64))) (.pair (.sl (.int .i64)) (.pair (.int .i64) (.pair (.sl (.int .i64)) (.sl (.int .i64))))))], .fz [.mp 1], .fz [.fn 120 [] []], .own 0 0]], .map (.pair (.int .i64) (.pair (.int .i64) (.int .i64))) (.pair (.int .i64) (.int .i64)), .segs [.i .i64, .i .i64, .i .i64], .segs [.i .i64, .i .i64], .segs [.i .i64, .i .i64]]⟩⟩)], run := fun p k => ((nextR p.1.2.2.2.2.2.2.1.2.1 p.1.2.2.2.2.2.2.1.2.2.1).bind fun es => resta_l1 N self es p.1.2.2.2.2.2.2.1.2.1 p.1.2.2.2.2.2.2.1.2.2.1 p.2.1.1.2.1.1 p.2.2.1 p.2.2.2.1.1 p.2.2.2.1.2.1 p.2.2.2.1.2.2.1 p.2.2.2.2.1.1 p.2.2.2.2.1.2.1 p.2.2.2.2.2.1.1 p.2.2.2.2.2.1.2.1).bind fun e => k (.inl ((((), ()), (), (), (), ()), ((((), ((e.1, ()), ((), ()), (((), ()), ()), (), ())), ()), e.2.1, (e.2.2.1, e.2.2.2.1, e.2.2.2.2.1, ()), (e.2.2.2.2.2.1, e.2.2.2.2.2.2.1, ()), (e.2.2.2.2.2.2.2.1, e.2.2.2.2.2.2.2.2, ()), ()))) }
noncomputable abbrev resta_l1_Bk : Body := { c := resta_c, n := resta_B.n, res := resta_B.res, outs := resta_B.outs, m0 := 5 }
theorem resta_l1_end (N : Nat) (self : Int → Int → Int → (((List (List Int)) × ((List Int) × (Int × ((List Int) × (List Int)))))) → (((List (List Int)) × ((List Int) × (Int × ((List Int) × (List Int)))))) → (List ((Int × (Int × Int)) × (Int × Int))) → Option (Int × Int × ((List (List Int)) × ((List Int) × (Int × ((List Int) × (List Int))))) × (List ((Int × (Int × Int)) × (Int × Int))))) (u : (Int × (Int × Int))) (u2 : ((List (List Int)) × ((List Int) × (Int × ((List Int) × (List Int)))))) (g : ((List (List Int)) × ((List Int) × (Int × ((List Int) × (List Int)))))) (g2 : List ((Int × (Int × Int)) × (Int × Int))) (x : Int) (x2 : Int) (x3 : Int) (g3 : Int) (g4 : Int) (best : Int) (best2 : Int) : ev (Z := ((List (List Int)) × ((List Int) × (Int × ((List Int) × (List Int))))) × (List ((Int × (Int × Int)) × (Int × Int))) × Int × Int × Int × Int × Int × Int × Int) Try.prog (resta_sp N self) resta_B [] [resta_l1_e0] none 400 false (nrm resta_B.c 99 [.b 0, .c [1, 1, 1, 1, 1]]) (stL resta_l1_st ((((), ()), (((), ()), ()), (), (), (), (), ((), (u, u2, ())), ()), ((((), ((g, ()), ((), ()), (((), ()), ()), (), ())), ()), g2, (x, x2, x3, ()), (g3, g4, ()), (best, best2, ()), ()))) (stH resta_l1_st ((((), ()), (((), ()), ()), (), (), (), (), ((), (u, u2, ())), ()), ((((), ((g, ()), ((), ()), (((), ()), ()), (), ())), ()), g2, (x, x2, x3, ()), (g3, g4, ()), (best, best2, ()), ()))) = resta_l1 N self [] u u2 g g2 x x2 x3 g3 g4 best best2 := by kernel_rfl
theorem resta_l1_asg (N : Nat) (self : Int → Int → Int → (((List (List Int)) × ((List Int) × (Int × ((List Int) × (List Int)))))) → (((List (List Int)) × ((List Int) × (Int × ((List Int) × (List Int)))))) → (List ((Int × (Int × Int)) × (Int × Int))) → Option (Int × Int × ((List (List Int)) × ((List Int) × (Int × ((List Int) × (List Int))))) × (List ((Int × (Int × Int)) × (Int × Int))))) (e : Move) (es : List Move) (u : (Int × (Int × Int))) (u2 : ((List (List Int)) × ((List Int) × (Int × ((List Int) × (List Int)))))) (g : ((List (List Int)) × ((List Int) × (Int × ((List Int) × (List Int)))))) (g2 : List ((Int × (Int × Int)) × (Int × Int))) (x : Int) (x2 : Int) (x3 : Int) (g3 : Int) (g4 : Int) (best : Int) (best2 : Int) : ev (Z := ((List (List Int)) × ((List Int) × (Int × ((List Int) × (List Int))))) × (List ((Int × (Int × Int)) × (Int × Int))) × Int × Int × Int × Int × Int × Int × Int) Try.prog (resta_sp N self) resta_l1_Bk [] [⟨[.r, .c [1, 1, 1, 1, 0, 1, 0, 1]], resta_l1_stA, fun p => resta_l1_b N self (fun g_ g2_ x_ x2_ x3_ g3_ g4_ best_ best2_ => resta_l1 N self es u u2 g_ g2_ x_ x2_ x3_ g3_ g4_ best_ best2_) u u2 p.2.1.1.2.1.1 p.2.2.1 p.2.2.2.1.1 p.2.2.2.1.2.1 p.2.2.2.1.2.2.1 p.2.2.2.2.1.1 p.2.2.2.2.1.2.1 p.2.2.2.2.2.1.1 p.2.2.2.2.2.1.2.1 p.2.2.2.2.2.2.1.1 p.2.2.2.2.2.2.1.2.1 p.2.2.2.2.2.2.2.1.1 p.2.2.2.2.2.2.2.1.2.1 p.2.2.2.2.2.2.2.1.2.2.1⟩] none 400 false (nrm resta_B.c 99 [.c [1, 1, 1, 1, 0, 1, 0, 0], .r, .c [1, 1, 1, 1, 0, 1, 0, 1]]) (pars [35, 36] (encs id is_next.elem e) (stL resta_l1_st ((((), ()), (((), ()), ()), (), (), (), (), ((), (u, u2, ())), ()), ((((), ((g, ()), ((), ()), (((), ()), ()), (), ())), ()), g2, (x, x2, x3, ()), (g3, g4, ()), (best, best2, ()), ())))) (stH resta_l1_st ((((), ()), (((), ()), ()), (), (), (), (), ((), (u, u2, ())), ()), ((((), ((g, ()), ((), ()), (((), ()), ()), (), ())), ()), g2, (x, x2, x3, ()), (g3, g4, ()), (best, best2, ()), ()))) = resta_l1 N self (e :: es) u u2 g g2 x x2 x3 g3 g4 best best2 := by kernel_rfl
theorem resta_l1_bod (N : Nat) (self : Int → Int → Int → (((List (List Int)) × ((List Int) × (Int × ((List Int) × (List Int)))))) → (((List (List Int)) × ((List Int) × (Int × ((List Int) × (List Int)))))) → (List ((Int × (Int × Int)) × (Int × Int))) → Option (Int × Int × ((List (List Int)) × ((List Int) × (Int × ((List Int) × (List Int))))) × (List ((Int × (Int × Int)) × (Int × Int))))) (rec : (((List (List Int)) × ((List Int) × (Int × ((List Int) × (List Int)))))) → (List ((Int × (Int × Int)) × (Int × Int))) → Int → Int → Int → Int → Int → Int → Int → Option (((List (List Int)) × ((List Int) × (Int × ((List Int) × (List Int))))) × (List ((Int × (Int × Int)) × (Int × Int))) × Int × Int × Int × Int × Int × Int × Int)) (u : (Int × (Int × Int))) (u2 : ((List (List Int)) × ((List Int) × (Int × ((List Int) × (List Int)))))) (g' : ((List (List Int)) × ((List Int) × (Int × ((List Int) × (List Int)))))) (g2' : List ((Int × (Int × Int)) × (Int × Int))) (x' : Int) (x2' : Int) (x3' : Int) (g3' : Int) (g4' : Int) (best' : Int) (best2' : Int) (p' : Int) (p2' : Int) (y' : Int) (y2' : Int) (y3' : Int) : ev (Z := ((List (List Int)) × ((List Int) × (Int × ((List Int) × (List Int))))) × (List ((Int × (Int × Int)) × (Int × Int))) × Int × Int × Int × Int × Int × Int × Int) Try.prog (resta_sp N self) resta_l1_Bk [] [⟨[], ⟨[], ⟨[], [.segs [.fn 121 [] [.fz [.fe (.pair (.sl (.sl (.int .i64))) (.pair (.sl (.int .i64)) (.pair (.int .i64) (.pair (.sl (.int .i64)) (.sl (.int .i64))))))], .fz [.mp 1], .fz [.fn 120 [] []], .own 0 0]], .map (.pair (.int .i64) (.pair (.int .i64) (.int .i64))) (.pair (.int .i64) (.int .i64)), .segs [.i .i64, .i .i64, .i .i64], .segs [.i .i64, .i .i64], .segs [.i .i64, .i .i64]]⟩⟩, fun p => rec p.2.1.1.2.1.1 p.2.2.1 p.2.2.2.1.1 p.2.2.2.1.2.1 p.2.2.2.1.2.2.1 p.2.2.2.2.1.1 p.2.2.2.2.1.2.1 p.2.2.2.2.2.1.1 p.2.2.2.2.2.1.2.1⟩] none 400 false (nrm resta_B.c 99 [.c [1, 1, 1, 1, 0, 1, 0, 1]]) (stL resta_l1_stA (((((), ()), ()), (), (), (), (), (), (), ()), ((((), ((g', ()), ((), ()), (((), ()), ()), (), ())), ()), g2', (x', x2', x3', ()), (g3', g4', ()), (best', best2', ()), (p', p2', ()), (y', y2', y3', ()), ()))) (stH resta_l1_stA (((((), ()), ()), (), (), (), (), (), (), ()), ((((), ((g', ()), ((), ()), (((), ()), ()), (), ())), ()), g2', (x', x2', x3', ()), (g3', g4', ()), (best', best2', ()), (p', p2', ()), (y', y2', y3', ()), ()))) = resta_l1_b N self rec u u2 g' g2' x' x2' x3' g3' g4' best' best2' p' p2' y' y2' y3' := by kernel_rfl
theorem resta_l1_ok (N : Nat) (self : Int → Int → Int → (((List (List Int)) × ((List Int) × (Int × ((List Int) × (List Int)))))) → (((List (List Int)) × ((List Int) × (Int × ((List Int) × (List Int)))))) → (List ((Int × (Int × Int)) × (Int × Int))) → Option (Int × Int × ((List (List Int)) × ((List Int) × (Int × ((List Int) × (List Int))))) × (List ((Int × (Int × Int)) × (Int × Int))))) (hself : SpecOK Try.prog (resta_self self)) : LoopOK Try.prog resta_B.c resta_B.n resta_B.m0 true (resta_l1_L N self) := by
  refine range_ok (B := resta_B) (is := is_next) (g := .tmp 34) (ps := #[35, 36]) (assign := sub resta_c [1, 1, 1, 1, 0, 1, 0, 0]) (body := sub resta_c [1, 1, 1, 1, 0, 1, 0, 1]) (Z := ((List (List Int)) × ((List Int) × (Int × ((List Int) × (List Int))))) × (List ((Int × (Int × Int)) × (Int × Int))) × Int × Int × Int × Int × Int × Int × Int) (x := resta_l1_L N self) (fun p => (p.1.2.2.2.2.2.2.1.2.1, p.1.2.2.2.2.2.2.1.2.2.1, ())) (fun es p => resta_l1 N self es p.1.2.2.2.2.2.2.1.2.1 p.1.2.2.2.2.2.2.1.2.2.1 p.2.1.1.2.1.1 p.2.2.1 p.2.2.2.1.1 p.2.2.2.1.2.1 p.2.2.2.1.2.2.1 p.2.2.2.2.1.1 p.2.2.2.2.1.2.1 p.2.2.2.2.2.1.1 p.2.2.2.2.2.1.2.1) (staA := resta_l1_stA) (fun es q p => resta_l1_b N self (fun g_ g2_ x_ x2_ x3_ g3_ g4_ best_ best2_ => resta_l1 N self es q.2.2.2.2.2.2.1.2.1 q.2.2.2.2.2.2.1.2.2.1 g_ g2_ x_ x2_ x3_ g3_ g4_ best_ best2_) q.2.2.2.2.2.2.1.2.1 q.2.2.2.2.2.2.1.2.2.1 p.2.1.1.2.1.1 p.2.2.1 p.2.2.2.1.1 p.2.2.2.1.2.1 p.2.2.2.1.2.2.1 p.2.2.2.2.1.1 p.2.2.2.2.1.2.1 p.2.2.2.2.2.1.1 p.2.2.2.2.2.1.2.1 p.2.2.2.2.2.2.1.1 p.2.2.2.2.2.2.1.2.1 p.2.2.2.2.2.2.2.1.1 p.2.2.2.2.2.2.2.1.2.1 p.2.2.2.2.2.2.2.1.2.2.1) [] (fun e => .inl ((((), ()), (), (), (), ()), ((((), ((e.1, ()), ((), ()), (((), ()), ()), (), ())), ()), e.2.1, (e.2.2.1, e.2.2.2.1, e.2.2.2.2.1, ()), (e.2.2.2.2.2.1, e.2.2.2.2.2.2.1, ()), (e.2.2.2.2.2.2.2.1, e.2.2.2.2.2.2.2.2, ()), ()))) (fun _ _ _ => rfl) rfl (by kernel_rfl) (fun _ => by kernel_rfl) (by kernel_rfl) is_next_ok (Nat.le_of_ble_eq_true (by kernel_rfl)) (by kernel_rfl) ?_ ?_ ?_ ?_
  · exact fun z E Xc hE hX hx p hp a w hS => ev_sound (z := z) (B := resta_B) (loops := []) (leaves := [resta_l1_e0]) (top := true) (resta_all N self hself) mixed trivial hE hX ⟨(fun p hp => by obtain rfl := Option.some.inj hp; exact hx), trivial⟩ RetOK.no 400 false _ _ _ ((resta_l1_end N self p.1.2.2.2.2.2.2.1.2.1 p.1.2.2.2.2.2.2.1.2.2.1 p.2.1.1.2.1.1 p.2.2.1 p.2.2.2.1.1 p.2.2.2.1.2.1 p.2.2.2.1.2.2.1 p.2.2.2.2.1.1 p.2.2.2.2.1.2.1 p.2.2.2.2.2.1.1 p.2.2.2.2.2.1.2.1).trans hp) a w hS
  · intro z E Xc hE hX hx e he q b hb a w hS
    simp only [List.not_mem_nil] at he
  · exact fun z E Xc hE hX e es p hl hp a w hS => ev_sound (z := z) (B := resta_l1_Bk) (loops := []) (leaves := [_]) (top := false) (resta_all N self hself) mixed trivial hE hX ⟨hl, trivial⟩ RetOK.no 400 false _ _ _ ((resta_l1_asg N self e es p.1.2.2.2.2.2.2.1.2.1 p.1.2.2.2.2.2.2.1.2.2.1 p.2.1.1.2.1.1 p.2.2.1 p.2.2.2.1.1 p.2.2.2.1.2.1 p.2.2.2.1.2.2.1 p.2.2.2.2.1.1 p.2.2.2.2.1.2.1 p.2.2.2.2.2.1.1 p.2.2.2.2.2.1.2.1).trans hp) a w hS
  · exact fun z E Xc hE hX es q he hs p hp a w hS => ev_sound (z := z) (B := resta_l1_Bk) (loops := []) (leaves := [_]) (top := false) (resta_all N self hself) mixed trivial hE hX ⟨he, trivial⟩ RetOK.no 400 false _ _ _ ((resta_l1_bod N self (fun g_ g2_ x_ x2_ x3_ g3_ g4_ best_ best2_ => resta_l1 N self es q.2.2.2.2.2.2.1.2.1 q.2.2.2.2.2.2.1.2.2.1 g_ g2_ x_ x2_ x3_ g3_ g4_ best_ best2_) q.2.2.2.2.2.2.1.2.1 q.2.2.2.2.2.2.1.2.2.1 p.2.1.1.2.1.1 p.2.2.1 p.2.2.2.1.1 p.2.2.2.1.2.1 p.2.2.2.1.2.2.1 p.2.2.2.2.1.1 p.2.2.2.2.1.2.1 p.2.2.2.2.2.1.1 p.2.2.2.2.2.1.2.1 p.2.2.2.2.2.2.1.1 p.2.2.2.2.2.2.1.2.1 p.2.2.2.2.2.2.2.1.1 p.2.2.2.2.2.2.2.1.2.1 p.2.2.2.2.2.2.2.1.2.2.1).trans hp) a w hS
abbrev resta_st : Sta := ⟨[0, 1, 2, 3, 4], ⟨[.agg [.i .i64, .i .i64, .i .i64], .fz [.fe (.pair (.sl (.sl (.int .i64))) (.pair (.sl (.int .i64)) (.pair (.int .i64) (.pair (.sl (.int .i64)) (.sl (.int .i64))))))], .fz [.mp 1], .fz [.fn 120 [] []], .own 0 0], [.segs [.fn 121 [] [.fz [.fe (.pair (.sl (.sl (.int .i64))) (.pair (.sl (.int .i64)) (.pair (.int .i64) (.pair (.sl (.int .i64)) (.sl (.int .i64))))))], .fz [.mp 1], .fz [.fn 120 [] []], .own 0 0]], .map (.pair (.int .i64) (.pair (.int .i64) (.int .i64))) (.pair (.int .i64) (.int .i64))]⟩⟩
theorem resta_eq (N : Nat) (self : Int → Int → Int → (((List (List Int)) × ((List Int) × (Int × ((List Int) × (List Int)))))) → (((List (List Int)) × ((List Int) × (Int × ((List Int) × (List Int)))))) → (List ((Int × (Int × Int)) × (Int × Int))) → Option (Int × Int × ((List (List Int)) × ((List Int) × (Int × ((List Int) × (List Int))))) × (List ((Int × (Int × Int)) × (Int × Int))))) (x : Int) (x2 : Int) (x3 : Int) (u : ((List (List Int)) × ((List Int) × (Int × ((List Int) × (List Int)))))) (g : ((List (List Int)) × ((List Int) × (Int × ((List Int) × (List Int)))))) (g2 : List ((Int × (Int × Int)) × (Int × Int))) : ev (Z := Int × Int × ((List (List Int)) × ((List Int) × (Int × ((List Int) × (List Int))))) × (List ((Int × (Int × Int)) × (Int × Int)))) Try.prog (resta_sp N self) resta_B [resta_l1_L N self] [] (some resta_rt) 400 false [.c [0], .c [1]] (stL resta_st (((x, x2, x3, ()), (u, ()), ((), ()), (((), ()), ()), (), ()), ((((), ((g, ()), ((), ()), (((), ()), ()), (), ())), ()), g2, ()))) (stH resta_st (((x, x2, x3, ()), (u, ()), ((), ()), (((), ()), ()), (), ()), ((((), ((g, ()), ((), ()), (((), ()), ()), (), ())), ()), g2, ()))) = resta_S N self x x2 x3 u g g2 := by kernel_rfl
theorem resta_self_ok (N : Nat) (self : Int → Int → Int → (((List (List Int)) × ((List Int) × (Int × ((List Int) × (List Int)))))) → (((List (List Int)) × ((List Int) × (Int × ((List Int) × (List Int)))))) → (List ((Int × (Int × Int)) × (Int × Int))) → Option (Int × Int × ((List (List Int)) × ((List Int) × (Int × ((List Int) × (List Int))))) × (List ((Int × (Int × Int)) × (Int × Int))))) (hself : SpecOK Try.prog (resta_self self)) : SpecOK Try.prog (resta_self (resta_S N self)) := fn_sound (B := resta_B) (loops := [resta_l1_L N self]) (leaves := []) (fun p => resta_S N self p.1.1.1 p.1.1.2.1 p.1.1.2.2.1 p.1.2.1.1 p.2.1.1.2.1.1 p.2.2.1) (fun r => (((r.1, r.2.1, ()), ()), ((((), ((r.2.2.1, ()), ((), ()), (((), ()), ()), (), ())), ()), r.2.2.2, ()))) resta_rt (fun _ _ _ => rfl) (fun r z h => by cases h; rfl) Try.func121 (by kernel_rfl) (by kernel_rfl) (by kernel_rfl) rfl rfl (by kernel_rfl) (fun args w => Sem.pv_run _ _ _ (by kernel_rfl) w) (resta_all N self hself) mixed ⟨resta_l1_ok N self hself, trivial⟩ (fun z E Xc hE hX hret => trivial) (fun p => resta_eq N self p.1.1.1 p.1.1.2.1 p.1.1.2.2.1 p.1.2.1.1 p.2.1.1.2.1.1 p.2.2.1)
def resta_R (N : Nat) : Nat → Int → Int → Int → (((List (List Int)) × ((List Int) × (Int × ((List Int) × (List Int)))))) → (((List (List Int)) × ((List Int) × (Int × ((List Int) × (List Int)))))) → (List ((Int × (Int × Int)) × (Int × Int))) → Option (Int × Int × ((List (List Int)) × ((List Int) × (Int × ((List Int) × (List Int))))) × (List ((Int × (Int × Int)) × (Int × Int))))
  | 0 => fun _ _ _ _ _ _ => none
  | n + 1 => resta_S N (resta_R N n)
theorem resta_R_ok (N : Nat) : ∀ n, SpecOK Try.prog (resta_self (resta_R N n))
  | 0 => SpecOK.none (fun _ _ _ => rfl) (fun args w => Sem.pv_run _ _ _ (by kernel_rfl) w)
  | n + 1 => resta_self_ok N (resta_R N n) (resta_R_ok N n)
noncomputable abbrev sp_resta (N : Nat) : Spec := resta_self (resta_R N N)
theorem sp_resta_ok (N : Nat) : SpecOK Try.prog (sp_resta N) := resta_R_ok N N

def restsa_j1 (N : Nat) (rest : ((List (List Int)) × ((List Int) × (Int × ((List Int) × (List Int)))))) (g : List ((Int × (Int × Int)) × (Int × Int))) : Option (List ((Int × (Int × Int)) × (Int × Int))) :=
  (resta_R N N 0 0 0 rest rest g).bind fun (x_1, y_2, y_3, y_4) =>
  some (((0, 0, 0), (x_1, y_2)) :: y_4)
def restsa_S (N : Nat) (d : ((List (List Int)) × ((List Int) × (Int × ((List Int) × (List Int)))))) : Option (List ((Int × (Int × Int)) × (Int × Int))) :=
  restsa_j1 N d []
noncomputable def restsa_sp (N : Nat) : List Spec := [sp_resta N]
theorem restsa_all (N : Nat) : AllP (SpecOK Try.prog) (restsa_sp N) := ⟨sp_resta_ok N, trivial⟩
noncomputable def restsa_c : Code := (Try.f87.body).getD .skip
noncomputable abbrev restsa_B : Body := { c := restsa_c, n := 15, res := [.tmp 4], outs := [⟨[.mp 0], [.map (.pair (.int .i64) (.pair (.int .i64) (.int .i64))) (.pair (.int .i64) (.int .i64))]⟩], m0 := 0 }
abbrev restsa_rt : altD restsa_B.outs → Option (List ((Int × (Int × Int)) × (Int × Int))) := fun r => some r.2.1
abbrev restsa_j1_at : List PI := [.c [1, 1, 1, 1, 0], .c [1, 1, 1, 1, 1]]
abbrev restsa_j1_st : Sta := ⟨[5, 6], ⟨[.fz [.mp 1], .own 0 0], [.segs [.fn 121 [] [.fz [.fe (.pair (.sl (.sl (.int .i64))) (.pair (.sl (.int .i64)) (.pair (.int .i64) (.pair (.sl (.int .i64)) (.sl (.int .i64))))))], .fz [.mp 1], .fz [.fn 120 [] []], .own 0 0]], .map (.pair (.int .i64) (.pair (.int .i64) (.int .i64))) (.pair (.int .i64) (.int .i64))]⟩⟩
abbrev restsa_j1_k (N : Nat) : Leaf (List ((Int × (Int × Int)) × (Int × Int))) := ⟨restsa_j1_at, restsa_j1_st, fun p => restsa_j1 N p.2.1.1.2.1.1 p.2.2.1⟩
theorem restsa_j1_eq (N : Nat) (rest : ((List (List Int)) × ((List Int) × (Int × ((List Int) × (List Int)))))) (g : List ((Int × (Int × Int)) × (Int × Int))) : ev (Z := (List ((Int × (Int × Int)) × (Int × Int)))) Try.prog (restsa_sp N) restsa_B [] [] (some restsa_rt) 400 true restsa_j1_at (stL restsa_j1_st ((((), ()), (), ()), ((((), ((rest, ()), ((), ()), (((), ()), ()), (), ())), ()), g, ()))) (stH restsa_j1_st ((((), ()), (), ()), ((((), ((rest, ()), ((), ()), (((), ()), ()), (), ())), ()), g, ()))) = restsa_j1 N rest g := by kernel_rfl
theorem restsa_j1_lf (N : Nat) {z : (List ((Int × (Int × Int)) × (Int × Int)))} {E : EE} {Xc : Ctx} (hE : EOK restsa_B.m0 E) (hX : CxOK true Xc) (hret : RetOK Try.prog restsa_B E Xc z (some restsa_rt)) : LeafOK Try.prog restsa_B.c restsa_B.n restsa_B.m0 E Xc z (restsa_j1_k N) := leaf_of_ev (B := restsa_B) (loops := []) (leaves := []) (restsa_all N) mixed trivial hE hX trivial hret (fun p => restsa_j1_eq N p.2.1.1.2.1.1 p.2.2.1)
abbrev restsa_st : Sta := ⟨[0, 1], ⟨[.fe (.pair (.sl (.sl (.int .i64))) (.pair (.sl (.int .i64)) (.pair (.int .i64) (.pair (.sl (.int .i64)) (.sl (.int .i64)))))), .agg [.fn 120 [] []]], []⟩⟩
theorem restsa_eq (N : Nat) (d : ((List (List Int)) × ((List Int) × (Int × ((List Int) × (List Int)))))) : ev (Z := (List ((Int × (Int × Int)) × (Int × Int)))) Try.prog (restsa_sp N) restsa_B [] [restsa_j1_k N] (some restsa_rt) 400 false [.c [0], .c [1]] (stL restsa_st ((d, (((), ()), ()), ()), ())) (stH restsa_st ((d, (((), ()), ()), ()), ())) = restsa_S N d := by kernel_rfl
noncomputable def sp_restsa (N : Nat) : Spec := { f := 87, ins := ⟨[.fe (.pair (.sl (.sl (.int .i64))) (.pair (.sl (.int .i64)) (.pair (.int .i64) (.pair (.sl (.int .i64)) (.sl (.int .i64)))))), .agg [.fn 120 [] []]], []⟩, outs := [⟨[.mp 0], [.map (.pair (.int .i64) (.pair (.int .i64) (.int .i64))) (.pair (.int .i64) (.int .i64))]⟩], run := fun p k => (restsa_S N p.1.1).bind fun r => k (((), ()), (r, ())) }
theorem sp_restsa_ok (N : Nat) : SpecOK Try.prog (sp_restsa N) := fn_sound (B := restsa_B) (loops := []) (leaves := [restsa_j1_k N]) (fun p => restsa_S N p.1.1) (fun r => (((), ()), (r, ()))) restsa_rt (fun _ _ _ => rfl) (fun r z h => by cases h; rfl) Try.func87 (by kernel_rfl) (by kernel_rfl) (by kernel_rfl) rfl rfl (by kernel_rfl) (fun args w => Sem.pv_run _ _ _ (by kernel_rfl) w) (restsa_all N) mixed trivial (fun z E Xc hE hX hret => ⟨restsa_j1_lf N hE hX hret, trivial⟩) (fun p => restsa_eq N p.1.1)

def firsta_S (N : Nat) (d : ((List (List Int)) × ((List Int) × (Int × ((List Int) × (List Int)))))) : Option (Int × Int) :=
  (restsa_S N d).bind fun x_1 =>
  some ((((x_1.find? fun y => Ty.beq (.pair (.int .i64) (.pair (.int .i64) (.int .i64))) y.1 (0, 0, 0)).map (·.2)).getD (Ty.dflt (.pair (.int .i64) (.int .i64)))).1, (((x_1.find? fun y => Ty.beq (.pair (.int .i64) (.pair (.int .i64) (.int .i64))) y.1 (0, 0, 0)).map (·.2)).getD (Ty.dflt (.pair (.int .i64) (.int .i64)))).2)
noncomputable def firsta_sp (N : Nat) : List Spec := [sp_restsa N]
theorem firsta_all (N : Nat) : AllP (SpecOK Try.prog) (firsta_sp N) := ⟨sp_restsa_ok N, trivial⟩
noncomputable def firsta_c : Code := (Try.f82.body).getD .skip
noncomputable abbrev firsta_B : Body := { c := firsta_c, n := 10, res := [.cell 4 129], outs := [⟨[.agg [.i .i64, .i .i64]], []⟩], m0 := 0 }
abbrev firsta_rt : altD firsta_B.outs → Option (Int × Int) := fun r => some (r.1.1.1, r.1.1.2.1)
abbrev firsta_st : Sta := ⟨[0, 1], ⟨[.fe (.pair (.sl (.sl (.int .i64))) (.pair (.sl (.int .i64)) (.pair (.int .i64) (.pair (.sl (.int .i64)) (.sl (.int .i64)))))), .agg [.fn 120 [] []]], []⟩⟩
theorem firsta_eq (N : Nat) (d : ((List (List Int)) × ((List Int) × (Int × ((List Int) × (List Int)))))) : ev (Z := Int × Int) Try.prog (firsta_sp N) firsta_B [] [] (some firsta_rt) 400 false [.c [0], .c [1]] (stL firsta_st ((d, (((), ()), ()), ()), ())) (stH firsta_st ((d, (((), ()), ()), ()), ())) = firsta_S N d := by kernel_rfl
noncomputable def sp_firsta (N : Nat) : Spec := { f := 82, ins := ⟨[.fe (.pair (.sl (.sl (.int .i64))) (.pair (.sl (.int .i64)) (.pair (.int .i64) (.pair (.sl (.int .i64)) (.sl (.int .i64)))))), .agg [.fn 120 [] []]], []⟩, outs := [⟨[.agg [.i .i64, .i .i64]], []⟩], run := fun p k => (firsta_S N p.1.1).bind fun r => k (((r.1, r.2, ()), ()), ()) }
theorem sp_firsta_ok (N : Nat) : SpecOK Try.prog (sp_firsta N) := fn_sound (B := firsta_B) (loops := []) (leaves := []) (fun p => firsta_S N p.1.1) (fun r => (((r.1, r.2, ()), ()), ())) firsta_rt (fun _ _ _ => rfl) (fun r z h => by cases h; rfl) Try.func82 (by kernel_rfl) (by kernel_rfl) (by kernel_rfl) rfl rfl (by kernel_rfl) (fun args w => Sem.pv_run _ _ _ (by kernel_rfl) w) (firsta_all N) mixed trivial (fun z E Xc hE hX hret => trivial) (fun p => firsta_eq N p.1.1)

def least_S (N : Nat) (e : List (List Int)) (e2 : List Int) (e3 : Int) (p : Int) (p2 : Int) : Option (Int × Int) :=
  ((opened_S N e e2 e3 p p2).bind fun e => match e with
  | .inl (x_1, y_2) =>
    (br (!decide (y_2 = 0))
      (some (0, y_2))
      ((all_S N).bind fun _ =>
      (firsta_S N x_1).bind fun (x_3, y_4) =>
      (dfaults_S N x_1 x_3).bind fun x_5 =>
      some (x_5, 0)))
  | .inr x_6 =>
    (br (!decide (x_6 = 0))
      (some (0, x_6))
      ((all_S N).bind fun _ =>
      none)))
noncomputable def least_sp (N : Nat) : List Spec := [sp_opened N, sp_dfaults N, sp_all N, sp_firsta N]
theorem least_all (N : Nat) : AllP (SpecOK Try.prog) (least_sp N) := ⟨sp_opened_ok N, sp_dfaults_ok N, sp_all_ok N, sp_firsta_ok N, trivial⟩
noncomputable def least_c : Code := (Try.f28.body).getD .skip
noncomputable abbrev least_B : Body := { c := least_c, n := 23, res := [.tmp 4, .tmp 5], outs := [⟨[.i .i64, .i .i64], []⟩], m0 := 0 }
abbrev least_rt : altD least_B.outs → Option (Int × Int) := fun r => some (r.1.1, r.1.2.1)
abbrev least_st : Sta := ⟨[0, 1], ⟨[.agg [.sl (.sl (.int .i64)), .sl (.int .i64), .i .i64], .agg [.i .i64, .i .i64]], []⟩⟩
theorem least_eq (N : Nat) (e : List (List Int)) (e2 : List Int) (e3 : Int) (p : Int) (p2 : Int) : ev (Z := Int × Int) Try.prog (least_sp N) least_B [] [] (some least_rt) 400 false [.c [0], .c [1]] (stL least_st (((e, e2, e3, ()), (p, p2, ()), ()), ())) (stH least_st (((e, e2, e3, ()), (p, p2, ()), ()), ())) = least_S N e e2 e3 p p2 := by kernel_rfl
noncomputable def sp_least (N : Nat) : Spec := { f := 28, ins := ⟨[.agg [.sl (.sl (.int .i64)), .sl (.int .i64), .i .i64], .agg [.i .i64, .i .i64]], []⟩, outs := [⟨[.i .i64, .i .i64], []⟩], run := fun p k => (least_S N p.1.1.1 p.1.1.2.1 p.1.1.2.2.1 p.1.2.1.1 p.1.2.1.2.1).bind fun r => k ((r.1, r.2, ()), ()) }
theorem sp_least_ok (N : Nat) : SpecOK Try.prog (sp_least N) := fn_sound (B := least_B) (loops := []) (leaves := []) (fun p => least_S N p.1.1.1 p.1.1.2.1 p.1.1.2.2.1 p.1.2.1.1 p.1.2.1.2.1) (fun r => ((r.1, r.2, ()), ())) least_rt (fun _ _ _ => rfl) (fun r z h => by cases h; rfl) Try.func28 (by kernel_rfl) (by kernel_rfl) (by kernel_rfl) rfl rfl (by kernel_rfl) (fun args w => Sem.pv_run _ _ _ (by kernel_rfl) w) (least_all N) mixed trivial (fun z E Xc hE hX hret => trivial) (fun p => least_eq N p.1.1.1 p.1.1.2.1 p.1.1.2.2.1 p.1.2.1.1 p.1.2.1.2.1)

def count_S (N : Nat) (e : List (List Int)) (e2 : List Int) (e3 : Int) (p : Int) (p2 : Int) : Option (Int × Int) :=
  ((opened_S N e e2 e3 p p2).bind fun e => match e with
  | .inl (x_1, y_2) =>
    (br (!decide (y_2 = 0))
      (some (0, y_2))
      ((all_S N).bind fun _ =>
      (firsta_S N x_1).bind fun (x_3, y_4) =>
      some (y_4, 0)))
  | .inr x_5 =>
    (br (!decide (x_5 = 0))
      (some (0, x_5))
      ((all_S N).bind fun _ =>
      none)))
noncomputable def count_sp (N : Nat) : List Spec := [sp_opened N, sp_all N, sp_firsta N]
theorem count_all (N : Nat) : AllP (SpecOK Try.prog) (count_sp N) := ⟨sp_opened_ok N, sp_all_ok N, sp_firsta_ok N, trivial⟩
noncomputable def count_c : Code := (Try.f34.body).getD .skip
noncomputable abbrev count_B : Body := { c := count_c, n := 21, res := [.tmp 4, .tmp 5], outs := [⟨[.i .i64, .i .i64], []⟩], m0 := 0 }
abbrev count_rt : altD count_B.outs → Option (Int × Int) := fun r => some (r.1.1, r.1.2.1)
abbrev count_st : Sta := ⟨[0, 1], ⟨[.agg [.sl (.sl (.int .i64)), .sl (.int .i64), .i .i64], .agg [.i .i64, .i .i64]], []⟩⟩
theorem count_eq (N : Nat) (e : List (List Int)) (e2 : List Int) (e3 : Int) (p : Int) (p2 : Int) : ev (Z := Int × Int) Try.prog (count_sp N) count_B [] [] (some count_rt) 400 false [.c [0], .c [1]] (stL count_st (((e, e2, e3, ()), (p, p2, ()), ()), ())) (stH count_st (((e, e2, e3, ()), (p, p2, ()), ()), ())) = count_S N e e2 e3 p p2 := by kernel_rfl
noncomputable def sp_count (N : Nat) : Spec := { f := 34, ins := ⟨[.agg [.sl (.sl (.int .i64)), .sl (.int .i64), .i .i64], .agg [.i .i64, .i .i64]], []⟩, outs := [⟨[.i .i64, .i .i64], []⟩], run := fun p k => (count_S N p.1.1.1 p.1.1.2.1 p.1.1.2.2.1 p.1.2.1.1 p.1.2.1.2.1).bind fun r => k ((r.1, r.2, ()), ()) }
theorem sp_count_ok (N : Nat) : SpecOK Try.prog (sp_count N) := fn_sound (B := count_B) (loops := []) (leaves := []) (fun p => count_S N p.1.1.1 p.1.1.2.1 p.1.1.2.2.1 p.1.2.1.1 p.1.2.1.2.1) (fun r => ((r.1, r.2, ()), ())) count_rt (fun _ _ _ => rfl) (fun r z h => by cases h; rfl) Try.func34 (by kernel_rfl) (by kernel_rfl) (by kernel_rfl) rfl rfl (by kernel_rfl) (fun args w => Sem.pv_run _ _ _ (by kernel_rfl) w) (count_all N) mixed trivial (fun z E Xc hE hX hret => trivial) (fun p => count_eq N p.1.1.1 p.1.1.2.1 p.1.1.2.2.1 p.1.2.1.1 p.1.2.1.2.1)

def eleast_S (N : Nat) (e : List (List Int)) (e2 : List Int) (e3 : Int) (a : Int) (b : Int) : Option Int :=
  idx e a fun x_1 =>
  idx e b fun x_2 =>
  (all_S N).bind fun _ =>
  (firsta_S N (e, e2, e3, x_1, x_2)).bind fun (x_3, y_4) =>
  (dfaults_S N (e, e2, e3, x_1, x_2) x_3).bind fun x_5 =>
  some x_5
noncomputable def eleast_sp (N : Nat) : List Spec := [sp_dfaults N, sp_all N, sp_firsta N]
theorem eleast_all (N : Nat) : AllP (SpecOK Try.prog) (eleast_sp N) := ⟨sp_dfaults_ok N, sp_all_ok N, sp_firsta_ok N, trivial⟩
noncomputable def eleast_c : Code := (Try.f85.body).getD .skip
noncomputable abbrev eleast_B : Body := { c := eleast_c, n := 27, res := [.tmp 6], outs := [⟨[.i .i64], []⟩], m0 := 0 }
abbrev eleast_rt : altD eleast_B.outs → Option Int := fun r => some r.1.1
abbrev eleast_st : Sta := ⟨[0, 1, 2], ⟨[.agg [.sl (.sl (.int .i64)), .sl (.int .i64), .i .i64], .i .i64, .i .i64], []⟩⟩
theorem eleast_eq (N : Nat) (e : List (List Int)) (e2 : List Int) (e3 : Int) (a : Int) (b : Int) : ev (Z := Int) Try.prog (eleast_sp N) eleast_B [] [] (some eleast_rt) 400 false [.c [0], .c [1]] (stL eleast_st (((e, e2, e3, ()), a, b, ()), ())) (stH eleast_st (((e, e2, e3, ()), a, b, ()), ())) = eleast_S N e e2 e3 a b := by kernel_rfl
noncomputable def sp_eleast (N : Nat) : Spec := { f := 85, ins := ⟨[.agg [.sl (.sl (.int .i64)), .sl (.int .i64), .i .i64], .i .i64, .i .i64], []⟩, outs := [⟨[.i .i64], []⟩], run := fun p k => (eleast_S N p.1.1.1 p.1.1.2.1 p.1.1.2.2.1 p.1.2.1 p.1.2.2.1).bind fun r => k ((r, ()), ()) }
theorem sp_eleast_ok (N : Nat) : SpecOK Try.prog (sp_eleast N) := fn_sound (B := eleast_B) (loops := []) (leaves := []) (fun p => eleast_S N p.1.1.1 p.1.1.2.1 p.1.1.2.2.1 p.1.2.1 p.1.2.2.1) (fun r => ((r, ()), ())) eleast_rt (fun _ _ _ => rfl) (fun r z h => by cases h; rfl) Try.func85 (by kernel_rfl) (by kernel_rfl) (by kernel_rfl) rfl rfl (by kernel_rfl) (fun args w => Sem.pv_run _ _ _ (by kernel_rfl) w) (eleast_all N) mixed trivial (fun z E Xc hE hX hret => trivial) (fun p => eleast_eq N p.1.1.1 p.1.1.2.1 p.1.1.2.2.1 p.1.2.1 p.1.2.2.1)

def epairs_j1 (N : Nat) (rec : Int → Int → Int → Int → (List (List Int)) → (List Int) → Int → (List (Int × Int)) → Option (Int × Int × List (List Int) × List Int × Int × (List (Int × Int)))) (a : Int) (b : Int) (u : Int) (u2 : Int) (e : List (List Int)) (e2 : List Int) (e3 : Int) (out : List (Int × Int)) : Option (Int × Int × List (List Int) × List Int × Int × (List (Int × Int))) :=
  chk (b + 1) <|
  rec a (b + 1) u u2 e e2 e3 out
def epairs_l2 (N : Nat) : Nat → Int → Int → Int → Int → (List (List Int)) → (List Int) → Int → (List (Int × Int)) → Option (Int × Int × List (List Int) × List Int × Int × (List (Int × Int)))
  | 0, _, _, _, _, _, _, _, _ => none
  | n_ + 1, a, b, u, u2, e, e2, e3, out =>
    br (decide (b < (e.length : Int)))
      ((eleast_S N e e2 e3 a b).bind fun x_1 =>
      br (decide (x_1 ≤ e3))
        (lim (out.length + [(a, b)].length) <|
        epairs_j1 N (epairs_l2 N n_) a b u u2 e e2 e3 (out ++ [(a, b)]))
        (epairs_j1 N (epairs_l2 N n_) a b u u2 e e2 e3 out))
      (some ((u, u2, e, e2, e3, out)))
def epairs_l1 (N : Nat) : Nat → Int → Int → (List (List Int)) → (List Int) → Int → (List (Int × Int)) → Option (List (Int × Int))
  | 0, _, _, _, _, _, _ => none
  | n_ + 1, u, u2, e, e2, e3, out =>
    br (decide (u2 < u))
      ((epairs_l2 N N u2 u2 u u2 e e2 e3 out).bind fun (u_2, u2_3, e_4, e2_5, e3_6, out_7) =>
      chk (u2_3 + 1) <|
      epairs_l1 N n_ u_2 (u2_3 + 1) e_4 e2_5 e3_6 out_7)
      (some (out))
def epairs_S (N : Nat) (e : List (List Int)) (e2 : List Int) (e3 : Int) : Option (List (Int × Int)) :=
  (epairs_l1 N N (e.length : Int) 0 e e2 e3 []).bind fun out_8 =>
  some out_8
noncomputable def epairs_sp (N : Nat) : List Spec := [sp_eleast N]
theorem epairs_all (N : Nat) : AllP (SpecOK Try.prog) (epairs_sp N) := ⟨sp_eleast_ok N, trivial⟩
noncomputable def epairs_c : Code := (Try.f76.body).getD .skip
noncomputable abbrev epairs_B : Body := { c := epairs_c, n := 35, res := [.tmp 2], outs := [⟨[.sl (.pair (.int .i64) (.int .i64))], []⟩], m0 := 0 }
abbrev epairs_rt : altD epairs_B.outs → Option (List (Int × Int)) := fun r => some r.1.1
abbrev epairs_l2_at : List PI := [.c [1, 1, 0, 1, 0, 0, 1, 1, 0, 0, 1, 1, 0, 0, 0, 0], .c [1, 1, 0, 1, 0, 0, 1, 1, 0, 0, 1, 1, 0, 0, 0, 1], .c [1, 1, 0, 1, 0, 0, 1, 1, 0, 0, 1, 1, 0, 0, 1], .l [1, 1, 0, 1, 0, 0, 1, 1, 0, 0, 1, 1, 0, 0], .b 2, .b 1, .c [1, 1, 0, 1, 0, 0, 1, 1, 1], .l [1, 1, 0, 1, 0, 0], .b 0, .c [1, 1, 1]]
abbrev epairs_l2_st : Sta := ⟨[1, 3, 4, 5, 8, 9], ⟨[.own 0 0, .ols 1, .i .i64, .i .i64, .i .i64, .i .i64], [.segs [.sl (.sl (.int .i64)), .sl (.int .i64), .i .i64], .lst (.pair (.int .i64) (.int .i64))]⟩⟩
abbrev epairs_l2_h (rec : Int → Int → Int → Int → (List (List Int)) → (List Int) → Int → (List (Int × Int)) → Option (Int × Int × List (List Int) × List Int × Int × (List (Int × Int)))) : Leaf (Int × Int × List (List Int) × List Int × Int × (List (Int × Int))) := ⟨epairs_l2_at, epairs_l2_st, fun p => rec p.1.2.2.1 p.1.2.2.2.1 p.1.2.2.2.2.1 p.1.2.2.2.2.2.1 p.2.1.1 p.2.1.2.1 p.2.1.2.2.1 p.2.2.1⟩
abbrev epairs_l2_e0 : Leaf (Int × Int × List (List Int) × List Int × Int × (List (Int × Int))) := ⟨[.c [1, 1, 0, 1, 0, 0, 1, 1, 1], .l [1, 1, 0, 1, 0, 0], .b 0, .c [1, 1, 1]], ⟨[1, 3, 8, 9], ⟨[.own 0 0, .ols 1, .i .i64, .i .i64], [.segs [.sl (.sl (.int .i64)), .sl (.int .i64), .i .i64], .lst (.pair (.int .i64) (.int .i64))]⟩⟩, fun p => some ((p.1.2.2.1, p.1.2.2.2.1, p.2.1.1, p.2.1.2.1, p.2.1.2.2.1, p.2.2.1))⟩
abbrev epairs_j1_at : List PI := [.c [1, 1, 0, 1, 0, 0, 1, 1, 0, 0, 1, 1, 0, 0, 1, 1], .l [1, 1, 0, 1, 0, 0, 1, 1, 0, 0, 1, 1, 0, 0], .b 2, .b 1, .c [1, 1, 0, 1, 0, 0, 1, 1, 1], .l [1, 1, 0, 1, 0, 0], .b 0, .c [1, 1, 1]]
abbrev epairs_j1_st : Sta := ⟨[1, 3, 4, 5, 8, 9], ⟨[.own 0 0, .ols 1, .i .i64, .i .i64, .i .i64, .i .i64], [.segs [.sl (.sl (.int .i64)), .sl (.int .i64), .i .i64], .lst (.pair (.int .i64) (.int .i64))]⟩⟩
abbrev epairs_j1_k (N : Nat) (rec : Int → Int → Int → Int → (List (List Int)) → (List Int) → Int → (List (Int × Int)) → Option (Int × Int × List (List Int) × List Int × Int × (List (Int × Int)))) : Leaf (Int × Int × List (List Int) × List Int × Int × (List (Int × Int))) := ⟨epairs_j1_at, epairs_j1_st, fun p => epairs_j1 N rec p.1.2.2.1 p.1.2.2.2.1 p.1.2.2.2.2.1 p.1.2.2.2.2.2.1 p.2.1.1 p.2.1.2.1 p.2.1.2.2.1 p.2.2.1⟩
theorem epairs_j1_eq (N : Nat) (rec : Int → Int → Int → Int → (List (List Int)) → (List Int) → Int → (List (Int × Int)) → Option (Int × Int × List (List Int) × List Int × Int × (List (Int × Int)))) (a : Int) (b : Int) (u : Int) (u2 : Int) (e : List (List Int)) (e2 : List Int) (e3 : Int) (out : List (Int × Int)) : ev (Z := Int × Int × List (List Int) × List Int × Int × (List (Int × Int))) Try.prog (epairs_sp N) epairs_B [] [epairs_l2_h rec, epairs_l2_e0] none 400 true epairs_j1_at (stL epairs_j1_st (((), (), a, b, u, u2, ()), ((e, e2, e3, ()), out, ()))) (stH epairs_j1_st (((), (), a, b, u, u2, ()), ((e, e2, e3, ()), out, ()))) = epairs_j1 N rec a b u u2 e e2 e3 out := by kernel_rfl
theorem epairs_j1_lf (N : Nat) (rec : Int → Int → Int → Int → (List (List Int)) → (List Int) → Int → (List (Int × Int)) → Option (Int × Int × List (List Int) × List Int × Int × (List (Int × Int)))) {z : Int × Int × List (List Int) × List Int × Int × (List (Int × Int))} {top : Bool} {E : EE} {Xc : Ctx} (hE : EOK epairs_B.m0 E) (hX : CxOK top Xc) (hrec : LeafOK Try.prog epairs_B.c epairs_B.n epairs_B.m0 E Xc z (epairs_l2_h rec)) (h0 : LeafOK Try.prog epairs_B.c epairs_B.n epairs_B.m0 E Xc z epairs_l2_e0) : LeafOK Try.prog epairs_B.c epairs_B.n epairs_B.m0 E Xc z (epairs_j1_k N rec) := leaf_of_ev (B := epairs_B) (loops := []) (leaves := [epairs_l2_h rec, epairs_l2_e0]) (epairs_all N) mixed trivial hE hX ⟨hrec, h0, trivial⟩ RetOK.no (fun p => epairs_j1_eq N rec p.1.2.2.1 p.1.2.2.2.1 p.1.2.2.2.2.1 p.1.2.2.2.2.2.1 p.2.1.1 p.2.1.2.1 p.2.1.2.2.1 p.2.2.1)
noncomputable def epairs_l2_L (N : Nat) : LoopS := { at_ := epairs_l2_at, sta := epairs_l2_st, exits := [([.c [1, 1, 0, 1, 0, 0, 1, 1, 1], .l [1, 1, 0, 1, 0, 0], .b 0, .c [1, 1, 1]], ⟨[1, 3, 8, 9], ⟨[.own 0 0, .ols 1, .i .i64, .i .i64], [.segs [.sl (.sl (.int .i64)), .sl (.int .i64), .i .i64], .lst (.pair (.int .i64) (.int .i64))]⟩⟩)], run := fun p k => (epairs_l2 N N p.1.2.2.1 p.1.2.2.2.1 p.1.2.2.2.2.1 p.1.2.2.2.2.2.1 p.2.1.1 p.2.1.2.1 p.2.1.2.2.1 p.2.2.1).bind fun e => k (.inl (((), (), e.1, e.2.1, ()), ((e.2.2.1, e.2.2.2.1, e.2.2.2.2.1, ()), e.2.2.2.2.2, ()))) }
theorem epairs_l2_eq (N n_ : Nat) (a : Int) (b : Int) (u : Int) (u2 : Int) (e : List (List Int)) (e2 : List Int) (e3 : Int) (out : List (Int × Int)) : ev (Z := Int × Int × List (List Int) × List Int × Int × (List (Int × Int))) Try.prog (epairs_sp N) epairs_B [] [epairs_l2_h (epairs_l2 N n_), epairs_l2_e0, epairs_j1_k N (epairs_l2 N n_)] none 400 true epairs_l2_at (stL epairs_l2_st (((), (), a, b, u, u2, ()), ((e, e2, e3, ()), out, ()))) (stH epairs_l2_st (((), (), a, b, u, u2, ()), ((e, e2, e3, ()), out, ()))) = epairs_l2 N (n_ + 1) a b u u2 e e2 e3 out := by kernel_rfl
theorem epairs_l2_ok (N : Nat) {top : Bool} : LoopOK Try.prog epairs_B.c epairs_B.n epairs_B.m0 top (epairs_l2_L N) := loop_of_ev (Z := Int × Int × List (List Int) × List Int × Int × (List (Int × Int))) (N := N) (fun m p => epairs_l2 N m p.1.2.2.1 p.1.2.2.2.1 p.1.2.2.2.2.1 p.1.2.2.2.2.2.1 p.2.1.1 p.2.1.2.1 p.2.1.2.2.1 p.2.2.1) (fun e => .inl (((), (), e.1, e.2.1, ()), ((e.2.2.1, e.2.2.2.1, e.2.2.2.2.1, ()), e.2.2.2.2.2, ()))) (fun _ _ _ => rfl) (fun _ => rfl) (fun m z E Xc hE hX hrec hx => leaf_of_ev (B := epairs_B) (loops := []) (leaves := [epairs_l2_h (epairs_l2 N m), epairs_l2_e0, epairs_j1_k N (epairs_l2 N m)]) (epairs_all N) mixed trivial hE hX ⟨hrec, (fun p hp => by obtain rfl := Option.some.inj hp; exact hx), epairs_j1_lf N _ hE hX hrec (fun p hp => by obtain rfl := Option.some.inj hp; exact hx), trivial⟩ RetOK.no (fun p => epairs_l2_eq N m p.1.2.2.1 p.1.2.2.2.1 p.1.2.2.2.2.1 p.1.2.2.2.2.2.1 p.2.1.1 p.2.1.2.1 p.2.1.2.2.1 p.2.2.1))
abbrev epairs_l1_at : List PI := [.c [1, 1, 0, 1, 0, 0, 0], .c [1, 1, 0, 1, 0, 0, 1], .l [1, 1, 0, 1, 0, 0], .b 0, .c [1, 1, 1]]
abbrev epairs_l1_st : Sta := ⟨[1, 3, 8, 9], ⟨[.own 0 0, .ols 1, .i .i64, .i .i64], [.segs [.sl (.sl (.int .i64)), .sl (.int .i64), .i .i64], .lst (.pair (.int .i64) (.int .i64))]⟩⟩
abbrev epairs_l1_h (rec : Int → Int → (List (List Int)) → (List Int) → Int → (List (Int × Int)) → Option (List (Int × Int))) : Leaf (List (Int × Int)) := ⟨epairs_l1_at, epairs_l1_st, fun p => rec p.1.2.2.1 p.1.2.2.2.1 p.2.1.1 p.2.1.2.1 p.2.1.2.2.1 p.2.2.1⟩
abbrev epairs_l1_e0 : Leaf (List (Int × Int)) := ⟨[.c [1, 1, 1, 0], .c [1, 1, 1, 1]], ⟨[3], ⟨[.ols 0], [.lst (.pair (.int .i64) (.int .i64))]⟩⟩, fun p => some (p.2.1)⟩
noncomputable def epairs_l1_L (N : Nat) : LoopS := { at_ := epairs_l1_at, sta := epairs_l1_st, exits := [([.c [1, 1, 1, 0], .c [1, 1, 1, 1]], ⟨[3], ⟨[.ols 0], [.lst (.pair (.int .i64) (.int .i64))]⟩⟩)], run := fun p k => (epairs_l1 N N p.1.2.2.1 p.1.2.2.2.1 p.2.1.1 p.2.1.2.1 p.2.1.2.2.1 p.2.2.1).bind fun e => k (.inl (((), ()), (e, ()))) }
theorem epairs_l1_eq (N n_ : Nat) (u : Int) (u2 : Int) (e : List (List Int)) (e2 : List Int) (e3 : Int) (out : List (Int × Int)) : ev (Z := (List (Int × Int))) Try.prog (epairs_sp N) epairs_B [epairs_l2_L N] [epairs_l1_h (epairs_l1 N n_), epairs_l1_e0] none 400 true epairs_l1_at (stL epairs_l1_st (((), (), u, u2, ()), ((e, e2, e3, ()), out, ()))) (stH epairs_l1_st (((), (), u, u2, ()), ((e, e2, e3, ()), out, ()))) = epairs_l1 N (n_ + 1) u u2 e e2 e3 out := by kernel_rfl
theorem epairs_l1_ok (N : Nat) {top : Bool} : LoopOK Try.prog epairs_B.c epairs_B.n epairs_B.m0 top (epairs_l1_L N) := loop_of_ev (Z := (List (Int × Int))) (N := N) (fun m p => epairs_l1 N m p.1.2.2.1 p.1.2.2.2.1 p.2.1.1 p.2.1.2.1 p.2.1.2.2.1 p.2.2.1) (fun e => .inl (((), ()), (e, ()))) (fun _ _ _ => rfl) (fun _ => rfl) (fun m z E Xc hE hX hrec hx => leaf_of_ev (B := epairs_B) (loops := [epairs_l2_L N]) (leaves := [epairs_l1_h (epairs_l1 N m), epairs_l1_e0]) (epairs_all N) mixed ⟨epairs_l2_ok N, trivial⟩ hE hX ⟨hrec, (fun p hp => by obtain rfl := Option.some.inj hp; exact hx), trivial⟩ RetOK.no (fun p => epairs_l1_eq N m p.1.2.2.1 p.1.2.2.2.1 p.2.1.1 p.2.1.2.1 p.2.1.2.2.1 p.2.2.1))
abbrev epairs_st : Sta := ⟨[0], ⟨[.agg [.sl (.sl (.int .i64)), .sl (.int .i64), .i .i64]], []⟩⟩
theorem epairs_eq (N : Nat) (e : List (List Int)) (e2 : List Int) (e3 : Int) : ev (Z := (List (Int × Int))) Try.prog (epairs_sp N) epairs_B [epairs_l2_L N, epairs_l1_L N] [] (some epairs_rt) 400 false [.c [0], .c [1]] (stL epairs_st (((e, e2, e3, ()), ()), ())) (stH epairs_st (((e, e2, e3, ()), ()), ())) = epairs_S N e e2 e3 := by kernel_rfl
noncomputable def sp_epairs (N : Nat) : Spec := { f := 76, ins := ⟨[.agg [.sl (.sl (.int .i64)), .sl (.int .i64), .i .i64]], []⟩, outs := [⟨[.sl (.pair (.int .i64) (.int .i64))], []⟩], run := fun p k => (epairs_S N p.1.1.1 p.1.1.2.1 p.1.1.2.2.1).bind fun r => k ((r, ()), ()) }
theorem sp_epairs_ok (N : Nat) : SpecOK Try.prog (sp_epairs N) := fn_sound (B := epairs_B) (loops := [epairs_l2_L N, epairs_l1_L N]) (leaves := []) (fun p => epairs_S N p.1.1.1 p.1.1.2.1 p.1.1.2.2.1) (fun r => ((r, ()), ())) epairs_rt (fun _ _ _ => rfl) (fun r z h => by cases h; rfl) Try.func76 (by kernel_rfl) (by kernel_rfl) (by kernel_rfl) rfl rfl (by kernel_rfl) (fun args w => Sem.pv_run _ _ _ (by kernel_rfl) w) (epairs_all N) mixed ⟨epairs_l2_ok N, epairs_l1_ok N, trivial⟩ (fun z E Xc hE hX hret => trivial) (fun p => epairs_eq N p.1.1.1 p.1.1.2.1 p.1.1.2.2.1)

def pairs_S (N : Nat) (e : List (List Int)) (e2 : List Int) (e3 : Int) : Option ((List (Int × Int)) × Int) :=
  (check_S N e e2 e3).bind fun x_1 =>
  br (!decide (x_1 = 0))
    (some ([], x_1))
    ((epairs_S N e e2 e3).bind fun x_2 =>
    some (x_2, 0))
noncomputable def pairs_sp (N : Nat) : List Spec := [sp_check N, sp_epairs N]
theorem pairs_all (N : Nat) : AllP (SpecOK Try.prog) (pairs_sp N) := ⟨sp_check_ok N, sp_epairs_ok N, trivial⟩
noncomputable def pairs_c : Code := (Try.f23.body).getD .skip
noncomputable abbrev pairs_B : Body := { c := pairs_c, n := 12, res := [.tmp 2, .tmp 3], outs := [⟨[.sl (.pair (.int .i64) (.int .i64)), .i .i64], []⟩], m0 := 0 }
abbrev pairs_rt : altD pairs_B.outs → Option ((List (Int × Int)) × Int) := fun r => some (r.1.1, r.1.2.1)
abbrev pairs_st : Sta := ⟨[0], ⟨[.agg [.sl (.sl (.int .i64)), .sl (.int .i64), .i .i64]], []⟩⟩
theorem pairs_eq (N : Nat) (e : List (List Int)) (e2 : List Int) (e3 : Int) : ev (Z := (List (Int × Int)) × Int) Try.prog (pairs_sp N) pairs_B [] [] (some pairs_rt) 400 false [.c [0], .c [1]] (stL pairs_st (((e, e2, e3, ()), ()), ())) (stH pairs_st (((e, e2, e3, ()), ()), ())) = pairs_S N e e2 e3 := by kernel_rfl
noncomputable def sp_pairs (N : Nat) : Spec := { f := 23, ins := ⟨[.agg [.sl (.sl (.int .i64)), .sl (.int .i64), .i .i64]], []⟩, outs := [⟨[.sl (.pair (.int .i64) (.int .i64)), .i .i64], []⟩], run := fun p k => (pairs_S N p.1.1.1 p.1.1.2.1 p.1.1.2.2.1).bind fun r => k ((r.1, r.2, ()), ()) }
theorem sp_pairs_ok (N : Nat) : SpecOK Try.prog (sp_pairs N) := fn_sound (B := pairs_B) (loops := []) (leaves := []) (fun p => pairs_S N p.1.1.1 p.1.1.2.1 p.1.1.2.2.1) (fun r => ((r.1, r.2, ()), ())) pairs_rt (fun _ _ _ => rfl) (fun r z h => by cases h; rfl) Try.func23 (by kernel_rfl) (by kernel_rfl) (by kernel_rfl) rfl rfl (by kernel_rfl) (fun args w => Sem.pv_run _ _ _ (by kernel_rfl) w) (pairs_all N) mixed trivial (fun z E Xc hE hX hret => trivial) (fun p => pairs_eq N p.1.1.1 p.1.1.2.1 p.1.1.2.2.1)

def sure1_S (N : Nat) (heard : Int) (q : Int) (q2 : Int) (u : Int) (u2 : Int) : Option Bool :=
  br (!decide (heard = u))
    (some true)
    (some (decide (q = u2)))
noncomputable def sure1_sp (N : Nat) : List Spec := []
theorem sure1_all (N : Nat) : AllP (SpecOK Try.prog) (sure1_sp N) := trivial
noncomputable def sure1_c : Code := (Try.f89.body).getD .skip
noncomputable abbrev sure1_B : Body := { c := sure1_c, n := 16, res := [.tmp 6], outs := [⟨[.b], []⟩], m0 := 0 }
abbrev sure1_rt : altD sure1_B.outs → Option Bool := fun r => some r.1.1
abbrev sure1_st : Sta := ⟨[0, 1, 2, 3], ⟨[.i .i64, .agg [.i .i64, .i .i64], .fe (.int .i64), .fe (.int .i64)], []⟩⟩
theorem sure1_eq (N : Nat) (heard : Int) (q : Int) (q2 : Int) (u : Int) (u2 : Int) : ev (Z := Bool) Try.prog (sure1_sp N) sure1_B [] [] (some sure1_rt) 400 false [.c [0], .c [1]] (stL sure1_st ((heard, (q, q2, ()), u, u2, ()), ())) (stH sure1_st ((heard, (q, q2, ()), u, u2, ()), ())) = sure1_S N heard q q2 u u2 := by kernel_rfl
noncomputable def sp_sure1 (N : Nat) : Spec := { f := 89, ins := ⟨[.i .i64, .agg [.i .i64, .i .i64], .fe (.int .i64), .fe (.int .i64)], []⟩, outs := [⟨[.b], []⟩], run := fun p k => (sure1_S N p.1.1 p.1.2.1.1 p.1.2.1.2.1 p.1.2.2.1 p.1.2.2.2.1).bind fun r => k ((r, ()), ()) }
theorem sp_sure1_ok (N : Nat) : SpecOK Try.prog (sp_sure1 N) := fn_sound (B := sure1_B) (loops := []) (leaves := []) (fun p => sure1_S N p.1.1 p.1.2.1.1 p.1.2.1.2.1 p.1.2.2.1 p.1.2.2.2.1) (fun r => ((r, ()), ())) sure1_rt (fun _ _ _ => rfl) (fun r z h => by cases h; rfl) Try.func89 (by kernel_rfl) (by kernel_rfl) (by kernel_rfl) rfl rfl (by kernel_rfl) (fun args w => Sem.pv_run _ _ _ (by kernel_rfl) w) (sure1_all N) mixed trivial (fun z E Xc hE hX hret => trivial) (fun p => sure1_eq N p.1.1 p.1.2.1.1 p.1.2.1.2.1 p.1.2.2.1 p.1.2.2.2.1)

noncomputable abbrev rests_self (self : Int → Int → Int → (((List (List Int)) × ((List Int) × (Int × ((List Int) × (List Int)))))) → Int → Int → (((List (List Int)) × ((List Int) × (Int × ((List Int) × (List Int)))))) → Int → Int → (List ((Int × (Int × Int)) × (Int × Int))) → Option (Int × Int × ((List (List Int)) × ((List Int) × (Int × ((List Int) × (List Int))))) × Int × Int × (List ((Int × (Int × Int)) × (Int × Int))))) : Spec := { f := 121, ins := ⟨[.agg [.i .i64, .i .i64, .i .i64], .fz [.fe (.pair (.sl (.sl (.int .i64))) (.pair (.sl (.int .i64)) (.pair (.int .i64) (.pair (.sl (.int .i64)) (.sl (.int .i64))))))], .fz [.mp 1], .fz [.fn 89 [] [.fe (.int .i64), .fe (.int .i64)]], .own 0 0], [.segs [.fn 121 [] [.fz [.fe (.pair (.sl (.sl (.int .i64))) (.pair (.sl (.int .i64)) (.pair (.int .i64) (.pair (.sl (.int .i64)) (.sl (.int .i64))))))], .fz [.mp 1], .fz [.fn 89 [] [.fe (.int .i64), .fe (.int .i64)]], .own 0 0]], .map (.pair (.int .i64) (.pair (.int .i64) (.int .i64))) (.pair (.int .i64) (.int .i64))]⟩, outs := [⟨[.agg [.i .i64, .i .i64]], [.segs [.fn 121 [] [.fz [.fe (.pair (.sl (.sl (.int .i64))) (.pair (.sl (.int .i64)) (.pair (.int .i64) (.pair (.sl (.int .i64)) (.sl (.int .i64))))))], .fz [.mp 1], .fz [.fn 89 [] [.fe (.int .i64), .fe (.int .i64)]], .own 0 0]], .map (.pair (.int .i64) (.pair (.int .i64) (.int .i64))) (.pair (.int .i64) (.int .i64))]⟩], run := fun p k => (self p.1.1.1 p.1.1.2.1 p.1.1.2.2.1 p.1.2.1.1 p.1.2.2.2.1.1.2.1 p.1.2.2.2.1.1.2.2.1 p.2.1.1.2.1.1 p.2.1.1.2.2.2.1.1.2.1 p.2.1.1.2.2.2.1.1.2.2.1 p.2.2.1).bind fun r => k (((r.1, r.2.1, ()), ()), ((((), ((r.2.2.1, ()), ((), ()), (((), (r.2.2.2.1, r.2.2.2.2.1, ())), ()), (), ())), ()), r.2.2.2.2.2, ())) }
def rests_l1_b (N : Nat) (self : Int → Int → Int → (((List (List Int)) × ((List Int) × (Int × ((List Int) × (List Int)))))) → Int → Int → (((List (List Int)) × ((List Int) × (Int × ((List Int) × (List Int)))))) → Int → Int → (List ((Int × (Int × Int)) × (Int × Int))) → Option (Int × Int × ((List (List Int)) × ((List Int) × (Int × ((List Int) × (List Int))))) × Int × Int × (List ((Int × (Int × Int)) × (Int × Int))))) (rec : (((List (List Int)) × ((List Int) × (Int × ((List Int) × (List Int)))))) → Int → Int → (List ((Int × (Int × Int)) × (Int × Int))) → Int → Int → Int → Int → Int → Int → Int → Option (((List (List Int)) × ((List Int) × (Int × ((List Int) × (List Int))))) × Int × Int × (List ((Int × (Int × Int)) × (Int × Int))) × Int × Int × Int × Int × Int × Int × Int)) (u : Int) (u2 : Int) (u3 : (Int × (Int × Int))) (u4 : ((List (List Int)) × ((List Int) × (Int × ((List Int) × (List Int)))))) (u' : Int) (u2' : Int) (g' : ((List (List Int)) × ((List Int) × (Int × ((List Int) × (List Int)))))) (g2' : Int) (g3' : Int) (g4' : List ((Int × (Int × Int)) × (Int × Int))) (x' : Int) (x2' : Int) (x3' : Int) (g5' : Int) (g6' : Int) (best' : Int) (best2' : Int) (p' : Int) (p2' : Int) (y' : Int) (y2' : Int) (y3' : Int) : Option (((List (List Int)) × ((List Int) × (Int × ((List Int) × (List Int))))) × Int × Int × (List ((Int × (Int × Int)) × (Int × Int))) × Int × Int × Int × Int × Int × Int × Int) :=
  (sure1_S N x' p' p2' u' u2').bind fun x_3 =>
  br (!x_3)
    (rec g' g2' g3' g4' x' x2' x3' g5' g6' best' best2')
    ((self y' y2' y3' g' g2' g3' g' g2' g3' g4').bind fun (x_4, y_5, y_6, y_7, y_8, y_9) =>
    br (decide (0 ≤ x_4))
      (br (!decide (p' = 3))
        (chk (x_4 + 1) <|
        br (decide (best' < (x_4 + 1)))
          (rec y_6 y_7 y_8 y_9 x' x2' x3' g5' g6' (x_4 + 1) y_5)
          (br (decide ((x_4 + 1) = best'))
            (chk (best2' + y_5) <|
            rec y_6 y_7 y_8 y_9 x' x2' x3' g5' g6' best' (best2' + y_5))
            (rec y_6 y_7 y_8 y_9 x' x2' x3' g5' g6' best' best2')))
        (br (decide (best' < x_4))
          (rec y_6 y_7 y_8 y_9 x' x2' x3' g5' g6' x_4 y_5)
          (br (decide (x_4 = best'))
            (chk (best2' + y_5) <|
            rec y_6 y_7 y_8 y_9 x' x2' x3' g5' g6' best' (best2' + y_5))
            (rec y_6 y_7 y_8 y_9 x' x2' x3' g5' g6' best' best2'))))
      (br (decide (best' < x_4))
        (rec y_6 y_7 y_8 y_9 x' x2' x3' g5' g6' x_4 y_5)
        (br (decide (x_4 = best'))
          (chk (best2' + y_5) <|
          rec y_6 y_7 y_8 y_9 x' x2' x3' g5' g6' best' (best2' + y_5))
          (rec y_6 y_7 y_8 y_9 x' x2' x3' g5' g6' best' best2'))))
def rests_l1 (N : Nat) (self : Int → Int → Int → (((List (List Int)) × ((List Int) × (Int × ((List Int) × (List Int)))))) → Int → Int → (((List (List Int)) × ((List Int) × (Int × ((List Int) × (List Int)))))) → Int → Int → (List ((Int × (Int × Int)) × (Int × Int))) → Option (Int × Int × ((List (List Int)) × ((List Int) × (Int × ((List Int) × (List Int))))) × Int × Int × (List ((Int × (Int × Int)) × (Int × Int))))) : List Move → Int → Int → ((Int × (Int × Int))) → (((List (List Int)) × ((List Int) × (Int × ((List Int) × (List Int)))))) → (((List (List Int)) × ((List Int) × (Int × ((List Int) × (List Int)))))) → Int → Int → (List ((Int × (Int × Int)) × (Int × Int))) → Int → Int → Int → Int → Int → Int → Int → Option (((List (List Int)) × ((List Int) × (Int × ((List Int) × (List Int))))) × Int × Int × (List ((Int × (Int × Int)) × (Int × Int))) × Int × Int × Int × Int × Int × Int × Int)
  | [], u, u2, u3, u4, g, g2, g3, g4, x, x2, x3, g5, g6, best, best2 =>
    some ((g, g2, g3, g4, x, x2, x3, g5, g6, best, best2))
  | e :: es, u, u2, u3, u4, g, g2, g3, g4, x, x2, x3, g5, g6, best, best2 =>
    rests_l1_b N self (fun g_ g2_ g3_ g4_ x_ x2_ x3_ g5_ g6_ best_ best2_ => rests_l1 N self es u u2 u3 u4 g_ g2_ g3_ g4_ x_ x2_ x3_ g5_ g6_ best_ best2_) u u2 u3 u4 u u2 g g2 g3 g4 x x2 x3 g5 g6 best best2 e.1.1 e.1.2.1 e.2.1.1 e.2.1.2.1 e.2.1.2.2.1
def rests_S (N : Nat) (self : Int → Int → Int → (((List (List Int)) × ((List Int) × (Int × ((List Int) × (List Int)))))) → Int → Int → (((List (List Int)) × ((List Int) × (Int × ((List Int) × (List Int)))))) → Int → Int → (List ((Int × (Int × Int)) × (Int × Int))) → Option (Int × Int × ((List (List Int)) × ((List Int) × (Int × ((List Int) × (List Int))))) × Int × Int × (List ((Int × (Int × Int)) × (Int × Int))))) (x : Int) (x2 : Int) (x3 : Int) (u : ((List (List Int)) × ((List Int) × (Int × ((List Int) × (List Int)))))) (u2 : Int) (u3 : Int) (g : ((List (List Int)) × ((List Int) × (Int × ((List Int) × (List Int)))))) (g2 : Int) (g3 : Int) (g4 : List ((Int × (Int × Int)) × (Int × Int))) : Option (Int × Int × ((List (List Int)) × ((List Int) × (Int × ((List Int) × (List Int))))) × Int × Int × (List ((Int × (Int × Int)) × (Int × Int)))) :=
  br (decide (x = (u.2.1.length : Int)))
    (some (0, 1, g, g2, g3, g4))
    (br ((g4.find? fun y => Ty.beq (.pair (.int .i64) (.pair (.int .i64) (.int .i64))) y.1 (x, x2, x3)).isSome)
      (some ((((g4.find? fun y => Ty.beq (.pair (.int .i64) (.pair (.int .i64) (.int .i64))) y.1 (x, x2, x3)).map (·.2)).getD (Ty.dflt (.pair (.int .i64) (.int .i64)))).1, (((g4.find? fun y => Ty.beq (.pair (.int .i64) (.pair (.int .i64) (.int .i64))) y.1 (x, x2, x3)).map (·.2)).getD (Ty.dflt (.pair (.int .i64) (.int .i64)))).2, g, g2, g3, g4))
      ((next_S N u x x2 x3).bind fun (x_1, y_2) =>
      ((nextR x_1 y_2).bind fun es => rests_l1 N self es u2 u3 x_1 y_2 g g2 g3 g4 x x2 x3 0 0 (-1) 0).bind fun (g_10, g2_11, g3_12, g4_13, x_14, x2_15, x3_16, g5_17, g6_18, best_19, best2_20) =>
      some (best_19, best2_20, g_10, g2_11, g3_12, (((x_14, x2_15, x3_16), (best_19, best2_20)) :: g4_13))))
noncomputable def rests_sp (N : Nat) (self : Int → Int → Int → (((List (List Int)) × ((List Int) × (Int × ((List Int) × (List Int)))))) → Int → Int → (((List (List Int)) × ((List Int) × (Int × ((List Int) × (List Int)))))) → Int → Int → (List ((Int × (Int × Int)) × (Int × Int))) → Option (Int × Int × ((List (List Int)) × ((List Int) × (Int × ((List Int) × (List Int))))) × Int × Int × (List ((Int × (Int × Int)) × (Int × Int))))) : List Spec := [sp_next N, sp_sure1 N, rests_self self]
theorem rests_all (N : Nat) (self : Int → Int → Int → (((List (List Int)) × ((List Int) × (Int × ((List Int) × (List Int)))))) → Int → Int → (((List (List Int)) × ((List Int) × (Int × ((List Int) × (List Int)))))) → Int → Int → (List ((Int × (Int × Int)) × (Int × Int))) → Option (Int × Int × ((List (List Int)) × ((List Int) × (Int × ((List Int) × (List Int))))) × Int × Int × (List ((Int × (Int × Int)) × (Int × Int))))) (hself : SpecOK Try.prog (rests_self self)) : AllP (SpecOK Try.prog) (rests_sp N self) := ⟨sp_next_ok N, sp_sure1_ok N, hself, trivial⟩
noncomputable def rests_c : Code := (Try.f121.body).getD .skip
noncomputable abbrev rests_B : Body := { c := rests_c, n := 82, res := [.cell 6 129], outs := [⟨[.agg [.i .i64, .i .i64]], [.segs [.fn 121 [] [.fz [.fe (.pair (.sl (.sl (.int .i64))) (.pair (.sl (.int .i64)) (.pair (.int .i64) (.pair (.sl (.int .i64)) (.sl (.int .i64))))))], .fz [.mp 1], .fz [.fn 89 [] [.fe (.int .i64), .fe (.int .i64)]], .own 0 0]], .map (.pair (.int .i64) (.pair (.int .i64) (.int .i64))) (.pair (.int .i64) (.int .i64))]⟩], m0 := 2 }
abbrev rests_rt : altD rests_B.outs → Option (Int × Int × ((List (List Int)) × ((List Int) × (Int × ((List Int) × (List Int))))) × Int × Int × (List ((Int × (Int × Int)) × (Int × Int)))) := fun r => some (r.1.1.1, r.1.1.2.1, r.2.1.1.2.1.1, r.2.1.1.2.2.2.1.1.2.1, r.2.1.1.2.2.2.1.1.2.2.1, r.2.2.1)
abbrev rests_l1_st : Sta := ⟨[2, 3, 4, 5, 6, 9, 34], ⟨[.fz [.mp 1], .fz [.fn 89 [] [.fe (.int .i64), .fe (.int .i64)]], .own 0 0, .own 2 0, .own 3 0, .own 4 0, .fn 122 [] [.fe (.pair (.int .i64) (.pair (.int .i64) (.int .i64))), .fe (.ptr (.pair (.sl (.sl (.int .i64))) (.pair (.sl (.int .i64)) (.pair (.int .i64) (.pair (.sl (.int .i64)) (.sl (.int .i64)))))))]], [.segs [.fn 121 [] [.fz [.fe (.pair (.sl (.sl (.int .i64))) (.pair (.sl (.int .i64)) (.pair (.int .i64) (.pair (.sl (.int .i64)) (.sl (.int .i64))))))], .fz [.mp 1], .fz [.fn 89 [] [.fe (.int .i64), .fe (.int .i64)]], .own 0 0]], .map (.pair (.int .i64) (.pair (.int .i64) (.int .i64))) (.pair (.int .i64) (.int .i64)), .segs [.i .i64, .i .i64, .i .i64], .segs [.i .i64, .i .i64], .segs [.i .i64, .i .i64]]⟩⟩
abbrev rests_l1_stA : Sta := ⟨[3, 4, 5, 6, 9, 10, 11], ⟨[.fz [.fn 89 [] [.fe (.int .i64), .fe (.int .i64)]], .own 0 0, .own 2 0, .own 3 0, .own 4 0, .own 5 0, .own 6 0], [.segs [.fn 121 [] [.fz [.fe (.pair (.sl (.sl (.int .i64))) (.pair (.sl (.int .i64)) (.pair (.int .i64) (.pair (.sl (.int .i64)) (.sl (.int .i64))))))], .fz [.mp 1], .fz [.fn 89 [] [.fe (.int .i64), .fe (.int .i64)]], .own 0 0]], .map (.pair (.int .i64) (.pair (.int .i64) (.int .i64))) (.pair (.int .i64) (.int .i64)), .segs [.i .i64, .i .i64, .i .i64], .segs [.i .i64, .i .i64], .segs [.i .i64, .i .i64], .segs [.i .i64, .i .i64], .segs [.i .i64, .i .i64, .i .i64]]⟩⟩
abbrev rests_l1_e0 : Leaf (((List (List Int)) × ((List Int) × (Int × ((List Int) × (List Int))))) × Int × Int × (List ((Int × (Int × Int)) × (Int × Int))) × Int × Int × Int × Int × Int × Int × Int) := ⟨[.c [1, 1, 1, 1, 1, 0], .c [1, 1, 1, 1, 1, 1]], ⟨[2, 5, 6, 9], ⟨[.fz [.mp 1], .own 2 0, .own 3 0, .own 4 0], [.segs [.fn 121 [] [.fz [.fe (.pair (.sl (.sl (.int .i64))) (.pair (.sl (.int .i64)) (.pair (.int .i64) (.pair (.sl (.int .i64)) (.sl (.int .i64))))))], .fz [.mp 1], .fz [.fn 89 [] [.fe (.int .i64), .fe (.int .i64)]], .own 0 0]], .map (.pair (.int .i64) (.pair (.int .i64) (.int .i64))) (.pair (.int .i64) (.int .i64)), .segs [.i .i64, .i .i64, .i .i64], .segs [.i .i64, .i .i64], .segs [.i .i64, .i .i64]]⟩⟩, fun p => some ((p.2.1.1.2.1.1, p.2.1.1.2.2.2.1.1.2.1, p.2.1.1.2.2.2.1.1.2.2.1, p.2.2.1, p.2.2.2.1.1, p.2.2.2.1.2.1, p.2.2.2.1.2.2.1, p.2.2.2.2.1.1, p.2.2.2.2.1.2.1, p.2.2.2.2.2.1.1, p.2.2.2.2.2.1.2.1))⟩
noncomputable def rests_l1_L (N : Nat) (self : Int → Int → Int → (((List (List Int)) × ((List Int) × (Int × ((List Int) × (List Int)))))) → Int → Int → (((List (List Int)) × ((List Int) × (Int × ((List Int) × (List Int)))))) → Int → Int → (List ((Int × (Int × Int)) × (Int × Int))) → Option (Int × Int × ((List (List Int)) × ((List Int) × (Int × ((List Int) × (List Int))))) × Int × Int × (List ((Int × (Int × Int)) × (Int × Int))))) : LoopS := { at_ := [.c [1, 1, 1, 1, 0, 1, 0], .b 0, .c [1, 1, 1, 1, 1]], sta := rests_l1_st, exits := [([.c [1, 1, 1, 1, 1, 0], .c [1, 1, 1, 1, 1, 1]], ⟨[2, 5, 6, 9], ⟨[.fz [.mp 1], .own 2 0, .own 3 0, .own 4 0], [.segs [.fn 121 [] [.fz [.fe (.pair (.sl (.sl (.int .i64))) (.pair (.sl (.int .i64)) (.pair (.int .i64) (.pair (.sl (.int .i64)) (.sl (.int .i64))))))], .fz [.mp 1], .fz [.fn 89 [] [.fe (.int .i64), .fe (.int .i64)]], .own 0 0]], .map (.pair (.int .i64) (.pair (.int .i64) (.int .i64))) (.pair (.int .i64) (.int .i64)), .segs [.i .i64, .i .i64, .i .i64], .segs [.i .i64, .i .i64], .segs [.i .i64, .i .i64]]⟩⟩)], run := fun p k => ((nextR p.1.2.2.2.2.2.2.1.2.1 p.1.2.2.2.2.2.2.1.2.2.1).bind fun es => rests_l1 N self es p.1.2.1.1.2.1 p.1.2.1.1.2.2.1 p.1.2.2.2.2.2.2.1.2.1 p.1.2.2.2.2.2.2.1.2.2.1 p.2.1.1.2.1.1 p.2.1.1.2.2.2.1.1.2.1 p.2.1.1.2.2.2.1.1.2.2.1 p.2.2.1 p.2.2.2.1.1 p.2.2.2.1.2.1 p.2.2.2.1.2.2.1 p.2.2.2.2.1.1 p.2.2.2.2.1.2.1 p.2.2.2.2.2.1.1 p.2.2.2.2.2.1.2.1).bind fun e => k (.inl ((((), ()), (), (), (), ()), ((((), ((e.1, ()), ((), ()), (((), (e.2.1, e.2.2.1, ())), ()), (), ())), ()), e.2.2.2.1, (e.2.2.2.2.1, e.2.2.2.2.2.1, e.2.2.2.2.2.2.1, ()), (e.2.2.2.2.2.2.2.1, e.2.2.2.2.2.2.2.2.1, ()), (e.2.2.2.2.2.2.2.2.2.1, e.2.2.2.2.2.2.2.2.2.2, ()), ()))) }
noncomputable abbrev rests_l1_Bk : Body := { c := rests_c, n := rests_B.n, res := rests_B.res, outs := rests_B.outs, m0 := 5 }
theorem rests_l1_end (N : Nat) (self : Int → Int → Int → (((List (List Int)) × ((List Int) × (Int × ((List Int) × (List Int)))))) → Int → Int → (((List (List Int)) × ((List Int) × (Int × ((List Int) × (List Int)))))) → Int → Int → (List ((Int × (Int × Int)) × (Int × Int))) → Option (Int × Int × ((List (List Int)) × ((List Int) × (Int × ((List Int) × (List Int))))) × Int × Int × (List ((Int × (Int × Int)) × (Int × Int))))) (u : Int) (u2 : Int) (u3 : (Int × (Int × Int))) (u4 : ((List (List Int)) × ((List Int) × (Int × ((List Int) × (List Int)))))) (g : ((List (List Int)) × ((List Int) × (Int × ((List Int) × (List Int)))))) (g2 : Int) (g3 : Int) (g4 : List ((Int × (Int × Int)) × (Int × Int))) (x : Int) (x2 : Int) (x3 : Int) (g5 : Int) (g6 : Int) (best : Int) (best2 : Int) : ev (Z := ((List (List Int)) × ((List Int) × (Int × ((List Int) × (List Int))))) × Int × Int × (List ((Int × (Int × Int)) × (Int × Int))) × Int × Int × Int × Int × Int × Int × Int) Try.prog (rests_sp N self) rests_B [] [rests_l1_e0] none 400 false (nrm rests_B.c 99 [.b 0, .c [1, 1, 1, 1, 1]]) (stL rests_l1_st ((((), ()), (((), (u, u2, ())), ()), (), (), (), (), ((), (u3, u4, ())), ()), ((((), ((g, ()), ((), ()), (((), (g2, g3, ())), ()), (), ())), ()), g4, (x, x2, x3, ()), (g5, g6, ()), (best, best2, ()), ()))) (stH rests_l1_st ((((), ()), (((), (u, u2, ())), ()), (), (), (), (), ((), (u3, u4, ())), ()), ((((), ((g, ()), ((), ()), (((), (g2, g3, ())), ()), (), ())), ()), g4, (x, x2, x3, ()), (g5, g6, ()), (best, best2, ()), ()))) = rests_l1 N self [] u u2 u3 u4 g g2 g3 g4 x x2 x3 g5 g6 best best2 := by kernel_rfl
theorem rests_l1_asg (N : Nat) (self : Int → Int → Int → (((List (List Int)) × ((List Int) × (Int × ((List Int) × (List Int)))))) → Int → Int → (((List (List Int)) × ((List Int) × (Int × ((List Int) × (List Int)))))) → Int → Int → (List ((Int × (Int × Int)) × (Int × Int))) → Option (Int × Int × ((List (List Int)) × ((List Int) × (Int × ((List Int) × (List Int))))) × Int × Int × (List ((Int × (Int × Int)) × (Int × Int))))) (e : Move) (es : List Move) (u : Int) (u2 : Int) (u3 : (Int × (Int × Int))) (u4 : ((List (List Int)) × ((List Int) × (Int × ((List Int) × (List Int)))))) (g : ((List (List Int)) × ((List Int) × (Int × ((List Int) × (List Int)))))) (g2 : Int) (g3 : Int) (g4 : List ((Int × (Int × Int)) × (Int × Int))) (x : Int) (x2 : Int) (x3 : Int) (g5 : Int) (g6 : Int) (best : Int) (best2 : Int) : ev (Z := ((List (List Int)) × ((List Int) × (Int × ((List Int) × (List Int))))) × Int × Int × (List ((Int × (Int × Int)) × (Int × Int))) × Int × Int × Int × Int × Int × Int × Int) Try.prog (rests_sp N self) rests_l1_Bk [] [⟨[.r, .c [1, 1, 1, 1, 0, 1, 0, 1]], rests_l1_stA, fun p => rests_l1_b N self (fun g_ g2_ g3_ g4_ x_ x2_ x3_ g5_ g6_ best_ best2_ => rests_l1 N self es u u2 u3 u4 g_ g2_ g3_ g4_ x_ x2_ x3_ g5_ g6_ best_ best2_) u u2 u3 u4 p.1.1.1.2.1 p.1.1.1.2.2.1 p.2.1.1.2.1.1 p.2.1.1.2.2.2.1.1.2.1 p.2.1.1.2.2.2.1.1.2.2.1 p.2.2.1 p.2.2.2.1.1 p.2.2.2.1.2.1 p.2.2.2.1.2.2.1 p.2.2.2.2.1.1 p.2.2.2.2.1.2.1 p.2.2.2.2.2.1.1 p.2.2.2.2.2.1.2.1 p.2.2.2.2.2.2.1.1 p.2.2.2.2.2.2.1.2.1 p.2.2.2.2.2.2.2.1.1 p.2.2.2.2.2.2.2.1.2.1 p.2.2.2.2.2.2.2.1.2.2.1⟩] none 400 false (nrm rests_B.c 99 [.c [1, 1, 1, 1, 0, 1, 0, 0], .r, .c [1, 1, 1, 1, 0, 1, 0, 1]]) (pars [35, 36] (encs id is_next.elem e) (stL rests_l1_st ((((), ()), (((), (u, u2, ())), ()), (), (), (), (), ((), (u3, u4, ())), ()), ((((), ((g, ()), ((), ()), (((), (g2, g3, ())), ()), (), ())), ()), g4, (x, x2, x3, ()), (g5, g6, ()), (best, best2, ()), ())))) (stH rests_l1_st ((((), ()), (((), (u, u2, ())), ()), (), (), (), (), ((), (u3, u4, ())), ()), ((((), ((g, ()), ((), ()), (((), (g2, g3, ())), ()), (), ())), ()), g4, (x, x2, x3, ()), (g5, g6, ()), (best, best2, ()), ()))) = rests_l1 N self (e :: es) u u2 u3 u4 g g2 g3 g4 x x2 x3 g5 g6 best best2 := by kernel_rfl
theorem rests_l1_bod (N : Nat) (self : Int → Int → Int → (((List (List Int)) × ((List Int) × (Int × ((List Int) × (List Int)))))) → Int → Int → (((List (List Int)) × ((List Int) × (Int × ((List Int) × (List Int)))))) → Int → Int → (List ((Int × (Int × Int)) × (Int × Int))) → Option (Int × Int × ((List (List Int)) × ((List Int) × (Int × ((List Int) × (List Int))))) × Int × Int × (List ((Int × (Int × Int)) × (Int × Int))))) (rec : (((List (List Int)) × ((List Int) × (Int × ((List Int) × (List Int)))))) → Int → Int → (List ((Int × (Int × Int)) × (Int × Int))) → Int → Int → Int → Int → Int → Int → Int → Option (((List (List Int)) × ((List Int) × (Int × ((List Int) × (List Int))))) × Int × Int × (List ((Int × (Int × Int)) × (Int × Int))) × Int × Int × Int × Int × Int × Int × Int)) (u : Int) (u2 : Int) (u3 : (Int × (Int × Int))) (u4 : ((List (List Int)) × ((List Int) × (Int × ((List Int) × (List Int)))))) (u' : Int) (u2' : Int) (g' : ((List (List Int)) × ((List Int) × (Int × ((List Int) × (List Int)))))) (g2' : Int) (g3' : Int) (g4' : List ((Int × (Int × Int)) × (Int × Int))) (x' : Int) (x2' : Int) (x3' : Int) (g5' : Int) (g6' : Int) (best' : Int) (best2' : Int) (p' : Int) (p2' : Int) (y' : Int) (y2' : Int) (y3' : Int) : ev (Z := ((List (List Int)) × ((List Int) × (Int × ((List Int) × (List Int))))) × Int × Int × (List ((Int × (Int × Int)) × (Int × Int))) × Int × Int × Int × Int × Int × Int × Int) Try.prog (rests_sp N self) rests_l1_Bk [] [⟨[], ⟨[], ⟨[], [.segs [.fn 121 [] [.fz [.fe (.pair (.sl (.sl (.int .i64))) (.pair (.sl (.int .i64)) (.pair (.int .i64) (.pair (.sl (.int .i64)) (.sl (.int .i64))))))], .fz [.mp 1], .fz [.fn 89 [] [.fe (.int .i64), .fe (.int .i64)]], .own 0 0]], .map (.pair (.int .i64) (.pair (.int .i64) (.int .i64))) (.pair (.int .i64) (.int .i64)), .segs [.i .i64, .i .i64, .i .i64], .segs [.i .i64, .i .i64], .segs [.i .i64, .i .i64]]⟩⟩, fun p => rec p.2.1.1.2.1.1 p.2.1.1.2.2.2.1.1.2.1 p.2.1.1.2.2.2.1.1.2.2.1 p.2.2.1 p.2.2.2.1.1 p.2.2.2.1.2.1 p.2.2.2.1.2.2.1 p.2.2.2.2.1.1 p.2.2.2.2.1.2.1 p.2.2.2.2.2.1.1 p.2.2.2.2.2.1.2.1⟩] none 400 false (nrm rests_B.c 99 [.c [1, 1, 1, 1, 0, 1, 0, 1]]) (stL rests_l1_stA (((((), (u', u2', ())), ()), (), (), (), (), (), (), ()), ((((), ((g', ()), ((), ()), (((), (g2', g3', ())), ()), (), ())), ()), g4', (x', x2', x3', ()), (g5', g6', ()), (best', best2', ()), (p', p2', ()), (y', y2', y3', ()), ()))) (stH rests_l1_stA (((((), (u', u2', ())), ()), (), (), (), (), (), (), ()), ((((), ((g', ()), ((), ()), (((), (g2', g3', ())), ()), (), ())), ()), g4', (x', x2', x3', ()), (g5', g6', ()), (best', best2', ()), (p', p2', ()), (y', y2', y3', ()), ()))) = rests_l1_b N self rec u u2 u3 u4 u' u2' g' g2' g3' g4' x' x2' x3' g5' g6' best' best2' p' p2' y' y2' y3' := by kernel_rfl
theorem rests_l1_ok (N : Nat) (self : Int → Int → Int → (((List (List Int)) × ((List Int) × (Int × ((List Int) × (List Int)))))) → Int → Int → (((List (List Int)) × ((List Int) × (Int × ((List Int) × (List Int)))))) → Int → Int → (List ((Int × (Int × Int)) × (Int × Int))) → Option (Int × Int × ((List (List Int)) × ((List Int) × (Int × ((List Int) × (List Int))))) × Int × Int × (List ((Int × (Int × Int)) × (Int × Int))))) (hself : SpecOK Try.prog (rests_self self)) : LoopOK Try.prog rests_B.c rests_B.n rests_B.m0 true (rests_l1_L N self) := by
  refine range_ok (B := rests_B) (is := is_next) (g := .tmp 34) (ps := #[35, 36]) (assign := sub rests_c [1, 1, 1, 1, 0, 1, 0, 0]) (body := sub rests_c [1, 1, 1, 1, 0, 1, 0, 1]) (Z := ((List (List Int)) × ((List Int) × (Int × ((List Int) × (List Int))))) × Int × Int × (List ((Int × (Int × Int)) × (Int × Int))) × Int × Int × Int × Int × Int × Int × Int) (x := rests_l1_L N self) (fun p => (p.1.2.2.2.2.2.2.1.2.1, p.1.2.2.2.2.2.2.1.2.2.1, ())) (fun es p => rests_l1 N self es p.1.2.1.1.2.1 p.1.2.1.1.2.2.1 p.1.2.2.2.2.2.2.1.2.1 p.1.2.2.2.2.2.2.1.2.2.1 p.2.1.1.2.1.1 p.2.1.1.2.2.2.1.1.2.1 p.2.1.1.2.2.2.1.1.2.2.1 p.2.2.1 p.2.2.2.1.1 p.2.2.2.1.2.1 p.2.2.2.1.2.2.1 p.2.2.2.2.1.1 p.2.2.2.2.1.2.1 p.2.2.2.2.2.1.1 p.2.2.2.2.2.1.2.1) (staA := rests_l1_stA) (fun es q p => rests_l1_b N self (fun g_ g2_ g3_ g4_ x_ x2_ x3_ g5_ g6_ best_ best2_ => rests_l1 N self es q.2.1.1.2.1 q.2.1.1.2.2.1 q.2.2.2.2.2.2.1.2.1 q.2.2.2.2.2.2.1.2.2.1 g_ g2_ g3_ g4_ x_ x2_ x3_ g5_ g6_ best_ best2_) q.2.1.1.2.1 q.2.1.1.2.2.1 q.2.2.2.2.2.2.1.2.1 q.2.2.2.2.2.2.1.2.2.1 p.1.1.1.2.1 p.1.1.1.2.2.1 p.2.1.1.2.1.1 p.2.1.1.2.2.2.1.1.2.1 p.2.1.1.2.2.2.1.1.2.2.1 p.2.2.1 p.2.2.2.1.1 p.2.2.2.1.2.1 p.2.2.2.1.2.2.1 p.2.2.2.2.1.1 p.2.2.2.2.1.2.1 p.2.2.2.2.2.1.1 p.2.2.2.2.2.1.2.1 p.2.2.2.2.2.2.1.1 p.2.2.2.2.2.2.1.2.1 p.2.2.2.2.2.2.2.1.1 p.2.2.2.2.2.2.2.1.2.1 p.2.2.2.2.2.2.2.1.2.2.1) [] (fun e => .inl ((((), ()), (), (), (), ()), ((((), ((e.1, ()), ((), ()), (((), (e.2.1, e.2.2.1, ())), ()), (), ())), ()), e.2.2.2.1, (e.2.2.2.2.1, e.2.2.2.2.2.1, e.2.2.2.2.2.2.1, ()), (e.2.2.2.2.2.2.2.1, e.2.2.2.2.2.2.2.2.1, ()), (e.2.2.2.2.2.2.2.2.2.1, e.2.2.2.2.2.2.2.2.2.2, ()), ()))) (fun _ _ _ => rfl) rfl (by kernel_rfl) (fun _ => by kernel_rfl) (by kernel_rfl) is_next_ok (Nat.le_of_ble_eq_true (by kernel_rfl)) (by kernel_rfl) ?_ ?_ ?_ ?_
  · exact fun z E Xc hE hX hx p hp a w hS => ev_sound (z := z) (B := rests_B) (loops := []) (leaves := [rests_l1_e0]) (top := true) (rests_all N self hself) mixed trivial hE hX ⟨(fun p hp => by obtain rfl := Option.some.inj hp; exact hx), trivial⟩ RetOK.no 400 false _ _ _ ((rests_l1_end N self p.1.2.1.1.2.1 p.1.2.1.1.2.2.1 p.1.2.2.2.2.2.2.1.2.1 p.1.2.2.2.2.2.2.1.2.2.1 p.2.1.1.2.1.1 p.2.1.1.2.2.2.1.1.2.1 p.2.1.1.2.2.2.1.1.2.2.1 p.2.2.1 p.2.2.2.1.1 p.2.2.2.1.2.1 p.2.2.2.1.2.2.1 p.2.2.2.2.1.1 p.2.2.2.2.1.2.1 p.2.2.2.2.2.1.1 p.2.2.2.2.2.1.2.1).trans hp) a w hS
  · intro z E Xc hE hX hx e he q b hb a w hS
    simp only [List.not_mem_nil] at he
  · exact fun z E Xc hE hX e es p hl hp a w hS => ev_sound (z := z) (B := rests_l1_Bk) (loops := []) (leaves := [_]) (top := false) (rests_all N self hself) mixed trivial hE hX ⟨hl, trivial⟩ RetOK.no 400 false _ _ _ ((rests_l1_asg N self e es p.1.2.1.1.2.1 p.1.2.1.1.2.2.1 p.1.2.2.2.2.2.2.1.2.1 p.1.2.2.2.2.2.2.1.2.2.1 p.2.1.1.2.1.1 p.2.1.1.2.2.2.1.1.2.1 p.2.1.1.2.2.2.1.1.2.2.1 p.2.2.1 p.2.2.2.1.1 p.2.2.2.1.2.1 p.2.2.2.1.2.2.1 p.2.2.2.2.1.1 p.2.2.2.2.1.2.1 p.2.2.2.2.2.1.1 p.2.2.2.2.2.1.2.1).trans hp) a w hS
  · exact fun z E Xc hE hX es q he hs p hp a w hS => ev_sound (z := z) (B := rests_l1_Bk) (loops := []) (leaves := [_]) (top := false) (rests_all N self hself) mixed trivial hE hX ⟨he, trivial⟩ RetOK.no 400 false _ _ _ ((rests_l1_bod N self (fun g_ g2_ g3_ g4_ x_ x2_ x3_ g5_ g6_ best_ best2_ => rests_l1 N self es q.2.1.1.2.1 q.2.1.1.2.2.1 q.2.2.2.2.2.2.1.2.1 q.2.2.2.2.2.2.1.2.2.1 g_ g2_ g3_ g4_ x_ x2_ x3_ g5_ g6_ best_ best2_) q.2.1.1.2.1 q.2.1.1.2.2.1 q.2.2.2.2.2.2.1.2.1 q.2.2.2.2.2.2.1.2.2.1 p.1.1.1.2.1 p.1.1.1.2.2.1 p.2.1.1.2.1.1 p.2.1.1.2.2.2.1.1.2.1 p.2.1.1.2.2.2.1.1.2.2.1 p.2.2.1 p.2.2.2.1.1 p.2.2.2.1.2.1 p.2.2.2.1.2.2.1 p.2.2.2.2.1.1 p.2.2.2.2.1.2.1 p.2.2.2.2.2.1.1 p.2.2.2.2.2.1.2.1 p.2.2.2.2.2.2.1.1 p.2.2.2.2.2.2.1.2.1 p.2.2.2.2.2.2.2.1.1 p.2.2.2.2.2.2.2.1.2.1 p.2.2.2.2.2.2.2.1.2.2.1).trans hp) a w hS
abbrev rests_st : Sta := ⟨[0, 1, 2, 3, 4], ⟨[.agg [.i .i64, .i .i64, .i .i64], .fz [.fe (.pair (.sl (.sl (.int .i64))) (.pair (.sl (.int .i64)) (.pair (.int .i64) (.pair (.sl (.int .i64)) (.sl (.int .i64))))))], .fz [.mp 1], .fz [.fn 89 [] [.fe (.int .i64), .fe (.int .i64)]], .own 0 0], [.segs [.fn 121 [] [.fz [.fe (.pair (.sl (.sl (.int .i64))) (.pair (.sl (.int .i64)) (.pair (.int .i64) (.pair (.sl (.int .i64)) (.sl (.int .i64))))))], .fz [.mp 1], .fz [.fn 89 [] [.fe (.int .i64), .fe (.int .i64)]], .own 0 0]], .map (.pair (.int .i64) (.pair (.int .i64) (.int .i64))) (.pair (.int .i64) (.int .i64))]⟩⟩
theorem rests_eq (N : Nat) (self : Int → Int → Int → (((List (List Int)) × ((List Int) × (Int × ((List Int) × (List Int)))))) → Int → Int → (((List (List Int)) × ((List Int) × (Int × ((List Int) × (List Int)))))) → Int → Int → (List ((Int × (Int × Int)) × (Int × Int))) → Option (Int × Int × ((List (List Int)) × ((List Int) × (Int × ((List Int) × (List Int))))) × Int × Int × (List ((Int × (Int × Int)) × (Int × Int))))) (x : Int) (x2 : Int) (x3 : Int) (u : ((List (List Int)) × ((List Int) × (Int × ((List Int) × (List Int)))))) (u2 : Int) (u3 : Int) (g : ((List (List Int)) × ((List Int) × (Int × ((List Int) × (List Int)))))) (g2 : Int) (g3 : Int) (g4 : List ((Int × (Int × Int)) × (Int × Int))) : ev (Z := Int × Int × ((List (List Int)) × ((List Int) × (Int × ((List Int) × (List Int))))) × Int × Int × (List ((Int × (Int × Int)) × (Int × Int)))) Try.prog (rests_sp N self) rests_B [rests_l1_L N self] [] (some rests_rt) 400 false [.c [0], .c [1]] (stL rests_st (((x, x2, x3, ()), (u, ()), ((), ()), (((), (u2, u3, ())), ()), (), ()), ((((), ((g, ()), ((), ()), (((), (g2, g3, ())), ()), (), ())), ()), g4, ()))) (stH rests_st (((x, x2, x3, ()), (u, ()), ((), ()), (((), (u2, u3, ())), ()), (), ()), ((((), ((g, ()), ((), ()), (((), (g2, g3, ())), ()), (), ())), ()), g4, ()))) = rests_S N self x x2 x3 u u2 u3 g g2 g3 g4 := by kernel_rfl
theorem rests_self_ok (N : Nat) (self : Int → Int → Int → (((List (List Int)) × ((List Int) × (Int × ((List Int) × (List Int)))))) → Int → Int → (((List (List Int)) × ((List Int) × (Int × ((List Int) × (List Int)))))) → Int → Int → (List ((Int × (Int × Int)) × (Int × Int))) → Option (Int × Int × ((List (List Int)) × ((List Int) × (Int × ((List Int) × (List Int))))) × Int × Int × (List ((Int × (Int × Int)) × (Int × Int))))) (hself : SpecOK Try.prog (rests_self self)) : SpecOK Try.prog (rests_self (rests_S N self)) := fn_sound (B := rests_B) (loops := [rests_l1_L N self]) (leaves := []) (fun p => rests_S N self p.1.1.1 p.1.1.2.1 p.1.1.2.2.1 p.1.2.1.1 p.1.2.2.2.1.1.2.1 p.1.2.2.2.1.1.2.2.1 p.2.1.1.2.1.1 p.2.1.1.2.2.2.1.1.2.1 p.2.1.1.2.2.2.1.1.2.2.1 p.2.2.1) (fun r => (((r.1, r.2.1, ()), ()), ((((), ((r.2.2.1, ()), ((), ()), (((), (r.2.2.2.1, r.2.2.2.2.1, ())), ()), (), ())), ()), r.2.2.2.2.2, ()))) rests_rt (fun _ _ _ => rfl) (fun r z h => by cases h; rfl) Try.func121 (by kernel_rfl) (by kernel_rfl) (by kernel_rfl) rfl rfl (by kernel_rfl) (fun args w => Sem.pv_run _ _ _ (by kernel_rfl) w) (rests_all N self hself) mixed ⟨rests_l1_ok N self hself, trivial⟩ (fun z E Xc hE hX hret => trivial) (fun p => rests_eq N self p.1.1.1 p.1.1.2.1 p.1.1.2.2.1 p.1.2.1.1 p.1.2.2.2.1.1.2.1 p.1.2.2.2.1.1.2.2.1 p.2.1.1.2.1.1 p.2.1.1.2.2.2.1.1.2.1 p.2.1.1.2.2.2.1.1.2.2.1 p.2.2.1)
def rests_R (N : Nat) : Nat → Int → Int → Int → (((List (List Int)) × ((List Int) × (Int × ((List Int) × (List Int)))))) → Int → Int → (((List (List Int)) × ((List Int) × (Int × ((List Int) × (List Int)))))) → Int → Int → (List ((Int × (Int × Int)) × (Int × Int))) → Option (Int × Int × ((List (List Int)) × ((List Int) × (Int × ((List Int) × (List Int))))) × Int × Int × (List ((Int × (Int × Int)) × (Int × Int))))
  | 0 => fun _ _ _ _ _ _ _ _ _ _ => none
  | n + 1 => rests_S N (rests_R N n)
theorem rests_R_ok (N : Nat) : ∀ n, SpecOK Try.prog (rests_self (rests_R N n))
  | 0 => SpecOK.none (fun _ _ _ => rfl) (fun args w => Sem.pv_run _ _ _ (by kernel_rfl) w)
  | n + 1 => rests_self_ok N (rests_R N n) (rests_R_ok N n)
noncomputable abbrev sp_rests (N : Nat) : Spec := rests_self (rests_R N N)
theorem sp_rests_ok (N : Nat) : SpecOK Try.prog (sp_rests N) := rests_R_ok N N

def restss_j1 (N : Nat) (rest : ((List (List Int)) × ((List Int) × (Int × ((List Int) × (List Int)))))) (rest2 : Int) (rest3 : Int) (g : List ((Int × (Int × Int)) × (Int × Int))) : Option (List ((Int × (Int × Int)) × (Int × Int))) :=
  (rests_R N N 0 0 0 rest rest2 rest3 rest rest2 rest3 g).bind fun (x_1, y_2, y_3, y_4, y_5, y_6) =>
  some (((0, 0, 0), (x_1, y_2)) :: y_6)
def restss_S (N : Nat) (d : ((List (List Int)) × ((List Int) × (Int × ((List Int) × (List Int)))))) (f : Int) (f2 : Int) : Option (List ((Int × (Int × Int)) × (Int × Int))) :=
  restss_j1 N d f f2 []
noncomputable def restss_sp (N : Nat) : List Spec := [sp_rests N]
theorem restss_all (N : Nat) : AllP (SpecOK Try.prog) (restss_sp N) := ⟨sp_rests_ok N, trivial⟩
noncomputable def restss_c : Code := (Try.f87.body).getD .skip
noncomputable abbrev restss_B : Body := { c := restss_c, n := 15, res := [.tmp 4], outs := [⟨[.mp 0], [.map (.pair (.int .i64) (.pair (.int .i64) (.int .i64))) (.pair (.int .i64) (.int .i64))]⟩], m0 := 0 }
abbrev restss_rt : altD restss_B.outs → Option (List ((Int × (Int × Int)) × (Int × Int))) := fun r => some r.2.1
abbrev restss_j1_at : List PI := [.c [1, 1, 1, 1, 0], .c [1, 1, 1, 1, 1]]
abbrev restss_j1_st : Sta := ⟨[5, 6], ⟨[.fz [.mp 1], .own 0 0], [.segs [.fn 121 [] [.fz [.fe (.pair (.sl (.sl (.int .i64))) (.pair (.sl (.int .i64)) (.pair (.int .i64) (.pair (.sl (.int .i64)) (.sl (.int .i64))))))], .fz [.mp 1], .fz [.fn 89 [] [.fe (.int .i64), .fe (.int .i64)]], .own 0 0]], .map (.pair (.int .i64) (.pair (.int .i64) (.int .i64))) (.pair (.int .i64) (.int .i64))]⟩⟩
abbrev restss_j1_k (N : Nat) : Leaf (List ((Int × (Int × Int)) × (Int × Int))) := ⟨restss_j1_at, restss_j1_st, fun p => restss_j1 N p.2.1.1.2.1.1 p.2.1.1.2.2.2.1.1.2.1 p.2.1.1.2.2.2.1.1.2.2.1 p.2.2.1⟩
theorem restss_j1_eq (N : Nat) (rest : ((List (List Int)) × ((List Int) × (Int × ((List Int) × (List Int)))))) (rest2 : Int) (rest3 : Int) (g : List ((Int × (Int × Int)) × (Int × Int))) : ev (Z := (List ((Int × (Int × Int)) × (Int × Int)))) Try.prog (restss_sp N) restss_B [] [] (some restss_rt) 400 true restss_j1_at (stL restss_j1_st ((((), ()), (), ()), ((((), ((rest, ()), ((), ()), (((), (rest2, rest3, ())), ()), (), ())), ()), g, ()))) (stH restss_j1_st ((((), ()), (), ()), ((((), ((rest, ()), ((), ()), (((), (rest2, rest3, ())), ()), (), ())), ()), g, ()))) = restss_j1 N rest rest2 rest3 g := by kernel_rfl
theorem restss_j1_lf (N : Nat) {z : (List ((Int × (Int × Int)) × (Int × Int)))} {E : EE} {Xc : Ctx} (hE : EOK restss_B.m0 E) (hX : CxOK true Xc) (hret : RetOK Try.prog restss_B E Xc z (some restss_rt)) : LeafOK Try.prog restss_B.c restss_B.n restss_B.m0 E Xc z (restss_j1_k N) := leaf_of_ev (B := restss_B) (loops := []) (leaves := []) (restss_all N) mixed trivial hE hX trivial hret (fun p => restss_j1_eq N p.2.1.1.2.1.1 p.2.1.1.2.2.2.1.1.2.1 p.2.1.1.2.2.2.1.1.2.2.1 p.2.2.1)
abbrev restss_st : Sta := ⟨[0, 1], ⟨[.fe (.pair (.sl (.sl (.int .i64))) (.pair (.sl (.int .i64)) (.pair (.int .i64) (.pair (.sl (.int .i64)) (.sl (.int .i64)))))), .agg [.fn 89 [] [.fe (.int .i64), .fe (.int .i64)]]], []⟩⟩
theorem restss_eq (N : Nat) (d : ((List (List Int)) × ((List Int) × (Int × ((List Int) × (List Int)))))) (f : Int) (f2 : Int) : ev (Z := (List ((Int × (Int × Int)) × (Int × Int)))) Try.prog (restss_sp N) restss_B [] [restss_j1_k N] (some restss_rt) 400 false [.c [0], .c [1]] (stL restss_st ((d, (((), (f, f2, ())), ()), ()), ())) (stH restss_st ((d, (((), (f, f2, ())), ()), ()), ())) = restss_S N d f f2 := by kernel_rfl
noncomputable def sp_restss (N : Nat) : Spec := { f := 87, ins := ⟨[.fe (.pair (.sl (.sl (.int .i64))) (.pair (.sl (.int .i64)) (.pair (.int .i64) (.pair (.sl (.int .i64)) (.sl (.int .i64)))))), .agg [.fn 89 [] [.fe (.int .i64), .fe (.int .i64)]]], []⟩, outs := [⟨[.mp 0], [.map (.pair (.int .i64) (.pair (.int .i64) (.int .i64))) (.pair (.int .i64) (.int .i64))]⟩], run := fun p k => (restss_S N p.1.1 p.1.2.1.1.2.1 p.1.2.1.1.2.2.1).bind fun r => k (((), ()), (r, ())) }
theorem sp_restss_ok (N : Nat) : SpecOK Try.prog (sp_restss N) := fn_sound (B := restss_B) (loops := []) (leaves := [restss_j1_k N]) (fun p => restss_S N p.1.1 p.1.2.1.1.2.1 p.1.2.1.1.2.2.1) (fun r => (((), ()), (r, ()))) restss_rt (fun _ _ _ => rfl) (fun r z h => by cases h; rfl) Try.func87 (by kernel_rfl) (by kernel_rfl) (by kernel_rfl) rfl rfl (by kernel_rfl) (fun args w => Sem.pv_run _ _ _ (by kernel_rfl) w) (restss_all N) mixed trivial (fun z E Xc hE hX hret => ⟨restss_j1_lf N hE hX hret, trivial⟩) (fun p => restss_eq N p.1.1 p.1.2.1.1.2.1 p.1.2.1.1.2.2.1)

def firsts_S (N : Nat) (d : ((List (List Int)) × ((List Int) × (Int × ((List Int) × (List Int)))))) (f : Int) (f2 : Int) : Option (Int × Int) :=
  (restss_S N d f f2).bind fun x_1 =>
  some ((((x_1.find? fun y => Ty.beq (.pair (.int .i64) (.pair (.int .i64) (.int .i64))) y.1 (0, 0, 0)).map (·.2)).getD (Ty.dflt (.pair (.int .i64) (.int .i64)))).1, (((x_1.find? fun y => Ty.beq (.pair (.int .i64) (.pair (.int .i64) (.int .i64))) y.1 (0, 0, 0)).map (·.2)).getD (Ty.dflt (.pair (.int .i64) (.int .i64)))).2)
noncomputable def firsts_sp (N : Nat) : List Spec := [sp_restss N]
theorem firsts_all (N : Nat) : AllP (SpecOK Try.prog) (firsts_sp N) := ⟨sp_restss_ok N, trivial⟩
noncomputable def firsts_c : Code := (Try.f82.body).getD .skip
noncomputable abbrev firsts_B : Body := { c := firsts_c, n := 10, res := [.cell 4 129], outs := [⟨[.agg [.i .i64, .i .i64]], []⟩], m0 := 0 }
abbrev firsts_rt : altD firsts_B.outs → Option (Int × Int) := fun r => some (r.1.1.1, r.1.1.2.1)
abbrev firsts_st : Sta := ⟨[0, 1], ⟨[.fe (.pair (.sl (.sl (.int .i64))) (.pair (.sl (.int .i64)) (.pair (.int .i64) (.pair (.sl (.int .i64)) (.sl (.int .i64)))))), .agg [.fn 89 [] [.fe (.int .i64), .fe (.int .i64)]]], []⟩⟩
theorem firsts_eq (N : Nat) (d : ((List (List Int)) × ((List Int) × (Int × ((List Int) × (List Int)))))) (f : Int) (f2 : Int) : ev (Z := Int × Int) Try.prog (firsts_sp N) firsts_B [] [] (some firsts_rt) 400 false [.c [0], .c [1]] (stL firsts_st ((d, (((), (f, f2, ())), ()), ()), ())) (stH firsts_st ((d, (((), (f, f2, ())), ()), ()), ())) = firsts_S N d f f2 := by kernel_rfl
noncomputable def sp_firsts (N : Nat) : Spec := { f := 82, ins := ⟨[.fe (.pair (.sl (.sl (.int .i64))) (.pair (.sl (.int .i64)) (.pair (.int .i64) (.pair (.sl (.int .i64)) (.sl (.int .i64)))))), .agg [.fn 89 [] [.fe (.int .i64), .fe (.int .i64)]]], []⟩, outs := [⟨[.agg [.i .i64, .i .i64]], []⟩], run := fun p k => (firsts_S N p.1.1 p.1.2.1.1.2.1 p.1.2.1.1.2.2.1).bind fun r => k (((r.1, r.2, ()), ()), ()) }
theorem sp_firsts_ok (N : Nat) : SpecOK Try.prog (sp_firsts N) := fn_sound (B := firsts_B) (loops := []) (leaves := []) (fun p => firsts_S N p.1.1 p.1.2.1.1.2.1 p.1.2.1.1.2.2.1) (fun r => (((r.1, r.2, ()), ()), ())) firsts_rt (fun _ _ _ => rfl) (fun r z h => by cases h; rfl) Try.func82 (by kernel_rfl) (by kernel_rfl) (by kernel_rfl) rfl rfl (by kernel_rfl) (fun args w => Sem.pv_run _ _ _ (by kernel_rfl) w) (firsts_all N) mixed trivial (fun z E Xc hE hX hret => trivial) (fun p => firsts_eq N p.1.1 p.1.2.1.1.2.1 p.1.2.1.1.2.2.1)

def sure_j1 (N : Nat) (rec : (((List (List Int)) × ((List Int) × (Int × ((List Int) × (List Int)))))) → Int → Int → (List Int) → Int → Int → Int → (List Int) → Int → Option (((List (List Int)) × ((List Int) × (Int × ((List Int) × (List Int))))) × Int × Int × Int × Int × List Int)) (d : ((List (List Int)) × ((List Int) × (Int × ((List Int) × (List Int)))))) (u : Int) (u2 : Int) (u3 : List Int) (u4 : Int) (best : Int) (best2 : Int) (out : List Int) (i : Int) : Option (((List (List Int)) × ((List Int) × (Int × ((List Int) × (List Int))))) × Int × Int × Int × Int × List Int) :=
  chk (u4 + 1) <|
  rec d u u2 u3 (u4 + 1) best best2 out i
def sure_l2 (N : Nat) : Nat → (((List (List Int)) × ((List Int) × (Int × ((List Int) × (List Int)))))) → Int → Int → (List Int) → Int → Int → Int → (List Int) → Int → Option (((List (List Int)) × ((List Int) × (Int × ((List Int) × (List Int))))) × Int × Int × Int × Int × List Int)
  | 0, _, _, _, _, _, _, _, _, _ => none
  | n_ + 1, d, u, u2, u3, u4, best, best2, out, i =>
    br (decide (u4 < 3))
      (idx u3 u4 fun x_5 =>
      (firsts_S N d i x_5).bind fun (x_6, y_7) =>
      br (decide (x_6 = best) && decide (y_7 = best2))
        (rng i out.length <|
        get out i.toNat fun _ =>
        sure_j1 N (sure_l2 N n_) d u u2 u3 u4 best best2 (out.set i.toNat x_5) i)
        (sure_j1 N (sure_l2 N n_) d u u2 u3 u4 best best2 out i))
      (some ((d, u, u2, best, best2, out)))
def sure_l1 (N : Nat) : Nat → (((List (List Int)) × ((List Int) × (Int × ((List Int) × (List Int)))))) → Int → Int → Int → Int → (List Int) → Option (List Int)
  | 0, _, _, _, _, _, _ => none
  | n_ + 1, d, u, u2, best, best2, out =>
    br (decide (u2 < u))
      ((sure_l2 N N d u u2 [1, 2, 3] 0 best best2 out u2).bind fun (d_9, u_10, u2_11, best_12, best2_13, out_14) =>
      chk (u2_11 + 1) <|
      sure_l1 N n_ d_9 u_10 (u2_11 + 1) best_12 best2_13 out_14)
      (some (out))
def sure_S (N : Nat) (e : List (List Int)) (e2 : List Int) (e3 : Int) (p : Int) (p2 : Int) : Option (List Int × Int) :=
  ((opened_S N e e2 e3 p p2).bind fun e => match e with
  | .inl (x_1, y_2) =>
    (br (!decide (y_2 = 0))
      (some ([], y_2))
      ((all_S N).bind fun _ =>
      (firsta_S N x_1).bind fun (x_3, y_4) =>
      grd (lmI (e2.length : Int)) <|
      (sure_l1 N N x_1 ((List.replicate (e2.length : Int).toNat (0 : Int)).length : Int) 0 x_3 y_4 (List.replicate (e2.length : Int).toNat (0 : Int))).bind fun out_15 =>
      some (out_15, 0)))
  | .inr x_16 =>
    (br (!decide (x_16 = 0))
      (some ([], x_16))
      ((all_S N).bind fun _ =>
      none)))
noncomputable def sure_sp (N : Nat) : List Spec := [sp_opened N, sp_all N, sp_firsta N, sp_firsts N]
theorem sure_all (N : Nat) : AllP (SpecOK Try.prog) (sure_sp N) := ⟨sp_opened_ok N, sp_all_ok N, sp_firsta_ok N, sp_firsts_ok N, trivial⟩
noncomputable def sure_c : Code := (Try.f33.body).getD .skip
noncomputable abbrev sure_B : Body := { c := sure_c, n := 53, res := [.tmp 4, .tmp 5], outs := [⟨[.sl (.int .i64), .i .i64], []⟩], m0 := 0 }
abbrev sure_rt : altD sure_B.outs → Option (List Int × Int) := fun r => some (r.1.1, r.1.2.1)
abbrev sure_l2_at : List PI := [.c [1, 1, 1, 1, 1, 0, 1, 0, 0, 1, 1, 0, 0, 1, 1, 0, 0, 0], .c [1, 1, 1, 1, 1, 0, 1, 0, 0, 1, 1, 0, 0, 1, 1, 0, 0, 1], .l [1, 1, 1, 1, 1, 0, 1, 0, 0, 1, 1, 0, 0, 1, 1, 0, 0], .b 2, .b 1, .c [1, 1, 1, 1, 1, 0, 1, 0, 0, 1, 1, 1], .l [1, 1, 1, 1, 1, 0, 1, 0, 0], .b 0, .c [1, 1, 1, 1, 1, 1]]
abbrev sure_l2_st : Sta := ⟨[6, 8, 9, 10, 31, 32, 35, 36], ⟨[.fe (.pair (.sl (.sl (.int .i64))) (.pair (.sl (.int .i64)) (.pair (.int .i64) (.pair (.sl (.int .i64)) (.sl (.int .i64)))))), .own 0 0, .ols 1, .own 2 0, .i .i64, .i .i64, .arr (.int .i64) 3, .i .i64], [.segs [.i .i64, .i .i64], .lst (.int .i64), .segs [.i .i64]]⟩⟩
abbrev sure_l2_h (rec : (((List (List Int)) × ((List Int) × (Int × ((List Int) × (List Int)))))) → Int → Int → (List Int) → Int → Int → Int → (List Int) → Int → Option (((List (List Int)) × ((List Int) × (Int × ((List Int) × (List Int))))) × Int × Int × Int × Int × List Int)) : Leaf (((List (List Int)) × ((List Int) × (Int × ((List Int) × (List Int))))) × Int × Int × Int × Int × List Int) := ⟨sure_l2_at, sure_l2_st, fun p => rec p.1.1 p.1.2.2.2.2.1 p.1.2.2.2.2.2.1 p.1.2.2.2.2.2.2.1 p.1.2.2.2.2.2.2.2.1 p.2.1.1 p.2.1.2.1 p.2.2.1 p.2.2.2.1.1⟩
abbrev sure_l2_e0 : Leaf (((List (List Int)) × ((List Int) × (Int × ((List Int) × (List Int))))) × Int × Int × Int × Int × List Int) := ⟨[.c [1, 1, 1, 1, 1, 0, 1, 0, 0, 1, 1, 1], .l [1, 1, 1, 1, 1, 0, 1, 0, 0], .b 0, .c [1, 1, 1, 1, 1, 1]], ⟨[6, 8, 9, 31, 32], ⟨[.fe (.pair (.sl (.sl (.int .i64))) (.pair (.sl (.int .i64)) (.pair (.int .i64) (.pair (.sl (.int .i64)) (.sl (.int .i64)))))), .own 0 0, .ols 1, .i .i64, .i .i64], [.segs [.i .i64, .i .i64], .lst (.int .i64)]⟩⟩, fun p => some ((p.1.1, p.1.2.2.2.1, p.1.2.2.2.2.1, p.2.1.1, p.2.1.2.1, p.2.2.1))⟩
abbrev sure_j1_at : List PI := [.c [1, 1, 1, 1, 1, 0, 1, 0, 0, 1, 1, 0, 0, 1, 1, 0, 0, 1, 1, 1], .l [1, 1, 1, 1, 1, 0, 1, 0, 0, 1, 1, 0, 0, 1, 1, 0, 0], .b 2, .b 1, .c [1, 1, 1, 1, 1, 0, 1, 0, 0, 1, 1, 1], .l [1, 1, 1, 1, 1, 0, 1, 0, 0], .b 0, .c [1, 1, 1, 1, 1, 1]]
abbrev sure_j1_st : Sta := ⟨[6, 8, 9, 10, 31, 32, 35, 36], ⟨[.fe (.pair (.sl (.sl (.int .i64))) (.pair (.sl (.int .i64)) (.pair (.int .i64) (.pair (.sl (.int .i64)) (.sl (.int .i64)))))), .own 0 0, .ols 1, .own 2 0, .i .i64, .i .i64, .arr (.int .i64) 3, .i .i64], [.segs [.i .i64, .i .i64], .lst (.int .i64), .segs [.i .i64]]⟩⟩
abbrev sure_j1_k (N : Nat) (rec : (((List (List Int)) × ((List Int) × (Int × ((List Int) × (List Int)))))) → Int → Int → (List Int) → Int → Int → Int → (List Int) → Int → Option (((List (List Int)) × ((List Int) × (Int × ((List Int) × (List Int))))) × Int × Int × Int × Int × List Int)) : Leaf (((List (List Int)) × ((List Int) × (Int × ((List Int) × (List Int))))) × Int × Int × Int × Int × List Int) := ⟨sure_j1_at, sure_j1_st, fun p => sure_j1 N rec p.1.1 p.1.2.2.2.2.1 p.1.2.2.2.2.2.1 p.1.2.2.2.2.2.2.1 p.1.2.2.2.2.2.2.2.1 p.2.1.1 p.2.1.2.1 p.2.2.1 p.2.2.2.1.1⟩
theorem sure_j1_eq (N : Nat) (rec : (((List (List Int)) × ((List Int) × (Int × ((List Int) × (List Int)))))) → Int → Int → (List Int) → Int → Int → Int → (List Int) → Int → Option (((List (List Int)) × ((List Int) × (Int × ((List Int) × (List Int))))) × Int × Int × Int × Int × List Int)) (d : ((List (List Int)) × ((List Int) × (Int × ((List Int) × (List Int)))))) (u : Int) (u2 : Int) (u3 : List Int) (u4 : Int) (best : Int) (best2 : Int) (out : List Int) (i : Int) : ev (Z := ((List (List Int)) × ((List Int) × (Int × ((List Int) × (List Int))))) × Int × Int × Int × Int × List Int) Try.prog (sure_sp N) sure_B [] [sure_l2_h rec, sure_l2_e0] none 400 true sure_j1_at (stL sure_j1_st ((d, (), (), (), u, u2, u3, u4, ()), ((best, best2, ()), out, (i, ()), ()))) (stH sure_j1_st ((d, (), (), (), u, u2, u3, u4, ()), ((best, best2, ()), out, (i, ()), ()))) = sure_j1 N rec d u u2 u3 u4 best best2 out i := by kernel_rfl
theorem sure_j1_lf (N : Nat) (rec : (((List (List Int)) × ((List Int) × (Int × ((List Int) × (List Int)))))) → Int → Int → (List Int) → Int → Int → Int → (List Int) → Int → Option (((List (List Int)) × ((List Int) × (Int × ((List Int) × (List Int))))) × Int × Int × Int × Int × List Int)) {z : ((List (List Int)) × ((List Int) × (Int × ((List Int) × (List Int))))) × Int × Int × Int × Int × List Int} {top : Bool} {E : EE} {Xc : Ctx} (hE : EOK sure_B.m0 E) (hX : CxOK top Xc) (hrec : LeafOK Try.prog sure_B.c sure_B.n sure_B.m0 E Xc z (sure_l2_h rec)) (h0 : LeafOK Try.prog sure_B.c sure_B.n sure_B.m0 E Xc z sure_l2_e0) : LeafOK Try.prog sure_B.c sure_B.n sure_B.m0 E Xc z (sure_j1_k N rec) := leaf_of_ev (B := sure_B) (loops := []) (leaves := [sure_l2_h rec, sure_l2_e0]) (sure_all N) mixed trivial hE hX ⟨hrec, h0, trivial⟩ RetOK.no (fun p => sure_j1_eq N rec p.1.1 p.1.2.2.2.2.1 p.1.2.2.2.2.2.1 p.1.2.2.2.2.2.2.1 p.1.2.2.2.2.2.2.2.1 p.2.1.1 p.2.1.2.1 p.2.2.1 p.2.2.2.1.1)
noncomputable def sure_l2_L (N : Nat) : LoopS := { at_ := sure_l2_at, sta := sure_l2_st, exits := [([.c [1, 1, 1, 1, 1, 0, 1, 0, 0, 1, 1, 1], .l [1, 1, 1, 1, 1, 0, 1, 0, 0], .b 0, .c [1, 1, 1, 1, 1, 1]], ⟨[6, 8, 9, 31, 32], ⟨[.fe (.pair (.sl (.sl (.int .i64))) (.pair (.sl (.int .i64)) (.pair (.int .i64) (.pair (.sl (.int .i64)) (.sl (.int .i64)))))), .own 0 0, .ols 1, .i .i64, .i .i64], [.segs [.i .i64, .i .i64], .lst (.int .i64)]⟩⟩)], run := fun p k => (sure_l2 N N p.1.1 p.1.2.2.2.2.1 p.1.2.2.2.2.2.1 p.1.2.2.2.2.2.2.1 p.1.2.2.2.2.2.2.2.1 p.2.1.1 p.2.1.2.1 p.2.2.1 p.2.2.2.1.1).bind fun e => k (.inl ((e.1, (), (), e.2.1, e.2.2.1, ()), ((e.2.2.2.1, e.2.2.2.2.1, ()), e.2.2.2.2.2, ()))) }
theorem sure_l2_eq (N n_ : Nat) (d : ((List (List Int)) × ((List Int) × (Int × ((List Int) × (List Int)))))) (u : Int) (u2 : Int) (u3 : List Int) (u4 : Int) (best : Int) (best2 : Int) (out : List Int) (i : Int) : ev (Z := ((List (List Int)) × ((List Int) × (Int × ((List Int) × (List Int))))) × Int × Int × Int × Int × List Int) Try.prog (sure_sp N) sure_B [] [sure_l2_h (sure_l2 N n_), sure_l2_e0, sure_j1_k N (sure_l2 N n_)] none 400 true sure_l2_at (stL sure_l2_st ((d, (), (), (), u, u2, u3, u4, ()), ((best, best2, ()), out, (i, ()), ()))) (stH sure_l2_st ((d, (), (), (), u, u2, u3, u4, ()), ((best, best2, ()), out, (i, ()), ()))) = sure_l2 N (n_ + 1) d u u2 u3 u4 best best2 out i := by kernel_rfl
theorem sure_l2_ok (N : Nat) {top : Bool} : LoopOK Try.prog sure_B.c sure_B.n sure_B.m0 top (sure_l2_L N) := loop_of_ev (Z := ((List (List Int)) × ((List Int) × (Int × ((List Int) × (List Int))))) × Int × Int × Int × Int × List Int) (N := N) (fun m p => sure_l2 N m p.1.1 p.1.2.2.2.2.1 p.1.2.2.2.2.2.1 p.1.2.2.2.2.2.2.1 p.1.2.2.2.2.2.2.2.1 p.2.1.1 p.2.1.2.1 p.2.2.1 p.2.2.2.1.1) (fun e => .inl ((e.1, (), (), e.2.1, e.2.2.1, ()), ((e.2.2.2.1, e.2.2.2.2.1, ()), e.2.2.2.2.2, ()))) (fun _ _ _ => rfl) (fun _ => rfl) (fun m z E Xc hE hX hrec hx => leaf_of_ev (B := sure_B) (loops := []) (leaves := [sure_l2_h (sure_l2 N m), sure_l2_e0, sure_j1_k N (sure_l2 N m)]) (sure_all N) mixed trivial hE hX ⟨hrec, (fun p hp => by obtain rfl := Option.some.inj hp; exact hx), sure_j1_lf N _ hE hX hrec (fun p hp => by obtain rfl := Option.some.inj hp; exact hx), trivial⟩ RetOK.no (fun p => sure_l2_eq N m p.1.1 p.1.2.2.2.2.1 p.1.2.2.2.2.2.1 p.1.2.2.2.2.2.2.1 p.1.2.2.2.2.2.2.2.1 p.2.1.1 p.2.1.2.1 p.2.2.1 p.2.2.2.1.1))
abbrev sure_l1_at : List PI := [.c [1, 1, 1, 1, 1, 0, 1, 0, 0, 0], .c [1, 1, 1, 1, 1, 0, 1, 0, 0, 1], .l [1, 1, 1, 1, 1, 0, 1, 0, 0], .b 0, .c [1, 1, 1, 1, 1, 1]]
abbrev sure_l1_st : Sta := ⟨[6, 8, 9, 31, 32], ⟨[.fe (.pair (.sl (.sl (.int .i64))) (.pair (.sl (.int .i64)) (.pair (.int .i64) (.pair (.sl (.int .i64)) (.sl (.int .i64)))))), .own 0 0, .ols 1, .i .i64, .i .i64], [.segs [.i .i64, .i .i64], .lst (.int .i64)]⟩⟩
abbrev sure_l1_h (rec : (((List (List Int)) × ((List Int) × (Int × ((List Int) × (List Int)))))) → Int → Int → Int → Int → (List Int) → Option (List Int)) : Leaf (List Int) := ⟨sure_l1_at, sure_l1_st, fun p => rec p.1.1 p.1.2.2.2.1 p.1.2.2.2.2.1 p.2.1.1 p.2.1.2.1 p.2.2.1⟩
abbrev sure_l1_e0 : Leaf (List Int) := ⟨[.c [1, 1, 1, 1, 1, 1, 0], .c [1, 1, 1, 1, 1, 1, 1]], ⟨[9], ⟨[.ols 0], [.lst (.int .i64)]⟩⟩, fun p => some (p.2.1)⟩
noncomputable def sure_l1_L (N : Nat) : LoopS := { at_ := sure_l1_at, sta := sure_l1_st, exits := [([.c [1, 1, 1, 1, 1, 1, 0], .c [1, 1, 1, 1, 1, 1, 1]], ⟨[9], ⟨[.ols 0], [.lst (.int .i64)]⟩⟩)], run := fun p k => (sure_l1 N N p.1.1 p.1.2.2.2.1 p.1.2.2.2.2.1 p.2.1.1 p.2.1.2.1 p.2.2.1).bind fun e => k (.inl (((), ()), (e, ()))) }
theorem sure_l1_eq (N n_ : Nat) (d : ((List (List Int)) × ((List Int) × (Int × ((List Int) × (List Int)))))) (u : Int) (u2 : Int) (best : Int) (best2 : Int) (out : List Int) : ev (Z := List Int) Try.prog (sure_sp N) sure_B [sure_l2_L N] [sure_l1_h (sure_l1 N n_), sure_l1_e0] none 400 true sure_l1_at (stL sure_l1_st ((d, (), (), u, u2, ()), ((best, best2, ()), out, ()))) (stH sure_l1_st ((d, (), (), u, u2, ()), ((best, best2, ()), out, ()))) = sure_l1 N (n_ + 1) d u u2 best best2 out := by kernel_rfl
theorem sure_l1_ok (N : Nat) {top : Bool} : LoopOK Try.prog sure_B.c sure_B.n sure_B.m0 top (sure_l1_L N) := loop_of_ev (Z := List Int) (N := N) (fun m p => sure_l1 N m p.1.1 p.1.2.2.2.1 p.1.2.2.2.2.1 p.2.1.1 p.2.1.2.1 p.2.2.1) (fun e => .inl (((), ()), (e, ()))) (fun _ _ _ => rfl) (fun _ => rfl) (fun m z E Xc hE hX hrec hx => leaf_of_ev (B := sure_B) (loops := [sure_l2_L N]) (leaves := [sure_l1_h (sure_l1 N m), sure_l1_e0]) (sure_all N) mixed ⟨sure_l2_ok N, trivial⟩ hE hX ⟨hrec, (fun p hp => by obtain rfl := Option.some.inj hp; exact hx), trivial⟩ RetOK.no (fun p => sure_l1_eq N m p.1.1 p.1.2.2.2.1 p.1.2.2.2.2.1 p.2.1.1 p.2.1.2.1 p.2.2.1))
abbrev sure_st : Sta := ⟨[0, 1], ⟨[.agg [.sl (.sl (.int .i64)), .sl (.int .i64), .i .i64], .agg [.i .i64, .i .i64]], []⟩⟩
theorem sure_eq (N : Nat) (e : List (List Int)) (e2 : List Int) (e3 : Int) (p : Int) (p2 : Int) : ev (Z := List Int × Int) Try.prog (sure_sp N) sure_B [sure_l2_L N, sure_l1_L N] [] (some sure_rt) 400 false [.c [0], .c [1]] (stL sure_st (((e, e2, e3, ()), (p, p2, ()), ()), ())) (stH sure_st (((e, e2, e3, ()), (p, p2, ()), ()), ())) = sure_S N e e2 e3 p p2 := by kernel_rfl
noncomputable def sp_sure (N : Nat) : Spec := { f := 33, ins := ⟨[.agg [.sl (.sl (.int .i64)), .sl (.int .i64), .i .i64], .agg [.i .i64, .i .i64]], []⟩, outs := [⟨[.sl (.int .i64), .i .i64], []⟩], run := fun p k => (sure_S N p.1.1.1 p.1.1.2.1 p.1.1.2.2.1 p.1.2.1.1 p.1.2.1.2.1).bind fun r => k ((r.1, r.2, ()), ()) }
theorem sp_sure_ok (N : Nat) : SpecOK Try.prog (sp_sure N) := fn_sound (B := sure_B) (loops := [sure_l2_L N, sure_l1_L N]) (leaves := []) (fun p => sure_S N p.1.1.1 p.1.1.2.1 p.1.1.2.2.1 p.1.2.1.1 p.1.2.1.2.1) (fun r => ((r.1, r.2, ()), ())) sure_rt (fun _ _ _ => rfl) (fun r z h => by cases h; rfl) Try.func33 (by kernel_rfl) (by kernel_rfl) (by kernel_rfl) rfl rfl (by kernel_rfl) (fun args w => Sem.pv_run _ _ _ (by kernel_rfl) w) (sure_all N) mixed ⟨sure_l2_ok N, sure_l1_ok N, trivial⟩ (fun z E Xc hE hX hret => trivial) (fun p => sure_eq N p.1.1.1 p.1.1.2.1 p.1.1.2.2.1 p.1.2.1.1 p.1.2.1.2.1)

end Go.Proofs.Ytfcnhnbnjdccfaa

namespace Go.Proofs.Ytfcnhnbnjdccfaa
set_option linter.all false
open Go

def equali_l1 (N : Nat) : Nat → (List Int) → (List Int) → Int → Int → Option ((Unit) ⊕ (Unit))
  | 0, _, _, _, _ => none
  | n_ + 1, s1, s2, u, u2 =>
    br (decide (u2 < u))
      (idx s1 u2 fun x_1 =>
      idx s2 u2 fun x_2 =>
      br (!decide (x_1 = x_2))
        (some (.inl ()))
        (chk (u2 + 1) <|
        equali_l1 N n_ s1 s2 u (u2 + 1)))
      (some (.inr ()))
def equali_S (N : Nat) (s1 : List Int) (s2 : List Int) : Option Bool :=
  br (!decide ((s1.length : Int) = (s2.length : Int)))
    (some false)
    ((equali_l1 N N s1 s2 (s1.length : Int) 0).bind fun e => match e with
    | .inl _ =>
      some false
    | .inr _ =>
      some true)
noncomputable def equali_sp (N : Nat) : List Spec := []
theorem equali_all (N : Nat) : AllP (SpecOK Try.prog) (equali_sp N) := trivial
noncomputable def equali_c : Code := (Try.f103.body).getD .skip
noncomputable abbrev equali_B : Body := { c := equali_c, n := 26, res := [.tmp 4], outs := [⟨[.b], []⟩], m0 := 0 }
abbrev equali_rt : altD equali_B.outs → Option Bool := fun r => some r.1.1
abbrev equali_l1_at : List PI := [.c [1, 1, 0, 1, 0, 0, 0], .c [1, 1, 0, 1, 0, 0, 1], .l [1, 1, 0, 1, 0, 0], .b 0, .c [1, 1, 1]]
abbrev equali_l1_st : Sta := ⟨[0, 1, 12, 13], ⟨[.sl (.int .i64), .sl (.int .i64), .i .i64, .i .i64], []⟩⟩
abbrev equali_l1_h (rec : (List Int) → (List Int) → Int → Int → Option ((Unit) ⊕ (Unit))) : Leaf ((Unit) ⊕ (Unit)) := ⟨equali_l1_at, equali_l1_st, fun p => rec p.1.1 p.1.2.1 p.1.2.2.1 p.1.2.2.2.1⟩
abbrev equali_l1_e0 : Leaf ((Unit) ⊕ (Unit)) := ⟨[.c [1, 1, 0, 1, 0, 0, 1, 1, 0, 0, 1, 1, 0, 0], .c [1, 1, 0, 1, 0, 0, 1, 1, 0, 0, 1, 1, 0, 1], .b 1, .c [1, 1, 0, 1, 0, 0, 1, 1, 1], .l [1, 1, 0, 1, 0, 0], .b 0, .c [1, 1, 1]], ⟨[], ⟨[], []⟩⟩, fun p => some (.inl ())⟩
abbrev equali_l1_e1 : Leaf ((Unit) ⊕ (Unit)) := ⟨[.c [1, 1, 1, 0], .c [1, 1, 1, 1]], ⟨[], ⟨[], []⟩⟩, fun p => some (.inr ())⟩
noncomputable def equali_l1_L (N : Nat) : LoopS := { at_ := equali_l1_at, sta := equali_l1_st, exits := [([.c [1, 1, 0, 1, 0, 0, 1, 1, 0, 0, 1, 1, 0, 0], .c [1, 1, 0, 1, 0, 0, 1, 1, 0, 0, 1, 1, 0, 1], .b 1, .c [1, 1, 0, 1, 0, 0, 1, 1, 1], .l [1, 1, 0, 1, 0, 0], .b 0, .c [1, 1, 1]], ⟨[], ⟨[], []⟩⟩), ([.c [1, 1, 1, 0], .c [1, 1, 1, 1]], ⟨[], ⟨[], []⟩⟩)], run := fun p k => (equali_l1 N N p.1.1 p.1.2.1 p.1.2.2.1 p.1.2.2.2.1).bind fun e => match e with | .inl x => k (.inl ((), ())) | .inr x => k (.inr (.inl ((), ()))) }
theorem equali_l1_eq (N n_ : Nat) (s1 : List Int) (s2 : List Int) (u : Int) (u2 : Int) : ev (Z := (Unit) ⊕ (Unit)) Try.prog (equali_sp N) equali_B [] [equali_l1_h (equali_l1 N n_), equali_l1_e0, equali_l1_e1] none 400 true equali_l1_at (stL equali_l1_st ((s1, s2, u, u2, ()), ())) (stH equali_l1_st ((s1, s2, u, u2, ()), ())) = equali_l1 N (n_ + 1) s1 s2 u u2 := by kernel_rfl
theorem equali_l1_ok (N : Nat) {top : Bool} : LoopOK Try.prog equali_B.c equali_B.n equali_B.m0 top (equali_l1_L N) := loop_of_ev (Z := (Unit) ⊕ (Unit)) (N := N) (fun m p => equali_l1 N m p.1.1 p.1.2.1 p.1.2.2.1 p.1.2.2.2.1) (fun e => match e with | .inl x => .inl ((), ()) | .inr x => .inr (.inl ((), ()))) (fun _ p k => bind_congr_ (equali_l1 N N p.1.1 p.1.2.1 p.1.2.2.1 p.1.2.2.2.1) _ _ (fun e => by rcases e with x | x <;> rfl)) (fun _ => rfl) (fun m z E Xc hE hX hrec hx => leaf_of_ev (B := equali_B) (loops := []) (leaves := [equali_l1_h (equali_l1 N m), equali_l1_e0, equali_l1_e1]) (equali_all N) mixed trivial hE hX ⟨hrec, (fun p hp => by obtain rfl := Option.some.inj hp; exact hx), (fun p hp => by obtain rfl := Option.some.inj hp; exact hx), trivial⟩ RetOK.no (fun p => equali_l1_eq N m p.1.1 p.1.2.1 p.1.2.2.1 p.1.2.2.2.1))
abbrev equali_st : Sta := ⟨[0, 1], ⟨[.sl (.int .i64), .sl (.int .i64)], []⟩⟩
theorem equali_eq (N : Nat) (s1 : List Int) (s2 : List Int) : ev (Z := Bool) Try.prog (equali_sp N) equali_B [equali_l1_L N] [] (some equali_rt) 400 false [.c [0], .c [1]] (stL equali_st ((s1, s2, ()), ())) (stH equali_st ((s1, s2, ()), ())) = equali_S N s1 s2 := by kernel_rfl
noncomputable def sp_equali (N : Nat) : Spec := { f := 103, ins := ⟨[.sl (.int .i64), .sl (.int .i64)], []⟩, outs := [⟨[.b], []⟩], run := fun p k => (equali_S N p.1.1 p.1.2.1).bind fun r => k ((r, ()), ()) }
theorem sp_equali_ok (N : Nat) : SpecOK Try.prog (sp_equali N) := fn_sound (B := equali_B) (loops := [equali_l1_L N]) (leaves := []) (fun p => equali_S N p.1.1 p.1.2.1) (fun r => ((r, ()), ())) equali_rt (fun _ _ _ => rfl) (fun r z h => by cases h; rfl) Try.func103 (by kernel_rfl) (by kernel_rfl) (by kernel_rfl) rfl rfl (by kernel_rfl) (fun args w => Sem.pv_run _ _ _ (by kernel_rfl) w) (equali_all N) mixed ⟨equali_l1_ok N, trivial⟩ (fun z E Xc hE hX hret => trivial) (fun p => equali_eq N p.1.1 p.1.2.1)

def likei_S (N : Nat) (a : List Int) (b : List Int) : Option Bool :=
  (equali_S N a b).bind fun x_1 =>
  some x_1
noncomputable def likei_sp (N : Nat) : List Spec := [sp_equali N]
theorem likei_all (N : Nat) : AllP (SpecOK Try.prog) (likei_sp N) := ⟨sp_equali_ok N, trivial⟩
noncomputable def likei_c : Code := (Try.f61.body).getD .skip
noncomputable abbrev likei_B : Body := { c := likei_c, n := 8, res := [.tmp 4], outs := [⟨[.b], []⟩], m0 := 0 }
abbrev likei_rt : altD likei_B.outs → Option Bool := fun r => some r.1.1
abbrev likei_st : Sta := ⟨[0, 1], ⟨[.sl (.int .i64), .sl (.int .i64)], []⟩⟩
theorem likei_eq (N : Nat) (a : List Int) (b : List Int) : ev (Z := Bool) Try.prog (likei_sp N) likei_B [] [] (some likei_rt) 400 false [.c [0], .c [1]] (stL likei_st ((a, b, ()), ())) (stH likei_st ((a, b, ()), ())) = likei_S N a b := by kernel_rfl
noncomputable def sp_likei (N : Nat) : Spec := { f := 61, ins := ⟨[.sl (.int .i64), .sl (.int .i64)], []⟩, outs := [⟨[.b], []⟩], run := fun p k => (likei_S N p.1.1 p.1.2.1).bind fun r => k ((r, ()), ()) }
theorem sp_likei_ok (N : Nat) : SpecOK Try.prog (sp_likei N) := fn_sound (B := likei_B) (loops := []) (leaves := []) (fun p => likei_S N p.1.1 p.1.2.1) (fun r => ((r, ()), ())) likei_rt (fun _ _ _ => rfl) (fun r z h => by cases h; rfl) Try.func61 (by kernel_rfl) (by kernel_rfl) (by kernel_rfl) rfl rfl (by kernel_rfl) (fun args w => Sem.pv_run _ _ _ (by kernel_rfl) w) (likei_all N) mixed trivial (fun z E Xc hE hX hret => trivial) (fun p => likei_eq N p.1.1 p.1.2.1)

def equals_l1 (N : Nat) : Nat → (List Int) → (List Int) → Int → Int → Option ((Unit) ⊕ (Unit))
  | 0, _, _, _, _ => none
  | n_ + 1, s1, s2, u, u2 =>
    br (decide (u2 < u))
      (idx s1 u2 fun x_1 =>
      idx s2 u2 fun x_2 =>
      br (!decide (x_1 = x_2))
        (some (.inl ()))
        (chk (u2 + 1) <|
        equals_l1 N n_ s1 s2 u (u2 + 1)))
      (some (.inr ()))
def equals_S (N : Nat) (s1 : List Int) (s2 : List Int) : Option Bool :=
  br (!decide ((s1.length : Int) = (s2.length : Int)))
    (some false)
    ((equals_l1 N N s1 s2 (s1.length : Int) 0).bind fun e => match e with
    | .inl _ =>
      some false
    | .inr _ =>
      some true)
noncomputable def equals_sp (N : Nat) : List Spec := []
theorem equals_all (N : Nat) : AllP (SpecOK Try.prog) (equals_sp N) := trivial
noncomputable def equals_c : Code := (Try.f118.body).getD .skip
noncomputable abbrev equals_B : Body := { c := equals_c, n := 26, res := [.tmp 4], outs := [⟨[.b], []⟩], m0 := 0 }
abbrev equals_rt : altD equals_B.outs → Option Bool := fun r => some r.1.1
abbrev equals_l1_at : List PI := [.c [1, 1, 0, 1, 0, 0, 0], .c [1, 1, 0, 1, 0, 0, 1], .l [1, 1, 0, 1, 0, 0], .b 0, .c [1, 1, 1]]
abbrev equals_l1_st : Sta := ⟨[0, 1, 12, 13], ⟨[.sl (.int .i64), .sl (.int .i64), .i .i64, .i .i64], []⟩⟩
abbrev equals_l1_h (rec : (List Int) → (List Int) → Int → Int → Option ((Unit) ⊕ (Unit))) : Leaf ((Unit) ⊕ (Unit)) := ⟨equals_l1_at, equals_l1_st, fun p => rec p.1.1 p.1.2.1 p.1.2.2.1 p.1.2.2.2.1⟩
abbrev equals_l1_e0 : Leaf ((Unit) ⊕ (Unit)) := ⟨[.c [1, 1, 0, 1, 0, 0, 1, 1, 0, 0, 1, 1, 0, 0], .c [1, 1, 0, 1, 0, 0, 1, 1, 0, 0, 1, 1, 0, 1], .b 1, .c [1, 1, 0, 1, 0, 0, 1, 1, 1], .l [1, 1, 0, 1, 0, 0], .b 0, .c [1, 1, 1]], ⟨[], ⟨[], []⟩⟩, fun p => some (.inl ())⟩
abbrev equals_l1_e1 : Leaf ((Unit) ⊕ (Unit)) := ⟨[.c [1, 1, 1, 0], .c [1, 1, 1, 1]], ⟨[], ⟨[], []⟩⟩, fun p => some (.inr ())⟩
noncomputable def equals_l1_L (N : Nat) : LoopS := { at_ := equals_l1_at, sta := equals_l1_st, exits := [([.c [1, 1, 0, 1, 0, 0, 1, 1, 0, 0, 1, 1, 0, 0], .c [1, 1, 0, 1, 0, 0, 1, 1, 0, 0, 1, 1, 0, 1], .b 1, .c [1, 1, 0, 1, 0, 0, 1, 1, 1], .l [1, 1, 0, 1, 0, 0], .b 0, .c [1, 1, 1]], ⟨[], ⟨[], []⟩⟩), ([.c [1, 1, 1, 0], .c [1, 1, 1, 1]], ⟨[], ⟨[], []⟩⟩)], run := fun p k => (equals_l1 N N p.1.1 p.1.2.1 p.1.2.2.1 p.1.2.2.2.1).bind fun e => match e with | .inl x => k (.inl ((), ())) | .inr x => k (.inr (.inl ((), ()))) }
theorem equals_l1_eq (N n_ : Nat) (s1 : List Int) (s2 : List Int) (u : Int) (u2 : Int) : ev (Z := (Unit) ⊕ (Unit)) Try.prog (equals_sp N) equals_B [] [equals_l1_h (equals_l1 N n_), equals_l1_e0, equals_l1_e1] none 400 true equals_l1_at (stL equals_l1_st ((s1, s2, u, u2, ()), ())) (stH equals_l1_st ((s1, s2, u, u2, ()), ())) = equals_l1 N (n_ + 1) s1 s2 u u2 := by kernel_rfl
theorem equals_l1_ok (N : Nat) {top : Bool} : LoopOK Try.prog equals_B.c equals_B.n equals_B.m0 top (equals_l1_L N) := loop_of_ev (Z := (Unit) ⊕ (Unit)) (N := N) (fun m p => equals_l1 N m p.1.1 p.1.2.1 p.1.2.2.1 p.1.2.2.2.1) (fun e => match e with | .inl x => .inl ((), ()) | .inr x => .inr (.inl ((), ()))) (fun _ p k => bind_congr_ (equals_l1 N N p.1.1 p.1.2.1 p.1.2.2.1 p.1.2.2.2.1) _ _ (fun e => by rcases e with x | x <;> rfl)) (fun _ => rfl) (fun m z E Xc hE hX hrec hx => leaf_of_ev (B := equals_B) (loops := []) (leaves := [equals_l1_h (equals_l1 N m), equals_l1_e0, equals_l1_e1]) (equals_all N) mixed trivial hE hX ⟨hrec, (fun p hp => by obtain rfl := Option.some.inj hp; exact hx), (fun p hp => by obtain rfl := Option.some.inj hp; exact hx), trivial⟩ RetOK.no (fun p => equals_l1_eq N m p.1.1 p.1.2.1 p.1.2.2.1 p.1.2.2.2.1))
abbrev equals_st : Sta := ⟨[0, 1], ⟨[.sl (.int .i64), .sl (.int .i64)], []⟩⟩
theorem equals_eq (N : Nat) (s1 : List Int) (s2 : List Int) : ev (Z := Bool) Try.prog (equals_sp N) equals_B [equals_l1_L N] [] (some equals_rt) 400 false [.c [0], .c [1]] (stL equals_st ((s1, s2, ()), ())) (stH equals_st ((s1, s2, ()), ())) = equals_S N s1 s2 := by kernel_rfl
noncomputable def sp_equals (N : Nat) : Spec := { f := 118, ins := ⟨[.sl (.int .i64), .sl (.int .i64)], []⟩, outs := [⟨[.b], []⟩], run := fun p k => (equals_S N p.1.1 p.1.2.1).bind fun r => k ((r, ()), ()) }
theorem sp_equals_ok (N : Nat) : SpecOK Try.prog (sp_equals N) := fn_sound (B := equals_B) (loops := [equals_l1_L N]) (leaves := []) (fun p => equals_S N p.1.1 p.1.2.1) (fun r => ((r, ()), ())) equals_rt (fun _ _ _ => rfl) (fun r z h => by cases h; rfl) Try.func118 (by kernel_rfl) (by kernel_rfl) (by kernel_rfl) rfl rfl (by kernel_rfl) (fun args w => Sem.pv_run _ _ _ (by kernel_rfl) w) (equals_all N) mixed ⟨equals_l1_ok N, trivial⟩ (fun z E Xc hE hX hret => trivial) (fun p => equals_eq N p.1.1 p.1.2.1)

def likes_S (N : Nat) (a : List Int) (b : List Int) : Option Bool :=
  (equals_S N a b).bind fun x_1 =>
  some x_1
noncomputable def likes_sp (N : Nat) : List Spec := [sp_equals N]
theorem likes_all (N : Nat) : AllP (SpecOK Try.prog) (likes_sp N) := ⟨sp_equals_ok N, trivial⟩
noncomputable def likes_c : Code := (Try.f79.body).getD .skip
noncomputable abbrev likes_B : Body := { c := likes_c, n := 8, res := [.tmp 4], outs := [⟨[.b], []⟩], m0 := 0 }
abbrev likes_rt : altD likes_B.outs → Option Bool := fun r => some r.1.1
abbrev likes_st : Sta := ⟨[0, 1], ⟨[.sl (.int .i64), .sl (.int .i64)], []⟩⟩
theorem likes_eq (N : Nat) (a : List Int) (b : List Int) : ev (Z := Bool) Try.prog (likes_sp N) likes_B [] [] (some likes_rt) 400 false [.c [0], .c [1]] (stL likes_st ((a, b, ()), ())) (stH likes_st ((a, b, ()), ())) = likes_S N a b := by kernel_rfl
noncomputable def sp_likes (N : Nat) : Spec := { f := 79, ins := ⟨[.sl (.int .i64), .sl (.int .i64)], []⟩, outs := [⟨[.b], []⟩], run := fun p k => (likes_S N p.1.1 p.1.2.1).bind fun r => k ((r, ()), ()) }
theorem sp_likes_ok (N : Nat) : SpecOK Try.prog (sp_likes N) := fn_sound (B := likes_B) (loops := []) (leaves := []) (fun p => likes_S N p.1.1 p.1.2.1) (fun r => ((r, ()), ())) likes_rt (fun _ _ _ => rfl) (fun r z h => by cases h; rfl) Try.func79 (by kernel_rfl) (by kernel_rfl) (by kernel_rfl) rfl rfl (by kernel_rfl) (fun args w => Sem.pv_run _ _ _ (by kernel_rfl) w) (likes_all N) mixed trivial (fun z E Xc hE hX hret => trivial) (fun p => likes_eq N p.1.1 p.1.2.1)

def equalp_l1 (N : Nat) : Nat → (List (Int × Int)) → (List (Int × Int)) → Int → Int → Option ((Unit) ⊕ (Unit))
  | 0, _, _, _, _ => none
  | n_ + 1, s1, s2, u, u2 =>
    br (decide (u2 < u))
      (idx s1 u2 fun x_1 =>
      idx s2 u2 fun x_2 =>
      br (!(decide (x_1.1 = x_2.1) && decide (x_1.2 = x_2.2)))
        (some (.inl ()))
        (chk (u2 + 1) <|
        equalp_l1 N n_ s1 s2 u (u2 + 1)))
      (some (.inr ()))
def equalp_S (N : Nat) (s1 : List (Int × Int)) (s2 : List (Int × Int)) : Option Bool :=
  br (!decide ((s1.length : Int) = (s2.length : Int)))
    (some false)
    ((equalp_l1 N N s1 s2 (s1.length : Int) 0).bind fun e => match e with
    | .inl _ =>
      some false
    | .inr _ =>
      some true)
noncomputable def equalp_sp (N : Nat) : List Spec := []
theorem equalp_all (N : Nat) : AllP (SpecOK Try.prog) (equalp_sp N) := trivial
noncomputable def equalp_c : Code := (Try.f119.body).getD .skip
noncomputable abbrev equalp_B : Body := { c := equalp_c, n := 26, res := [.tmp 4], outs := [⟨[.b], []⟩], m0 := 0 }
abbrev equalp_rt : altD equalp_B.outs → Option Bool := fun r => some r.1.1
abbrev equalp_l1_at : List PI := [.c [1, 1, 0, 1, 0, 0, 0], .c [1, 1, 0, 1, 0, 0, 1], .l [1, 1, 0, 1, 0, 0], .b 0, .c [1, 1, 1]]
abbrev equalp_l1_st : Sta := ⟨[0, 1, 12, 13], ⟨[.sl (.pair (.int .i64) (.int .i64)), .sl (.pair (.int .i64) (.int .i64)), .i .i64, .i .i64], []⟩⟩
abbrev equalp_l1_h (rec : (List (Int × Int)) → (List (Int × Int)) → Int → Int → Option ((Unit) ⊕ (Unit))) : Leaf ((Unit) ⊕ (Unit)) := ⟨equalp_l1_at, equalp_l1_st, fun p => rec p.1.1 p.1.2.1 p.1.2.2.1 p.1.2.2.2.1⟩
abbrev equalp_l1_e0 : Leaf ((Unit) ⊕ (Unit)) := ⟨[.c [1, 1, 0, 1, 0, 0, 1, 1, 0, 0, 1, 1, 0, 0], .c [1, 1, 0, 1, 0, 0, 1, 1, 0, 0, 1, 1, 0, 1], .b 1, .c [1, 1, 0, 1, 0, 0, 1, 1, 1], .l [1, 1, 0, 1, 0, 0], .b 0, .c [1, 1, 1]], ⟨[], ⟨[], []⟩⟩, fun p => some (.inl ())⟩
abbrev equalp_l1_e1 : Leaf ((Unit) ⊕ (Unit)) := ⟨[.c [1, 1, 1, 0], .c [1, 1, 1, 1]], ⟨[], ⟨[], []⟩⟩, fun p => some (.inr ())⟩
noncomputable def equalp_l1_L (N : Nat) : LoopS := { at_ := equalp_l1_at, sta := equalp_l1_st, exits := [([.c [1, 1, 0, 1, 0, 0, 1, 1, 0, 0, 1, 1, 0, 0], .c [1, 1, 0, 1, 0, 0, 1, 1, 0, 0, 1, 1, 0, 1], .b 1, .c [1, 1, 0, 1, 0, 0, 1, 1, 1], .l [1, 1, 0, 1, 0, 0], .b 0, .c [1, 1, 1]], ⟨[], ⟨[], []⟩⟩), ([.c [1, 1, 1, 0], .c [1, 1, 1, 1]], ⟨[], ⟨[], []⟩⟩)], run := fun p k => (equalp_l1 N N p.1.1 p.1.2.1 p.1.2.2.1 p.1.2.2.2.1).bind fun e => match e with | .inl x => k (.inl ((), ())) | .inr x => k (.inr (.inl ((), ()))) }
theorem equalp_l1_eq (N n_ : Nat) (s1 : List (Int × Int)) (s2 : List (Int × Int)) (u : Int) (u2 : Int) : ev (Z := (Unit) ⊕ (Unit)) Try.prog (equalp_sp N) equalp_B [] [equalp_l1_h (equalp_l1 N n_), equalp_l1_e0, equalp_l1_e1] none 400 true equalp_l1_at (stL equalp_l1_st ((s1, s2, u, u2, ()), ())) (stH equalp_l1_st ((s1, s2, u, u2, ()), ())) = equalp_l1 N (n_ + 1) s1 s2 u u2 := by kernel_rfl
theorem equalp_l1_ok (N : Nat) {top : Bool} : LoopOK Try.prog equalp_B.c equalp_B.n equalp_B.m0 top (equalp_l1_L N) := loop_of_ev (Z := (Unit) ⊕ (Unit)) (N := N) (fun m p => equalp_l1 N m p.1.1 p.1.2.1 p.1.2.2.1 p.1.2.2.2.1) (fun e => match e with | .inl x => .inl ((), ()) | .inr x => .inr (.inl ((), ()))) (fun _ p k => bind_congr_ (equalp_l1 N N p.1.1 p.1.2.1 p.1.2.2.1 p.1.2.2.2.1) _ _ (fun e => by rcases e with x | x <;> rfl)) (fun _ => rfl) (fun m z E Xc hE hX hrec hx => leaf_of_ev (B := equalp_B) (loops := []) (leaves := [equalp_l1_h (equalp_l1 N m), equalp_l1_e0, equalp_l1_e1]) (equalp_all N) mixed trivial hE hX ⟨hrec, (fun p hp => by obtain rfl := Option.some.inj hp; exact hx), (fun p hp => by obtain rfl := Option.some.inj hp; exact hx), trivial⟩ RetOK.no (fun p => equalp_l1_eq N m p.1.1 p.1.2.1 p.1.2.2.1 p.1.2.2.2.1))
abbrev equalp_st : Sta := ⟨[0, 1], ⟨[.sl (.pair (.int .i64) (.int .i64)), .sl (.pair (.int .i64) (.int .i64))], []⟩⟩
theorem equalp_eq (N : Nat) (s1 : List (Int × Int)) (s2 : List (Int × Int)) : ev (Z := Bool) Try.prog (equalp_sp N) equalp_B [equalp_l1_L N] [] (some equalp_rt) 400 false [.c [0], .c [1]] (stL equalp_st ((s1, s2, ()), ())) (stH equalp_st ((s1, s2, ()), ())) = equalp_S N s1 s2 := by kernel_rfl
noncomputable def sp_equalp (N : Nat) : Spec := { f := 119, ins := ⟨[.sl (.pair (.int .i64) (.int .i64)), .sl (.pair (.int .i64) (.int .i64))], []⟩, outs := [⟨[.b], []⟩], run := fun p k => (equalp_S N p.1.1 p.1.2.1).bind fun r => k ((r, ()), ()) }
theorem sp_equalp_ok (N : Nat) : SpecOK Try.prog (sp_equalp N) := fn_sound (B := equalp_B) (loops := [equalp_l1_L N]) (leaves := []) (fun p => equalp_S N p.1.1 p.1.2.1) (fun r => ((r, ()), ())) equalp_rt (fun _ _ _ => rfl) (fun r z h => by cases h; rfl) Try.func119 (by kernel_rfl) (by kernel_rfl) (by kernel_rfl) rfl rfl (by kernel_rfl) (fun args w => Sem.pv_run _ _ _ (by kernel_rfl) w) (equalp_all N) mixed ⟨equalp_l1_ok N, trivial⟩ (fun z E Xc hE hX hret => trivial) (fun p => equalp_eq N p.1.1 p.1.2.1)

def likep_S (N : Nat) (a : List (Int × Int)) (b : List (Int × Int)) : Option Bool :=
  (equalp_S N a b).bind fun x_1 =>
  some x_1
noncomputable def likep_sp (N : Nat) : List Spec := [sp_equalp N]
theorem likep_all (N : Nat) : AllP (SpecOK Try.prog) (likep_sp N) := ⟨sp_equalp_ok N, trivial⟩
noncomputable def likep_c : Code := (Try.f80.body).getD .skip
noncomputable abbrev likep_B : Body := { c := likep_c, n := 8, res := [.tmp 4], outs := [⟨[.b], []⟩], m0 := 0 }
abbrev likep_rt : altD likep_B.outs → Option Bool := fun r => some r.1.1
abbrev likep_st : Sta := ⟨[0, 1], ⟨[.sl (.pair (.int .i64) (.int .i64)), .sl (.pair (.int .i64) (.int .i64))], []⟩⟩
theorem likep_eq (N : Nat) (a : List (Int × Int)) (b : List (Int × Int)) : ev (Z := Bool) Try.prog (likep_sp N) likep_B [] [] (some likep_rt) 400 false [.c [0], .c [1]] (stL likep_st ((a, b, ()), ())) (stH likep_st ((a, b, ()), ())) = likep_S N a b := by kernel_rfl
noncomputable def sp_likep (N : Nat) : Spec := { f := 80, ins := ⟨[.sl (.pair (.int .i64) (.int .i64)), .sl (.pair (.int .i64) (.int .i64))], []⟩, outs := [⟨[.b], []⟩], run := fun p k => (likep_S N p.1.1 p.1.2.1).bind fun r => k ((r, ()), ()) }
theorem sp_likep_ok (N : Nat) : SpecOK Try.prog (sp_likep N) := fn_sound (B := likep_B) (loops := []) (leaves := []) (fun p => likep_S N p.1.1 p.1.2.1) (fun r => ((r, ()), ())) likep_rt (fun _ _ _ => rfl) (fun r z h => by cases h; rfl) Try.func80 (by kernel_rfl) (by kernel_rfl) (by kernel_rfl) rfl rfl (by kernel_rfl) (fun args w => Sem.pv_run _ _ _ (by kernel_rfl) w) (likep_all N) mixed trivial (fun z E Xc hE hX hret => trivial) (fun p => likep_eq N p.1.1 p.1.2.1)

def two_S (N : Nat) (heard : Int) (faults : Int) : Option (List (List Int) × List Int × Int) :=
  grd (decide ((0 : Int) ≤ heard ∧ heard ≤ ([1, 4, 2, 2, 3].length : Int))) <|
  some ([[1, 2, 3], [4, 2]], ([1, 4, 2, 2, 3].take heard.toNat), faults)
noncomputable def two_sp (N : Nat) : List Spec := []
theorem two_all (N : Nat) : AllP (SpecOK Try.prog) (two_sp N) := trivial
noncomputable def two_c : Code := (Try.f78.body).getD .skip
noncomputable abbrev two_B : Body := { c := two_c, n := 13, res := [.cell 4 26], outs := [⟨[.agg [.sl (.sl (.int .i64)), .sl (.int .i64), .i .i64]], []⟩], m0 := 0 }
abbrev two_rt : altD two_B.outs → Option (List (List Int) × List Int × Int) := fun r => some (r.1.1.1, r.1.1.2.1, r.1.1.2.2.1)
abbrev two_st : Sta := ⟨[0, 1], ⟨[.i .i64, .i .i64], []⟩⟩
theorem two_eq (N : Nat) (heard : Int) (faults : Int) : ev (Z := List (List Int) × List Int × Int) Try.prog (two_sp N) two_B [] [] (some two_rt) 400 false [.c [0], .c [1]] (stL two_st ((heard, faults, ()), ())) (stH two_st ((heard, faults, ()), ())) = two_S N heard faults := by kernel_rfl
noncomputable def sp_two (N : Nat) : Spec := { f := 78, ins := ⟨[.i .i64, .i .i64], []⟩, outs := [⟨[.agg [.sl (.sl (.int .i64)), .sl (.int .i64), .i .i64]], []⟩], run := fun p k => (two_S N p.1.1 p.1.2.1).bind fun r => k (((r.1, r.2.1, r.2.2, ()), ()), ()) }
theorem sp_two_ok (N : Nat) : SpecOK Try.prog (sp_two N) := fn_sound (B := two_B) (loops := []) (leaves := []) (fun p => two_S N p.1.1 p.1.2.1) (fun r => (((r.1, r.2.1, r.2.2, ()), ()), ())) two_rt (fun _ _ _ => rfl) (fun r z h => by cases h; rfl) Try.func78 (by kernel_rfl) (by kernel_rfl) (by kernel_rfl) rfl rfl (by kernel_rfl) (fun args w => Sem.pv_run _ _ _ (by kernel_rfl) w) (two_all N) mixed trivial (fun z E Xc hE hX hret => trivial) (fun p => two_eq N p.1.1 p.1.2.1)

def awake_S (N : Nat)  : Option Bool :=
  (two_S N 5 0).bind fun (x_1, y_2, y_3) =>
  (least_S N x_1 y_2 y_3 0 1).bind fun (x_4, y_5) =>
  (two_S N 5 0).bind fun (x_6, y_7, y_8) =>
  (count_S N x_6 y_7 y_8 0 1).bind fun (x_9, y_10) =>
  (two_S N 5 0).bind fun (x_11, y_12, y_13) =>
  (sure_S N x_11 y_12 y_13 0 1).bind fun (x_14, y_15) =>
  (two_S N 5 2).bind fun (x_16, y_17, y_18) =>
  (pairs_S N x_16 y_17 y_18).bind fun (x_19, y_20) =>
  br (!decide (y_5 = 0))
    (some false)
    (br (!decide (y_10 = 0))
      (some false)
      (br (!decide (y_15 = 0))
        (some false)
        (br (!decide (y_20 = 0))
          (some false)
          (br (!decide (x_4 = 0))
            (some false)
            (br (!decide (x_9 = 2))
              (some false)
              ((likes_S N x_14 [1, 2, 0, 0, 1]).bind fun x_21 =>
              br (!x_21)
                (some false)
                ((likep_S N x_19 [(0, 1)]).bind fun x_22 =>
                br (!x_22)
                  (some false)
                  ((two_S N 3 0).bind fun (x_23, y_24, y_25) =>
                  (least_S N x_23 y_24 y_25 0 1).bind fun (x_26, y_27) =>
                  (two_S N 5 0).bind fun (x_28, y_29, y_30) =>
                  (dist_S N x_28 y_29 y_30 0 1).bind fun (x_31, y_32) =>
                  (two_S N 5 0).bind fun (x_33, y_34, y_35) =>
                  (commons_S N x_33 y_34 y_35 0 1).bind fun (x_36, y_37) =>
                  (two_S N 5 2).bind fun (x_38, y_39, y_40) =>
                  (conf_S N x_38 y_39 y_40).bind fun (x_41, y_42) =>
                  br (decide (y_27 = 0))
                    (br (decide (y_32 = 0))
                      (br (decide (y_37 = 0))
                        (br (decide (y_42 = 0))
                          (br (decide (x_26 = 2))
                            (br (decide (x_31 = 3))
                              ((likei_S N x_36 [2]).bind fun x_43 =>
                              br x_43
                                ((likep_S N x_41 [(0, 1)]).bind fun x_44 =>
                                some x_44)
                                (some false))
                              (some false))
                            (some false))
                          (some false))
                        (some false))
                      (some false))
                    (some false)))))))))
noncomputable def awake_sp (N : Nat) : List Spec := [sp_dist N, sp_commons N, sp_conf N, sp_least N, sp_count N, sp_pairs N, sp_sure N, sp_likei N, sp_likes N, sp_likep N, sp_two N]
theorem awake_all (N : Nat) : AllP (SpecOK Try.prog) (awake_sp N) := ⟨sp_dist_ok N, sp_commons_ok N, sp_conf_ok N, sp_least_ok N, sp_count_ok N, sp_pairs_ok N, sp_sure_ok N, sp_likei_ok N, sp_likes_ok N, sp_likep_ok N, sp_two_ok N, trivial⟩
noncomputable def awake_c : Code := (Try.f26.body).getD .skip
noncomputable abbrev awake_B : Body := { c := awake_c, n := 124, res := [.tmp 0], outs := [⟨[.b], []⟩], m0 := 0 }
abbrev awake_rt : altD awake_B.outs → Option Bool := fun r => some r.1.1
abbrev awake_st : Sta := ⟨[], ⟨[], []⟩⟩
theorem awake_eq (N : Nat)  : ev (Z := Bool) Try.prog (awake_sp N) awake_B [] [] (some awake_rt) 400 false [.c [0], .c [1]] (stL awake_st ((), ())) (stH awake_st ((), ())) = awake_S N := by kernel_rfl
noncomputable def sp_awake (N : Nat) : Spec := { f := 26, ins := ⟨[], []⟩, outs := [⟨[.b], []⟩], run := fun p k => (awake_S N).bind fun r => k ((r, ()), ()) }
theorem sp_awake_ok (N : Nat) : SpecOK Try.prog (sp_awake N) := fn_sound (B := awake_B) (loops := []) (leaves := []) (fun p => awake_S N ) (fun r => ((r, ()), ())) awake_rt (fun _ _ _ => rfl) (fun r z h => by cases h; rfl) Try.func26 (by kernel_rfl) (by kernel_rfl) (by kernel_rfl) rfl rfl (by kernel_rfl) (fun args w => Sem.pv_run _ _ _ (by kernel_rfl) w) (awake_all N) mixed trivial (fun z E Xc hE hX hret => trivial) (fun p => awake_eq N )

def copyi_S (N : Nat) (l : List Int) : Option (List Int) :=
  grd (lmI (l.length : Int)) <|
  some (l.take (min l.length (List.replicate (l.length : Int).toNat (0 : Int)).length) ++ (List.replicate (l.length : Int).toNat (0 : Int)).drop (min l.length (List.replicate (l.length : Int).toNat (0 : Int)).length))
noncomputable def copyi_sp (N : Nat) : List Spec := []
theorem copyi_all (N : Nat) : AllP (SpecOK Try.prog) (copyi_sp N) := trivial
noncomputable def copyi_c : Code := (Try.f75.body).getD .skip
noncomputable abbrev copyi_B : Body := { c := copyi_c, n := 11, res := [.tmp 2], outs := [⟨[.sl (.int .i64)], []⟩], m0 := 0 }
abbrev copyi_rt : altD copyi_B.outs → Option (List Int) := fun r => some r.1.1
abbrev copyi_st : Sta := ⟨[0], ⟨[.sl (.int .i64)], []⟩⟩
theorem copyi_eq (N : Nat) (l : List Int) : ev (Z := List Int) Try.prog (copyi_sp N) copyi_B [] [] (some copyi_rt) 400 false [.c [0], .c [1]] (stL copyi_st ((l, ()), ())) (stH copyi_st ((l, ()), ())) = copyi_S N l := by kernel_rfl
noncomputable def sp_copyi (N : Nat) : Spec := { f := 75, ins := ⟨[.sl (.int .i64)], []⟩, outs := [⟨[.sl (.int .i64)], []⟩], run := fun p k => (copyi_S N p.1.1).bind fun r => k ((r, ()), ()) }
theorem sp_copyi_ok (N : Nat) : SpecOK Try.prog (sp_copyi N) := fn_sound (B := copyi_B) (loops := []) (leaves := []) (fun p => copyi_S N p.1.1) (fun r => ((r, ()), ())) copyi_rt (fun _ _ _ => rfl) (fun r z h => by cases h; rfl) Try.func75 (by kernel_rfl) (by kernel_rfl) (by kernel_rfl) rfl rfl (by kernel_rfl) (fun args w => Sem.pv_run _ _ _ (by kernel_rfl) w) (copyi_all N) mixed trivial (fun z E Xc hE hX hret => trivial) (fun p => copyi_eq N p.1.1)

def copyr_l1 (N : Nat) : Nat → (List (List Int)) → Int → Int → (List (List Int)) → Option (List (List Int))
  | 0, _, _, _, _ => none
  | n_ + 1, u, u2, u3, out =>
    br (decide (u3 < u2))
      (idx u u3 fun x_1 =>
      (copyi_S N x_1).bind fun x_2 =>
      rng u3 out.length <|
      get out u3.toNat fun _ =>
      chk (u3 + 1) <|
      copyr_l1 N n_ u u2 (u3 + 1) (out.set u3.toNat x_2))
      (some (out))
def copyr_S (N : Nat) (l : List (List Int)) : Option (List (List Int)) :=
  grd (lmI (l.length : Int)) <|
  (copyr_l1 N N l (l.length : Int) 0 (List.replicate (l.length : Int).toNat ([] : (List Int)))).bind fun out_4 =>
  some out_4
noncomputable def copyr_sp (N : Nat) : List Spec := [sp_copyi N]
theorem copyr_all (N : Nat) : AllP (SpecOK Try.prog) (copyr_sp N) := ⟨sp_copyi_ok N, trivial⟩
noncomputable def copyr_c : Code := (Try.f64.body).getD .skip
noncomputable abbrev copyr_B : Body := { c := copyr_c, n := 23, res := [.tmp 2], outs := [⟨[.sl (.sl (.int .i64))], []⟩], m0 := 0 }
abbrev copyr_rt : altD copyr_B.outs → Option (List (List Int)) := fun r => some r.1.1
abbrev copyr_l1_at : List PI := [.c [1, 1, 0, 1, 0, 0, 0], .c [1, 1, 0, 1, 0, 0, 1], .l [1, 1, 0, 1, 0, 0], .b 0, .c [1, 1, 1]]
abbrev copyr_l1_st : Sta := ⟨[3, 9, 10, 11], ⟨[.ols 0, .sl (.sl (.int .i64)), .i .i64, .i .i64], [.lst (.sl (.int .i64))]⟩⟩
abbrev copyr_l1_h (rec : (List (List Int)) → Int → Int → (List (List Int)) → Option (List (List Int))) : Leaf (List (List Int)) := ⟨copyr_l1_at, copyr_l1_st, fun p => rec p.1.2.1 p.1.2.2.1 p.1.2.2.2.1 p.2.1⟩
abbrev copyr_l1_e0 : Leaf (List (List Int)) := ⟨[.c [1, 1, 1, 0], .c [1, 1, 1, 1]], ⟨[3], ⟨[.ols 0], [.lst (.sl (.int .i64))]⟩⟩, fun p => some (p.2.1)⟩
noncomputable def copyr_l1_L (N : Nat) : LoopS := { at_ := copyr_l1_at, sta := copyr_l1_st, exits := [([.c [1, 1, 1, 0], .c [1, 1, 1, 1]], ⟨[3], ⟨[.ols 0], [.lst (.sl (.int .i64))]⟩⟩)], run := fun p k => (copyr_l1 N N p.1.2.1 p.1.2.2.1 p.1.2.2.2.1 p.2.1).bind fun e => k (.inl (((), ()), (e, ()))) }
theorem copyr_l1_eq (N n_ : Nat) (u : List (List Int)) (u2 : Int) (u3 : Int) (out : List (List Int)) : ev (Z := List (List Int)) Try.prog (copyr_sp N) copyr_B [] [copyr_l1_h (copyr_l1 N n_), copyr_l1_e0] none 400 true copyr_l1_at (stL copyr_l1_st (((), u, u2, u3, ()), (out, ()))) (stH copyr_l1_st (((), u, u2, u3, ()), (out, ()))) = copyr_l1 N (n_ + 1) u u2 u3 out := by kernel_rfl
theorem copyr_l1_ok (N : Nat) {top : Bool} : LoopOK Try.prog copyr_B.c copyr_B.n copyr_B.m0 top (copyr_l1_L N) := loop_of_ev (Z := List (List Int)) (N := N) (fun m p => copyr_l1 N m p.1.2.1 p.1.2.2.1 p.1.2.2.2.1 p.2.1) (fun e => .inl (((), ()), (e, ()))) (fun _ _ _ => rfl) (fun _ => rfl) (fun m z E Xc hE hX hrec hx => leaf_of_ev (B := copyr_B) (loops := []) (leaves := [copyr_l1_h (copyr_l1 N m), copyr_l1_e0]) (copyr_all N) mixed trivial hE hX ⟨hrec, (fun p hp => by obtain rfl := Option.some.inj hp; exact hx), trivial⟩ RetOK.no (fun p => copyr_l1_eq N m p.1.2.1 p.1.2.2.1 p.1.2.2.2.1 p.2.1))
abbrev copyr_st : Sta := ⟨[0], ⟨[.sl (.sl (.int .i64))], []⟩⟩
theorem copyr_eq (N : Nat) (l : List (List Int)) : ev (Z := List (List Int)) Try.prog (copyr_sp N) copyr_B [copyr_l1_L N] [] (some copyr_rt) 400 false [.c [0], .c [1]] (stL copyr_st ((l, ()), ())) (stH copyr_st ((l, ()), ())) = copyr_S N l := by kernel_rfl
noncomputable def sp_copyr (N : Nat) : Spec := { f := 64, ins := ⟨[.sl (.sl (.int .i64))], []⟩, outs := [⟨[.sl (.sl (.int .i64))], []⟩], run := fun p k => (copyr_S N p.1.1).bind fun r => k ((r, ()), ()) }
theorem sp_copyr_ok (N : Nat) : SpecOK Try.prog (sp_copyr N) := fn_sound (B := copyr_B) (loops := [copyr_l1_L N]) (leaves := []) (fun p => copyr_S N p.1.1) (fun r => ((r, ()), ())) copyr_rt (fun _ _ _ => rfl) (fun r z h => by cases h; rfl) Try.func64 (by kernel_rfl) (by kernel_rfl) (by kernel_rfl) rfl rfl (by kernel_rfl) (fun args w => Sem.pv_run _ _ _ (by kernel_rfl) w) (copyr_all N) mixed ⟨copyr_l1_ok N, trivial⟩ (fun z E Xc hE hX hret => trivial) (fun p => copyr_eq N p.1.1)

def copye_S (N : Nat) (e : List (List Int)) (e2 : List Int) (e3 : Int) : Option (List (List Int) × List Int × Int) :=
  (copyr_S N e).bind fun x_1 =>
  (copyi_S N e2).bind fun x_2 =>
  some (x_1, x_2, e3)
noncomputable def copye_sp (N : Nat) : List Spec := [sp_copyi N, sp_copyr N]
theorem copye_all (N : Nat) : AllP (SpecOK Try.prog) (copye_sp N) := ⟨sp_copyi_ok N, sp_copyr_ok N, trivial⟩
noncomputable def copye_c : Code := (Try.f22.body).getD .skip
noncomputable abbrev copye_B : Body := { c := copye_c, n := 12, res := [.cell 2 26], outs := [⟨[.agg [.sl (.sl (.int .i64)), .sl (.int .i64), .i .i64]], []⟩], m0 := 0 }
abbrev copye_rt : altD copye_B.outs → Option (List (List Int) × List Int × Int) := fun r => some (r.1.1.1, r.1.1.2.1, r.1.1.2.2.1)
abbrev copye_st : Sta := ⟨[0], ⟨[.agg [.sl (.sl (.int .i64)), .sl (.int .i64), .i .i64]], []⟩⟩
theorem copye_eq (N : Nat) (e : List (List Int)) (e2 : List Int) (e3 : Int) : ev (Z := List (List Int) × List Int × Int) Try.prog (copye_sp N) copye_B [] [] (some copye_rt) 400 false [.c [0], .c [1]] (stL copye_st (((e, e2, e3, ()), ()), ())) (stH copye_st (((e, e2, e3, ()), ()), ())) = copye_S N e e2 e3 := by kernel_rfl
noncomputable def sp_copye (N : Nat) : Spec := { f := 22, ins := ⟨[.agg [.sl (.sl (.int .i64)), .sl (.int .i64), .i .i64]], []⟩, outs := [⟨[.agg [.sl (.sl (.int .i64)), .sl (.int .i64), .i .i64]], []⟩], run := fun p k => (copye_S N p.1.1.1 p.1.1.2.1 p.1.1.2.2.1).bind fun r => k (((r.1, r.2.1, r.2.2, ()), ()), ()) }
theorem sp_copye_ok (N : Nat) : SpecOK Try.prog (sp_copye N) := fn_sound (B := copye_B) (loops := []) (leaves := []) (fun p => copye_S N p.1.1.1 p.1.1.2.1 p.1.1.2.2.1) (fun r => (((r.1, r.2.1, r.2.2, ()), ()), ())) copye_rt (fun _ _ _ => rfl) (fun r z h => by cases h; rfl) Try.func22 (by kernel_rfl) (by kernel_rfl) (by kernel_rfl) rfl rfl (by kernel_rfl) (fun args w => Sem.pv_run _ _ _ (by kernel_rfl) w) (copye_all N) mixed trivial (fun z E Xc hE hX hret => trivial) (fun p => copye_eq N p.1.1.1 p.1.1.2.1 p.1.1.2.2.1)

end Go.Proofs.Ytfcnhnbnjdccfaa

namespace Go.Proofs.Ytfcnhnbnjdccfaa
set_option linter.all false
open Go

/-- A run ends well, with a result of which Q speaks. -/
def Ok {α : Type} (o : Option α) (Q : α → Prop) : Prop := ∃ x, o = some x ∧ Q x
section
variable {α β Z : Type} {Q : Z → Prop} {x y : Option Z}
theorem Ok.some {z : Z} (h : Q z) : Ok (some z) Q := ⟨z, rfl, h⟩
theorem Ok.bind {o : Option α} {P : α → Prop} {f : α → Option Z} (h : Ok o P) (k : ∀ a, P a → Ok (f a) Q) : Ok (o.bind f) Q := by
  obtain ⟨a, rfl, ha⟩ := h
  exact k a ha
theorem Ok.eqb {o : Option α} {a : α} {f : α → Option Z} (h : o = Option.some a) (k : Ok (f a) Q) : Ok (o.bind f) Q := by subst h; exact k
theorem Ok.mono {P : Z → Prop} (h : Ok x P) (k : ∀ a, P a → Q a) : Ok x Q := let ⟨a, e, p⟩ := h; ⟨a, e, k a p⟩
theorem Ok.br {c : Bool} (h1 : c = true → Ok x Q) (h2 : c = false → Ok y Q) : Ok (br c x y) Q := by
  cases c
  · exact h2 rfl
  · exact h1 rfl
theorem Ok.brd {p : Prop} [Decidable p] (h1 : p → Ok x Q) (h2 : ¬ p → Ok y Q) : Ok (Proofs.Ytfcnhnbnjdccfaa.br (decide p) x y) Q := by
  by_cases h : p
  · simpa [h, Proofs.Ytfcnhnbnjdccfaa.br] using h1 h
  · simpa [h, Proofs.Ytfcnhnbnjdccfaa.br] using h2 h
theorem chk_eq {n : Int} (hn : -9223372036854775808 ≤ n ∧ n ≤ 9223372036854775807) : chk n x = x := by unfold chk; rw [okI_iff.2 hn]
theorem Ok.chk {n : Int} (hn : -9223372036854775808 ≤ n ∧ n ≤ 9223372036854775807) (h : Ok x Q) : Ok (chk n x) Q := by rw [chk_eq hn]; exact h
theorem grd_eq {c : Bool} (hc : c = true) : grd c x = x := by subst hc; rfl
theorem Ok.grd {c : Bool} (hc : c = true) (h : Ok x Q) : Ok (grd c x) Q := by subst hc; exact h
theorem rng_eq {i : Int} {n : Nat} (hi : 0 ≤ i ∧ i < n) : rng i n x = x := by unfold rng; rw [if_pos hi]
theorem Ok.rng {i : Int} {n : Nat} (hi : 0 ≤ i ∧ i < n) (h : Ok x Q) : Ok (rng i n x) Q := by rw [rng_eq hi]; exact h
theorem lim_eq {n : Nat} (hn : n ≤ 1000000) : lim n x = x := by unfold lim; rw [if_pos hn]
theorem Ok.lim {n : Nat} (hn : n ≤ 1000000) (h : Ok x Q) : Ok (lim n x) Q := by rw [lim_eq hn]; exact h
theorem idx_eq {l : List α} {i : Int} {f : α → Option Z} {a : α} (h0 : 0 ≤ i) (h : l[i.toNat]? = Option.some a) : idx l i f = f a := by unfold idx; rw [if_pos h0, h]
theorem idx_get {l : List α} {i : Int} {f : α → Option Z} (d : α) (h0 : 0 ≤ i) (h : i < l.length) : idx l i f = f (l.getD i.toNat d) := by
  refine idx_eq h0 ?_
  have : i.toNat < l.length := by omega
  simp [List.getD, this]
theorem Ok.idx {l : List α} {i : Int} {f : α → Option Z} (h0 : 0 ≤ i) (h : i < l.length) (k : ∀ a, l[i.toNat]? = Option.some a → a ∈ l → Ok (f a) Q) : Ok (idx l i f) Q := by
  have hlt : i.toNat < l.length := by omega
  have e : l[i.toNat]? = Option.some l[i.toNat] := List.getElem?_eq_getElem hlt
  rw [idx_eq h0 e]
  exact k _ e (List.getElem_mem hlt)
theorem get_eq {l : List α} {k : Nat} {f : α → Option Z} {a : α} (h : l[k]? = Option.some a) : get l k f = f a := by unfold get; rw [h]
theorem get_get {l : List α} {k : Nat} {f : α → Option Z} (d : α) (h : k < l.length) : get l k f = f (l.getD k d) := get_eq (by simp [List.getD, h])
theorem Ok.get {l : List α} {k : Nat} {f : α → Option Z} (h : k < l.length) (c : ∀ a, l[k]? = Option.some a → a ∈ l → Ok (f a) Q) : Ok (get l k f) Q := by
  have e : l[k]? = Option.some l[k] := List.getElem?_eq_getElem h
  rw [get_eq e]
  exact c _ e (List.getElem_mem h)
theorem br_true : br true x y = x := rfl
theorem br_false : br false x y = y := rfl
theorem br_dec {p : Prop} [Decidable p] (h : p) : br (decide p) x y = x := by simp [h, br]
theorem br_ndec {p : Prop} [Decidable p] (h : ¬ p) : br (decide p) x y = y := by simp [h, br]
theorem br_nd {p : Prop} [Decidable p] (h : p) : br (!decide p) x y = y := by simp [h, br]
theorem br_nnd {p : Prop} [Decidable p] (h : ¬ p) : br (!decide p) x y = x := by simp [h, br]
end
/-- A list of numbers from lo to hi. -/
def InR (lo hi : Int) (l : List Int) : Prop := ∀ x ∈ l, lo ≤ x ∧ x ≤ hi
theorem InR.append {lo hi : Int} {l : List Int} (h : InR lo hi l) {x : Int} (hx : lo ≤ x ∧ x ≤ hi) : InR lo hi (l ++ [x]) := by
  intro y hy
  rcases List.mem_append.1 hy with hy | hy
  · exact h y hy
  · simp at hy; subst hy; exact hx
theorem InR.drop {lo hi : Int} {l : List Int} (h : InR lo hi l) (n : Nat) : InR lo hi (l.drop n) := fun x hx => h x (List.mem_of_mem_drop hx)
theorem InR.nil {lo hi : Int} : InR lo hi [] := fun _ h => by cases h
theorem InR.mono {lo hi lo' hi' : Int} {l : List Int} (h : InR lo hi l) (h1 : lo' ≤ lo) (h2 : hi ≤ hi') : InR lo' hi' l := fun x hx => by have := h x hx; omega

/-! ### Bells -/
end Go.Proofs.Ytfcnhnbnjdccfaa

namespace Go.Proofs.Ytfcnhnbnjdccfaa
set_option linter.all false
open Go

/-! ### The first element that is so -/
def ixL {α : Type} (f : α → Option Bool) : Nat → List α → Int → Int → Option (Int ⊕ Unit)
  | 0, _, _, _ => none
  | n + 1, s, u, u2 => br (decide (u2 < u)) (idx s u2 fun x => (f x).bind fun c => br c (some (.inl u2)) (chk (u2 + 1) <| ixL f n s u (u2 + 1))) (some (.inr ()))
def ixS {α : Type} (f : α → Option Bool) (N : Nat) (s : List α) : Option Int := (ixL f N s (s.length : Int) 0).bind fun e => match e with
  | .inl i => some i
  | .inr _ => some (-1)
theorem ixL_ok {α : Type} {f : α → Option Bool} {p : α → Bool} {s : List α} (hf : ∀ x ∈ s, f x = some (p x)) (hs : s.length ≤ 1000000) : ∀ (n k : Nat), s.length < n + k → k ≤ s.length →
    Ok (ixL f n s (s.length : Int) (k : Int)) fun r => match r with | .inl i => (0 ≤ i ∧ i < s.length) ∧ (s.drop k).any p = true | .inr _ => (s.drop k).any p = false
  | 0, k, h, hk => by omega
  | n + 1, k, h, hk => by
    unfold ixL
    refine Ok.brd (fun h1 => ?_) (fun h1 => Ok.some ?_)
    · have hlt : k < s.length := by omega
      refine Ok.idx (by omega) h1 (fun a ha hm => ?_)
      have hd : s.drop k = a :: s.drop (k + 1) := by
        rw [List.drop_eq_getElem_cons hlt]
        have : s[k]? = some a := by simpa using ha
        rw [List.getElem?_eq_getElem hlt] at this
        simp only [Option.some.injEq] at this
        rw [this]
      refine Ok.eqb (hf a hm) (Ok.br (fun hp => Ok.some ?_) (fun hp => Ok.chk (by omega) ?_))
      · exact ⟨⟨by omega, by omega⟩, by rw [hd]; simp [hp]⟩
      · have := ixL_ok hf hs n (k + 1) (by omega) (by omega)
        rw [show ((k + 1 : Nat) : Int) = (k : Int) + 1 by omega] at this
        refine this.mono (fun r hr => ?_)
        rw [hd]
        cases r <;> simpa [hp] using hr
    · have : s.drop k = [] := List.drop_of_length_le (by omega)
      simp [this]
theorem ixS_any {α : Type} {f : α → Option Bool} {p : α → Bool} {s : List α} {N : Nat} (hf : ∀ x ∈ s, f x = some (p x)) (hs : s.length ≤ 1000000) (hN : s.length < N) : ((ixS f N s).bind fun x => some (decide (0 ≤ x))) = some (s.any p) := by
  obtain ⟨r, h1, h2⟩ := ixL_ok hf hs N 0 (by omega) (by omega)
  unfold ixS
  rw [show ((0 : Nat) : Int) = 0 from rfl] at h1
  rw [h1]
  cases r with
  | inl i => simp only [List.drop_zero] at h2; simp [h2.1.1, h2.2]
  | inr u => simp only [List.drop_zero] at h2; simp [h2]

theorem in_v (N : Nat) (n lo hi : Int) : in__S N n lo hi = some (decide (lo ≤ n ∧ n ≤ hi)) := by
  unfold in__S
  by_cases h : lo ≤ n <;> simp [h, br]
theorem any_not {α : Type} (p : α → Bool) (s : List α) : (!(s.any fun x => !p x)) = s.all p := by
  induction s with
  | nil => rfl
  | cons a s ih => simp only [List.any_cons, List.all_cons, Bool.not_or, Bool.not_not, ih]
def okW (w : Int) : Bool := decide (0 ≤ w ∧ w ≤ 9)
theorem ixfi_gen (N : Nat) : ∀ (n : Nat) (s : List Int) (u u2 : Int), ixfi_l1 N n s u u2 = ixL (every1i_S N) n s u u2
  | 0, _, _, _ => rfl
  | n + 1, s, u, u2 => by simp only [ixfi_l1, ixL, ixfi_gen N n]
theorem ixfa_gen (N : Nat) : ∀ (n : Nat) (s : List (List Int)) (u u2 : Int), ixfa_l1 N n s u u2 = ixL (every1a_S N) n s u u2
  | 0, _, _, _ => rfl
  | n + 1, s, u, u2 => by simp only [ixfa_l1, ixL, ixfa_gen N n]
theorem ixfb_gen (N : Nat) : ∀ (n : Nat) (s : List (List Int)) (u u2 : Int), ixfb_l1 N n s u u2 = ixL (every1b_S N) n s u u2
  | 0, _, _, _ => rfl
  | n + 1, s, u, u2 => by simp only [ixfb_l1, ixL, ixfb_gen N n]
theorem everyi_v (N : Nat) {l : List Int} (h : l.length ≤ 1000000) (hN : l.length < N) : everyi_S N l = some (l.all okW) := by
  have := ixS_any (f := every1i_S N) (p := fun x => !okW x) (s := l) (N := N) (fun x _ => by simp [every1i_S, check11_S, in_v, okW]) h hN
  unfold everyi_S cofi_S
  have e : ixfi_S N l = ixS (every1i_S N) N l := by
    unfold ixfi_S ixS
    rw [ixfi_gen] <;> rfl
  rw [e, this]
  simp [any_not]
theorem everya_v (N : Nat) {l : List (List Int)} (h : l.length ≤ 1000000) (hN : l.length < N) (hl : ∀ x ∈ l, x.length ≤ 1000000 ∧ x.length < N) : everya_S N l = some (l.all fun x => x.all okW) := by
  have := ixS_any (f := every1a_S N) (p := fun x => !(x.all okW)) (s := l) (N := N) (fun x hx => by simp [every1a_S, check1_S, everyi_v N (hl x hx).1 (hl x hx).2]) h hN
  unfold everya_S cofa_S
  have e : ixfa_S N l = ixS (every1a_S N) N l := by
    unfold ixfa_S ixS
    rw [ixfa_gen] <;> rfl
  rw [e, this]
  simp [any_not]
def okL (x : List Int) : Bool := decide (1 ≤ (x.length : Int) ∧ (x.length : Int) ≤ 6)
theorem everyb_v (N : Nat) {l : List (List Int)} (h : l.length ≤ 1000000) (hN : l.length < N) : everyb_S N l = some (l.all okL) := by
  have := ixS_any (f := every1b_S N) (p := fun x => !okL x) (s := l) (N := N) (fun x _ => by simp [every1b_S, check2_S, in_v, okL]) h hN
  unfold everyb_S cofb_S
  have e : ixfb_S N l = ixS (every1b_S N) N l := by
    unfold ixfb_S ixS
    rw [ixfb_gen] <;> rfl
  rw [e, this]
  simp [any_not]

/-! ### The error of an echo -/
def checkE (T : List (List Int)) (H : List Int) (f : Int) : Int :=
  if ¬ (1 ≤ T.length ∧ T.length ≤ 5) then 2 else if 10 < H.length then 2 else if ¬ T.all okL then 2 else if ¬ T.all (fun x => x.all okW) then 3 else if ¬ H.all okW then 3 else if ¬ (0 ≤ f ∧ f ≤ 8) then 3 else 0
theorem check_v {N : Nat} (hN : 20 ≤ N) (T : List (List Int)) (H : List Int) (f : Int) : check_S N T H f = some (checkE T H f) := by
  unfold check_S checkE
  rw [in_v]
  simp only [Option.bind_some]
  by_cases h1 : 1 ≤ T.length ∧ T.length ≤ 5
  · rw [show decide (1 ≤ (T.length : Int) ∧ (T.length : Int) ≤ 5) = true by simpa using (by omega), if_neg (by simpa using h1)]
    simp only [Bool.not_true, br_false]
    by_cases h2 : 10 < H.length
    · rw [br_dec (by omega), if_pos h2]
    · rw [br_ndec (by omega), if_neg h2, everyb_v N (by omega) (by omega)]
      simp only [Option.bind_some]
      cases hb : T.all okL with
      | false => simp [br]
      | true =>
        simp only [Bool.not_true, br_false]
        rw [if_neg (by simp)]
        have hl : ∀ x ∈ T, x.length ≤ 6 := fun x hx => by
          have := List.all_eq_true.1 hb x hx
          simp only [okL, decide_eq_true_eq] at this; omega
        rw [everya_v N (by omega) (by omega) (fun x hx => by have := hl x hx; omega)]
        simp only [Option.bind_some]
        cases ha : T.all fun x => x.all okW with
        | false => simp [br]
        | true =>
          simp only [Bool.not_true, br_false]
          rw [if_neg (by simp), show check1_S N H = some (H.all okW) by simp [check1_S, everyi_v N (l := H) (by omega) (by omega)]]
          simp only [Option.bind_some]
          cases hh : H.all okW with
          | false => simp [br]
          | true =>
            simp only [Bool.not_true, br_false]
            rw [if_neg (by simp), in_v]
            simp only [Option.bind_some]
            by_cases h3 : 0 ≤ f ∧ f ≤ 8 <;> simp [h3, br]
  · rw [show decide (1 ≤ (T.length : Int) ∧ (T.length : Int) ≤ 5) = false by simpa using (by omega), if_pos (by simpa using h1)]
    rfl
/-- An echo without an error. -/
structure Fine (T : List (List Int)) (H : List Int) (f : Int) : Prop where
  n : 1 ≤ T.length ∧ T.length ≤ 5
  h : H.length ≤ 10
  l : ∀ x ∈ T, 1 ≤ x.length ∧ x.length ≤ 6
  w : ∀ x ∈ T, InR 0 9 x
  hw : InR 0 9 H
  f : 0 ≤ f ∧ f ≤ 8
theorem okW_all {x : List Int} : x.all okW = true ↔ InR 0 9 x := by simp [okW, InR]
theorem Fine.check {T : List (List Int)} {H : List Int} {f : Int} (h : Fine T H f) : checkE T H f = 0 := by
  unfold checkE
  have h1 : T.all okL = true := List.all_eq_true.2 fun x hx => by
    have := h.l x hx
    simp only [okL, decide_eq_true_eq]; omega
  have h2 : (T.all fun x => x.all okW) = true := List.all_eq_true.2 fun x hx => okW_all.2 (h.w x hx)
  rw [if_neg (by simpa using h.n), if_neg (by have := h.h; omega), if_neg (by rw [h1]; simp), if_neg (by rw [h2]; simp), if_neg (by rw [okW_all.2 h.hw]; simp), if_neg (by simpa using h.f)]
theorem fine_of {T : List (List Int)} {H : List Int} {f : Int} (h : checkE T H f = 0) : Fine T H f := by
  unfold checkE at h
  split at h; · simp at h
  split at h; · simp at h
  split at h; · simp at h
  split at h; · simp at h
  split at h; · simp at h
  split at h; · simp at h
  rename_i h1 h2 h3 h4 h5 h6
  simp only [Decidable.not_not, Bool.not_eq_true, Bool.not_eq_false, List.all_eq_true (l := T)] at *
  refine ⟨h1, by omega, fun x hx => ?_, fun x hx => okW_all.1 (h4 x hx), okW_all.1 h5, h6⟩
  have := h3 x hx
  simp only [okL, decide_eq_true_eq] at this; omega
theorem text_v (N : Nat) {T : List (List Int)} (H : List Int) (f n : Int) (hT : T.length ≤ 1000000) : text_S N T H f n = some (decide (0 ≤ n ∧ n < T.length)) := by
  unfold text_S
  rw [chk_eq (by omega), in_v]
  simp only [Option.bind_some, Option.some.injEq]
  congr 1
  apply propext; omega
/-- An echo at work, or the error. -/
def openE (T : List (List Int)) (H : List Int) (f a b : Int) : Int := if checkE T H f ≠ 0 then checkE T H f else if ¬ (0 ≤ a ∧ a < T.length) ∨ ¬ (0 ≤ b ∧ b < T.length) then 1 else 0
theorem opened_bad {N : Nat} (hN : 20 ≤ N) {T : List (List Int)} {H : List Int} {f a b : Int} (h : openE T H f a b ≠ 0) : opened_S N T H f a b = some (.inr (openE T H f a b)) := by
  unfold openE at h ⊢
  unfold opened_S
  rw [check_v hN]
  simp only [Option.bind_some]
  by_cases hc : checkE T H f = 0
  · have hF := fine_of hc
    rw [if_neg (by simpa using hc)] at h ⊢
    have hT := hF.n
    simp only [hc, decide_true, Bool.not_true, br_false]
    rw [text_v N H f a (by omega), text_v N H f b (by omega)]
    simp only [Option.bind_some]
    by_cases ha : 0 ≤ a ∧ a < T.length
    · by_cases hb : 0 ≤ b ∧ b < T.length
      · exact absurd rfl (by rw [if_neg (by simp; omega)] at h; exact h)
      · rw [if_pos (.inr hb)]; simp [ha, hb, br]
    · rw [if_pos (.inl ha)]; simp [ha, br]
  · rw [if_pos hc]; simp [hc, br]
theorem opened_good {N : Nat} (hN : 20 ≤ N) {T : List (List Int)} {H : List Int} {f a b : Int} (h : openE T H f a b = 0) : Fine T H f ∧ (0 ≤ a ∧ a < T.length) ∧ (0 ≤ b ∧ b < T.length) ∧ opened_S N T H f a b = some (.inl ((T, H, f, T.getD a.toNat [], T.getD b.toNat []), 0)) := by
  unfold openE at h
  unfold opened_S
  rw [check_v hN]
  simp only [Option.bind_some]
  by_cases hc : checkE T H f = 0
  · have hF := fine_of hc
    rw [if_neg (by simpa using hc)] at h
    have hT := hF.n
    by_cases ha : 0 ≤ a ∧ a < T.length
    · by_cases hb : 0 ≤ b ∧ b < T.length
      · refine ⟨hF, ha, hb, ?_⟩
        simp only [hc, decide_true, Bool.not_true, br_false]
        rw [text_v N H f a (by omega), text_v N H f b (by omega)]
        simp only [Option.bind_some, ha, hb, and_self, decide_true, Bool.not_true, br_false]
        rw [idx_get [] ha.1 ha.2, idx_get [] hb.1 hb.2]
      · rw [if_pos (.inr hb)] at h; simp at h
    · rw [if_pos (.inl ha)] at h; simp at h
  · rw [if_pos hc] at h; exact absurd h hc
theorem Fine.open {T : List (List Int)} {H : List Int} {f a b : Int} (h : Fine T H f) (ha : 0 ≤ a ∧ a < T.length) (hb : 0 ≤ b ∧ b < T.length) : openE T H f a b = 0 := by
  unfold openE
  rw [if_neg (by simpa using h.check), if_neg (by simp only [not_or, Decidable.not_not]; exact ⟨ha, hb⟩)]
end Go.Proofs.Ytfcnhnbnjdccfaa

namespace Go.Proofs.Ytfcnhnbnjdccfaa
set_option linter.all false
open Go

/-- How many words two lists have in common at most. -/
def lc : List Int → List Int → Nat
  | [], _ => 0
  | _ :: _, [] => 0
  | x :: xs, y :: ys => if x = y then max (max (lc xs (y :: ys)) (lc (x :: xs) ys)) (lc xs ys + 1) else max (lc xs (y :: ys)) (lc (x :: xs) ys)
termination_by a b => a.length + b.length
theorem lc_nil_right (a : List Int) : lc a [] = 0 := by cases a <;> simp [lc]
theorem drop_cons {a : List Int} {i : Nat} (h : i < a.length) : a.drop i = a.getD i 0 :: a.drop (i + 1) := by
  rw [List.drop_eq_getElem_cons h]; simp [List.getD, h]
/-- What the table of common words holds so far: rows behind i, and in row i places behind k. -/
def GridTo (a b : List Int) (l : List Int) (i k : Int) : Prop :=
  l.length = 49 ∧ a.length ≤ 6 ∧ b.length ≤ 6 ∧ ∀ i' k' : Nat, i' ≤ a.length → k' ≤ b.length → (i' = a.length ∨ k' = b.length ∨ i < i' ∨ (i = i' ∧ k < k')) → l[i' * 7 + k']? = some ((lc (a.drop i') (b.drop k') : Nat) : Int)
theorem GridTo.start (a b : List Int) (ha : a.length ≤ 6) (hb : b.length ≤ 6) : GridTo a b (List.replicate 49 (0 : Int)) ((a.length : Int) - 1) b.length := by
  refine ⟨by simp, ha, hb, fun i' k' hi hk h => ?_⟩
  have : lc (a.drop i') (b.drop k') = 0 := by
    rcases h with h | h | h | h
    · rw [h, List.drop_length]; simp [lc]
    · rw [h, List.drop_length, lc_nil_right]
    · have : i' = a.length := by omega
      rw [this, List.drop_length]; simp [lc]
    · omega
  rw [this, List.getElem?_replicate, if_pos (by omega)]; rfl
theorem GridTo.row {a b : List Int} {l : List Int} {i : Int} (h : GridTo a b l i b.length) : GridTo a b l i ((b.length : Int) - 1) :=
  ⟨h.1, h.2.1, h.2.2.1, fun i' k' hi hk hh => h.2.2.2 i' k' hi hk (by omega)⟩
theorem GridTo.next {a b : List Int} {l : List Int} {i : Int} (h : GridTo a b l i (-1)) : GridTo a b l (i - 1) b.length :=
  ⟨h.1, h.2.1, h.2.2.1, fun i' k' hi hk hh => h.2.2.2 i' k' hi hk (by omega)⟩
theorem GridTo.get {a b : List Int} {l : List Int} {i k : Int} (h : GridTo a b l i k) (i' k' : Nat) (hi : i' ≤ a.length) (hk : k' ≤ b.length) (hh : i' = a.length ∨ k' = b.length ∨ i < i' ∨ (i = i' ∧ k < k')) :
    l[i' * 7 + k']? = some ((lc (a.drop i') (b.drop k') : Nat) : Int) := h.2.2.2 i' k' hi hk hh
theorem GridTo.lt {a b : List Int} {l : List Int} {i k : Int} (h : GridTo a b l i k) (i' k' : Nat) (hi : i' ≤ a.length) (hk : k' ≤ b.length) : i' * 7 + k' < l.length := by
  have := h.1; have := h.2.1; have := h.2.2.1; omega
theorem GridTo.set {a b : List Int} {l : List Int} {i k : Int} (h : GridTo a b l i k) (h0 : 0 ≤ i) (h1 : i < a.length) (h2 : 0 ≤ k) (h3 : k < b.length) (v : Int) : GridTo a b (l.set (i.toNat * 7 + k.toNat) v) i k := by
  refine ⟨by simp [h.1], h.2.1, h.2.2.1, fun i' k' hi hk hh => ?_⟩
  have hla := h.2.1; have hlb := h.2.2.1
  rw [List.getElem?_set_ne (by omega)]
  exact h.get i' k' hi hk hh
theorem GridTo.step {a b : List Int} {l : List Int} {i k : Int} (h : GridTo a b l i k) (h0 : 0 ≤ i) (h1 : i < a.length) (h2 : 0 ≤ k) (h3 : k < b.length) (hv : l[i.toNat * 7 + k.toNat]? = some ((lc (a.drop i.toNat) (b.drop k.toNat) : Nat) : Int)) : GridTo a b l i (k - 1) := by
  refine ⟨h.1, h.2.1, h.2.2.1, fun i' k' hi hk hh => ?_⟩
  by_cases e : i' = i.toNat ∧ k' = k.toNat
  · obtain ⟨rfl, rfl⟩ := e; exact hv
  · exact h.get i' k' hi hk (by omega)
theorem GridTo.self {a b : List Int} {l : List Int} {i k : Int} (h : GridTo a b l i k) (h0 : 0 ≤ i) (h1 : i < a.length) (h2 : 0 ≤ k) (h3 : k < b.length) (v : Int) : (l.set (i.toNat * 7 + k.toNat) v)[i.toNat * 7 + k.toNat]? = some v := by
  rw [List.getElem?_set_self (h.lt _ _ (by omega) (by omega))]
/-! ### Pairs in order -/
end Go.Proofs.Ytfcnhnbnjdccfaa

namespace Go.Proofs.Ytfcnhnbnjdccfaa
set_option linter.all false
open Go

theorem getD_mem {α : Type} {l : List α} {i : Nat} {d : α} (h : i < l.length) : l.getD i d ∈ l := by
  simp [List.getD, h]
end Go.Proofs.Ytfcnhnbnjdccfaa

namespace Go.Proofs.Ytfcnhnbnjdccfaa
set_option linter.all false
open Go

/-! ### The most words that can be told behind a place, and in how many ways -/
def wT (side w : Int) : Int := if 0 ≤ w ∧ side ≠ 3 then w + 1 else w
theorem wT_bnd {side w n : Int} (h : -1 ≤ w ∧ w ≤ n) : -1 ≤ wT side w ∧ wT side w ≤ n + 1 := by unfold wT; split <;> omega
def stepT (may : Nat → Int × Int → Bool) (h : Nat) (t : At3 → Int × Int) (best : Int × Int) (m : Mv) : Int × Int :=
  if may h m.1 = true then (if best.1 < wT m.1.1 (t m.2).1 then (wT m.1.1 (t m.2).1, (t m.2).2) else if wT m.1.1 (t m.2).1 = best.1 then (best.1, best.2 + (t m.2).2) else best) else best
def tvx (may : Nat → Int × Int → Bool) (H A B : List Int) : Nat → At3 → Int × Int
  | 0, _ => (0, 1)
  | n + 1, x => (movesL A B (H.getD x.1 0) x).foldl (stepT may x.1 (tvx may H A B n)) (-1, 0)
def tv (may : Nat → Int × Int → Bool) (H A B : List Int) (x : At3) : Int × Int := tvx may H A B (H.length - x.1) x
theorem standsL_len (l : List Int) (w : Int) (k : Nat) : (standsL l w k).length ≤ l.length := by
  unfold standsL
  have := List.length_filter_le (fun j => l.getD j 0 == w) (List.range' k (l.length - k))
  rw [List.length_range'] at this
  omega
theorem movesL_len (A B : List Int) (w : Int) (x : At3) : (movesL A B w x).length ≤ 1 + A.length + B.length := by
  simp only [movesL, List.length_cons, List.length_append, List.length_map]
  have := standsL_len A w x.2.1
  have := standsL_len B w x.2.2
  omega
theorem movesL_ok {A B : List Int} {w : Int} {x : At3} (ha : x.2.1 ≤ A.length) (hb : x.2.2 ≤ B.length) {m : Mv} (h : m ∈ movesL A B w x) : m.2.1 = x.1 + 1 ∧ m.2.2.1 ≤ A.length ∧ m.2.2.2 ≤ B.length := by
  simp only [movesL, List.mem_cons, List.mem_append, List.mem_map] at h
  rcases h with rfl | ⟨j, hj, rfl⟩ | ⟨j, hj, rfl⟩
  · exact ⟨rfl, ha, hb⟩
  · have := mem_standsL.1 hj; exact ⟨rfl, by dsimp only; omega, hb⟩
  · have := mem_standsL.1 hj; exact ⟨rfl, ha, by dsimp only; omega⟩
/-- How great they can be. -/
def Bnd13 (n : Nat) (v : Int × Int) : Prop := -1 ≤ v.1 ∧ v.1 ≤ n ∧ 0 ≤ v.2 ∧ v.2 ≤ ((13 ^ n : Nat) : Int)
def Bst (n c : Nat) (v : Int × Int) : Prop := -1 ≤ v.1 ∧ v.1 ≤ ((n + 1 : Nat) : Int) ∧ 0 ≤ v.2 ∧ v.2 ≤ ((c * 13 ^ n : Nat) : Int)
theorem stepT_bnd {may : Nat → Int × Int → Bool} {h n c : Nat} {t : At3 → Int × Int} {m : Mv} {best : Int × Int} (ht : Bnd13 n (t m.2)) (hb : Bst n c best) : Bst n (c + 1) (stepT may h t best m) := by
  obtain ⟨h1, h2, h3, h4⟩ := ht
  obtain ⟨b1, b2, b3, b4⟩ := hb
  have e : (((c + 1) * 13 ^ n : Nat) : Int) = ((c * 13 ^ n : Nat) : Int) + ((13 ^ n : Nat) : Int) := by rw [Nat.succ_mul]; simp
  have p1 : (0 : Int) ≤ ((c * 13 ^ n : Nat) : Int) := Int.natCast_nonneg _
  unfold Bst
  rw [e]
  have hw := wT_bnd (side := m.1.1) ⟨h1, h2⟩
  unfold stepT
  generalize ((c * 13 ^ n : Nat) : Int) = P at *
  generalize ((13 ^ n : Nat) : Int) = R at *
  generalize wT m.1.1 (t m.2).1 = W at *
  by_cases c1 : may h m.1 = true
  · rw [if_pos c1]
    by_cases c2 : best.1 < W
    · rw [if_pos c2]; exact ⟨hw.1, by dsimp only; omega, h3, by dsimp only; omega⟩
    · rw [if_neg c2]
      by_cases c3 : W = best.1
      · rw [if_pos c3]; exact ⟨b1, b2, by dsimp only; omega, by dsimp only; omega⟩
      · rw [if_neg c3]; exact ⟨b1, b2, b3, by omega⟩
  · rw [if_neg c1]; exact ⟨b1, b2, b3, by omega⟩
theorem fold_bnd {may : Nat → Int × Int → Bool} {h n : Nat} {t : At3 → Int × Int} (ht : ∀ y, Bnd13 n (t y)) : ∀ (ms : List Mv) (c : Nat) (best : Int × Int), Bst n c best → Bst n (c + ms.length) (ms.foldl (stepT may h t) best)
  | [], c, best, hb => hb
  | m :: ms, c, best, hb => by
    have := fold_bnd (may := may) (h := h) ht ms (c + 1) _ (stepT_bnd (may := may) (h := h) (m := m) (ht m.2) hb)
    rw [List.length_cons, show c + (ms.length + 1) = c + 1 + ms.length by omega]
    exact this
theorem tvx_bnd (may : Nat → Int × Int → Bool) {H A B : List Int} (hA : A.length ≤ 6) (hB : B.length ≤ 6) : ∀ (n : Nat) (x : At3), Bnd13 n (tvx may H A B n x)
  | 0, x => by simp [tvx, Bnd13]
  | n + 1, x => by
    have := fold_bnd (may := may) (h := x.1) (t := tvx may H A B n) (tvx_bnd may hA hB n) (movesL A B (H.getD x.1 0) x) 0 (-1, 0) (by refine ⟨?_, ?_, ?_, ?_⟩ <;> simp; omega)
    simp only [Nat.zero_add] at this
    obtain ⟨h1, h2, h3, h4⟩ := this
    refine ⟨h1, h2, h3, Int.le_trans h4 ?_⟩
    have := movesL_len A B (H.getD x.1 0) x
    have h5 : (movesL A B (H.getD x.1 0) x).length * 13 ^ n ≤ 13 * 13 ^ n := Nat.mul_le_mul_right _ (by omega)
    rw [Nat.pow_succ, Nat.mul_comm (13 ^ n) 13]
    exact Int.ofNat_le.2 h5
theorem pow13 {n : Nat} (h : n ≤ 10) : 13 ^ n ≤ 137858491849 := Nat.le_trans (Nat.pow_le_pow_right (by decide) h) (by decide)

/-! ### The memory -/
abbrev Memo := List ((Int × (Int × Int)) × (Int × Int))
abbrev Desk := (List (List Int)) × ((List Int) × (Int × ((List Int) × (List Int))))
def MapOK (may : Nat → Int × Int → Bool) (H A B : List Int) (m : Memo) : Prop := ∀ e ∈ m, ∃ x : At3, e = ((((x.1 : Nat) : Int), ((x.2.1 : Nat) : Int), ((x.2.2 : Nat) : Int)), tv may H A B x)
theorem MapOK.nil (may : Nat → Int × Int → Bool) (H A B : List Int) : MapOK may H A B [] := fun _ h => by cases h
theorem MapOK.cons {may : Nat → Int × Int → Bool} {H A B : List Int} {m : Memo} (h : MapOK may H A B m) (x : At3) : MapOK may H A B (((((x.1 : Nat) : Int), ((x.2.1 : Nat) : Int), ((x.2.2 : Nat) : Int)), tv may H A B x) :: m) := fun e he => by
  rcases List.mem_cons.1 he with rfl | he
  · exact ⟨x, rfl⟩
  · exact h e he
theorem MapOK.find {may : Nat → Int × Int → Bool} {H A B : List Int} {m : Memo} (h : MapOK may H A B m) (x : At3) {e : (Int × (Int × Int)) × (Int × Int)} (he : m.find? (fun y => Ty.beq (.pair (.int .i64) (.pair (.int .i64) (.int .i64))) y.1 (((x.1 : Nat) : Int), ((x.2.1 : Nat) : Int), ((x.2.2 : Nat) : Int))) = some e) : e.2 = tv may H A B x := by
  obtain ⟨y, rfl⟩ := h e (List.mem_of_find?_eq_some he)
  have := List.find?_some he
  have := (beq_iff_ (y := .pair (.int .i64) (.pair (.int .i64) (.int .i64))) rfl).1 this
  simp only [Prod.mk.injEq] at this
  have e : y = x := by
    obtain ⟨a, b, c⟩ := x
    obtain ⟨a', b', c'⟩ := y
    dsimp only at this
    simp only [Prod.mk.injEq]; omega
  rw [e]
end Go.Proofs.Ytfcnhnbnjdccfaa

namespace Go.Proofs.Ytfcnhnbnjdccfaa
set_option linter.all false
open Go

def mayA : Nat → Int × Int → Bool := fun _ _ => true
section
variable {N : Nat} {T : List (List Int)} {H A B : List Int} {f : Int}
theorem resta_l1_p {self : Int → Int → Int → Desk → Desk → Memo → Option (Int × Int × Desk × Memo)} {h n : Nat} (hH : n ≤ 9) (hA : A.length ≤ 6) (hB : B.length ≤ 6) {u : Int × Int × Int} {u2 : Desk} {x x2 x3 g3 g4 : Int}
    (hself : ∀ (y : At3) (m : Memo), y.1 = h + 1 → y.2.1 ≤ A.length → y.2.2 ≤ B.length → MapOK mayA H A B m → ∃ m', self y.1 y.2.1 y.2.2 (T, H, f, A, B) (T, H, f, A, B) m = some ((tvx mayA H A B n y).1, (tvx mayA H A B n y).2, (T, H, f, A, B), m') ∧ MapOK mayA H A B m') :
    ∀ (ms : List Mv) (m : Memo) (c : Nat) (best : Int × Int), (∀ mv ∈ ms, mv.2.1 = h + 1 ∧ mv.2.2.1 ≤ A.length ∧ mv.2.2.2 ≤ B.length) → MapOK mayA H A B m → Bst n c best → c + ms.length ≤ 13 →
      ∃ m', resta_l1 N self (ms.map movP) u u2 (T, H, f, A, B) m x x2 x3 g3 g4 best.1 best.2 = some ((T, H, f, A, B), m', x, x2, x3, g3, g4, (ms.foldl (stepT mayA h (tvx mayA H A B n)) best).1, (ms.foldl (stepT mayA h (tvx mayA H A B n)) best).2) ∧ MapOK mayA H A B m'
  | [], m, c, best, _, hm, _, _ => ⟨m, rfl, hm⟩
  | mv :: ms, m, c, best, hv, hm, hb, hc => by
    obtain ⟨hv1, hv2, hv3⟩ := hv mv (by simp)
    obtain ⟨m1, he, hm1⟩ := hself mv.2 m hv1 hv2 hv3 hm
    have ht := tvx_bnd mayA (H := H) hA hB n mv.2
    have hb' := stepT_bnd (may := mayA) (h := h) (t := tvx mayA H A B n) (m := mv) ht hb
    obtain ⟨m2, h2, hm2⟩ := resta_l1_p (u := u) (u2 := u2) (x := x) (x2 := x2) (x3 := x3) (g3 := g3) (g4 := g4) hH hA hB hself ms m1 (c + 1) _ (fun v hv' => hv v (by simp [hv'])) hm1 hb' (by simp only [List.length_cons] at hc; omega)
    refine ⟨m2, ?_, hm2⟩
    rw [List.map_cons, List.foldl_cons, ← h2]
    have hp := pow13 (n := n) (by omega)
    have hbb : (((c + 1) * 13 ^ n : Nat) : Int) ≤ 13 * 137858491849 := by
      have : (c + 1) * 13 ^ n ≤ 13 * 137858491849 := Nat.mul_le_mul (by simp only [List.length_cons] at hc; omega) hp
      omega
    have hb2 : best.2 + (tvx mayA H A B n mv.2).2 ≤ 13 * 137858491849 := by
      have e : (((c + 1) * 13 ^ n : Nat) : Int) = ((c * 13 ^ n : Nat) : Int) + ((13 ^ n : Nat) : Int) := by rw [Nat.succ_mul]; simp
      have := hb.2.2.2
      have := ht.2.2.2
      omega
    have h0 := hb.2.2.1
    have h1 := ht.2.2.1
    have hn1 := ht.1
    have hn2 := ht.2.1
    simp only [resta_l1, resta_l1_b, movP, all1_S, Option.bind_some, Bool.not_true, br_false]
    rw [he]
    have hst : stepT mayA h (tvx mayA H A B n) best mv = (if best.1 < wT mv.1.1 (tvx mayA H A B n mv.2).1 then (wT mv.1.1 (tvx mayA H A B n mv.2).1, (tvx mayA H A B n mv.2).2) else if wT mv.1.1 (tvx mayA H A B n mv.2).1 = best.1 then (best.1, best.2 + (tvx mayA H A B n mv.2).2) else best) := by
      unfold stepT; exact if_pos rfl
    rw [hst]
    simp only [Option.bind_some, wT]
    clear hst h2 he hb' hself
    generalize tvx mayA H A B n mv.2 = t at *
    obtain ⟨tw, ty⟩ := t
    obtain ⟨bw, by_⟩ := best
    simp only at *
    by_cases c1 : 0 ≤ tw
    · rw [br_dec c1]
      by_cases c2 : mv.1.1 = 3
      · refine (br_nd c2).trans ?_
        have c2' : ¬ (0 ≤ tw ∧ mv.1.1 ≠ 3) := fun h => h.2 c2
        rw [if_neg c2']
        by_cases c3 : bw < tw
        · rw [br_dec c3, if_pos c3]
        · rw [br_ndec c3, if_neg c3]
          by_cases c4 : tw = bw
          · rw [br_dec c4, if_pos c4, chk_eq (by omega)]
          · rw [br_ndec c4, if_neg c4]
      · refine (br_nnd c2).trans ?_
        have c2' : 0 ≤ tw ∧ mv.1.1 ≠ 3 := ⟨c1, c2⟩
        rw [chk_eq (by omega), if_pos c2']
        by_cases c3 : bw < tw + 1
        · rw [br_dec c3, if_pos c3]
        · rw [br_ndec c3, if_neg c3]
          by_cases c4 : tw + 1 = bw
          · rw [br_dec c4, if_pos c4, chk_eq (by omega)]
          · rw [br_ndec c4, if_neg c4]
    · have c2' : ¬ (0 ≤ tw ∧ mv.1.1 ≠ 3) := fun h => c1 h.1
      rw [br_ndec c1, if_neg c2']
      by_cases c3 : bw < tw
      · rw [br_dec c3, if_pos c3]
      · rw [br_ndec c3, if_neg c3]
        by_cases c4 : tw = bw
        · rw [br_dec c4, if_pos c4, chk_eq (by omega)]
        · rw [br_ndec c4, if_neg c4]
theorem resta_R_p (hH : H.length ≤ 10) (hA : A.length ≤ 6) (hB : B.length ≤ 6) : ∀ (fu : Nat) (x : At3) (m : Memo), H.length < fu + x.1 → x.1 ≤ H.length → x.2.1 ≤ A.length → x.2.2 ≤ B.length → MapOK mayA H A B m →
    ∃ m', resta_R N fu x.1 x.2.1 x.2.2 (T, H, f, A, B) (T, H, f, A, B) m = some ((tv mayA H A B x).1, (tv mayA H A B x).2, (T, H, f, A, B), m') ∧ MapOK mayA H A B m'
  | 0, x, m, h, h1, _, _, _ => by omega
  | fu + 1, x, m, h, hx, ha, hb, hm => by
    show ∃ m', resta_S N (resta_R N fu) x.1 x.2.1 x.2.2 (T, H, f, A, B) (T, H, f, A, B) m = _ ∧ _
    unfold resta_S
    by_cases c1 : x.1 = H.length
    · rw [br_dec (by dsimp only; omega)]
      refine ⟨m, ?_, hm⟩
      simp [tv, tvx, c1]
    · rw [br_ndec (by dsimp only; omega)]
      cases hf : m.find? (fun y => Ty.beq (.pair (.int .i64) (.pair (.int .i64) (.int .i64))) y.1 (((x.1 : Nat) : Int), ((x.2.1 : Nat) : Int), ((x.2.2 : Nat) : Int))) with
      | some e =>
        have := hm.find x hf
        refine ⟨m, ?_, hm⟩
        simp [br, this]
      | none =>
        simp only [Option.isSome_none, br_false, next_S, Option.bind_some]
        have hnx : nextR (((x.1 : Nat) : Int), ((x.2.1 : Nat) : Int), ((x.2.2 : Nat) : Int)) (T, H, f, A, B) = some ((movesL A B (H.getD x.1 0) x).map movP) := by
          unfold nextR
          rw [if_pos (by dsimp only; omega)]
          simp only [Int.toNat_natCast]
        rw [hnx]
        simp only [Option.bind_some]
        obtain ⟨n, hn⟩ : ∃ n, H.length - x.1 = n + 1 := ⟨H.length - x.1 - 1, by omega⟩
        obtain ⟨m1, h2, hm1⟩ := resta_l1_p (N := N) (T := T) (f := f) (self := resta_R N fu) (h := x.1) (n := n) (u := (((x.1 : Nat) : Int), ((x.2.1 : Nat) : Int), ((x.2.2 : Nat) : Int))) (u2 := (T, H, f, A, B)) (x := x.1) (x2 := x.2.1) (x3 := x.2.2) (g3 := 0) (g4 := 0) (by omega) hA hB (fun y m' hy hya hyb hm' => by
          have := resta_R_p hH hA hB fu y m' (by omega) (by omega) hya hyb hm'
          rw [show tv mayA H A B y = tvx mayA H A B n y by unfold tv; rw [show H.length - y.1 = n by omega]] at this
          exact this) (movesL A B (H.getD x.1 0) x) m 0 (-1, 0) (fun mv hv => movesL_ok ha hb hv) hm (by refine ⟨?_, ?_, ?_, ?_⟩ <;> simp; omega) (by have := movesL_len A B (H.getD x.1 0) x; omega)
        have e : (movesL A B (H.getD x.1 0) x).foldl (stepT mayA x.1 (tvx mayA H A B n)) (-1, 0) = tv mayA H A B x := by
          unfold tv; rw [hn, tvx]
        rw [e] at h2
        rw [h2]
        exact ⟨_, rfl, hm1.cons x⟩
theorem firsta_v (hN : 12 ≤ N) (hH : H.length ≤ 10) (hA : A.length ≤ 6) (hB : B.length ≤ 6) : firsta_S N (T, H, f, A, B) = some (tv mayA H A B (0, 0, 0)) := by
  unfold firsta_S restsa_S restsa_j1
  obtain ⟨m, h, hm⟩ := resta_R_p (N := N) (T := T) (f := f) hH hA hB N (0, 0, 0) [] (by dsimp only; omega) (by dsimp only; omega) (by dsimp only; omega) (by dsimp only; omega) (MapOK.nil _ _ _ _)
  simp only [Int.natCast_zero] at h
  rw [h]
  simp [Ty.beq]
end
end Go.Proofs.Ytfcnhnbnjdccfaa

namespace Go.Proofs.Ytfcnhnbnjdccfaa
set_option linter.all false
open Go

section
variable {N : Nat}
/-! ### Echoes that are made -/
end
end Go.Proofs.Ytfcnhnbnjdccfaa

namespace Go.Proofs.Ytfcnhnbnjdccfaa
set_option linter.all false
open Go

section
variable {N : Nat} {T : List (List Int)} {H : List Int} {f : Int}
def leastV (H A B : List Int) : Int := (A.length : Int) + B.length + H.length - 2 * (tv mayA H A B (0, 0, 0)).1
theorem tv_bnd (may : Nat → Int × Int → Bool) {H A B : List Int} (hA : A.length ≤ 6) (hB : B.length ≤ 6) : -1 ≤ (tv may H A B (0, 0, 0)).1 ∧ (tv may H A B (0, 0, 0)).1 ≤ H.length := by
  have := tvx_bnd may (H := H) hA hB (H.length - 0) (0, 0, 0)
  exact ⟨this.1, this.2.1⟩
theorem dfaults_v {A B : List Int} {t : Int} (hH : H.length ≤ 10) (hA : A.length ≤ 6) (hB : B.length ≤ 6) (ht : -1 ≤ t ∧ t ≤ 10) : dfaults_S N (T, H, f, A, B) t = some ((A.length : Int) + B.length + H.length - 2 * t) := by
  unfold dfaults_S
  rw [chk_eq (by dsimp only; omega), chk_eq (by dsimp only; omega), chk_eq (by omega), chk_eq (by dsimp only; omega)]
theorem least_v (hN : 20 ≤ N) (h : Fine T H f) {a b : Int} (ha : 0 ≤ a ∧ a < T.length) (hb : 0 ≤ b ∧ b < T.length) : least_S N T H f a b = some (leastV H (T.getD a.toNat []) (T.getD b.toNat []), 0) := by
  unfold least_S
  obtain ⟨_, _, _, e⟩ := opened_good hN (h.open ha hb)
  rw [e]
  have la := h.l (T.getD a.toNat []) (getD_mem (by omega))
  have lb := h.l (T.getD b.toNat []) (getD_mem (by omega))
  have hH := h.h
  simp only [Option.bind_some, decide_true, Bool.not_true, br_false, all_S]
  rw [firsta_v (by omega) h.h la.2 lb.2]
  simp only [Option.bind_some]
  have := tv_bnd mayA (H := H) la.2 lb.2
  rw [dfaults_v h.h la.2 lb.2 (by omega)]
  rfl
/-! ### Pairs -/
/-! ### Confused texts -/
/-! ### Lists -/
theorem copyi_v {l : List Int} (h : l.length ≤ 1000000) : copyi_S N l = some l := by
  unfold copyi_S
  rw [grd_eq (lmI_iff.2 (by omega))]
  simp
theorem copyr_l1_p {u : List (List Int)} (hu : u.length ≤ 1000000) (hl : ∀ x ∈ u, x.length ≤ 1000000) : ∀ (n k : Nat) (out : List (List Int)), u.length < n + k → k ≤ u.length → out.length = u.length → out.take k = u.take k → copyr_l1 N n u (u.length : Int) k out = some u
  | 0, k, out, h, h1, _, _ => by omega
  | n + 1, k, out, h, h1, h2, h3 => by
    unfold copyr_l1
    by_cases c : k < u.length
    · rw [br_dec (by omega), idx_get [] (by omega) (by omega), copyi_v (hl _ (getD_mem (by omega)))]
      simp only [Option.bind_some, Int.toNat_natCast]
      rw [rng_eq (by omega), get_get [] (by omega), chk_eq (by omega)]
      have := copyr_l1_p hu hl n (k + 1) (out.set k (u.getD k [])) (by omega) (by omega) (by simpa using h2) (by
        rw [List.take_add_one, List.take_add_one, List.take_set_of_le (by omega), h3, List.getElem?_set_self (by omega)]
        simp [List.getD, c])
      rw [show ((k + 1 : Nat) : Int) = (k : Int) + 1 by omega] at this
      exact this
    · rw [br_ndec (by omega)]
      rw [List.take_of_length_le (by omega), List.take_of_length_le (by omega)] at h3
      rw [h3]
theorem copye_v (h : T.length ≤ 1000 ∧ H.length ≤ 1000) (hl : ∀ x ∈ T, x.length ≤ 1000000) (hN : 1010 ≤ N) : copye_S N T H f = some (T, H, f) := by
  unfold copye_S copyr_S
  rw [grd_eq (lmI_iff.2 (by omega))]
  have := copyr_l1_p (N := N) (u := T) (by omega) hl N 0 (List.replicate (T.length : Int).toNat []) (by omega) (by omega) (by simp) (by simp)
  rw [show ((0 : Nat) : Int) = 0 from rfl] at this
  rw [this]
  simp only [Option.bind_some]
  rw [copyi_v (by omega)]; rfl
end
end Go.Proofs.Ytfcnhnbnjdccfaa

namespace Go.Proofs.Ytfcnhnbnjdccfaa
set_option linter.all false
open Go

section
variable {N : Nat}
theorem awake_v : awake_S 1100 = some true := by kernel_rfl
end
end Go.Proofs.Ytfcnhnbnjdccfaa

namespace Go.Proofs.Ytfcnhnbnjdccfaa
set_option linter.all false
open Go

/-! ### The greatest of several -/
theorem stepT_fst (h : Nat) (t : At3 → Int × Int) (best : Int × Int) (m : Mv) : (stepT mayA h t best m).1 = max best.1 (wT m.1.1 (t m.2).1) := by
  have : stepT mayA h t best m = (if best.1 < wT m.1.1 (t m.2).1 then (wT m.1.1 (t m.2).1, (t m.2).2) else if wT m.1.1 (t m.2).1 = best.1 then (best.1, best.2 + (t m.2).2) else best) := by unfold stepT; exact if_pos rfl
  rw [this]
  split
  · first | omega | (dsimp only; omega)
  · split <;> first | omega | (dsimp only; omega)
theorem fold_ge {h : Nat} {t : At3 → Int × Int} : ∀ (ms : List Mv) (best : Int × Int), best.1 ≤ (ms.foldl (stepT mayA h t) best).1 ∧ ∀ m ∈ ms, wT m.1.1 (t m.2).1 ≤ (ms.foldl (stepT mayA h t) best).1
  | [], best => ⟨Int.le_refl _, fun _ h => by cases h⟩
  | m :: ms, best => by
    obtain ⟨h1, h2⟩ := fold_ge (h := h) (t := t) ms (stepT mayA h t best m)
    rw [stepT_fst] at h1
    rw [List.foldl_cons]
    refine ⟨by omega, fun m' hm => ?_⟩
    rcases List.mem_cons.1 hm with rfl | hm
    · omega
    · exact h2 m' hm
/-! ### All words are told -/
inductive Told (H A B : List Int) : Nat → Nat → Nat → Prop
  | done (i k : Nat) : Told H A B H.length i k
  | ta {h i k j : Nat} (hh : h < H.length) (hij : i ≤ j) (hj : j < A.length) (e : A.getD j 0 = H.getD h 0) (t : Told H A B (h + 1) (j + 1) k) : Told H A B h i k
  | tb {h i k j : Nat} (hh : h < H.length) (hij : k ≤ j) (hj : j < B.length) (e : B.getD j 0 = H.getD h 0) (t : Told H A B (h + 1) i (j + 1)) : Told H A B h i k
theorem Told.mono {H A B : List Int} {h i k : Nat} (t : Told H A B h i k) : ∀ (i' k' : Nat), i' ≤ i → k' ≤ k → Told H A B h i' k' := by
  induction t with
  | done i k => intro i' k' _ _; exact .done i' k'
  | ta hh hij hj e _ ih => intro i' k' h1 h2; exact .ta hh (Nat.le_trans h1 hij) hj e (ih _ _ (Nat.le_refl _) h2)
  | tb hh hij hj e _ ih => intro i' k' h1 h2; exact .tb hh (Nat.le_trans h2 hij) hj e (ih _ _ h1 (Nat.le_refl _))
theorem Told.tv {H A B : List Int} {h i k : Nat} (t : Told H A B h i k) : ∀ n, H.length = h + n → (n : Int) ≤ (tvx mayA H A B n (h, i, k)).1 := by
  induction t with
  | done i k => intro n hn; have : n = 0 := by omega
                subst this; simp [tvx]
  | @ta h i k j hh hij hj e t ih =>
    intro n hn
    obtain ⟨n, rfl⟩ : ∃ m, n = m + 1 := ⟨n - 1, by omega⟩
    have := ih n (by omega)
    have g := (fold_ge (h := h) (t := tvx mayA H A B n) (movesL A B (H.getD h 0) (h, i, k)) (-1, 0)).2 ((1, (j : Int)), (h + 1, j + 1, k)) (by
      simp only [movesL, List.mem_cons, List.mem_append, List.mem_map]
      exact .inr (.inl ⟨j, mem_standsL.2 ⟨hij, hj, e⟩, rfl⟩))
    rw [tvx]
    dsimp only
    dsimp only [wT] at g
    rw [if_pos ⟨by omega, by decide⟩] at g
    omega
  | @tb h i k j hh hij hj e t ih =>
    intro n hn
    obtain ⟨n, rfl⟩ : ∃ m, n = m + 1 := ⟨n - 1, by omega⟩
    have := ih n (by omega)
    have g := (fold_ge (h := h) (t := tvx mayA H A B n) (movesL A B (H.getD h 0) (h, i, k)) (-1, 0)).2 ((2, (j : Int)), (h + 1, i, j + 1)) (by
      simp only [movesL, List.mem_cons, List.mem_append, List.mem_map]
      exact .inr (.inr ⟨j, mem_standsL.2 ⟨hij, hj, e⟩, rfl⟩))
    rw [tvx]
    dsimp only
    dsimp only [wT] at g
    rw [if_pos ⟨by omega, by decide⟩] at g
    omega
/-- Two texts run into each other, with words lost. -/
inductive Shuf : List Int → List Int → List Int → Prop
  | nil : Shuf [] [] []
  | skipA {S a b : List Int} (w : Int) (s : Shuf S a b) : Shuf S (w :: a) b
  | skipB {S a b : List Int} (w : Int) (s : Shuf S a b) : Shuf S a (w :: b)
  | takeA {S a b : List Int} (w : Int) (s : Shuf S a b) : Shuf (w :: S) (w :: a) b
  | takeB {S a b : List Int} (w : Int) (s : Shuf S a b) : Shuf (w :: S) a (w :: b)
theorem drop_step {l : List Int} {i : Nat} {w : Int} {r : List Int} (h : l.drop i = w :: r) : i < l.length ∧ l.getD i 0 = w ∧ l.drop (i + 1) = r := by
  have hi : i < l.length := by
    rcases Nat.lt_or_ge i l.length with h1 | h1
    · exact h1
    · rw [List.drop_of_length_le h1] at h; cases h
  rw [drop_cons hi] at h
  simp only [List.cons.injEq] at h
  exact ⟨hi, h.1, h.2⟩
theorem Shuf.told {H A B S a b : List Int} (s : Shuf S a b) : ∀ (h i k : Nat), h ≤ H.length → H.drop h = S → A.drop i = a → B.drop k = b → Told H A B h i k := by
  induction s with
  | nil =>
    intro h i k hh hS _ _
    have : h = H.length := by
      have := congrArg List.length hS
      rw [List.length_drop] at this
      simp at this; omega
    subst this; exact .done i k
  | skipA w s ih => intro h i k hh hS ha hb; obtain ⟨_, _, h3⟩ := drop_step ha; exact (ih h (i + 1) k hh hS h3 hb).mono _ _ (by omega) (Nat.le_refl _)
  | skipB w s ih => intro h i k hh hS ha hb; obtain ⟨_, _, h3⟩ := drop_step hb; exact (ih h i (k + 1) hh hS ha h3).mono _ _ (Nat.le_refl _) (by omega)
  | takeA w s ih =>
    intro h i k hh hS ha hb
    obtain ⟨h1, h2, h3⟩ := drop_step ha
    obtain ⟨g1, g2, g3⟩ := drop_step hS
    exact .ta g1 (Nat.le_refl _) h1 (by rw [h2, g2]) (ih (h + 1) (i + 1) k (by omega) g3 h3 hb)
  | takeB w s ih =>
    intro h i k hh hS ha hb
    obtain ⟨h1, h2, h3⟩ := drop_step hb
    obtain ⟨g1, g2, g3⟩ := drop_step hS
    exact .tb g1 (Nat.le_refl _) h1 (by rw [h2, g2]) (ih (h + 1) i (k + 1) (by omega) g3 ha h3)
theorem Shuf.len {S a b : List Int} (s : Shuf S a b) : S.length ≤ a.length + b.length := by
  induction s <;> simp only [List.length_cons, List.length_nil] at * <;> omega
theorem Shuf.least {S a b : List Int} (s : Shuf S a b) (ha : a.length ≤ 6) (hb : b.length ≤ 6) : leastV S a b = (a.length : Int) + b.length - S.length := by
  have t := (s.told (H := S) (A := a) (B := b) 0 0 0 (Nat.zero_le _) rfl rfl rfl).tv S.length (by omega)
  have := tv_bnd mayA (H := S) ha hb
  unfold leastV
  have e : (tvx mayA S a b S.length (0, 0, 0)).1 = (Proofs.Ytfcnhnbnjdccfaa.tv mayA S a b (0, 0, 0)).1 := rfl
  omega
end Go.Proofs.Ytfcnhnbnjdccfaa

namespace Go.Proofs.Ytfcnhnbnjdccfaa
set_option linter.all false
open Go

section
variable {N : Nat} {T : List (List Int)} {H : List Int} {f : Int}
end
end Go.Proofs.Ytfcnhnbnjdccfaa

namespace Go.Proofs.Ytfcnhnbnjdccfaa
set_option linter.all false
open Go

/-- Words of two texts are told in what was heard, between noise. -/
inductive Rd : List Int → List Int → List Int → Prop
  | nil : Rd [] [] []
  | noise (w : Int) {H a b : List Int} (s : Rd H a b) : Rd (w :: H) a b
  | ta (w : Int) {H a b : List Int} (s : Rd H a b) : Rd (w :: H) (w :: a) b
  | tb (w : Int) {H a b : List Int} (s : Rd H a b) : Rd (w :: H) a (w :: b)
theorem Rd.none : ∀ H : List Int, Rd H [] []
  | [] => .nil
  | w :: H => .noise w (Rd.none H)
theorem Rd.sub {H a b : List Int} (s : Rd H a b) : ∀ a' b' : List Int, a'.Sublist a → b'.Sublist b → Rd H a' b' := by
  induction s with
  | nil => intro a' b' ha hb; rw [List.sublist_nil.1 ha, List.sublist_nil.1 hb]; exact .nil
  | noise w s ih => intro a' b' ha hb; exact .noise w (ih a' b' ha hb)
  | ta w s ih =>
    intro a' b' ha hb
    cases ha with
    | cons _ h => exact .noise w (ih a' b' h hb)
    | cons_cons _ h => exact .ta w (ih _ b' h hb)
  | tb w s ih =>
    intro a' b' ha hb
    cases hb with
    | cons _ h => exact .noise w (ih a' b' ha h)
    | cons_cons _ h => exact .tb w (ih a' _ ha h)
theorem sub_at {A a : List Int} {w : Int} : ∀ (n i : Nat), A.length = i + n → (w :: a).Sublist (A.drop i) → ∃ j, i ≤ j ∧ j < A.length ∧ A.getD j 0 = w ∧ a.Sublist (A.drop (j + 1))
  | 0, i, h, hs => by rw [List.drop_of_length_le (by omega)] at hs; cases hs
  | n + 1, i, h, hs => by
    rw [drop_cons (by omega)] at hs
    cases hs with
    | cons _ h' =>
      obtain ⟨j, h1, h2, h3, h4⟩ := sub_at n (i + 1) (by omega) h'
      exact ⟨j, by omega, h2, h3, h4⟩
    | cons_cons _ h' => exact ⟨i, Nat.le_refl _, by omega, rfl, h'⟩
theorem tvx_ge (H A B : List Int) : ∀ (n h i k : Nat) (a b : List Int), H.length = h + n → Rd (H.drop h) a b → a.Sublist (A.drop i) → b.Sublist (B.drop k) → ((a.length : Int) + b.length) ≤ (tvx mayA H A B n (h, i, k)).1
  | 0, h, i, k, a, b, hn, s, _, _ => by
    rw [List.drop_of_length_le (by omega)] at s
    cases s; simp [tvx]
  | n + 1, h, i, k, a, b, hn, s, ha, hb => by
    rw [drop_cons (by omega)] at s
    have g := (fold_ge (h := h) (t := tvx mayA H A B n) (movesL A B (H.getD h 0) (h, i, k)) (-1, 0)).2
    rw [tvx]
    dsimp only
    cases s with
    | noise _ s =>
      have := tvx_ge H A B n (h + 1) i k a b (by omega) s ha hb
      have g1 := g ((3, 0), (h + 1, i, k)) (by simp [movesL])
      have e : ∀ w : Int, wT 3 w = w := fun w => by simp [wT]
      dsimp only at g1
      rw [e] at g1
      omega
    | ta _ s =>
      obtain ⟨j, h1, h2, h3, h4⟩ := sub_at (A.length - i) i (by have := ha.length_le; simp at this; omega) ha
      have := tvx_ge H A B n (h + 1) (j + 1) k _ b (by omega) s h4 hb
      have g1 := g ((1, (j : Int)), (h + 1, j + 1, k)) (by
        simp only [movesL, List.mem_cons, List.mem_append, List.mem_map]
        exact .inr (.inl ⟨j, mem_standsL.2 ⟨h1, h2, h3⟩, rfl⟩))
      dsimp only [wT] at g1
      rw [if_pos ⟨by omega, by decide⟩] at g1
      simp only [List.length_cons]
      omega
    | tb _ s =>
      obtain ⟨j, h1, h2, h3, h4⟩ := sub_at (B.length - k) k (by have := hb.length_le; simp at this; omega) hb
      have := tvx_ge H A B n (h + 1) i (j + 1) a _ (by omega) s ha h4
      have g1 := g ((2, (j : Int)), (h + 1, i, j + 1)) (by
        simp only [movesL, List.mem_cons, List.mem_append, List.mem_map]
        exact .inr (.inr ⟨j, mem_standsL.2 ⟨h1, h2, h3⟩, rfl⟩))
      dsimp only [wT] at g1
      rw [if_pos ⟨by omega, by decide⟩] at g1
      simp only [List.length_cons]
      omega
theorem fold_has {h : Nat} {t : At3 → Int × Int} : ∀ (ms : List Mv) (best : Int × Int), (ms.foldl (stepT mayA h t) best).1 = best.1 ∨ ∃ m ∈ ms, (ms.foldl (stepT mayA h t) best).1 = wT m.1.1 (t m.2).1
  | [], best => .inl rfl
  | m :: ms, best => by
    rw [List.foldl_cons]
    rcases fold_has (h := h) (t := t) ms (stepT mayA h t best m) with h1 | ⟨m', hm, h1⟩
    · rw [stepT_fst] at h1
      rcases Int.le_total best.1 (wT m.1.1 (t m.2).1) with h2 | h2
      · exact .inr ⟨m, by simp, by omega⟩
      · exact .inl (by omega)
    · exact .inr ⟨m', by simp [hm], h1⟩
theorem tvx_nonneg (H A B : List Int) {n h i k : Nat} (hn : H.length = h + n) : 0 ≤ (tvx mayA H A B n (h, i, k)).1 := by
  have := tvx_ge H A B n h i k [] [] hn (Rd.none _) (List.nil_sublist _) (List.nil_sublist _)
  simpa using this
theorem tvx_has (H A B : List Int) : ∀ (n h i k : Nat), H.length = h + n → ∃ a b, Rd (H.drop h) a b ∧ a.Sublist (A.drop i) ∧ b.Sublist (B.drop k) ∧ ((a.length : Int) + b.length) = (tvx mayA H A B n (h, i, k)).1
  | 0, h, i, k, hn => ⟨[], [], by rw [List.drop_of_length_le (by omega)]; exact .nil, List.nil_sublist _, List.nil_sublist _, by simp [tvx]⟩
  | n + 1, h, i, k, hn => by
    have nn := tvx_nonneg H A B (i := i) (k := k) hn
    rw [tvx] at nn ⊢
    dsimp only at nn ⊢
    rw [drop_cons (a := H) (by omega)]
    rcases fold_has (h := h) (t := tvx mayA H A B n) (movesL A B (H.getD h 0) (h, i, k)) (-1, 0) with h1 | ⟨m, hm, h1⟩
    · rw [h1] at nn; exact absurd nn (by decide)
    · rw [h1]
      simp only [movesL, List.mem_cons, List.mem_append, List.mem_map] at hm
      rcases hm with rfl | ⟨j, hj, rfl⟩ | ⟨j, hj, rfl⟩
      · obtain ⟨a, b, s, ha, hb, e⟩ := tvx_has H A B n (h + 1) i k (by omega)
        have e3 : ∀ w : Int, wT 3 w = w := fun w => by simp [wT]
        exact ⟨a, b, .noise _ s, ha, hb, by rw [e3]; exact e⟩
      · obtain ⟨a, b, s, ha, hb, e⟩ := tvx_has H A B n (h + 1) (j + 1) k (by omega)
        obtain ⟨j1, j2, j3⟩ := mem_standsL.1 hj
        have h0 := tvx_nonneg H A B (n := n) (h := h + 1) (i := j + 1) (k := k) (by omega)
        refine ⟨H.getD h 0 :: a, b, .ta _ s, ?_, hb, ?_⟩
        · have s1 : (H.getD h 0 :: a).Sublist (A.drop j) := by rw [drop_cons j2, j3]; exact ha.cons_cons _
          have : A.drop j = (A.drop i).drop (j - i) := by rw [List.drop_drop]; congr 1; omega
          rw [this] at s1
          exact s1.trans (List.drop_sublist _ _)
        · dsimp only [wT]
          rw [if_pos ⟨by omega, by decide⟩]
          simp only [List.length_cons]; omega
      · obtain ⟨a, b, s, ha, hb, e⟩ := tvx_has H A B n (h + 1) i (j + 1) (by omega)
        obtain ⟨j1, j2, j3⟩ := mem_standsL.1 hj
        have h0 := tvx_nonneg H A B (n := n) (h := h + 1) (i := i) (k := j + 1) (by omega)
        refine ⟨a, H.getD h 0 :: b, .tb _ s, ha, ?_, ?_⟩
        · have s1 : (H.getD h 0 :: b).Sublist (B.drop j) := by rw [drop_cons j2, j3]; exact hb.cons_cons _
          have : B.drop j = (B.drop k).drop (j - k) := by rw [List.drop_drop]; congr 1; omega
          rw [this] at s1
          exact s1.trans (List.drop_sublist _ _)
        · dsimp only [wT]
          rw [if_pos ⟨by omega, by decide⟩]
          simp only [List.length_cons]; omega
/-- The most words that are told. -/
theorem leastV_le {H A B a b : List Int} (s : Rd H a b) (ha : a.Sublist A) (hb : b.Sublist B) : leastV H A B ≤ (A.length : Int) + B.length + H.length - 2 * (a.length + b.length) := by
  have := tvx_ge H A B H.length 0 0 0 a b (by omega) s ha hb
  have e : (tvx mayA H A B H.length (0, 0, 0)).1 = (tv mayA H A B (0, 0, 0)).1 := rfl
  unfold leastV
  omega
theorem leastV_has (H A B : List Int) : ∃ a b, Rd H a b ∧ a.Sublist A ∧ b.Sublist B ∧ leastV H A B = (A.length : Int) + B.length + H.length - 2 * (a.length + b.length) := by
  obtain ⟨a, b, s, ha, hb, h⟩ := tvx_has H A B H.length 0 0 0 (by omega)
  have e : (tvx mayA H A B H.length (0, 0, 0)).1 = (tv mayA H A B (0, 0, 0)).1 := rfl
  refine ⟨a, b, s, ha, hb, ?_⟩
  unfold leastV
  omega
/-- A word more. -/
theorem Rd.more (w : Int) {H a b : List Int} (s : Rd H a b) : ∀ p : Nat, Rd (H.take p ++ w :: H.drop p) a b := by
  induction s with
  | nil => intro p; cases p <;> simpa using Rd.noise w .nil
  | noise v s ih =>
    intro p; cases p with
    | zero => exact .noise w (.noise v s)
    | succ p => exact .noise v (ih p)
  | ta v s ih =>
    intro p; cases p with
    | zero => exact .noise w (.ta v s)
    | succ p => exact .ta v (ih p)
  | tb v s ih =>
    intro p; cases p with
    | zero => exact .noise w (.tb v s)
    | succ p => exact .tb v (ih p)
end Go.Proofs.Ytfcnhnbnjdccfaa

/-
  Parts of a proof, put together: PE2, PS, PA.
  Conditions: none.
-/
import Derived.Test.YtgeijboidfadaaaZe
namespace Go.Proofs.Ytgeijboidfadaaa
set_option linter.all false
open Go

def next_S (N : Nat) (d : Qb) (x : Int) (x2 : Int) (x3 : Int) : Option (Qu × Qb) :=
  some ((x, x2, x3), d)
noncomputable def next_sp (N : Nat) : List Spec := []
theorem next_all (N : Nat) : AllP (SpecOK Try.prog) (next_sp N) := trivial
noncomputable def next_c : Code := (Try.f123.body).getD .skip
noncomputable abbrev next_B : Body := { c := next_c, n := 6, res := [.tmp 4], outs := [⟨[.fn 139 [] [.fe Qh, .fe (.ptr Qi)]], []⟩], m0 := 0 }
abbrev next_rt : altD next_B.outs → Option (Qu × Qb) := fun r => some (r.1.1.2.1, r.1.1.2.2.1)
abbrev next_st : Sta := ⟨[0, 1], ⟨[.fe Qi, .agg [.i .i64, .i .i64, .i .i64]], []⟩⟩
theorem next_eq (N : Nat) (d : Qb) (x : Int) (x2 : Int) (x3 : Int) : ev (Z := Qu × Qb) Try.prog (next_sp N) next_B [] [] (some next_rt) 400 false [.c [0], .c [1]] (stL next_st ((d, (x, x2, x3, ()), ()), ())) (stH next_st ((d, (x, x2, x3, ()), ()), ())) = next_S N d x x2 x3 := by kernel_rfl
noncomputable def sp_next (N : Nat) : Spec := { f := 123, ins := ⟨[.fe Qi, .agg [.i .i64, .i .i64, .i .i64]], []⟩, outs := [⟨[.fn 139 [] [.fe Qh, .fe (.ptr Qi)]], []⟩], run := fun p k => (next_S N p.1.1 p.1.2.1.1 p.1.2.1.2.1 p.1.2.1.2.2.1).bind fun r => k ((((), (r.1, r.2, ())), ()), ()) }
theorem sp_next_ok (N : Nat) : SpecOK Try.prog (sp_next N) := fn_sound (B := next_B) (loops := []) (leaves := []) (fun p => next_S N p.1.1 p.1.2.1.1 p.1.2.1.2.1 p.1.2.1.2.2.1) (fun r => ((((), (r.1, r.2, ())), ()), ())) next_rt (fun _ _ _ => rfl) (fun r z h => by cases h; rfl) Try.func123 (by kernel_rfl) (by kernel_rfl) (by kernel_rfl) rfl rfl (by kernel_rfl) (fun args w => Sem.pv_run _ _ _ (by kernel_rfl) w) (next_all N) mixed trivial (fun z E Xc hE hX hret => trivial) (fun p => next_eq N p.1.1 p.1.2.1.1 p.1.2.1.2.1 p.1.2.1.2.2.1)

def dfaults_S (N : Nat) (d : Qb) (told : Int) : Option Int :=
  chk ((d.2.2.2.1.length : Int) + (d.2.2.2.2.length : Int)) <|
  chk (((d.2.2.2.1.length : Int) + (d.2.2.2.2.length : Int)) + (d.2.1.length : Int)) <|
  chk (2 * told) <|
  chk ((((d.2.2.2.1.length : Int) + (d.2.2.2.2.length : Int)) + (d.2.1.length : Int)) - (2 * told)) <|
  some ((((d.2.2.2.1.length : Int) + (d.2.2.2.2.length : Int)) + (d.2.1.length : Int)) - (2 * told))
noncomputable def dfaults_sp (N : Nat) : List Spec := []
theorem dfaults_all (N : Nat) : AllP (SpecOK Try.prog) (dfaults_sp N) := trivial
noncomputable def dfaults_c : Code := (Try.f49.body).getD .skip
noncomputable abbrev dfaults_B : Body := { c := dfaults_c, n := 26, res := [.tmp 4], outs := [⟨[.i .i64], []⟩], m0 := 0 }
abbrev dfaults_rt : altD dfaults_B.outs → Option Int := fun r => some r.1.1
abbrev dfaults_st : Sta := ⟨[0, 1], ⟨[.fe Qi, .i .i64], []⟩⟩
theorem dfaults_eq (N : Nat) (d : Qb) (told : Int) : ev (Z := Int) Try.prog (dfaults_sp N) dfaults_B [] [] (some dfaults_rt) 400 false [.c [0], .c [1]] (stL dfaults_st ((d, told, ()), ())) (stH dfaults_st ((d, told, ()), ())) = dfaults_S N d told := by kernel_rfl
noncomputable def sp_dfaults (N : Nat) : Spec := { f := 49, ins := ⟨[.fe Qi, .i .i64], []⟩, outs := [⟨[.i .i64], []⟩], run := fun p k => (dfaults_S N p.1.1 p.1.2.1).bind fun r => k ((r, ()), ()) }
theorem sp_dfaults_ok (N : Nat) : SpecOK Try.prog (sp_dfaults N) := fn_sound (B := dfaults_B) (loops := []) (leaves := []) (fun p => dfaults_S N p.1.1 p.1.2.1) (fun r => ((r, ()), ())) dfaults_rt (fun _ _ _ => rfl) (fun r z h => by cases h; rfl) Try.func49 (by kernel_rfl) (by kernel_rfl) (by kernel_rfl) rfl rfl (by kernel_rfl) (fun args w => Sem.pv_run _ _ _ (by kernel_rfl) w) (dfaults_all N) mixed trivial (fun z E Xc hE hX hret => trivial) (fun p => dfaults_eq N p.1.1 p.1.2.1)

def all1_S (N : Nat) (u : Int) (u2 : Int) (u3 : Int) : Option Bool :=
  some true
noncomputable def all1_sp (N : Nat) : List Spec := []
theorem all1_all (N : Nat) : AllP (SpecOK Try.prog) (all1_sp N) := trivial
noncomputable def all1_c : Code := (Try.f84.body).getD .skip
noncomputable abbrev all1_B : Body := { c := all1_c, n := 5, res := [.tmp 4], outs := [⟨[.b], []⟩], m0 := 0 }
abbrev all1_rt : altD all1_B.outs → Option Bool := fun r => some r.1.1
abbrev all1_st : Sta := ⟨[0, 1], ⟨[.i .i64, .agg [.i .i64, .i .i64]], []⟩⟩
theorem all1_eq (N : Nat) (u : Int) (u2 : Int) (u3 : Int) : ev (Z := Bool) Try.prog (all1_sp N) all1_B [] [] (some all1_rt) 400 false [.c [0], .c [1]] (stL all1_st ((u, (u2, u3, ()), ()), ())) (stH all1_st ((u, (u2, u3, ()), ()), ())) = all1_S N u u2 u3 := by kernel_rfl
noncomputable def sp_all1 (N : Nat) : Spec := { f := 84, ins := ⟨[.i .i64, .agg [.i .i64, .i .i64]], []⟩, outs := [⟨[.b], []⟩], run := fun p k => (all1_S N p.1.1 p.1.2.1.1 p.1.2.1.2.1).bind fun r => k ((r, ()), ()) }
theorem sp_all1_ok (N : Nat) : SpecOK Try.prog (sp_all1 N) := fn_sound (B := all1_B) (loops := []) (leaves := []) (fun p => all1_S N p.1.1 p.1.2.1.1 p.1.2.1.2.1) (fun r => ((r, ()), ())) all1_rt (fun _ _ _ => rfl) (fun r z h => by cases h; rfl) Try.func84 (by kernel_rfl) (by kernel_rfl) (by kernel_rfl) rfl rfl (by kernel_rfl) (fun args w => Sem.pv_run _ _ _ (by kernel_rfl) w) (all1_all N) mixed trivial (fun z E Xc hE hX hret => trivial) (fun p => all1_eq N p.1.1 p.1.2.1.1 p.1.2.1.2.1)

def all_S (N : Nat)  : Option Unit :=
  some ()
noncomputable def all_sp (N : Nat) : List Spec := []
theorem all_all (N : Nat) : AllP (SpecOK Try.prog) (all_sp N) := trivial
noncomputable def all_c : Code := (Try.f51.body).getD .skip
noncomputable abbrev all_B : Body := { c := all_c, n := 2, res := [.cell 0 119], outs := [⟨[.agg [.fn 84 [] []]], []⟩], m0 := 0 }
abbrev all_rt : altD all_B.outs → Option Unit := fun r => some ()
abbrev all_st : Sta := ⟨[], ⟨[], []⟩⟩
theorem all_eq (N : Nat)  : ev (Z := Unit) Try.prog (all_sp N) all_B [] [] (some all_rt) 400 false [.c [0], .c [1]] (stL all_st ((), ())) (stH all_st ((), ())) = all_S N := by kernel_rfl
noncomputable def sp_all (N : Nat) : Spec := { f := 51, ins := ⟨[], []⟩, outs := [⟨[.agg [.fn 84 [] []]], []⟩], run := fun p k => (all_S N).bind fun r => k (((((), ()), ()), ()), ()) }
theorem sp_all_ok (N : Nat) : SpecOK Try.prog (sp_all N) := fn_sound (B := all_B) (loops := []) (leaves := []) (fun p => all_S N ) (fun r => (((((), ()), ()), ()), ())) all_rt (fun _ _ _ => rfl) (fun r z h => by cases h; rfl) Try.func51 (by kernel_rfl) (by kernel_rfl) (by kernel_rfl) rfl rfl (by kernel_rfl) (fun args w => Sem.pv_run _ _ _ (by kernel_rfl) w) (all_all N) mixed trivial (fun z E Xc hE hX hret => trivial) (fun p => all_eq N )

noncomputable abbrev resta_self (self : Int → Int → Int → (Qb) → (Qb) → Qf → Option QF) : Spec := { f := 122, ins := ⟨[.agg [.i .i64, .i .i64, .i .i64], .fz [.fe Qi], .fz [.mp 1], .fz [.fn 84 [] []], .own 0 0], [.segs [.fn 122 [] [.fz [.fe Qi], .fz [.mp 1], .fz [.fn 84 [] []], .own 0 0]], .map Qh Qq]⟩, outs := [⟨[.agg [.i .i64, .i .i64]], [.segs [.fn 122 [] [.fz [.fe Qi], .fz [.mp 1], .fz [.fn 84 [] []], .own 0 0]], .map Qh Qq]⟩], run := fun p k => (self p.1.1.1 p.1.1.2.1 p.1.1.2.2.1 p.1.2.1.1 p.2.1.1.2.1.1 p.2.2.1).bind fun r => k (((r.1, r.2.1, ()), ()), ((((), ((r.2.2.1, ()), ((), ()), (((), ()), ()), (), ())), ()), r.2.2.2, ())) }
def resta_l1_b (N : Nat) (self : Int → Int → Int → (Qb) → (Qb) → Qf → Option QF) (rec : (Qb) → Qf → Int → Int → Int → Int → Int → Int → Int → Option (Qb × Qf × Int × Int × Int × Int × Int × Int × Int)) (u : Qu) (u2 : Qb) (g' : Qb) (g2' : List (Qu × QG)) (x' : Int) (x2' : Int) (x3' : Int) (g3' : Int) (g4' : Int) (best' : Int) (best2' : Int) (p' : Int) (p2' : Int) (y' : Int) (y2' : Int) (y3' : Int) : Option (Qb × Qf × Int × Int × Int × Int × Int × Int × Int) :=
  (all1_S N x' p' p2').bind fun x_3 =>
  br (!x_3)
    (rec g' g2' x' x2' x3' g3' g4' best' best2')
    ((self y' y2' y3' g' g' g2').bind fun (x_4, y_5, y_6, y_7) =>
    br (decide (0 ≤ x_4))
      (br (!decide (p' = 3))
        (chk (x_4 + 1) <|
        br (decide (best' < (x_4 + 1)))
          (rec y_6 y_7 x' x2' x3' g3' g4' (x_4 + 1) y_5)
          (br (decide ((x_4 + 1) = best'))
            (chk (best2' + y_5) <|
            rec y_6 y_7 x' x2' x3' g3' g4' best' (best2' + y_5))
            (rec y_6 y_7 x' x2' x3' g3' g4' best' best2')))
        (br (decide (best' < x_4))
          (rec y_6 y_7 x' x2' x3' g3' g4' x_4 y_5)
          (br (decide (x_4 = best'))
            (chk (best2' + y_5) <|
            rec y_6 y_7 x' x2' x3' g3' g4' best' (best2' + y_5))
            (rec y_6 y_7 x' x2' x3' g3' g4' best' best2'))))
      (br (decide (best' < x_4))
        (rec y_6 y_7 x' x2' x3' g3' g4' x_4 y_5)
        (br (decide (x_4 = best'))
          (chk (best2' + y_5) <|
          rec y_6 y_7 x' x2' x3' g3' g4' best' (best2' + y_5))
          (rec y_6 y_7 x' x2' x3' g3' g4' best' best2'))))
def resta_l1 (N : Nat) (self : Int → Int → Int → (Qb) → (Qb) → Qf → Option QF) : List Move → (Qu) → (Qb) → (Qb) → Qf → Int → Int → Int → Int → Int → Int → Int → Option (Qb × Qf × Int × Int × Int × Int × Int × Int × Int)
  | [], u, u2, g, g2, x, x2, x3, g3, g4, best, best2 =>
    some ((g, g2, x, x2, x3, g3, g4, best, best2))
  | e :: es, u, u2, g, g2, x, x2, x3, g3, g4, best, best2 =>
    resta_l1_b N self (fun g_ g2_ x_ x2_ x3_ g3_ g4_ best_ best2_ => resta_l1 N self es u u2 g_ g2_ x_ x2_ x3_ g3_ g4_ best_ best2_) u u2 g g2 x x2 x3 g3 g4 best best2 e.1.1 e.1.2.1 e.2.1.1 e.2.1.2.1 e.2.1.2.2.1
def resta_S (N : Nat) (self : Int → Int → Int → (Qb) → (Qb) → Qf → Option QF) (x : Int) (x2 : Int) (x3 : Int) (u : Qb) (g : Qb) (g2 : List (Qu × QG)) : Option QF :=
  br (decide (x = (u.2.1.length : Int)))
    (some (0, 1, g, g2))
    (br ((g2.find? fun (y : Qu × QG) => Ty.beq Qh y.1 (x, x2, x3)).isSome)
      (some ((((g2.find? fun (y : Qu × QG) => Ty.beq Qh y.1 (x, x2, x3)).map (·.2)).getD (Ty.dflt Qq)).1, (((g2.find? fun (y : Qu × QG) => Ty.beq Qh y.1 (x, x2, x3)).map (·.2)).getD (Ty.dflt Qq)).2, g, g2))
      ((next_S N u x x2 x3).bind fun (x_1, y_2) =>
      ((nextR x_1 y_2).bind fun es => resta_l1 N self es x_1 y_2 g g2 x x2 x3 0 0 (-1) 0).bind fun (g_8, g2_9, x_10, x2_11, x3_12, g3_13, g4_14, best_15, best2_16) =>
      some (best_15, best2_16, g_8, (((x_10, x2_11, x3_12), (best_15, best2_16)) :: g2_9))))
noncomputable def resta_sp (N : Nat) (self : Int → Int → Int → (Qb) → (Qb) → Qf → Option QF) : List Spec := [sp_next N, sp_all1 N, resta_self self]
theorem resta_all (N : Nat) (self : Int → Int → Int → (Qb) → (Qb) → Qf → Option QF) (hself : SpecOK Try.prog (resta_self self)) : AllP (SpecOK Try.prog) (resta_sp N self) := ⟨sp_next_ok N, sp_all1_ok N, hself, trivial⟩
noncomputable def resta_c : Code := (Try.f122.body).getD .skip
noncomputable abbrev resta_B : Body := { c := resta_c, n := 82, res := [.cell 6 115], outs := [⟨[.agg [.i .i64, .i .i64]], [.segs [.fn 122 [] [.fz [.fe Qi], .fz [.mp 1], .fz [.fn 84 [] []], .own 0 0]], .map Qh Qq]⟩], m0 := 2 }
abbrev resta_rt : altD resta_B.outs → Option QF := fun r => some (r.1.1.1, r.1.1.2.1, r.2.1.1.2.1.1, r.2.2.1)
abbrev resta_l1_st : Sta := ⟨[2, 3, 4, 5, 6, 9, 34], ⟨[.fz [.mp 1], .fz [.fn 84 [] []], .own 0 0, .own 2 0, .own 3 0, .own 4 0, .fn 139 [] [.fe Qh, .fe (.ptr Qi)]], [.segs [.fn 122 [] [.fz [.fe Qi], .fz [.mp 1], .fz [.fn 84 [] []], .own 0 0]], .map Qh Qq, .segs [.i .i64, .i .i64, .i .i64], .segs [.i .i64, .i .i64], .segs [.i .i64, .i .i64]]⟩⟩
abbrev resta_l1_stA : Sta := ⟨[3, 4, 5, 6, 9, 10, 11], ⟨[.fz [.fn 84 [] []], .own 0 0, .own 2 0, .own 3 0, .own 4 0, .own 5 0, .own 6 0], [.segs [.fn 122 [] [.fz [.fe Qi], .fz [.mp 1], .fz [.fn 84 [] []], .own 0 0]], .map Qh Qq, .segs [.i .i64, .i .i64, .i .i64], .segs [.i .i64, .i .i64], .segs [.i .i64, .i .i64], .segs [.i .i64, .i .i64], .segs [.i .i64, .i .i64, .i .i64]]⟩⟩
abbrev resta_l1_e0 : Leaf (Qb × Qf × Int × Int × Int × Int × Int × Int × Int) := ⟨[.c [1, 1, 1, 1, 1, 0], .c [1, 1, 1, 1, 1, 1]], ⟨[2, 5, 6, 9], ⟨[.fz [.mp 1], .own 2 0, .own 3 0, .own 4 0], [.segs [.fn 122 [] [.fz [.fe Qi], .fz [.mp 1], .fz [.fn 84 [] []], .own 0 0]], .map Qh Qq, .segs [.i .i64, .i .i64, .i .i64], .segs [.i .i64, .i .i64], .segs [.i .i64, .i .i64]]⟩⟩, fun p => some ((p.2.1.1.2.1.1, p.2.2.1, p.2.2.2.1.1, p.2.2.2.1.2.1, p.2.2.2.1.2.2.1, p.2.2.2.2.1.1, p.2.2.2.2.1.2.1, p.2.2.2.2.2.1.1, p.2.2.2.2.2.1.2.1))⟩
noncomputable def resta_l1_L (N : Nat) (self : Int → Int → Int → (Qb) → (Qb) → Qf → Option QF) : LoopS := { at_ := [.c [1, 1, 1, 1, 0, 1, 0], .b 0, .c [1, 1, 1, 1, 1]], sta := resta_l1_st, exits := [([.c [1, 1, 1, 1, 1, 0], .c [1, 1, 1, 1, 1, 1]], ⟨[2, 5, 6, 9], ⟨[.fz [.mp 1], .own 2 0, .own 3 0, .own 4 0], [.segs [.fn 122 [] [.fz [.fe Qi], .fz [.mp 1], .fz [.fn 84 [] []], .own 0 0]], .map Qh Qq, .segs [.i .i64, .i .i64, .i .i64], .segs [.i .i64, .i .i64], .segs [.i .i64, .i .i64]]⟩⟩)], run := fun p k => ((nextR p.1.2.2.2.2.2.2.1.2.1 p.1.2.2.2.2.2.2.1.2.2.1).bind fun es => resta_l1 N self es p.1.2.2.2.2.2.2.1.2.1 p.1.2.2.2.2.2.2.1.2.2.1 p.2.1.1.2.1.1 p.2.2.1 p.2.2.2.1.1 p.2.2.2.1.2.1 p.2.2.2.1.2.2.1 p.2.2.2.2.1.1 p.2.2.2.2.1.2.1 p.2.2.2.2.2.1.1 p.2.2.2.2.2.1.2.1).bind fun e => k (.inl ((((), ()), (), (), (), ()), ((((), ((e.1, ()), ((), ()), (((), ()), ()), (), ())), ()), e.2.1, (e.2.2.1, e.2.2.2.1, e.2.2.2.2.1, ()), (e.2.2.2.2.2.1, e.2.2.2.2.2.2.1, ()), (e.2.2.2.2.2.2.2.1, e.2.2.2.2.2.2.2.2, ()), ()))) }
noncomputable abbrev resta_l1_Bk : Body := { c := resta_c, n := resta_B.n, res := resta_B.res, outs := resta_B.outs, m0 := 5 }
theorem resta_l1_end (N : Nat) (self : Int → Int → Int → (Qb) → (Qb) → Qf → Option QF) (u : Qu) (u2 : Qb) (g : Qb) (g2 : List (Qu × QG)) (x : Int) (x2 : Int) (x3 : Int) (g3 : Int) (g4 : Int) (best : Int) (best2 : Int) : ev (Z := Qb × Qf × Int × Int × Int × Int × Int × Int × Int) Try.prog (resta_sp N self) resta_B [] [resta_l1_e0] none 400 false (nrm resta_B.c 99 [.b 0, .c [1, 1, 1, 1, 1]]) (stL resta_l1_st ((((), ()), (((), ()), ()), (), (), (), (), ((), (u, u2, ())), ()), ((((), ((g, ()), ((), ()), (((), ()), ()), (), ())), ()), g2, (x, x2, x3, ()), (g3, g4, ()), (best, best2, ()), ()))) (stH resta_l1_st ((((), ()), (((), ()), ()), (), (), (), (), ((), (u, u2, ())), ()), ((((), ((g, ()), ((), ()), (((), ()), ()), (), ())), ()), g2, (x, x2, x3, ()), (g3, g4, ()), (best, best2, ()), ()))) = resta_l1 N self [] u u2 g g2 x x2 x3 g3 g4 best best2 := by kernel_rfl
theorem resta_l1_asg (N : Nat) (self : Int → Int → Int → (Qb) → (Qb) → Qf → Option QF) (e : Move) (es : List Move) (u : Qu) (u2 : Qb) (g : Qb) (g2 : List (Qu × QG)) (x : Int) (x2 : Int) (x3 : Int) (g3 : Int) (g4 : Int) (best : Int) (best2 : Int) : ev (Z := Qb × Qf × Int × Int × Int × Int × Int × Int × Int) Try.prog (resta_sp N self) resta_l1_Bk [] [⟨[.r, .c [1, 1, 1, 1, 0, 1, 0, 1]], resta_l1_stA, fun p => resta_l1_b N self (fun g_ g2_ x_ x2_ x3_ g3_ g4_ best_ best2_ => resta_l1 N self es u u2 g_ g2_ x_ x2_ x3_ g3_ g4_ best_ best2_) u u2 p.2.1.1.2.1.1 p.2.2.1 p.2.2.2.1.1 p.2.2.2.1.2.1 p.2.2.2.1.2.2.1 p.2.2.2.2.1.1 p.2.2.2.2.1.2.1 p.2.2.2.2.2.1.1 p.2.2.2.2.2.1.2.1 p.2.2.2.2.2.2.1.1 p.2.2.2.2.2.2.1.2.1 p.2.2.2.2.2.2.2.1.1 p.2.2.2.2.2.2.2.1.2.1 p.2.2.2.2.2.2.2.1.2.2.1⟩] none 400 false (nrm resta_B.c 99 [.c [1, 1, 1, 1, 0, 1, 0, 0], .r, .c [1, 1, 1, 1, 0, 1, 0, 1]]) (pars [35, 36] (encs id is_next.elem e) (stL resta_l1_st ((((), ()), (((), ()), ()), (), (), (), (), ((), (u, u2, ())), ()), ((((), ((g, ()), ((), ()), (((), ()), ()), (), ())), ()), g2, (x, x2, x3, ()), (g3, g4, ()), (best, best2, ()), ())))) (stH resta_l1_st ((((), ()), (((), ()), ()), (), (), (), (), ((), (u, u2, ())), ()), ((((), ((g, ()), ((), ()), (((), ()), ()), (), ())), ()), g2, (x, x2, x3, ()), (g3, g4, ()), (best, best2, ()), ()))) = resta_l1 N self (e :: es) u u2 g g2 x x2 x3 g3 g4 best best2 := by kernel_rfl
theorem resta_l1_bod (N : Nat) (self : Int → Int → Int → (Qb) → (Qb) → Qf → Option QF) (rec : (Qb) → Qf → Int → Int → Int → Int → Int → Int → Int → Option (Qb × Qf × Int × Int × Int × Int × Int × Int × Int)) (u : Qu) (u2 : Qb) (g' : Qb) (g2' : List (Qu × QG)) (x' : Int) (x2' : Int) (x3' : Int) (g3' : Int) (g4' : Int) (best' : Int) (best2' : Int) (p' : Int) (p2' : Int) (y' : Int) (y2' : Int) (y3' : Int) : ev (Z := Qb × Qf × Int × Int × Int × Int × Int × Int × Int) Try.prog (resta_sp N self) resta_l1_Bk [] [⟨[], ⟨[], ⟨[], [.segs [.fn 122 [] [.fz [.fe Qi], .fz [.mp 1], .fz [.fn 84 [] []], .own 0 0]], .map Qh Qq, .segs [.i .i64, .i .i64, .i .i64], .segs [.i .i64, .i .i64], .segs [.i .i64, .i .i64]]⟩⟩, fun p => rec p.2.1.1.2.1.1 p.2.2.1 p.2.2.2.1.1 p.2.2.2.1.2.1 p.2.2.2.1.2.2.1 p.2.2.2.2.1.1 p.2.2.2.2.1.2.1 p.2.2.2.2.2.1.1 p.2.2.2.2.2.1.2.1⟩] none 400 false (nrm resta_B.c 99 [.c [1, 1, 1, 1, 0, 1, 0, 1]]) (stL resta_l1_stA (((((), ()), ()), (), (), (), (), (), (), ()), ((((), ((g', ()), ((), ()), (((), ()), ()), (), ())), ()), g2', (x', x2', x3', ()), (g3', g4', ()), (best', best2', ()), (p', p2', ()), (y', y2', y3', ()), ()))) (stH resta_l1_stA (((((), ()), ()), (), (), (), (), (), (), ()), ((((), ((g', ()), ((), ()), (((), ()), ()), (), ())), ()), g2', (x', x2', x3', ()), (g3', g4', ()), (best', best2', ()), (p', p2', ()), (y', y2', y3', ()), ()))) = resta_l1_b N self rec u u2 g' g2' x' x2' x3' g3' g4' best' best2' p' p2' y' y2' y3' := by kernel_rfl
theorem resta_l1_ok (N : Nat) (self : Int → Int → Int → (Qb) → (Qb) → Qf → Option QF) (hself : SpecOK Try.prog (resta_self self)) : LoopOK Try.prog resta_B.c resta_B.n resta_B.m0 true (resta_l1_L N self) := by
  refine range_ok (B := resta_B) (is := is_next) (g := .tmp 34) (ps := #[35, 36]) (assign := sub resta_c [1, 1, 1, 1, 0, 1, 0, 0]) (body := sub resta_c [1, 1, 1, 1, 0, 1, 0, 1]) (Z := Qb × Qf × Int × Int × Int × Int × Int × Int × Int) (x := resta_l1_L N self) (fun p => (p.1.2.2.2.2.2.2.1.2.1, p.1.2.2.2.2.2.2.1.2.2.1, ())) (fun es p => resta_l1 N self es p.1.2.2.2.2.2.2.1.2.1 p.1.2.2.2.2.2.2.1.2.2.1 p.2.1.1.2.1.1 p.2.2.1 p.2.2.2.1.1 p.2.2.2.1.2.1 p.2.2.2.1.2.2.1 p.2.2.2.2.1.1 p.2.2.2.2.1.2.1 p.2.2.2.2.2.1.1 p.2.2.2.2.2.1.2.1) (staA := resta_l1_stA) (fun es q p => resta_l1_b N self (fun g_ g2_ x_ x2_ x3_ g3_ g4_ best_ best2_ => resta_l1 N self es q.2.2.2.2.2.2.1.2.1 q.2.2.2.2.2.2.1.2.2.1 g_ g2_ x_ x2_ x3_ g3_ g4_ best_ best2_) q.2.2.2.2.2.2.1.2.1 q.2.2.2.2.2.2.1.2.2.1 p.2.1.1.2.1.1 p.2.2.1 p.2.2.2.1.1 p.2.2.2.1.2.1 p.2.2.2.1.2.2.1 p.2.2.2.2.1.1 p.2.2.2.2.1.2.1 p.2.2.2.2.2.1.1 p.2.2.2.2.2.1.2.1 p.2.2.2.2.2.2.1.1 p.2.2.2.2.2.2.1.2.1 p.2.2.2.2.2.2.2.1.1 p.2.2.2.2.2.2.2.1.2.1 p.2.2.2.2.2.2.2.1.2.2.1) [] (fun e => .inl ((((), ()), (), (), (), ()), ((((), ((e.1, ()), ((), ()), (((), ()), ()), (), ())), ()), e.2.1, (e.2.2.1, e.2.2.2.1, e.2.2.2.2.1, ()), (e.2.2.2.2.2.1, e.2.2.2.2.2.2.1, ()), (e.2.2.2.2.2.2.2.1, e.2.2.2.2.2.2.2.2, ()), ()))) (fun _ _ _ => rfl) rfl (by kernel_rfl) (fun _ => by kernel_rfl) (by kernel_rfl) is_next_ok (Nat.le_of_ble_eq_true (by kernel_rfl)) (by kernel_rfl) ?_ ?_ ?_ ?_
  · exact fun z E Xc hE hX hx p hp a w hS => ev_sound (z := z) (B := resta_B) (loops := []) (leaves := [resta_l1_e0]) (top := true) (resta_all N self hself) mixed trivial hE hX ⟨(fun p hp => by obtain rfl := Option.some.inj hp; exact hx), trivial⟩ RetOK.no 400 false _ _ _ ((resta_l1_end N self p.1.2.2.2.2.2.2.1.2.1 p.1.2.2.2.2.2.2.1.2.2.1 p.2.1.1.2.1.1 p.2.2.1 p.2.2.2.1.1 p.2.2.2.1.2.1 p.2.2.2.1.2.2.1 p.2.2.2.2.1.1 p.2.2.2.2.1.2.1 p.2.2.2.2.2.1.1 p.2.2.2.2.2.1.2.1).trans hp) a w hS
  · intro z E Xc hE hX hx e he q b hb a w hS
    simp only [List.not_mem_nil] at he
  · exact fun z E Xc hE hX e es p hl hp a w hS => ev_sound (z := z) (B := resta_l1_Bk) (loops := []) (leaves := [_]) (top := false) (resta_all N self hself) mixed trivial hE hX ⟨hl, trivial⟩ RetOK.no 400 false _ _ _ ((resta_l1_asg N self e es p.1.2.2.2.2.2.2.1.2.1 p.1.2.2.2.2.2.2.1.2.2.1 p.2.1.1.2.1.1 p.2.2.1 p.2.2.2.1.1 p.2.2.2.1.2.1 p.2.2.2.1.2.2.1 p.2.2.2.2.1.1 p.2.2.2.2.1.2.1 p.2.2.2.2.2.1.1 p.2.2.2.2.2.1.2.1).trans hp) a w hS
  · exact fun z E Xc hE hX es q he hs p hp a w hS => ev_sound (z := z) (B := resta_l1_Bk) (loops := []) (leaves := [_]) (top := false) (resta_all N self hself) mixed trivial hE hX ⟨he, trivial⟩ RetOK.no 400 false _ _ _ ((resta_l1_bod N self (fun g_ g2_ x_ x2_ x3_ g3_ g4_ best_ best2_ => resta_l1 N self es q.2.2.2.2.2.2.1.2.1 q.2.2.2.2.2.2.1.2.2.1 g_ g2_ x_ x2_ x3_ g3_ g4_ best_ best2_) q.2.2.2.2.2.2.1.2.1 q.2.2.2.2.2.2.1.2.2.1 p.2.1.1.2.1.1 p.2.2.1 p.2.2.2.1.1 p.2.2.2.1.2.1 p.2.2.2.1.2.2.1 p.2.2.2.2.1.1 p.2.2.2.2.1.2.1 p.2.2.2.2.2.1.1 p.2.2.2.2.2.1.2.1 p.2.2.2.2.2.2.1.1 p.2.2.2.2.2.2.1.2.1 p.2.2.2.2.2.2.2.1.1 p.2.2.2.2.2.2.2.1.2.1 p.2.2.2.2.2.2.2.1.2.2.1).trans hp) a w hS
abbrev resta_st : Sta := ⟨[0, 1, 2, 3, 4], ⟨[.agg [.i .i64, .i .i64, .i .i64], .fz [.fe Qi], .fz [.mp 1], .fz [.fn 84 [] []], .own 0 0], [.segs [.fn 122 [] [.fz [.fe Qi], .fz [.mp 1], .fz [.fn 84 [] []], .own 0 0]], .map Qh Qq]⟩⟩
theorem resta_eq (N : Nat) (self : Int → Int → Int → (Qb) → (Qb) → Qf → Option QF) (x : Int) (x2 : Int) (x3 : Int) (u : Qb) (g : Qb) (g2 : List (Qu × QG)) : ev (Z := Int × Int × Qb × Qf) Try.prog (resta_sp N self) resta_B [resta_l1_L N self] [] (some resta_rt) 400 false [.c [0], .c [1]] (stL resta_st (((x, x2, x3, ()), (u, ()), ((), ()), (((), ()), ()), (), ()), ((((), ((g, ()), ((), ()), (((), ()), ()), (), ())), ()), g2, ()))) (stH resta_st (((x, x2, x3, ()), (u, ()), ((), ()), (((), ()), ()), (), ()), ((((), ((g, ()), ((), ()), (((), ()), ()), (), ())), ()), g2, ()))) = resta_S N self x x2 x3 u g g2 := by kernel_rfl
theorem resta_self_ok (N : Nat) (self : Int → Int → Int → (Qb) → (Qb) → Qf → Option QF) (hself : SpecOK Try.prog (resta_self self)) : SpecOK Try.prog (resta_self (resta_S N self)) := fn_sound (B := resta_B) (loops := [resta_l1_L N self]) (leaves := []) (fun p => resta_S N self p.1.1.1 p.1.1.2.1 p.1.1.2.2.1 p.1.2.1.1 p.2.1.1.2.1.1 p.2.2.1) (fun r => (((r.1, r.2.1, ()), ()), ((((), ((r.2.2.1, ()), ((), ()), (((), ()), ()), (), ())), ()), r.2.2.2, ()))) resta_rt (fun _ _ _ => rfl) (fun r z h => by cases h; rfl) Try.func122 (by kernel_rfl) (by kernel_rfl) (by kernel_rfl) rfl rfl (by kernel_rfl) (fun args w => Sem.pv_run _ _ _ (by kernel_rfl) w) (resta_all N self hself) mixed ⟨resta_l1_ok N self hself, trivial⟩ (fun z E Xc hE hX hret => trivial) (fun p => resta_eq N self p.1.1.1 p.1.1.2.1 p.1.1.2.2.1 p.1.2.1.1 p.2.1.1.2.1.1 p.2.2.1)
def resta_R (N : Nat) : Nat → Int → Int → Int → (Qb) → (Qb) → Qf → Option QF
  | 0 => fun _ _ _ _ _ _ => none
  | n + 1 => resta_S N (resta_R N n)
theorem resta_R_ok (N : Nat) : ∀ n, SpecOK Try.prog (resta_self (resta_R N n))
  | 0 => SpecOK.none (fun _ _ _ => rfl) (fun args w => Sem.pv_run _ _ _ (by kernel_rfl) w)
  | n + 1 => resta_self_ok N (resta_R N n) (resta_R_ok N n)
noncomputable abbrev sp_resta (N : Nat) : Spec := resta_self (resta_R N N)
theorem sp_resta_ok (N : Nat) : SpecOK Try.prog (sp_resta N) := resta_R_ok N N

def restsa_j1 (N : Nat) (rest : Qb) (g : List (Qu × QG)) : Option Qf :=
  (resta_R N N 0 0 0 rest rest g).bind fun (x_1, y_2, y_3, y_4) =>
  some (((0, 0, 0), (x_1, y_2)) :: y_4)
def restsa_S (N : Nat) (d : Qb) : Option Qf :=
  restsa_j1 N d []
noncomputable def restsa_sp (N : Nat) : List Spec := [sp_resta N]
theorem restsa_all (N : Nat) : AllP (SpecOK Try.prog) (restsa_sp N) := ⟨sp_resta_ok N, trivial⟩
noncomputable def restsa_c : Code := (Try.f83.body).getD .skip
noncomputable abbrev restsa_B : Body := { c := restsa_c, n := 15, res := [.tmp 4], outs := [⟨[.mp 0], [.map Qh Qq]⟩], m0 := 0 }
abbrev restsa_rt : altD restsa_B.outs → Option Qf := fun r => some r.2.1
abbrev restsa_j1_at : List PI := [.c [1, 1, 1, 1, 0], .c [1, 1, 1, 1, 1]]
abbrev restsa_j1_st : Sta := ⟨[5, 6], ⟨[.fz [.mp 1], .own 0 0], [.segs [.fn 122 [] [.fz [.fe Qi], .fz [.mp 1], .fz [.fn 84 [] []], .own 0 0]], .map Qh Qq]⟩⟩
abbrev restsa_j1_k (N : Nat) : Leaf Qf := ⟨restsa_j1_at, restsa_j1_st, fun p => restsa_j1 N p.2.1.1.2.1.1 p.2.2.1⟩
theorem restsa_j1_eq (N : Nat) (rest : Qb) (g : List (Qu × QG)) : ev (Z := Qf) Try.prog (restsa_sp N) restsa_B [] [] (some restsa_rt) 400 true restsa_j1_at (stL restsa_j1_st ((((), ()), (), ()), ((((), ((rest, ()), ((), ()), (((), ()), ()), (), ())), ()), g, ()))) (stH restsa_j1_st ((((), ()), (), ()), ((((), ((rest, ()), ((), ()), (((), ()), ()), (), ())), ()), g, ()))) = restsa_j1 N rest g := by kernel_rfl
theorem restsa_j1_lf (N : Nat) {z : Qf} {E : EE} {Xc : Ctx} (hE : EOK restsa_B.m0 E) (hX : CxOK true Xc) (hret : RetOK Try.prog restsa_B E Xc z (some restsa_rt)) : LeafOK Try.prog restsa_B.c restsa_B.n restsa_B.m0 E Xc z (restsa_j1_k N) := leaf_of_ev (B := restsa_B) (loops := []) (leaves := []) (restsa_all N) mixed trivial hE hX trivial hret (fun p => restsa_j1_eq N p.2.1.1.2.1.1 p.2.2.1)
abbrev restsa_st : Sta := ⟨[0, 1], ⟨[.fe Qi, .agg [.fn 84 [] []]], []⟩⟩
theorem restsa_eq (N : Nat) (d : Qb) : ev (Z := Qf) Try.prog (restsa_sp N) restsa_B [] [restsa_j1_k N] (some restsa_rt) 400 false [.c [0], .c [1]] (stL restsa_st ((d, (((), ()), ()), ()), ())) (stH restsa_st ((d, (((), ()), ()), ()), ())) = restsa_S N d := by kernel_rfl
noncomputable def sp_restsa (N : Nat) : Spec := { f := 83, ins := ⟨[.fe Qi, .agg [.fn 84 [] []]], []⟩, outs := [⟨[.mp 0], [.map Qh Qq]⟩], run := fun p k => (restsa_S N p.1.1).bind fun r => k (((), ()), (r, ())) }
theorem sp_restsa_ok (N : Nat) : SpecOK Try.prog (sp_restsa N) := fn_sound (B := restsa_B) (loops := []) (leaves := [restsa_j1_k N]) (fun p => restsa_S N p.1.1) (fun r => (((), ()), (r, ()))) restsa_rt (fun _ _ _ => rfl) (fun r z h => by cases h; rfl) Try.func83 (by kernel_rfl) (by kernel_rfl) (by kernel_rfl) rfl rfl (by kernel_rfl) (fun args w => Sem.pv_run _ _ _ (by kernel_rfl) w) (restsa_all N) mixed trivial (fun z E Xc hE hX hret => ⟨restsa_j1_lf N hE hX hret, trivial⟩) (fun p => restsa_eq N p.1.1)

def firsta_S (N : Nat) (d : Qb) : Option QG :=
  (restsa_S N d).bind fun x_1 =>
  some ((((x_1.find? fun (y : Qu × QG) => Ty.beq Qh y.1 (0, 0, 0)).map (·.2)).getD (Ty.dflt Qq)).1, (((x_1.find? fun (y : Qu × QG) => Ty.beq Qh y.1 (0, 0, 0)).map (·.2)).getD (Ty.dflt Qq)).2)
noncomputable def firsta_sp (N : Nat) : List Spec := [sp_restsa N]
theorem firsta_all (N : Nat) : AllP (SpecOK Try.prog) (firsta_sp N) := ⟨sp_restsa_ok N, trivial⟩
noncomputable def firsta_c : Code := (Try.f50.body).getD .skip
noncomputable abbrev firsta_B : Body := { c := firsta_c, n := 10, res := [.cell 4 115], outs := [⟨[.agg [.i .i64, .i .i64]], []⟩], m0 := 0 }
abbrev firsta_rt : altD firsta_B.outs → Option QG := fun r => some (r.1.1.1, r.1.1.2.1)
abbrev firsta_st : Sta := ⟨[0, 1], ⟨[.fe Qi, .agg [.fn 84 [] []]], []⟩⟩
theorem firsta_eq (N : Nat) (d : Qb) : ev (Z := Int × Int) Try.prog (firsta_sp N) firsta_B [] [] (some firsta_rt) 400 false [.c [0], .c [1]] (stL firsta_st ((d, (((), ()), ()), ()), ())) (stH firsta_st ((d, (((), ()), ()), ()), ())) = firsta_S N d := by kernel_rfl
noncomputable def sp_firsta (N : Nat) : Spec := { f := 50, ins := ⟨[.fe Qi, .agg [.fn 84 [] []]], []⟩, outs := [⟨[.agg [.i .i64, .i .i64]], []⟩], run := fun p k => (firsta_S N p.1.1).bind fun r => k (((r.1, r.2, ()), ()), ()) }
theorem sp_firsta_ok (N : Nat) : SpecOK Try.prog (sp_firsta N) := fn_sound (B := firsta_B) (loops := []) (leaves := []) (fun p => firsta_S N p.1.1) (fun r => (((r.1, r.2, ()), ()), ())) firsta_rt (fun _ _ _ => rfl) (fun r z h => by cases h; rfl) Try.func50 (by kernel_rfl) (by kernel_rfl) (by kernel_rfl) rfl rfl (by kernel_rfl) (fun args w => Sem.pv_run _ _ _ (by kernel_rfl) w) (firsta_all N) mixed trivial (fun z E Xc hE hX hret => trivial) (fun p => firsta_eq N p.1.1)

def least_S (N : Nat) (e_ : List Qe) (e_2 : List Int) (e_3 : Int) (p : Int) (p2 : Int) : Option QG :=
  ((opened_S N e_ e_2 e_3 p p2).bind fun e => match e with
  | .inl (x_1, y_2) =>
    (br (!decide (y_2 = 0))
      (some (0, y_2))
      ((all_S N).bind fun _ =>
      (firsta_S N x_1).bind fun (x_3, y_4) =>
      (dfaults_S N x_1 x_3).bind fun x_5 =>
      some (x_5, 0)))
  | .inr x_6 =>
    (br (!decide (x_6 = 0))
      (some (0, x_6))
      ((all_S N).bind fun _ =>
      none)))
noncomputable def least_sp (N : Nat) : List Spec := [sp_opened N, sp_dfaults N, sp_all N, sp_firsta N]
theorem least_all (N : Nat) : AllP (SpecOK Try.prog) (least_sp N) := ⟨sp_opened_ok N, sp_dfaults_ok N, sp_all_ok N, sp_firsta_ok N, trivial⟩
noncomputable def least_c : Code := (Try.f19.body).getD .skip
noncomputable abbrev least_B : Body := { c := least_c, n := 23, res := [.tmp 4, .tmp 5], outs := [⟨[.i .i64, .i .i64], []⟩], m0 := 0 }
abbrev least_rt : altD least_B.outs → Option QG := fun r => some (r.1.1, r.1.2.1)
abbrev least_st : Sta := ⟨[0, 1], ⟨[.agg [.sl Qd, .sl (.int .i64), .i .i64], .agg [.i .i64, .i .i64]], []⟩⟩
theorem least_eq (N : Nat) (e_ : List Qe) (e_2 : List Int) (e_3 : Int) (p : Int) (p2 : Int) : ev (Z := Int × Int) Try.prog (least_sp N) least_B [] [] (some least_rt) 400 false [.c [0], .c [1]] (stL least_st (((e_, e_2, e_3, ()), (p, p2, ()), ()), ())) (stH least_st (((e_, e_2, e_3, ()), (p, p2, ()), ()), ())) = least_S N e_ e_2 e_3 p p2 := by kernel_rfl
noncomputable def sp_least (N : Nat) : Spec := { f := 19, ins := ⟨[.agg [.sl Qd, .sl (.int .i64), .i .i64], .agg [.i .i64, .i .i64]], []⟩, outs := [⟨[.i .i64, .i .i64], []⟩], run := fun p k => (least_S N p.1.1.1 p.1.1.2.1 p.1.1.2.2.1 p.1.2.1.1 p.1.2.1.2.1).bind fun r => k ((r.1, r.2, ()), ()) }
theorem sp_least_ok (N : Nat) : SpecOK Try.prog (sp_least N) := fn_sound (B := least_B) (loops := []) (leaves := []) (fun p => least_S N p.1.1.1 p.1.1.2.1 p.1.1.2.2.1 p.1.2.1.1 p.1.2.1.2.1) (fun r => ((r.1, r.2, ()), ())) least_rt (fun _ _ _ => rfl) (fun r z h => by cases h; rfl) Try.func19 (by kernel_rfl) (by kernel_rfl) (by kernel_rfl) rfl rfl (by kernel_rfl) (fun args w => Sem.pv_run _ _ _ (by kernel_rfl) w) (least_all N) mixed trivial (fun z E Xc hE hX hret => trivial) (fun p => least_eq N p.1.1.1 p.1.1.2.1 p.1.1.2.2.1 p.1.2.1.1 p.1.2.1.2.1)

def count_S (N : Nat) (e_ : List Qe) (e_2 : List Int) (e_3 : Int) (p : Int) (p2 : Int) : Option QG :=
  ((opened_S N e_ e_2 e_3 p p2).bind fun e => match e with
  | .inl (x_1, y_2) =>
    (br (!decide (y_2 = 0))
      (some (0, y_2))
      ((all_S N).bind fun _ =>
      (firsta_S N x_1).bind fun (x_3, y_4) =>
      some (y_4, 0)))
  | .inr x_5 =>
    (br (!decide (x_5 = 0))
      (some (0, x_5))
      ((all_S N).bind fun _ =>
      none)))
noncomputable def count_sp (N : Nat) : List Spec := [sp_opened N, sp_all N, sp_firsta N]
theorem count_all (N : Nat) : AllP (SpecOK Try.prog) (count_sp N) := ⟨sp_opened_ok N, sp_all_ok N, sp_firsta_ok N, trivial⟩
noncomputable def count_c : Code := (Try.f20.body).getD .skip
noncomputable abbrev count_B : Body := { c := count_c, n := 21, res := [.tmp 4, .tmp 5], outs := [⟨[.i .i64, .i .i64], []⟩], m0 := 0 }
abbrev count_rt : altD count_B.outs → Option QG := fun r => some (r.1.1, r.1.2.1)
abbrev count_st : Sta := ⟨[0, 1], ⟨[.agg [.sl Qd, .sl (.int .i64), .i .i64], .agg [.i .i64, .i .i64]], []⟩⟩
theorem count_eq (N : Nat) (e_ : List Qe) (e_2 : List Int) (e_3 : Int) (p : Int) (p2 : Int) : ev (Z := Int × Int) Try.prog (count_sp N) count_B [] [] (some count_rt) 400 false [.c [0], .c [1]] (stL count_st (((e_, e_2, e_3, ()), (p, p2, ()), ()), ())) (stH count_st (((e_, e_2, e_3, ()), (p, p2, ()), ()), ())) = count_S N e_ e_2 e_3 p p2 := by kernel_rfl
noncomputable def sp_count (N : Nat) : Spec := { f := 20, ins := ⟨[.agg [.sl Qd, .sl (.int .i64), .i .i64], .agg [.i .i64, .i .i64]], []⟩, outs := [⟨[.i .i64, .i .i64], []⟩], run := fun p k => (count_S N p.1.1.1 p.1.1.2.1 p.1.1.2.2.1 p.1.2.1.1 p.1.2.1.2.1).bind fun r => k ((r.1, r.2, ()), ()) }
theorem sp_count_ok (N : Nat) : SpecOK Try.prog (sp_count N) := fn_sound (B := count_B) (loops := []) (leaves := []) (fun p => count_S N p.1.1.1 p.1.1.2.1 p.1.1.2.2.1 p.1.2.1.1 p.1.2.1.2.1) (fun r => ((r.1, r.2, ()), ())) count_rt (fun _ _ _ => rfl) (fun r z h => by cases h; rfl) Try.func20 (by kernel_rfl) (by kernel_rfl) (by kernel_rfl) rfl rfl (by kernel_rfl) (fun args w => Sem.pv_run _ _ _ (by kernel_rfl) w) (count_all N) mixed trivial (fun z E Xc hE hX hret => trivial) (fun p => count_eq N p.1.1.1 p.1.1.2.1 p.1.1.2.2.1 p.1.2.1.1 p.1.2.1.2.1)

def sure1_S (N : Nat) (heard : Int) (q : Int) (q2 : Int) (u : Int) (u2 : Int) : Option Bool :=
  br (!decide (heard = u))
    (some true)
    (some (decide (q = u2)))
noncomputable def sure1_sp (N : Nat) : List Spec := []
theorem sure1_all (N : Nat) : AllP (SpecOK Try.prog) (sure1_sp N) := trivial
noncomputable def sure1_c : Code := (Try.f52.body).getD .skip
noncomputable abbrev sure1_B : Body := { c := sure1_c, n := 16, res := [.tmp 6], outs := [⟨[.b], []⟩], m0 := 0 }
abbrev sure1_rt : altD sure1_B.outs → Option Bool := fun r => some r.1.1
abbrev sure1_st : Sta := ⟨[0, 1, 2, 3], ⟨[.i .i64, .agg [.i .i64, .i .i64], .fe (.int .i64), .fe (.int .i64)], []⟩⟩
theorem sure1_eq (N : Nat) (heard : Int) (q : Int) (q2 : Int) (u : Int) (u2 : Int) : ev (Z := Bool) Try.prog (sure1_sp N) sure1_B [] [] (some sure1_rt) 400 false [.c [0], .c [1]] (stL sure1_st ((heard, (q, q2, ()), u, u2, ()), ())) (stH sure1_st ((heard, (q, q2, ()), u, u2, ()), ())) = sure1_S N heard q q2 u u2 := by kernel_rfl
noncomputable def sp_sure1 (N : Nat) : Spec := { f := 52, ins := ⟨[.i .i64, .agg [.i .i64, .i .i64], .fe (.int .i64), .fe (.int .i64)], []⟩, outs := [⟨[.b], []⟩], run := fun p k => (sure1_S N p.1.1 p.1.2.1.1 p.1.2.1.2.1 p.1.2.2.1 p.1.2.2.2.1).bind fun r => k ((r, ()), ()) }
theorem sp_sure1_ok (N : Nat) : SpecOK Try.prog (sp_sure1 N) := fn_sound (B := sure1_B) (loops := []) (leaves := []) (fun p => sure1_S N p.1.1 p.1.2.1.1 p.1.2.1.2.1 p.1.2.2.1 p.1.2.2.2.1) (fun r => ((r, ()), ())) sure1_rt (fun _ _ _ => rfl) (fun r z h => by cases h; rfl) Try.func52 (by kernel_rfl) (by kernel_rfl) (by kernel_rfl) rfl rfl (by kernel_rfl) (fun args w => Sem.pv_run _ _ _ (by kernel_rfl) w) (sure1_all N) mixed trivial (fun z E Xc hE hX hret => trivial) (fun p => sure1_eq N p.1.1 p.1.2.1.1 p.1.2.1.2.1 p.1.2.2.1 p.1.2.2.2.1)

noncomputable abbrev rests_self (self : Int → Int → Int → (Qb) → Int → Int → (Qb) → Int → Int → Qf → Option Qv) : Spec := { f := 122, ins := ⟨[.agg [.i .i64, .i .i64, .i .i64], .fz [.fe Qi], .fz [.mp 1], .fz [.fn 52 [] [.fe (.int .i64), .fe (.int .i64)]], .own 0 0], [.segs [.fn 122 [] [.fz [.fe Qi], .fz [.mp 1], .fz [.fn 52 [] [.fe (.int .i64), .fe (.int .i64)]], .own 0 0]], .map Qh Qq]⟩, outs := [⟨[.agg [.i .i64, .i .i64]], [.segs [.fn 122 [] [.fz [.fe Qi], .fz [.mp 1], .fz [.fn 52 [] [.fe (.int .i64), .fe (.int .i64)]], .own 0 0]], .map Qh Qq]⟩], run := fun p k => (self p.1.1.1 p.1.1.2.1 p.1.1.2.2.1 p.1.2.1.1 p.1.2.2.2.1.1.2.1 p.1.2.2.2.1.1.2.2.1 p.2.1.1.2.1.1 p.2.1.1.2.2.2.1.1.2.1 p.2.1.1.2.2.2.1.1.2.2.1 p.2.2.1).bind fun r => k (((r.1, r.2.1, ()), ()), ((((), ((r.2.2.1, ()), ((), ()), (((), (r.2.2.2.1, r.2.2.2.2.1, ())), ()), (), ())), ()), r.2.2.2.2.2, ())) }
def rests_l1_b (N : Nat) (self : Int → Int → Int → (Qb) → Int → Int → (Qb) → Int → Int → Qf → Option Qv) (rec : (Qb) → Int → Int → Qf → Int → Int → Int → Int → Int → Int → Int → Option QJ) (u : Int) (u2 : Int) (u3 : Qu) (u4 : Qb) (u' : Int) (u2' : Int) (g' : Qb) (g2' : Int) (g3' : Int) (g4' : List (Qu × QG)) (x' : Int) (x2' : Int) (x3' : Int) (g5' : Int) (g6' : Int) (best' : Int) (best2' : Int) (p' : Int) (p2' : Int) (y' : Int) (y2' : Int) (y3' : Int) : Option QJ :=
  (sure1_S N x' p' p2' u' u2').bind fun x_3 =>
  br (!x_3)
    (rec g' g2' g3' g4' x' x2' x3' g5' g6' best' best2')
    ((self y' y2' y3' g' g2' g3' g' g2' g3' g4').bind fun (x_4, y_5, y_6, y_7, y_8, y_9) =>
    br (decide (0 ≤ x_4))
      (br (!decide (p' = 3))
        (chk (x_4 + 1) <|
        br (decide (best' < (x_4 + 1)))
          (rec y_6 y_7 y_8 y_9 x' x2' x3' g5' g6' (x_4 + 1) y_5)
          (br (decide ((x_4 + 1) = best'))
            (chk (best2' + y_5) <|
            rec y_6 y_7 y_8 y_9 x' x2' x3' g5' g6' best' (best2' + y_5))
            (rec y_6 y_7 y_8 y_9 x' x2' x3' g5' g6' best' best2')))
        (br (decide (best' < x_4))
          (rec y_6 y_7 y_8 y_9 x' x2' x3' g5' g6' x_4 y_5)
          (br (decide (x_4 = best'))
            (chk (best2' + y_5) <|
            rec y_6 y_7 y_8 y_9 x' x2' x3' g5' g6' best' (best2' + y_5))
            (rec y_6 y_7 y_8 y_9 x' x2' x3' g5' g6' best' best2'))))
      (br (decide (best' < x_4))
        (rec y_6 y_7 y_8 y_9 x' x2' x3' g5' g6' x_4 y_5)
        (br (decide (x_4 = best'))
          (chk (best2' + y_5) <|
          rec y_6 y_7 y_8 y_9 x' x2' x3' g5' g6' best' (best2' + y_5))
          (rec y_6 y_7 y_8 y_9 x' x2' x3' g5' g6' best' best2'))))
def rests_l1 (N : Nat) (self : Int → Int → Int → (Qb) → Int → Int → (Qb) → Int → Int → Qf → Option Qv) : List Move → Int → Int → (Qu) → (Qb) → (Qb) → Int → Int → Qf → Int → Int → Int → Int → Int → Int → Int → Option QJ
  | [], u, u2, u3, u4, g, g2, g3, g4, x, x2, x3, g5, g6, best, best2 =>
    some ((g, g2, g3, g4, x, x2, x3, g5, g6, best, best2))
  | e :: es, u, u2, u3, u4, g, g2, g3, g4, x, x2, x3, g5, g6, best, best2 =>
    rests_l1_b N self (fun g_ g2_ g3_ g4_ x_ x2_ x3_ g5_ g6_ best_ best2_ => rests_l1 N self es u u2 u3 u4 g_ g2_ g3_ g4_ x_ x2_ x3_ g5_ g6_ best_ best2_) u u2 u3 u4 u u2 g g2 g3 g4 x x2 x3 g5 g6 best best2 e.1.1 e.1.2.1 e.2.1.1 e.2.1.2.1 e.2.1.2.2.1
def rests_S (N : Nat) (self : Int → Int → Int → (Qb) → Int → Int → (Qb) → Int → Int → Qf → Option Qv) (x : Int) (x2 : Int) (x3 : Int) (u : Qb) (u2 : Int) (u3 : Int) (g : Qb) (g2 : Int) (g3 : Int) (g4 : List (Qu × QG)) : Option Qv :=
  br (decide (x = (u.2.1.length : Int)))
    (some (0, 1, g, g2, g3, g4))
    (br ((g4.find? fun (y : Qu × QG) => Ty.beq Qh y.1 (x, x2, x3)).isSome)
      (some ((((g4.find? fun (y : Qu × QG) => Ty.beq Qh y.1 (x, x2, x3)).map (·.2)).getD (Ty.dflt Qq)).1, (((g4.find? fun (y : Qu × QG) => Ty.beq Qh y.1 (x, x2, x3)).map (·.2)).getD (Ty.dflt Qq)).2, g, g2, g3, g4))
      ((next_S N u x x2 x3).bind fun (x_1, y_2) =>
      ((nextR x_1 y_2).bind fun es => rests_l1 N self es u2 u3 x_1 y_2 g g2 g3 g4 x x2 x3 0 0 (-1) 0).bind fun (g_10, g2_11, g3_12, g4_13, x_14, x2_15, x3_16, g5_17, g6_18, best_19, best2_20) =>
      some (best_19, best2_20, g_10, g2_11, g3_12, (((x_14, x2_15, x3_16), (best_19, best2_20)) :: g4_13))))
noncomputable def rests_sp (N : Nat) (self : Int → Int → Int → (Qb) → Int → Int → (Qb) → Int → Int → Qf → Option Qv) : List Spec := [sp_next N, sp_sure1 N, rests_self self]
theorem rests_all (N : Nat) (self : Int → Int → Int → (Qb) → Int → Int → (Qb) → Int → Int → Qf → Option Qv) (hself : SpecOK Try.prog (rests_self self)) : AllP (SpecOK Try.prog) (rests_sp N self) := ⟨sp_next_ok N, sp_sure1_ok N, hself, trivial⟩
noncomputable def rests_c : Code := (Try.f122.body).getD .skip
noncomputable abbrev rests_B : Body := { c := rests_c, n := 82, res := [.cell 6 115], outs := [⟨[.agg [.i .i64, .i .i64]], [.segs [.fn 122 [] [.fz [.fe Qi], .fz [.mp 1], .fz [.fn 52 [] [.fe (.int .i64), .fe (.int .i64)]], .own 0 0]], .map Qh Qq]⟩], m0 := 2 }
abbrev rests_rt : altD rests_B.outs → Option Qv := fun r => some (r.1.1.1, r.1.1.2.1, r.2.1.1.2.1.1, r.2.1.1.2.2.2.1.1.2.1, r.2.1.1.2.2.2.1.1.2.2.1, r.2.2.1)
abbrev rests_l1_st : Sta := ⟨[2, 3, 4, 5, 6, 9, 34], ⟨[.fz [.mp 1], .fz [.fn 52 [] [.fe (.int .i64), .fe (.int .i64)]], .own 0 0, .own 2 0, .own 3 0, .own 4 0, .fn 139 [] [.fe Qh, .fe (.ptr Qi)]], [.segs [.fn 122 [] [.fz [.fe Qi], .fz [.mp 1], .fz [.fn 52 [] [.fe (.int .i64), .fe (.int .i64)]], .own 0 0]], .map Qh Qq, .segs [.i .i64, .i .i64, .i .i64], .segs [.i .i64, .i .i64], .segs [.i .i64, .i .i64]]⟩⟩
abbrev rests_l1_stA : Sta := ⟨[3, 4, 5, 6, 9, 10, 11], ⟨[.fz [.fn 52 [] [.fe (.int .i64), .fe (.int .i64)]], .own 0 0, .own 2 0, .own 3 0, .own 4 0, .own 5 0, .own 6 0], [.segs [.fn 122 [] [.fz [.fe Qi], .fz [.mp 1], .fz [.fn 52 [] [.fe (.int .i64), .fe (.int .i64)]], .own 0 0]], .map Qh Qq, .segs [.i .i64, .i .i64, .i .i64], .segs [.i .i64, .i .i64], .segs [.i .i64, .i .i64], .segs [.i .i64, .i .i64], .segs [.i .i64, .i .i64, .i .i64]]⟩⟩
abbrev rests_l1_e0 : Leaf QJ := ⟨[.c [1, 1, 1, 1, 1, 0], .c [1, 1, 1, 1, 1, 1]], ⟨[2, 5, 6, 9], ⟨[.fz [.mp 1], .own 2 0, .own 3 0, .own 4 0], [.segs [.fn 122 [] [.fz [.fe Qi], .fz [.mp 1], .fz [.fn 52 [] [.fe (.int .i64), .fe (.int .i64)]], .own 0 0]], .map Qh Qq, .segs [.i .i64, .i .i64, .i .i64], .segs [.i .i64, .i .i64], .segs [.i .i64, .i .i64]]⟩⟩, fun p => some ((p.2.1.1.2.1.1, p.2.1.1.2.2.2.1.1.2.1, p.2.1.1.2.2.2.1.1.2.2.1, p.2.2.1, p.2.2.2.1.1, p.2.2.2.1.2.1, p.2.2.2.1.2.2.1, p.2.2.2.2.1.1, p.2.2.2.2.1.2.1, p.2.2.2.2.2.1.1, p.2.2.2.2.2.1.2.1))⟩
noncomputable def rests_l1_L (N : Nat) (self : Int → Int → Int → (Qb) → Int → Int → (Qb) → Int → Int → Qf → Option Qv) : LoopS := { at_ := [.c [1, 1, 1, 1, 0, 1, 0], .b 0, .c [1, 1, 1, 1, 1]], sta := rests_l1_st, exits := [([.c [1, 1, 1, 1, 1, 0], .c [1, 1, 1, 1, 1, 1]], ⟨[2, 5, 6, 9], ⟨[.fz [.mp 1], .own 2 0, .own 3 0, .own 4 0], [.segs [.fn 122 [] [.fz [.fe Qi], .fz [.mp 1], .fz [.fn 52 [] [.fe (.int .i64), .fe (.int .i64)]], .own 0 0]], .map Qh Qq, .segs [.i .i64, .i .i64, .i .i64], .segs [.i .i64, .i .i64], .segs [.i .i64, .i .i64]]⟩⟩)], run := fun p k => ((nextR p.1.2.2.2.2.2.2.1.2.1 p.1.2.2.2.2.2.2.1.2.2.1).bind fun es => rests_l1 N self es p.1.2.1.1.2.1 p.1.2.1.1.2.2.1 p.1.2.2.2.2.2.2.1.2.1 p.1.2.2.2.2.2.2.1.2.2.1 p.2.1.1.2.1.1 p.2.1.1.2.2.2.1.1.2.1 p.2.1.1.2.2.2.1.1.2.2.1 p.2.2.1 p.2.2.2.1.1 p.2.2.2.1.2.1 p.2.2.2.1.2.2.1 p.2.2.2.2.1.1 p.2.2.2.2.1.2.1 p.2.2.2.2.2.1.1 p.2.2.2.2.2.1.2.1).bind fun e => k (.inl ((((), ()), (), (), (), ()), ((((), ((e.1, ()), ((), ()), (((), (e.2.1, e.2.2.1, ())), ()), (), ())), ()), e.2.2.2.1, (e.2.2.2.2.1, e.2.2.2.2.2.1, e.2.2.2.2.2.2.1, ()), (e.2.2.2.2.2.2.2.1, e.2.2.2.2.2.2.2.2.1, ()), (e.2.2.2.2.2.2.2.2.2.1, e.2.2.2.2.2.2.2.2.2.2, ()), ()))) }
noncomputable abbrev rests_l1_Bk : Body := { c := rests_c, n := rests_B.n, res := rests_B.res, outs := rests_B.outs, m0 := 5 }
theorem rests_l1_end (N : Nat) (self : Int → Int → Int → (Qb) → Int → Int → (Qb) → Int → Int → Qf → Option Qv) (u : Int) (u2 : Int) (u3 : Qu) (u4 : Qb) (g : Qb) (g2 : Int) (g3 : Int) (g4 : List (Qu × QG)) (x : Int) (x2 : Int) (x3 : Int) (g5 : Int) (g6 : Int) (best : Int) (best2 : Int) : ev (Z := Qb × Int × Int × Qf × Int × Int × Int × Int × Int × Int × Int) Try.prog (rests_sp N self) rests_B [] [rests_l1_e0] none 400 false (nrm rests_B.c 99 [.b 0, .c [1, 1, 1, 1, 1]]) (stL rests_l1_st ((((), ()), (((), (u, u2, ())), ()), (), (), (), (), ((), (u3, u4, ())), ()), ((((), ((g, ()), ((), ()), (((), (g2, g3, ())), ()), (), ())), ()), g4, (x, x2, x3, ()), (g5, g6, ()), (best, best2, ()), ()))) (stH rests_l1_st ((((), ()), (((), (u, u2, ())), ()), (), (), (), (), ((), (u3, u4, ())), ()), ((((), ((g, ()), ((), ()), (((), (g2, g3, ())), ()), (), ())), ()), g4, (x, x2, x3, ()), (g5, g6, ()), (best, best2, ()), ()))) = rests_l1 N self [] u u2 u3 u4 g g2 g3 g4 x x2 x3 g5 g6 best best2 := by kernel_rfl
theorem rests_l1_asg (N : Nat) (self : Int → Int → Int → (Qb) → Int → Int → (Qb) → Int → Int → Qf → Option Qv) (e : Move) (es : List Move) (u : Int) (u2 : Int) (u3 : Qu) (u4 : Qb) (g : Qb) (g2 : Int) (g3 : Int) (g4 : List (Qu × QG)) (x : Int) (x2 : Int) (x3 : Int) (g5 : Int) (g6 : Int) (best : Int) (best2 : Int) : ev (Z := Qb × Int × Int × Qf × Int × Int × Int × Int × Int × Int × Int) Try.prog (rests_sp N self) rests_l1_Bk [] [⟨[.r, .c [1, 1, 1, 1, 0, 1, 0, 1]], rests_l1_stA, fun p => rests_l1_b N self (fun g_ g2_ g3_ g4_ x_ x2_ x3_ g5_ g6_ best_ best2_ => rests_l1 N self es u u2 u3 u4 g_ g2_ g3_ g4_ x_ x2_ x3_ g5_ g6_ best_ best2_) u u2 u3 u4 p.1.1.1.2.1 p.1.1.1.2.2.1 p.2.1.1.2.1.1 p.2.1.1.2.2.2.1.1.2.1 p.2.1.1.2.2.2.1.1.2.2.1 p.2.2.1 p.2.2.2.1.1 p.2.2.2.1.2.1 p.2.2.2.1.2.2.1 p.2.2.2.2.1.1 p.2.2.2.2.1.2.1 p.2.2.2.2.2.1.1 p.2.2.2.2.2.1.2.1 p.2.2.2.2.2.2.1.1 p.2.2.2.2.2.2.1.2.1 p.2.2.2.2.2.2.2.1.1 p.2.2.2.2.2.2.2.1.2.1 p.2.2.2.2.2.2.2.1.2.2.1⟩] none 400 false (nrm rests_B.c 99 [.c [1, 1, 1, 1, 0, 1, 0, 0], .r, .c [1, 1, 1, 1, 0, 1, 0, 1]]) (pars [35, 36] (encs id is_next.elem e) (stL rests_l1_st ((((), ()), (((), (u, u2, ())), ()), (), (), (), (), ((), (u3, u4, ())), ()), ((((), ((g, ()), ((), ()), (((), (g2, g3, ())), ()), (), ())), ()), g4, (x, x2, x3, ()), (g5, g6, ()), (best, best2, ()), ())))) (stH rests_l1_st ((((), ()), (((), (u, u2, ())), ()), (), (), (), (), ((), (u3, u4, ())), ()), ((((), ((g, ()), ((), ()), (((), (g2, g3, ())), ()), (), ())), ()), g4, (x, x2, x3, ()), (g5, g6, ()), (best, best2, ()), ()))) = rests_l1 N self (e :: es) u u2 u3 u4 g g2 g3 g4 x x2 x3 g5 g6 best best2 := by kernel_rfl
theorem rests_l1_bod (N : Nat) (self : Int → Int → Int → (Qb) → Int → Int → (Qb) → Int → Int → Qf → Option Qv) (rec : (Qb) → Int → Int → Qf → Int → Int → Int → Int → Int → Int → Int → Option QJ) (u : Int) (u2 : Int) (u3 : Qu) (u4 : Qb) (u' : Int) (u2' : Int) (g' : Qb) (g2' : Int) (g3' : Int) (g4' : List (Qu × QG)) (x' : Int) (x2' : Int) (x3' : Int) (g5' : Int) (g6' : Int) (best' : Int) (best2' : Int) (p' : Int) (p2' : Int) (y' : Int) (y2' : Int) (y3' : Int) : ev (Z := Qb × Int × Int × Qf × Int × Int × Int × Int × Int × Int × Int) Try.prog (rests_sp N self) rests_l1_Bk [] [⟨[], ⟨[], ⟨[], [.segs [.fn 122 [] [.fz [.fe Qi], .fz [.mp 1], .fz [.fn 52 [] [.fe (.int .i64), .fe (.int .i64)]], .own 0 0]], .map Qh Qq, .segs [.i .i64, .i .i64, .i .i64], .segs [.i .i64, .i .i64], .segs [.i .i64, .i .i64]]⟩⟩, fun p => rec p.2.1.1.2.1.1 p.2.1.1.2.2.2.1.1.2.1 p.2.1.1.2.2.2.1.1.2.2.1 p.2.2.1 p.2.2.2.1.1 p.2.2.2.1.2.1 p.2.2.2.1.2.2.1 p.2.2.2.2.1.1 p.2.2.2.2.1.2.1 p.2.2.2.2.2.1.1 p.2.2.2.2.2.1.2.1⟩] none 400 false (nrm rests_B.c 99 [.c [1, 1, 1, 1, 0, 1, 0, 1]]) (stL rests_l1_stA (((((), (u', u2', ())), ()), (), (), (), (), (), (), ()), ((((), ((g', ()), ((), ()), (((), (g2', g3', ())), ()), (), ())), ()), g4', (x', x2', x3', ()), (g5', g6', ()), (best', best2', ()), (p', p2', ()), (y', y2', y3', ()), ()))) (stH rests_l1_stA (((((), (u', u2', ())), ()), (), (), (), (), (), (), ()), ((((), ((g', ()), ((), ()), (((), (g2', g3', ())), ()), (), ())), ()), g4', (x', x2', x3', ()), (g5', g6', ()), (best', best2', ()), (p', p2', ()), (y', y2', y3', ()), ()))) = rests_l1_b N self rec u u2 u3 u4 u' u2' g' g2' g3' g4' x' x2' x3' g5' g6' best' best2' p' p2' y' y2' y3' := by kernel_rfl
theorem rests_l1_ok (N : Nat) (self : Int → Int → Int → (Qb) → Int → Int → (Qb) → Int → Int → Qf → Option Qv) (hself : SpecOK Try.prog (rests_self self)) : LoopOK Try.prog rests_B.c rests_B.n rests_B.m0 true (rests_l1_L N self) := by
  refine range_ok (B := rests_B) (is := is_next) (g := .tmp 34) (ps := #[35, 36]) (assign := sub rests_c [1, 1, 1, 1, 0, 1, 0, 0]) (body := sub rests_c [1, 1, 1, 1, 0, 1, 0, 1]) (Z := Qb × Int × Int × Qf × Int × Int × Int × Int × Int × Int × Int) (x := rests_l1_L N self) (fun p => (p.1.2.2.2.2.2.2.1.2.1, p.1.2.2.2.2.2.2.1.2.2.1, ())) (fun es p => rests_l1 N self es p.1.2.1.1.2.1 p.1.2.1.1.2.2.1 p.1.2.2.2.2.2.2.1.2.1 p.1.2.2.2.2.2.2.1.2.2.1 p.2.1.1.2.1.1 p.2.1.1.2.2.2.1.1.2.1 p.2.1.1.2.2.2.1.1.2.2.1 p.2.2.1 p.2.2.2.1.1 p.2.2.2.1.2.1 p.2.2.2.1.2.2.1 p.2.2.2.2.1.1 p.2.2.2.2.1.2.1 p.2.2.2.2.2.1.1 p.2.2.2.2.2.1.2.1) (staA := rests_l1_stA) (fun es q p => rests_l1_b N self (fun g_ g2_ g3_ g4_ x_ x2_ x3_ g5_ g6_ best_ best2_ => rests_l1 N self es q.2.1.1.2.1 q.2.1.1.2.2.1 q.2.2.2.2.2.2.1.2.1 q.2.2.2.2.2.2.1.2.2.1 g_ g2_ g3_ g4_ x_ x2_ x3_ g5_ g6_ best_ best2_) q.2.1.1.2.1 q.2.1.1.2.2.1 q.2.2.2.2.2.2.1.2.1 q.2.2.2.2.2.2.1.2.2.1 p.1.1.1.2.1 p.1.1.1.2.2.1 p.2.1.1.2.1.1 p.2.1.1.2.2.2.1.1.2.1 p.2.1.1.2.2.2.1.1.2.2.1 p.2.2.1 p.2.2.2.1.1 p.2.2.2.1.2.1 p.2.2.2.1.2.2.1 p.2.2.2.2.1.1 p.2.2.2.2.1.2.1 p.2.2.2.2.2.1.1 p.2.2.2.2.2.1.2.1 p.2.2.2.2.2.2.1.1 p.2.2.2.2.2.2.1.2.1 p.2.2.2.2.2.2.2.1.1 p.2.2.2.2.2.2.2.1.2.1 p.2.2.2.2.2.2.2.1.2.2.1) [] (fun e => .inl ((((), ()), (), (), (), ()), ((((), ((e.1, ()), ((), ()), (((), (e.2.1, e.2.2.1, ())), ()), (), ())), ()), e.2.2.2.1, (e.2.2.2.2.1, e.2.2.2.2.2.1, e.2.2.2.2.2.2.1, ()), (e.2.2.2.2.2.2.2.1, e.2.2.2.2.2.2.2.2.1, ()), (e.2.2.2.2.2.2.2.2.2.1, e.2.2.2.2.2.2.2.2.2.2, ()), ()))) (fun _ _ _ => rfl) rfl (by kernel_rfl) (fun _ => by kernel_rfl) (by kernel_rfl) is_next_ok (Nat.le_of_ble_eq_true (by kernel_rfl)) (by kernel_rfl) ?_ ?_ ?_ ?_
  · exact fun z E Xc hE hX hx p hp a w hS => ev_sound (z := z) (B := rests_B) (loops := []) (leaves := [rests_l1_e0]) (top := true) (rests_all N self hself) mixed trivial hE hX ⟨(fun p hp => by obtain rfl := Option.some.inj hp; exact hx), trivial⟩ RetOK.no 400 false _ _ _ ((rests_l1_end N self p.1.2.1.1.2.1 p.1.2.1.1.2.2.1 p.1.2.2.2.2.2.2.1.2.1 p.1.2.2.2.2.2.2.1.2.2.1 p.2.1.1.2.1.1 p.2.1.1.2.2.2.1.1.2.1 p.2.1.1.2.2.2.1.1.2.2.1 p.2.2.1 p.2.2.2.1.1 p.2.2.2.1.2.1 p.2.2.2.1.2.2.1 p.2.2.2.2.1.1 p.2.2.2.2.1.2.1 p.2.2.2.2.2.1.1 p.2.2.2.2.2.1.2.1).trans hp) a w hS
  · intro z E Xc hE hX hx e he q b hb a w hS
    simp only [List.not_mem_nil] at he
  · exact fun z E Xc hE hX e es p hl hp a w hS => ev_sound (z := z) (B := rests_l1_Bk) (loops := []) (leaves := [_]) (top := false) (rests_all N self hself) mixed trivial hE hX ⟨hl, trivial⟩ RetOK.no 400 false _ _ _ ((rests_l1_asg N self e es p.1.2.1.1.2.1 p.1.2.1.1.2.2.1 p.1.2.2.2.2.2.2.1.2.1 p.1.2.2.2.2.2.2.1.2.2.1 p.2.1.1.2.1.1 p.2.1.1.2.2.2.1.1.2.1 p.2.1.1.2.2.2.1.1.2.2.1 p.2.2.1 p.2.2.2.1.1 p.2.2.2.1.2.1 p.2.2.2.1.2.2.1 p.2.2.2.2.1.1 p.2.2.2.2.1.2.1 p.2.2.2.2.2.1.1 p.2.2.2.2.2.1.2.1).trans hp) a w hS
  · exact fun z E Xc hE hX es q he hs p hp a w hS => ev_sound (z := z) (B := rests_l1_Bk) (loops := []) (leaves := [_]) (top := false) (rests_all N self hself) mixed trivial hE hX ⟨he, trivial⟩ RetOK.no 400 false _ _ _ ((rests_l1_bod N self (fun g_ g2_ g3_ g4_ x_ x2_ x3_ g5_ g6_ best_ best2_ => rests_l1 N self es q.2.1.1.2.1 q.2.1.1.2.2.1 q.2.2.2.2.2.2.1.2.1 q.2.2.2.2.2.2.1.2.2.1 g_ g2_ g3_ g4_ x_ x2_ x3_ g5_ g6_ best_ best2_) q.2.1.1.2.1 q.2.1.1.2.2.1 q.2.2.2.2.2.2.1.2.1 q.2.2.2.2.2.2.1.2.2.1 p.1.1.1.2.1 p.1.1.1.2.2.1 p.2.1.1.2.1.1 p.2.1.1.2.2.2.1.1.2.1 p.2.1.1.2.2.2.1.1.2.2.1 p.2.2.1 p.2.2.2.1.1 p.2.2.2.1.2.1 p.2.2.2.1.2.2.1 p.2.2.2.2.1.1 p.2.2.2.2.1.2.1 p.2.2.2.2.2.1.1 p.2.2.2.2.2.1.2.1 p.2.2.2.2.2.2.1.1 p.2.2.2.2.2.2.1.2.1 p.2.2.2.2.2.2.2.1.1 p.2.2.2.2.2.2.2.1.2.1 p.2.2.2.2.2.2.2.1.2.2.1).trans hp) a w hS
abbrev rests_st : Sta := ⟨[0, 1, 2, 3, 4], ⟨[.agg [.i .i64, .i .i64, .i .i64], .fz [.fe Qi], .fz [.mp 1], .fz [.fn 52 [] [.fe (.int .i64), .fe (.int .i64)]], .own 0 0], [.segs [.fn 122 [] [.fz [.fe Qi], .fz [.mp 1], .fz [.fn 52 [] [.fe (.int .i64), .fe (.int .i64)]], .own 0 0]], .map Qh Qq]⟩⟩
theorem rests_eq (N : Nat) (self : Int → Int → Int → (Qb) → Int → Int → (Qb) → Int → Int → Qf → Option Qv) (x : Int) (x2 : Int) (x3 : Int) (u : Qb) (u2 : Int) (u3 : Int) (g : Qb) (g2 : Int) (g3 : Int) (g4 : List (Qu × QG)) : ev (Z := Int × Int × Qb × Int × Int × Qf) Try.prog (rests_sp N self) rests_B [rests_l1_L N self] [] (some rests_rt) 400 false [.c [0], .c [1]] (stL rests_st (((x, x2, x3, ()), (u, ()), ((), ()), (((), (u2, u3, ())), ()), (), ()), ((((), ((g, ()), ((), ()), (((), (g2, g3, ())), ()), (), ())), ()), g4, ()))) (stH rests_st (((x, x2, x3, ()), (u, ()), ((), ()), (((), (u2, u3, ())), ()), (), ()), ((((), ((g, ()), ((), ()), (((), (g2, g3, ())), ()), (), ())), ()), g4, ()))) = rests_S N self x x2 x3 u u2 u3 g g2 g3 g4 := by kernel_rfl
theorem rests_self_ok (N : Nat) (self : Int → Int → Int → (Qb) → Int → Int → (Qb) → Int → Int → Qf → Option Qv) (hself : SpecOK Try.prog (rests_self self)) : SpecOK Try.prog (rests_self (rests_S N self)) := fn_sound (B := rests_B) (loops := [rests_l1_L N self]) (leaves := []) (fun p => rests_S N self p.1.1.1 p.1.1.2.1 p.1.1.2.2.1 p.1.2.1.1 p.1.2.2.2.1.1.2.1 p.1.2.2.2.1.1.2.2.1 p.2.1.1.2.1.1 p.2.1.1.2.2.2.1.1.2.1 p.2.1.1.2.2.2.1.1.2.2.1 p.2.2.1) (fun r => (((r.1, r.2.1, ()), ()), ((((), ((r.2.2.1, ()), ((), ()), (((), (r.2.2.2.1, r.2.2.2.2.1, ())), ()), (), ())), ()), r.2.2.2.2.2, ()))) rests_rt (fun _ _ _ => rfl) (fun r z h => by cases h; rfl) Try.func122 (by kernel_rfl) (by kernel_rfl) (by kernel_rfl) rfl rfl (by kernel_rfl) (fun args w => Sem.pv_run _ _ _ (by kernel_rfl) w) (rests_all N self hself) mixed ⟨rests_l1_ok N self hself, trivial⟩ (fun z E Xc hE hX hret => trivial) (fun p => rests_eq N self p.1.1.1 p.1.1.2.1 p.1.1.2.2.1 p.1.2.1.1 p.1.2.2.2.1.1.2.1 p.1.2.2.2.1.1.2.2.1 p.2.1.1.2.1.1 p.2.1.1.2.2.2.1.1.2.1 p.2.1.1.2.2.2.1.1.2.2.1 p.2.2.1)
def rests_R (N : Nat) : Nat → Int → Int → Int → (Qb) → Int → Int → (Qb) → Int → Int → Qf → Option Qv
  | 0 => fun _ _ _ _ _ _ _ _ _ _ => none
  | n + 1 => rests_S N (rests_R N n)
theorem rests_R_ok (N : Nat) : ∀ n, SpecOK Try.prog (rests_self (rests_R N n))
  | 0 => SpecOK.none (fun _ _ _ => rfl) (fun args w => Sem.pv_run _ _ _ (by kernel_rfl) w)
  | n + 1 => rests_self_ok N (rests_R N n) (rests_R_ok N n)
noncomputable abbrev sp_rests (N : Nat) : Spec := rests_self (rests_R N N)
theorem sp_rests_ok (N : Nat) : SpecOK Try.prog (sp_rests N) := rests_R_ok N N

def restss_j1 (N : Nat) (rest : Qb) (rest2 : Int) (rest3 : Int) (g : List (Qu × QG)) : Option Qf :=
  (rests_R N N 0 0 0 rest rest2 rest3 rest rest2 rest3 g).bind fun (x_1, y_2, y_3, y_4, y_5, y_6) =>
  some (((0, 0, 0), (x_1, y_2)) :: y_6)
def restss_S (N : Nat) (d : Qb) (f : Int) (f2 : Int) : Option Qf :=
  restss_j1 N d f f2 []
noncomputable def restss_sp (N : Nat) : List Spec := [sp_rests N]
theorem restss_all (N : Nat) : AllP (SpecOK Try.prog) (restss_sp N) := ⟨sp_rests_ok N, trivial⟩
noncomputable def restss_c : Code := (Try.f83.body).getD .skip
noncomputable abbrev restss_B : Body := { c := restss_c, n := 15, res := [.tmp 4], outs := [⟨[.mp 0], [.map Qh Qq]⟩], m0 := 0 }
abbrev restss_rt : altD restss_B.outs → Option Qf := fun r => some r.2.1
abbrev restss_j1_at : List PI := [.c [1, 1, 1, 1, 0], .c [1, 1, 1, 1, 1]]
abbrev restss_j1_st : Sta := ⟨[5, 6], ⟨[.fz [.mp 1], .own 0 0], [.segs [.fn 122 [] [.fz [.fe Qi], .fz [.mp 1], .fz [.fn 52 [] [.fe (.int .i64), .fe (.int .i64)]], .own 0 0]], .map Qh Qq]⟩⟩
abbrev restss_j1_k (N : Nat) : Leaf Qf := ⟨restss_j1_at, restss_j1_st, fun p => restss_j1 N p.2.1.1.2.1.1 p.2.1.1.2.2.2.1.1.2.1 p.2.1.1.2.2.2.1.1.2.2.1 p.2.2.1⟩
theorem restss_j1_eq (N : Nat) (rest : Qb) (rest2 : Int) (rest3 : Int) (g : List (Qu × QG)) : ev (Z := Qf) Try.prog (restss_sp N) restss_B [] [] (some restss_rt) 400 true restss_j1_at (stL restss_j1_st ((((), ()), (), ()), ((((), ((rest, ()), ((), ()), (((), (rest2, rest3, ())), ()), (), ())), ()), g, ()))) (stH restss_j1_st ((((), ()), (), ()), ((((), ((rest, ()), ((), ()), (((), (rest2, rest3, ())), ()), (), ())), ()), g, ()))) = restss_j1 N rest rest2 rest3 g := by kernel_rfl
theorem restss_j1_lf (N : Nat) {z : Qf} {E : EE} {Xc : Ctx} (hE : EOK restss_B.m0 E) (hX : CxOK true Xc) (hret : RetOK Try.prog restss_B E Xc z (some restss_rt)) : LeafOK Try.prog restss_B.c restss_B.n restss_B.m0 E Xc z (restss_j1_k N) := leaf_of_ev (B := restss_B) (loops := []) (leaves := []) (restss_all N) mixed trivial hE hX trivial hret (fun p => restss_j1_eq N p.2.1.1.2.1.1 p.2.1.1.2.2.2.1.1.2.1 p.2.1.1.2.2.2.1.1.2.2.1 p.2.2.1)
abbrev restss_st : Sta := ⟨[0, 1], ⟨[.fe Qi, .agg [.fn 52 [] [.fe (.int .i64), .fe (.int .i64)]]], []⟩⟩
theorem restss_eq (N : Nat) (d : Qb) (f : Int) (f2 : Int) : ev (Z := Qf) Try.prog (restss_sp N) restss_B [] [restss_j1_k N] (some restss_rt) 400 false [.c [0], .c [1]] (stL restss_st ((d, (((), (f, f2, ())), ()), ()), ())) (stH restss_st ((d, (((), (f, f2, ())), ()), ()), ())) = restss_S N d f f2 := by kernel_rfl
noncomputable def sp_restss (N : Nat) : Spec := { f := 83, ins := ⟨[.fe Qi, .agg [.fn 52 [] [.fe (.int .i64), .fe (.int .i64)]]], []⟩, outs := [⟨[.mp 0], [.map Qh Qq]⟩], run := fun p k => (restss_S N p.1.1 p.1.2.1.1.2.1 p.1.2.1.1.2.2.1).bind fun r => k (((), ()), (r, ())) }
theorem sp_restss_ok (N : Nat) : SpecOK Try.prog (sp_restss N) := fn_sound (B := restss_B) (loops := []) (leaves := [restss_j1_k N]) (fun p => restss_S N p.1.1 p.1.2.1.1.2.1 p.1.2.1.1.2.2.1) (fun r => (((), ()), (r, ()))) restss_rt (fun _ _ _ => rfl) (fun r z h => by cases h; rfl) Try.func83 (by kernel_rfl) (by kernel_rfl) (by kernel_rfl) rfl rfl (by kernel_rfl) (fun args w => Sem.pv_run _ _ _ (by kernel_rfl) w) (restss_all N) mixed trivial (fun z E Xc hE hX hret => ⟨restss_j1_lf N hE hX hret, trivial⟩) (fun p => restss_eq N p.1.1 p.1.2.1.1.2.1 p.1.2.1.1.2.2.1)

def firsts_S (N : Nat) (d : Qb) (f : Int) (f2 : Int) : Option QG :=
  (restss_S N d f f2).bind fun x_1 =>
  some ((((x_1.find? fun (y : Qu × QG) => Ty.beq Qh y.1 (0, 0, 0)).map (·.2)).getD (Ty.dflt Qq)).1, (((x_1.find? fun (y : Qu × QG) => Ty.beq Qh y.1 (0, 0, 0)).map (·.2)).getD (Ty.dflt Qq)).2)
noncomputable def firsts_sp (N : Nat) : List Spec := [sp_restss N]
theorem firsts_all (N : Nat) : AllP (SpecOK Try.prog) (firsts_sp N) := ⟨sp_restss_ok N, trivial⟩
noncomputable def firsts_c : Code := (Try.f50.body).getD .skip
noncomputable abbrev firsts_B : Body := { c := firsts_c, n := 10, res := [.cell 4 115], outs := [⟨[.agg [.i .i64, .i .i64]], []⟩], m0 := 0 }
abbrev firsts_rt : altD firsts_B.outs → Option QG := fun r => some (r.1.1.1, r.1.1.2.1)
abbrev firsts_st : Sta := ⟨[0, 1], ⟨[.fe Qi, .agg [.fn 52 [] [.fe (.int .i64), .fe (.int .i64)]]], []⟩⟩
theorem firsts_eq (N : Nat) (d : Qb) (f : Int) (f2 : Int) : ev (Z := Int × Int) Try.prog (firsts_sp N) firsts_B [] [] (some firsts_rt) 400 false [.c [0], .c [1]] (stL firsts_st ((d, (((), (f, f2, ())), ()), ()), ())) (stH firsts_st ((d, (((), (f, f2, ())), ()), ()), ())) = firsts_S N d f f2 := by kernel_rfl
noncomputable def sp_firsts (N : Nat) : Spec := { f := 50, ins := ⟨[.fe Qi, .agg [.fn 52 [] [.fe (.int .i64), .fe (.int .i64)]]], []⟩, outs := [⟨[.agg [.i .i64, .i .i64]], []⟩], run := fun p k => (firsts_S N p.1.1 p.1.2.1.1.2.1 p.1.2.1.1.2.2.1).bind fun r => k (((r.1, r.2, ()), ()), ()) }
theorem sp_firsts_ok (N : Nat) : SpecOK Try.prog (sp_firsts N) := fn_sound (B := firsts_B) (loops := []) (leaves := []) (fun p => firsts_S N p.1.1 p.1.2.1.1.2.1 p.1.2.1.1.2.2.1) (fun r => (((r.1, r.2, ()), ()), ())) firsts_rt (fun _ _ _ => rfl) (fun r z h => by cases h; rfl) Try.func50 (by kernel_rfl) (by kernel_rfl) (by kernel_rfl) rfl rfl (by kernel_rfl) (fun args w => Sem.pv_run _ _ _ (by kernel_rfl) w) (firsts_all N) mixed trivial (fun z E Xc hE hX hret => trivial) (fun p => firsts_eq N p.1.1 p.1.2.1.1.2.1 p.1.2.1.1.2.2.1)

def sure_j1 (N : Nat) (rec : (Qb) → Int → Int → Qe → Int → Int → Int → Qe → Int → Option Qz) (d : Qb) (u : Int) (u2 : Int) (u3 : List Int) (u4 : Int) (best : Int) (best2 : Int) (out : List Int) (i : Int) : Option Qz :=
  chk (u4 + 1) <|
  rec d u u2 u3 (u4 + 1) best best2 out i
def sure_l2 (N : Nat) : Nat → (Qb) → Int → Int → Qe → Int → Int → Int → Qe → Int → Option Qz
  | 0, _, _, _, _, _, _, _, _, _ => none
  | n_ + 1, d, u, u2, u3, u4, best, best2, out, i =>
    br (decide (u4 < 3))
      (idx u3 u4 fun x_5 =>
      (firsts_S N d i x_5).bind fun (x_6, y_7) =>
      br (decide (x_6 = best) && decide (y_7 = best2))
        (rng i out.length <|
        get out i.toNat fun _ =>
        sure_j1 N (sure_l2 N n_) d u u2 u3 u4 best best2 (out.set i.toNat x_5) i)
        (sure_j1 N (sure_l2 N n_) d u u2 u3 u4 best best2 out i))
      (some ((d, u, u2, best, best2, out)))
def sure_l1 (N : Nat) : Nat → (Qb) → Int → Int → Int → Int → Qe → Option Qe
  | 0, _, _, _, _, _, _ => none
  | n_ + 1, d, u, u2, best, best2, out =>
    br (decide (u2 < u))
      ((sure_l2 N N d u u2 [1, 2, 3] 0 best best2 out u2).bind fun (d_9, u_10, u2_11, best_12, best2_13, out_14) =>
      chk (u2_11 + 1) <|
      sure_l1 N n_ d_9 u_10 (u2_11 + 1) best_12 best2_13 out_14)
      (some (out))
def sure_S (N : Nat) (e_ : List Qe) (e_2 : List Int) (e_3 : Int) (p : Int) (p2 : Int) : Option (List Int × Int) :=
  ((opened_S N e_ e_2 e_3 p p2).bind fun e => match e with
  | .inl (x_1, y_2) =>
    (br (!decide (y_2 = 0))
      (some ([], y_2))
      ((all_S N).bind fun _ =>
      (firsta_S N x_1).bind fun (x_3, y_4) =>
      grd (lmI (e_2.length : Int)) <|
      (sure_l1 N N x_1 ((List.replicate (e_2.length : Int).toNat (0 : Int)).length : Int) 0 x_3 y_4 (List.replicate (e_2.length : Int).toNat (0 : Int))).bind fun out_15 =>
      some (out_15, 0)))
  | .inr x_16 =>
    (br (!decide (x_16 = 0))
      (some ([], x_16))
      ((all_S N).bind fun _ =>
      none)))
noncomputable def sure_sp (N : Nat) : List Spec := [sp_opened N, sp_all N, sp_firsta N, sp_firsts N]
theorem sure_all (N : Nat) : AllP (SpecOK Try.prog) (sure_sp N) := ⟨sp_opened_ok N, sp_all_ok N, sp_firsta_ok N, sp_firsts_ok N, trivial⟩
noncomputable def sure_c : Code := (Try.f21.body).getD .skip
noncomputable abbrev sure_B : Body := { c := sure_c, n := 53, res := [.tmp 4, .tmp 5], outs := [⟨[.sl (.int .i64), .i .i64], []⟩], m0 := 0 }
abbrev sure_rt : altD sure_B.outs → Option (List Int × Int) := fun r => some (r.1.1, r.1.2.1)
abbrev sure_l2_at : List PI := [.c [1, 1, 1, 1, 1, 0, 1, 0, 0, 1, 1, 0, 0, 1, 1, 0, 0, 0], .c [1, 1, 1, 1, 1, 0, 1, 0, 0, 1, 1, 0, 0, 1, 1, 0, 0, 1], .l [1, 1, 1, 1, 1, 0, 1, 0, 0, 1, 1, 0, 0, 1, 1, 0, 0], .b 2, .b 1, .c [1, 1, 1, 1, 1, 0, 1, 0, 0, 1, 1, 1], .l [1, 1, 1, 1, 1, 0, 1, 0, 0], .b 0, .c [1, 1, 1, 1, 1, 1]]
abbrev sure_l2_st : Sta := ⟨[6, 8, 9, 10, 31, 32, 35, 36], ⟨[.fe Qi, .own 0 0, .ols 1, .own 2 0, .i .i64, .i .i64, .arr (.int .i64) 3, .i .i64], [.segs [.i .i64, .i .i64], .lst (.int .i64), .segs [.i .i64]]⟩⟩
abbrev sure_l2_h (rec : (Qb) → Int → Int → Qe → Int → Int → Int → Qe → Int → Option Qz) : Leaf Qz := ⟨sure_l2_at, sure_l2_st, fun p => rec p.1.1 p.1.2.2.2.2.1 p.1.2.2.2.2.2.1 p.1.2.2.2.2.2.2.1 p.1.2.2.2.2.2.2.2.1 p.2.1.1 p.2.1.2.1 p.2.2.1 p.2.2.2.1.1⟩
abbrev sure_l2_e0 : Leaf Qz := ⟨[.c [1, 1, 1, 1, 1, 0, 1, 0, 0, 1, 1, 1], .l [1, 1, 1, 1, 1, 0, 1, 0, 0], .b 0, .c [1, 1, 1, 1, 1, 1]], ⟨[6, 8, 9, 31, 32], ⟨[.fe Qi, .own 0 0, .ols 1, .i .i64, .i .i64], [.segs [.i .i64, .i .i64], .lst (.int .i64)]⟩⟩, fun p => some ((p.1.1, p.1.2.2.2.1, p.1.2.2.2.2.1, p.2.1.1, p.2.1.2.1, p.2.2.1))⟩
abbrev sure_j1_at : List PI := [.c [1, 1, 1, 1, 1, 0, 1, 0, 0, 1, 1, 0, 0, 1, 1, 0, 0, 1, 1, 1], .l [1, 1, 1, 1, 1, 0, 1, 0, 0, 1, 1, 0, 0, 1, 1, 0, 0], .b 2, .b 1, .c [1, 1, 1, 1, 1, 0, 1, 0, 0, 1, 1, 1], .l [1, 1, 1, 1, 1, 0, 1, 0, 0], .b 0, .c [1, 1, 1, 1, 1, 1]]
abbrev sure_j1_st : Sta := ⟨[6, 8, 9, 10, 31, 32, 35, 36], ⟨[.fe Qi, .own 0 0, .ols 1, .own 2 0, .i .i64, .i .i64, .arr (.int .i64) 3, .i .i64], [.segs [.i .i64, .i .i64], .lst (.int .i64), .segs [.i .i64]]⟩⟩
abbrev sure_j1_k (N : Nat) (rec : (Qb) → Int → Int → Qe → Int → Int → Int → Qe → Int → Option Qz) : Leaf Qz := ⟨sure_j1_at, sure_j1_st, fun p => sure_j1 N rec p.1.1 p.1.2.2.2.2.1 p.1.2.2.2.2.2.1 p.1.2.2.2.2.2.2.1 p.1.2.2.2.2.2.2.2.1 p.2.1.1 p.2.1.2.1 p.2.2.1 p.2.2.2.1.1⟩
theorem sure_j1_eq (N : Nat) (rec : (Qb) → Int → Int → Qe → Int → Int → Int → Qe → Int → Option Qz) (d : Qb) (u : Int) (u2 : Int) (u3 : List Int) (u4 : Int) (best : Int) (best2 : Int) (out : List Int) (i : Int) : ev (Z := Qb × Int × Int × Int × Int × List Int) Try.prog (sure_sp N) sure_B [] [sure_l2_h rec, sure_l2_e0] none 400 true sure_j1_at (stL sure_j1_st ((d, (), (), (), u, u2, u3, u4, ()), ((best, best2, ()), out, (i, ()), ()))) (stH sure_j1_st ((d, (), (), (), u, u2, u3, u4, ()), ((best, best2, ()), out, (i, ()), ()))) = sure_j1 N rec d u u2 u3 u4 best best2 out i := by kernel_rfl
theorem sure_j1_lf (N : Nat) (rec : (Qb) → Int → Int → Qe → Int → Int → Int → Qe → Int → Option Qz) {z : Qb × Int × Int × Int × Int × List Int} {top : Bool} {E : EE} {Xc : Ctx} (hE : EOK sure_B.m0 E) (hX : CxOK top Xc) (hrec : LeafOK Try.prog sure_B.c sure_B.n sure_B.m0 E Xc z (sure_l2_h rec)) (h0 : LeafOK Try.prog sure_B.c sure_B.n sure_B.m0 E Xc z sure_l2_e0) : LeafOK Try.prog sure_B.c sure_B.n sure_B.m0 E Xc z (sure_j1_k N rec) := leaf_of_ev (B := sure_B) (loops := []) (leaves := [sure_l2_h rec, sure_l2_e0]) (sure_all N) mixed trivial hE hX ⟨hrec, h0, trivial⟩ RetOK.no (fun p => sure_j1_eq N rec p.1.1 p.1.2.2.2.2.1 p.1.2.2.2.2.2.1 p.1.2.2.2.2.2.2.1 p.1.2.2.2.2.2.2.2.1 p.2.1.1 p.2.1.2.1 p.2.2.1 p.2.2.2.1.1)
noncomputable def sure_l2_L (N : Nat) : LoopS := { at_ := sure_l2_at, sta := sure_l2_st, exits := [([.c [1, 1, 1, 1, 1, 0, 1, 0, 0, 1, 1, 1], .l [1, 1, 1, 1, 1, 0, 1, 0, 0], .b 0, .c [1, 1, 1, 1, 1, 1]], ⟨[6, 8, 9, 31, 32], ⟨[.fe Qi, .own 0 0, .ols 1, .i .i64, .i .i64], [.segs [.i .i64, .i .i64], .lst (.int .i64)]⟩⟩)], run := fun p k => (sure_l2 N N p.1.1 p.1.2.2.2.2.1 p.1.2.2.2.2.2.1 p.1.2.2.2.2.2.2.1 p.1.2.2.2.2.2.2.2.1 p.2.1.1 p.2.1.2.1 p.2.2.1 p.2.2.2.1.1).bind fun e => k (.inl ((e.1, (), (), e.2.1, e.2.2.1, ()), ((e.2.2.2.1, e.2.2.2.2.1, ()), e.2.2.2.2.2, ()))) }
theorem sure_l2_eq (N n_ : Nat) (d : Qb) (u : Int) (u2 : Int) (u3 : List Int) (u4 : Int) (best : Int) (best2 : Int) (out : List Int) (i : Int) : ev (Z := Qb × Int × Int × Int × Int × List Int) Try.prog (sure_sp N) sure_B [] [sure_l2_h (sure_l2 N n_), sure_l2_e0, sure_j1_k N (sure_l2 N n_)] none 400 true sure_l2_at (stL sure_l2_st ((d, (), (), (), u, u2, u3, u4, ()), ((best, best2, ()), out, (i, ()), ()))) (stH sure_l2_st ((d, (), (), (), u, u2, u3, u4, ()), ((best, best2, ()), out, (i, ()), ()))) = sure_l2 N (n_ + 1) d u u2 u3 u4 best best2 out i := by kernel_rfl
theorem sure_l2_ok (N : Nat) {top : Bool} : LoopOK Try.prog sure_B.c sure_B.n sure_B.m0 top (sure_l2_L N) := loop_of_ev (Z := Qb × Int × Int × Int × Int × List Int) (N := N) (fun m p => sure_l2 N m p.1.1 p.1.2.2.2.2.1 p.1.2.2.2.2.2.1 p.1.2.2.2.2.2.2.1 p.1.2.2.2.2.2.2.2.1 p.2.1.1 p.2.1.2.1 p.2.2.1 p.2.2.2.1.1) (fun e => .inl ((e.1, (), (), e.2.1, e.2.2.1, ()), ((e.2.2.2.1, e.2.2.2.2.1, ()), e.2.2.2.2.2, ()))) (fun _ _ _ => rfl) (fun _ => rfl) (fun m z E Xc hE hX hrec hx => leaf_of_ev (B := sure_B) (loops := []) (leaves := [sure_l2_h (sure_l2 N m), sure_l2_e0, sure_j1_k N (sure_l2 N m)]) (sure_all N) mixed trivial hE hX ⟨hrec, (fun p hp => by obtain rfl := Option.some.inj hp; exact hx), sure_j1_lf N _ hE hX hrec (fun p hp => by obtain rfl := Option.some.inj hp; exact hx), trivial⟩ RetOK.no (fun p => sure_l2_eq N m p.1.1 p.1.2.2.2.2.1 p.1.2.2.2.2.2.1 p.1.2.2.2.2.2.2.1 p.1.2.2.2.2.2.2.2.1 p.2.1.1 p.2.1.2.1 p.2.2.1 p.2.2.2.1.1))
abbrev sure_l1_at : List PI := [.c [1, 1, 1, 1, 1, 0, 1, 0, 0, 0], .c [1, 1, 1, 1, 1, 0, 1, 0, 0, 1], .l [1, 1, 1, 1, 1, 0, 1, 0, 0], .b 0, .c [1, 1, 1, 1, 1, 1]]
abbrev sure_l1_st : Sta := ⟨[6, 8, 9, 31, 32], ⟨[.fe Qi, .own 0 0, .ols 1, .i .i64, .i .i64], [.segs [.i .i64, .i .i64], .lst (.int .i64)]⟩⟩
abbrev sure_l1_h (rec : (Qb) → Int → Int → Int → Int → Qe → Option Qe) : Leaf Qe := ⟨sure_l1_at, sure_l1_st, fun p => rec p.1.1 p.1.2.2.2.1 p.1.2.2.2.2.1 p.2.1.1 p.2.1.2.1 p.2.2.1⟩
abbrev sure_l1_e0 : Leaf Qe := ⟨[.c [1, 1, 1, 1, 1, 1, 0], .c [1, 1, 1, 1, 1, 1, 1]], ⟨[9], ⟨[.ols 0], [.lst (.int .i64)]⟩⟩, fun p => some (p.2.1)⟩
noncomputable def sure_l1_L (N : Nat) : LoopS := { at_ := sure_l1_at, sta := sure_l1_st, exits := [([.c [1, 1, 1, 1, 1, 1, 0], .c [1, 1, 1, 1, 1, 1, 1]], ⟨[9], ⟨[.ols 0], [.lst (.int .i64)]⟩⟩)], run := fun p k => (sure_l1 N N p.1.1 p.1.2.2.2.1 p.1.2.2.2.2.1 p.2.1.1 p.2.1.2.1 p.2.2.1).bind fun e => k (.inl (((), ()), (e, ()))) }
theorem sure_l1_eq (N n_ : Nat) (d : Qb) (u : Int) (u2 : Int) (best : Int) (best2 : Int) (out : List Int) : ev (Z := List Int) Try.prog (sure_sp N) sure_B [sure_l2_L N] [sure_l1_h (sure_l1 N n_), sure_l1_e0] none 400 true sure_l1_at (stL sure_l1_st ((d, (), (), u, u2, ()), ((best, best2, ()), out, ()))) (stH sure_l1_st ((d, (), (), u, u2, ()), ((best, best2, ()), out, ()))) = sure_l1 N (n_ + 1) d u u2 best best2 out := by kernel_rfl
theorem sure_l1_ok (N : Nat) {top : Bool} : LoopOK Try.prog sure_B.c sure_B.n sure_B.m0 top (sure_l1_L N) := loop_of_ev (Z := List Int) (N := N) (fun m p => sure_l1 N m p.1.1 p.1.2.2.2.1 p.1.2.2.2.2.1 p.2.1.1 p.2.1.2.1 p.2.2.1) (fun e => .inl (((), ()), (e, ()))) (fun _ _ _ => rfl) (fun _ => rfl) (fun m z E Xc hE hX hrec hx => leaf_of_ev (B := sure_B) (loops := [sure_l2_L N]) (leaves := [sure_l1_h (sure_l1 N m), sure_l1_e0]) (sure_all N) mixed ⟨sure_l2_ok N, trivial⟩ hE hX ⟨hrec, (fun p hp => by obtain rfl := Option.some.inj hp; exact hx), trivial⟩ RetOK.no (fun p => sure_l1_eq N m p.1.1 p.1.2.2.2.1 p.1.2.2.2.2.1 p.2.1.1 p.2.1.2.1 p.2.2.1))
abbrev sure_st : Sta := ⟨[0, 1], ⟨[.agg [.sl Qd, .sl (.int .i64), .i .i64], .agg [.i .i64, .i .i64]], []⟩⟩
theorem sure_eq (N : Nat) (e_ : List Qe) (e_2 : List Int) (e_3 : Int) (p : Int) (p2 : Int) : ev (Z := List Int × Int) Try.prog (sure_sp N) sure_B [sure_l2_L N, sure_l1_L N] [] (some sure_rt) 400 false [.c [0], .c [1]] (stL sure_st (((e_, e_2, e_3, ()), (p, p2, ()), ()), ())) (stH sure_st (((e_, e_2, e_3, ()), (p, p2, ()), ()), ())) = sure_S N e_ e_2 e_3 p p2 := by kernel_rfl
noncomputable def sp_sure (N : Nat) : Spec := { f := 21, ins := ⟨[.agg [.sl Qd, .sl (.int .i64), .i .i64], .agg [.i .i64, .i .i64]], []⟩, outs := [⟨[.sl (.int .i64), .i .i64], []⟩], run := fun p k => (sure_S N p.1.1.1 p.1.1.2.1 p.1.1.2.2.1 p.1.2.1.1 p.1.2.1.2.1).bind fun r => k ((r.1, r.2, ()), ()) }
theorem sp_sure_ok (N : Nat) : SpecOK Try.prog (sp_sure N) := fn_sound (B := sure_B) (loops := [sure_l2_L N, sure_l1_L N]) (leaves := []) (fun p => sure_S N p.1.1.1 p.1.1.2.1 p.1.1.2.2.1 p.1.2.1.1 p.1.2.1.2.1) (fun r => ((r.1, r.2, ()), ())) sure_rt (fun _ _ _ => rfl) (fun r z h => by cases h; rfl) Try.func21 (by kernel_rfl) (by kernel_rfl) (by kernel_rfl) rfl rfl (by kernel_rfl) (fun args w => Sem.pv_run _ _ _ (by kernel_rfl) w) (sure_all N) mixed ⟨sure_l2_ok N, sure_l1_ok N, trivial⟩ (fun z E Xc hE hX hret => trivial) (fun p => sure_eq N p.1.1.1 p.1.1.2.1 p.1.1.2.2.1 p.1.2.1.1 p.1.2.1.2.1)

def two_S (N : Nat) (heard : Int) (faults : Int) : Option (List Qe × List Int × Int) :=
  grd (decide ((0 : Int) ≤ heard ∧ heard ≤ ([1, 4, 2, 2, 3].length : Int))) <|
  some ([[1, 2, 3], [4, 2]], ([1, 4, 2, 2, 3].take heard.toNat), faults)
noncomputable def two_sp (N : Nat) : List Spec := []
theorem two_all (N : Nat) : AllP (SpecOK Try.prog) (two_sp N) := trivial
noncomputable def two_c : Code := (Try.f42.body).getD .skip
noncomputable abbrev two_B : Body := { c := two_c, n := 13, res := [.cell 4 39], outs := [⟨[.agg [.sl Qd, .sl (.int .i64), .i .i64]], []⟩], m0 := 0 }
abbrev two_rt : altD two_B.outs → Option (List Qe × List Int × Int) := fun r => some (r.1.1.1, r.1.1.2.1, r.1.1.2.2.1)
abbrev two_st : Sta := ⟨[0, 1], ⟨[.i .i64, .i .i64], []⟩⟩
theorem two_eq (N : Nat) (heard : Int) (faults : Int) : ev (Z := List Qe × List Int × Int) Try.prog (two_sp N) two_B [] [] (some two_rt) 400 false [.c [0], .c [1]] (stL two_st ((heard, faults, ()), ())) (stH two_st ((heard, faults, ()), ())) = two_S N heard faults := by kernel_rfl
noncomputable def sp_two (N : Nat) : Spec := { f := 42, ins := ⟨[.i .i64, .i .i64], []⟩, outs := [⟨[.agg [.sl Qd, .sl (.int .i64), .i .i64]], []⟩], run := fun p k => (two_S N p.1.1 p.1.2.1).bind fun r => k (((r.1, r.2.1, r.2.2, ()), ()), ()) }
theorem sp_two_ok (N : Nat) : SpecOK Try.prog (sp_two N) := fn_sound (B := two_B) (loops := []) (leaves := []) (fun p => two_S N p.1.1 p.1.2.1) (fun r => (((r.1, r.2.1, r.2.2, ()), ()), ())) two_rt (fun _ _ _ => rfl) (fun r z h => by cases h; rfl) Try.func42 (by kernel_rfl) (by kernel_rfl) (by kernel_rfl) rfl rfl (by kernel_rfl) (fun args w => Sem.pv_run _ _ _ (by kernel_rfl) w) (two_all N) mixed trivial (fun z E Xc hE hX hret => trivial) (fun p => two_eq N p.1.1 p.1.2.1)

end Go.Proofs.Ytgeijboidfadaaa

namespace Go.Proofs.Ytgeijboidfadaaa.Sl
set_option linter.all false
open Go

def in__S (N : Nat) (n : Int) (lo : Int) (hi : Int) : Option Bool :=
  br (decide (lo ≤ n))
    (some (decide (n ≤ hi)))
    (some false)
noncomputable def in__sp (N : Nat) : List Spec := []
theorem in__all (N : Nat) : AllP (SpecOK Try.prog) (in__sp N) := trivial
noncomputable def in__c : Code := (Try.f134.body).getD .skip
noncomputable abbrev in__B : Body := { c := in__c, n := 15, res := [.tmp 6], outs := [⟨[.b], []⟩], m0 := 0 }
abbrev in__rt : altD in__B.outs → Option Bool := fun r => some r.1.1
abbrev in__st : Sta := ⟨[0, 1, 2], ⟨[.i .i64, .i .i64, .i .i64], []⟩⟩
theorem in__eq (N : Nat) (n : Int) (lo : Int) (hi : Int) : ev (Z := Bool) Try.prog (in__sp N) in__B [] [] (some in__rt) 400 false [.c [0], .c [1]] (stL in__st ((n, lo, hi, ()), ())) (stH in__st ((n, lo, hi, ()), ())) = in__S N n lo hi := by kernel_rfl
noncomputable def sp_in_ (N : Nat) : Spec := { f := 134, ins := ⟨[.i .i64, .i .i64, .i .i64], []⟩, outs := [⟨[.b], []⟩], run := fun p k => (in__S N p.1.1 p.1.2.1 p.1.2.2.1).bind fun r => k ((r, ()), ()) }
theorem sp_in__ok (N : Nat) : SpecOK Try.prog (sp_in_ N) := fn_sound (B := in__B) (loops := []) (leaves := []) (fun p => in__S N p.1.1 p.1.2.1 p.1.2.2.1) (fun r => ((r, ()), ())) in__rt (fun _ _ _ => rfl) (fun r z h => by cases h; rfl) Try.func134 (by kernel_rfl) (by kernel_rfl) (by kernel_rfl) rfl rfl (by kernel_rfl) (fun args w => Sem.pv_run _ _ _ (by kernel_rfl) w) (in__all N) mixed trivial (fun z E Xc hE hX hret => trivial) (fun p => in__eq N p.1.1 p.1.2.1 p.1.2.2.1)

def man_S (N : Nat) (r : Int) (r2 : List Qs) (m : Int) : Option Bool :=
  chk (r - 1) <|
  (in__S N m 0 (r - 1)).bind fun x_1 =>
  some x_1
noncomputable def man_sp (N : Nat) : List Spec := [sp_in_ N]
theorem man_all (N : Nat) : AllP (SpecOK Try.prog) (man_sp N) := ⟨sp_in__ok N, trivial⟩
noncomputable def man_c : Code := (Try.f135.body).getD .skip
noncomputable abbrev man_B : Body := { c := man_c, n := 10, res := [.tmp 4], outs := [⟨[.b], []⟩], m0 := 0 }
abbrev man_rt : altD man_B.outs → Option Bool := fun r => some r.1.1
abbrev man_st : Sta := ⟨[0, 1], ⟨[.agg [.i .i64, .sl Qt], .i .i64], []⟩⟩
theorem man_eq (N : Nat) (r : Int) (r2 : List Qs) (m : Int) : ev (Z := Bool) Try.prog (man_sp N) man_B [] [] (some man_rt) 400 false [.c [0], .c [1]] (stL man_st (((r, r2, ()), m, ()), ())) (stH man_st (((r, r2, ()), m, ()), ())) = man_S N r r2 m := by kernel_rfl
noncomputable def sp_man (N : Nat) : Spec := { f := 135, ins := ⟨[.agg [.i .i64, .sl Qt], .i .i64], []⟩, outs := [⟨[.b], []⟩], run := fun p k => (man_S N p.1.1.1 p.1.1.2.1 p.1.2.1).bind fun r => k ((r, ()), ()) }
theorem sp_man_ok (N : Nat) : SpecOK Try.prog (sp_man N) := fn_sound (B := man_B) (loops := []) (leaves := []) (fun p => man_S N p.1.1.1 p.1.1.2.1 p.1.2.1) (fun r => ((r, ()), ())) man_rt (fun _ _ _ => rfl) (fun r z h => by cases h; rfl) Try.func135 (by kernel_rfl) (by kernel_rfl) (by kernel_rfl) rfl rfl (by kernel_rfl) (fun args w => Sem.pv_run _ _ _ (by kernel_rfl) w) (man_all N) mixed trivial (fun z E Xc hE hX hret => trivial) (fun p => man_eq N p.1.1.1 p.1.1.2.1 p.1.2.1)

def rising_l1 (N : Nat) : Nat → Qe → Int → Int → Option ((Unit) ⊕ (Unit))
  | 0, _, _, _ => none
  | n_ + 1, l, u, u2 =>
    br (decide (u2 < u))
      (br (decide (0 < u2))
        (idx l u2 fun x_1 =>
        chk (u2 - 1) <|
        idx l (u2 - 1) fun x_2 =>
        br (decide (x_1 ≤ x_2))
          (some (.inl ()))
          (chk (u2 + 1) <|
          rising_l1 N n_ l u (u2 + 1)))
        (chk (u2 + 1) <|
        rising_l1 N n_ l u (u2 + 1)))
      (some (.inr ()))
def rising_S (N : Nat) (l : List Int) : Option Bool :=
  (rising_l1 N N l (l.length : Int) 0).bind fun e => match e with
  | .inl _ =>
    some false
  | .inr _ =>
    some true
noncomputable def rising_sp (N : Nat) : List Spec := []
theorem rising_all (N : Nat) : AllP (SpecOK Try.prog) (rising_sp N) := trivial
noncomputable def rising_c : Code := (Try.f115.body).getD .skip
noncomputable abbrev rising_B : Body := { c := rising_c, n := 24, res := [.tmp 2], outs := [⟨[.b], []⟩], m0 := 0 }
abbrev rising_rt : altD rising_B.outs → Option Bool := fun r => some r.1.1
abbrev rising_l1_at : List PI := [.c [1, 0, 1, 0, 0, 0], .c [1, 0, 1, 0, 0, 1], .l [1, 0, 1, 0, 0], .b 0, .c [1, 1]]
abbrev rising_l1_st : Sta := ⟨[0, 5, 6], ⟨[.sl (.int .i64), .i .i64, .i .i64], []⟩⟩
abbrev rising_l1_h (rec : Qe → Int → Int → Option ((Unit) ⊕ (Unit))) : Leaf ((Unit) ⊕ (Unit)) := ⟨rising_l1_at, rising_l1_st, fun p => rec p.1.1 p.1.2.1 p.1.2.2.1⟩
abbrev rising_l1_e0 : Leaf ((Unit) ⊕ (Unit)) := ⟨[.c [1, 0, 1, 0, 0, 1, 1, 0, 0, 1, 1, 0, 0], .c [1, 0, 1, 0, 0, 1, 1, 0, 0, 1, 1, 0, 1], .b 1, .c [1, 0, 1, 0, 0, 1, 1, 1], .l [1, 0, 1, 0, 0], .b 0, .c [1, 1]], ⟨[], ⟨[], []⟩⟩, fun p => some (.inl ())⟩
abbrev rising_l1_e1 : Leaf ((Unit) ⊕ (Unit)) := ⟨[.c [1, 1, 0], .c [1, 1, 1]], ⟨[], ⟨[], []⟩⟩, fun p => some (.inr ())⟩
noncomputable def rising_l1_L (N : Nat) : LoopS := { at_ := rising_l1_at, sta := rising_l1_st, exits := [([.c [1, 0, 1, 0, 0, 1, 1, 0, 0, 1, 1, 0, 0], .c [1, 0, 1, 0, 0, 1, 1, 0, 0, 1, 1, 0, 1], .b 1, .c [1, 0, 1, 0, 0, 1, 1, 1], .l [1, 0, 1, 0, 0], .b 0, .c [1, 1]], ⟨[], ⟨[], []⟩⟩), ([.c [1, 1, 0], .c [1, 1, 1]], ⟨[], ⟨[], []⟩⟩)], run := fun p k => (rising_l1 N N p.1.1 p.1.2.1 p.1.2.2.1).bind fun e => match e with | .inl x => k (.inl ((), ())) | .inr x => k (.inr (.inl ((), ()))) }
theorem rising_l1_eq (N n_ : Nat) (l : List Int) (u : Int) (u2 : Int) : ev (Z := (Unit) ⊕ (Unit)) Try.prog (rising_sp N) rising_B [] [rising_l1_h (rising_l1 N n_), rising_l1_e0, rising_l1_e1] none 400 true rising_l1_at (stL rising_l1_st ((l, u, u2, ()), ())) (stH rising_l1_st ((l, u, u2, ()), ())) = rising_l1 N (n_ + 1) l u u2 := by kernel_rfl
theorem rising_l1_ok (N : Nat) {top : Bool} : LoopOK Try.prog rising_B.c rising_B.n rising_B.m0 top (rising_l1_L N) := loop_of_ev (Z := (Unit) ⊕ (Unit)) (N := N) (fun m p => rising_l1 N m p.1.1 p.1.2.1 p.1.2.2.1) (fun e => match e with | .inl x => .inl ((), ()) | .inr x => .inr (.inl ((), ()))) (fun _ p k => bind_congr_ (rising_l1 N N p.1.1 p.1.2.1 p.1.2.2.1) _ _ (fun e => by rcases e with x | x <;> rfl)) (fun _ => rfl) (fun m z E Xc hE hX hrec hx => leaf_of_ev (B := rising_B) (loops := []) (leaves := [rising_l1_h (rising_l1 N m), rising_l1_e0, rising_l1_e1]) (rising_all N) mixed trivial hE hX ⟨hrec, (fun p hp => by obtain rfl := Option.some.inj hp; exact hx), (fun p hp => by obtain rfl := Option.some.inj hp; exact hx), trivial⟩ RetOK.no (fun p => rising_l1_eq N m p.1.1 p.1.2.1 p.1.2.2.1))
abbrev rising_st : Sta := ⟨[0], ⟨[.sl (.int .i64)], []⟩⟩
theorem rising_eq (N : Nat) (l : List Int) : ev (Z := Bool) Try.prog (rising_sp N) rising_B [rising_l1_L N] [] (some rising_rt) 400 false [.c [0], .c [1]] (stL rising_st ((l, ()), ())) (stH rising_st ((l, ()), ())) = rising_S N l := by kernel_rfl
noncomputable def sp_rising (N : Nat) : Spec := { f := 115, ins := ⟨[.sl (.int .i64)], []⟩, outs := [⟨[.b], []⟩], run := fun p k => (rising_S N p.1.1).bind fun r => k ((r, ()), ()) }
theorem sp_rising_ok (N : Nat) : SpecOK Try.prog (sp_rising N) := fn_sound (B := rising_B) (loops := [rising_l1_L N]) (leaves := []) (fun p => rising_S N p.1.1) (fun r => ((r, ()), ())) rising_rt (fun _ _ _ => rfl) (fun r z h => by cases h; rfl) Try.func115 (by kernel_rfl) (by kernel_rfl) (by kernel_rfl) rfl rfl (by kernel_rfl) (fun args w => Sem.pv_run _ _ _ (by kernel_rfl) w) (rising_all N) mixed ⟨rising_l1_ok N, trivial⟩ (fun z E Xc hE hX hret => trivial) (fun p => rising_eq N p.1.1)

def every1m_S (N : Nat) (x : Int) (g : Int) (g2 : List Qs) : Option (Bool × Int × (List Qs)) :=
  (man_S N g g2 x).bind fun x_1 =>
  some ((!x_1), g, g2)
noncomputable def every1m_sp (N : Nat) : List Spec := [sp_man N]
theorem every1m_all (N : Nat) : AllP (SpecOK Try.prog) (every1m_sp N) := ⟨sp_man_ok N, trivial⟩
noncomputable def every1m_c : Code := (Try.f136.body).getD .skip
noncomputable abbrev every1m_B : Body := { c := every1m_c, n := 8, res := [.tmp 3], outs := [⟨[.b], [.segs [.fn 135 [.agg [.i .i64, .sl Qt]] []]]⟩], m0 := 1 }
abbrev every1m_rt : altD every1m_B.outs → Option (Bool × Int × (List Qs)) := fun r => some (r.1.1, r.2.1.1.1.1.1, r.2.1.1.1.1.2.1)
abbrev every1m_st : Sta := ⟨[0, 1], ⟨[.i .i64, .own 0 0], [.segs [.fn 135 [.agg [.i .i64, .sl Qt]] []]]⟩⟩
theorem every1m_eq (N : Nat) (x : Int) (g : Int) (g2 : List Qs) : ev (Z := Bool × Int × (List Qs)) Try.prog (every1m_sp N) every1m_B [] [] (some every1m_rt) 400 false [.c [0], .c [1]] (stL every1m_st ((x, (), ()), (((((g, g2, ()), ()), ()), ()), ()))) (stH every1m_st ((x, (), ()), (((((g, g2, ()), ()), ()), ()), ()))) = every1m_S N x g g2 := by kernel_rfl
noncomputable def sp_every1m (N : Nat) : Spec := { f := 136, ins := ⟨[.i .i64, .own 0 0], [.segs [.fn 135 [.agg [.i .i64, .sl Qt]] []]]⟩, outs := [⟨[.b], [.segs [.fn 135 [.agg [.i .i64, .sl Qt]] []]]⟩], run := fun p k => (every1m_S N p.1.1 p.2.1.1.1.1.1 p.2.1.1.1.1.2.1).bind fun r => k ((r.1, ()), (((((r.2.1, r.2.2, ()), ()), ()), ()), ())) }
theorem sp_every1m_ok (N : Nat) : SpecOK Try.prog (sp_every1m N) := fn_sound (B := every1m_B) (loops := []) (leaves := []) (fun p => every1m_S N p.1.1 p.2.1.1.1.1.1 p.2.1.1.1.1.2.1) (fun r => ((r.1, ()), (((((r.2.1, r.2.2, ()), ()), ()), ()), ()))) every1m_rt (fun _ _ _ => rfl) (fun r z h => by cases h; rfl) Try.func136 (by kernel_rfl) (by kernel_rfl) (by kernel_rfl) rfl rfl (by kernel_rfl) (fun args w => Sem.pv_run _ _ _ (by kernel_rfl) w) (every1m_all N) mixed trivial (fun z E Xc hE hX hret => trivial) (fun p => every1m_eq N p.1.1 p.2.1.1.1.1.1 p.2.1.1.1.1.2.1)

def ixfm_l1 (N : Nat) : Nat → Qe → Int → Int → Int → (List Qs) → Option ((Int × Int × (List Qs)) ⊕ (Int × (List Qs)))
  | 0, _, _, _, _, _ => none
  | n_ + 1, s, u, u2, f, f2 =>
    br (decide (u2 < u))
      (idx s u2 fun x_1 =>
      (every1m_S N x_1 f f2).bind fun (x_2, y_3, y_4) =>
      br x_2
        (some (.inl (u2, y_3, y_4)))
        (chk (u2 + 1) <|
        ixfm_l1 N n_ s u (u2 + 1) y_3 y_4))
      (some (.inr (f, f2)))
def ixfm_S (N : Nat) (s : List Int) (f : Int) (f2 : List Qs) : Option (Int × Int × (List Qs)) :=
  (ixfm_l1 N N s (s.length : Int) 0 f f2).bind fun e => match e with
  | .inl (i_5, g_6, g2_7) =>
    some (i_5, g_6, g2_7)
  | .inr (g_8, g2_9) =>
    some (-1, g_8, g2_9)
noncomputable def ixfm_sp (N : Nat) : List Spec := [sp_every1m N]
theorem ixfm_all (N : Nat) : AllP (SpecOK Try.prog) (ixfm_sp N) := ⟨sp_every1m_ok N, trivial⟩
noncomputable def ixfm_c : Code := (Try.f80.body).getD .skip
noncomputable abbrev ixfm_B : Body := { c := ixfm_c, n := 19, res := [.tmp 4], outs := [⟨[.i .i64], [.segs [.fn 135 [.agg [.i .i64, .sl Qt]] []]]⟩], m0 := 1 }
abbrev ixfm_rt : altD ixfm_B.outs → Option (Int × Int × (List Qs)) := fun r => some (r.1.1, r.2.1.1.1.1.1, r.2.1.1.1.1.2.1)
abbrev ixfm_l1_at : List PI := [.c [1, 0, 1, 0, 0, 0], .c [1, 0, 1, 0, 0, 1], .l [1, 0, 1, 0, 0], .b 0, .c [1, 1]]
abbrev ixfm_l1_st : Sta := ⟨[0, 1, 7, 8], ⟨[.sl (.int .i64), .fn 136 [] [.own 0 0], .i .i64, .i .i64], [.segs [.fn 135 [.agg [.i .i64, .sl Qt]] []]]⟩⟩
abbrev ixfm_l1_h (rec : Qe → Int → Int → Int → (List Qs) → Option ((Int × Int × (List Qs)) ⊕ (Int × (List Qs)))) : Leaf ((Int × Int × (List Qs)) ⊕ (Int × (List Qs))) := ⟨ixfm_l1_at, ixfm_l1_st, fun p => rec p.1.1 p.1.2.2.1 p.1.2.2.2.1 p.2.1.1.1.1.1 p.2.1.1.1.1.2.1⟩
abbrev ixfm_l1_e0 : Leaf ((Int × Int × (List Qs)) ⊕ (Int × (List Qs))) := ⟨[.c [1, 0, 1, 0, 0, 1, 1, 0, 0, 1, 1, 0, 0], .c [1, 0, 1, 0, 0, 1, 1, 0, 0, 1, 1, 0, 1], .b 1, .c [1, 0, 1, 0, 0, 1, 1, 1], .l [1, 0, 1, 0, 0], .b 0, .c [1, 1]], ⟨[5], ⟨[.i .i64], [.segs [.fn 135 [.agg [.i .i64, .sl Qt]] []]]⟩⟩, fun p => some (.inl (p.1.1, p.2.1.1.1.1.1, p.2.1.1.1.1.2.1))⟩
abbrev ixfm_l1_e1 : Leaf ((Int × Int × (List Qs)) ⊕ (Int × (List Qs))) := ⟨[.c [1, 1, 0], .c [1, 1, 1]], ⟨[], ⟨[], [.segs [.fn 135 [.agg [.i .i64, .sl Qt]] []]]⟩⟩, fun p => some (.inr (p.2.1.1.1.1.1, p.2.1.1.1.1.2.1))⟩
noncomputable def ixfm_l1_L (N : Nat) : LoopS := { at_ := ixfm_l1_at, sta := ixfm_l1_st, exits := [([.c [1, 0, 1, 0, 0, 1, 1, 0, 0, 1, 1, 0, 0], .c [1, 0, 1, 0, 0, 1, 1, 0, 0, 1, 1, 0, 1], .b 1, .c [1, 0, 1, 0, 0, 1, 1, 1], .l [1, 0, 1, 0, 0], .b 0, .c [1, 1]], ⟨[5], ⟨[.i .i64], [.segs [.fn 135 [.agg [.i .i64, .sl Qt]] []]]⟩⟩), ([.c [1, 1, 0], .c [1, 1, 1]], ⟨[], ⟨[], [.segs [.fn 135 [.agg [.i .i64, .sl Qt]] []]]⟩⟩)], run := fun p k => (ixfm_l1 N N p.1.1 p.1.2.2.1 p.1.2.2.2.1 p.2.1.1.1.1.1 p.2.1.1.1.1.2.1).bind fun e => match e with | .inl x => k (.inl ((x.1, ()), (((((x.2.1, x.2.2, ()), ()), ()), ()), ()))) | .inr x => k (.inr (.inl ((), (((((x.1, x.2, ()), ()), ()), ()), ())))) }
theorem ixfm_l1_eq (N n_ : Nat) (s : List Int) (u : Int) (u2 : Int) (f : Int) (f2 : List Qs) : ev (Z := (Int × Int × (List Qs)) ⊕ (Int × (List Qs))) Try.prog (ixfm_sp N) ixfm_B [] [ixfm_l1_h (ixfm_l1 N n_), ixfm_l1_e0, ixfm_l1_e1] none 400 true ixfm_l1_at (stL ixfm_l1_st ((s, ((), ((), ())), u, u2, ()), (((((f, f2, ()), ()), ()), ()), ()))) (stH ixfm_l1_st ((s, ((), ((), ())), u, u2, ()), (((((f, f2, ()), ()), ()), ()), ()))) = ixfm_l1 N (n_ + 1) s u u2 f f2 := by kernel_rfl
theorem ixfm_l1_ok (N : Nat) {top : Bool} : LoopOK Try.prog ixfm_B.c ixfm_B.n ixfm_B.m0 top (ixfm_l1_L N) := loop_of_ev (Z := (Int × Int × (List Qs)) ⊕ (Int × (List Qs))) (N := N) (fun m p => ixfm_l1 N m p.1.1 p.1.2.2.1 p.1.2.2.2.1 p.2.1.1.1.1.1 p.2.1.1.1.1.2.1) (fun e => match e with | .inl x => .inl ((x.1, ()), (((((x.2.1, x.2.2, ()), ()), ()), ()), ())) | .inr x => .inr (.inl ((), (((((x.1, x.2, ()), ()), ()), ()), ())))) (fun _ p k => bind_congr_ (ixfm_l1 N N p.1.1 p.1.2.2.1 p.1.2.2.2.1 p.2.1.1.1.1.1 p.2.1.1.1.1.2.1) _ _ (fun e => by rcases e with x | x <;> rfl)) (fun _ => rfl) (fun m z E Xc hE hX hrec hx => leaf_of_ev (B := ixfm_B) (loops := []) (leaves := [ixfm_l1_h (ixfm_l1 N m), ixfm_l1_e0, ixfm_l1_e1]) (ixfm_all N) mixed trivial hE hX ⟨hrec, (fun p hp => by obtain rfl := Option.some.inj hp; exact hx), (fun p hp => by obtain rfl := Option.some.inj hp; exact hx), trivial⟩ RetOK.no (fun p => ixfm_l1_eq N m p.1.1 p.1.2.2.1 p.1.2.2.2.1 p.2.1.1.1.1.1 p.2.1.1.1.1.2.1))
abbrev ixfm_st : Sta := ⟨[0, 1], ⟨[.sl (.int .i64), .fn 136 [] [.own 0 0]], [.segs [.fn 135 [.agg [.i .i64, .sl Qt]] []]]⟩⟩
theorem ixfm_eq (N : Nat) (s : List Int) (f : Int) (f2 : List Qs) : ev (Z := Int × Int × (List Qs)) Try.prog (ixfm_sp N) ixfm_B [ixfm_l1_L N] [] (some ixfm_rt) 400 false [.c [0], .c [1]] (stL ixfm_st ((s, ((), ((), ())), ()), (((((f, f2, ()), ()), ()), ()), ()))) (stH ixfm_st ((s, ((), ((), ())), ()), (((((f, f2, ()), ()), ()), ()), ()))) = ixfm_S N s f f2 := by kernel_rfl
noncomputable def sp_ixfm (N : Nat) : Spec := { f := 80, ins := ⟨[.sl (.int .i64), .fn 136 [] [.own 0 0]], [.segs [.fn 135 [.agg [.i .i64, .sl Qt]] []]]⟩, outs := [⟨[.i .i64], [.segs [.fn 135 [.agg [.i .i64, .sl Qt]] []]]⟩], run := fun p k => (ixfm_S N p.1.1 p.2.1.1.1.1.1 p.2.1.1.1.1.2.1).bind fun r => k ((r.1, ()), (((((r.2.1, r.2.2, ()), ()), ()), ()), ())) }
theorem sp_ixfm_ok (N : Nat) : SpecOK Try.prog (sp_ixfm N) := fn_sound (B := ixfm_B) (loops := [ixfm_l1_L N]) (leaves := []) (fun p => ixfm_S N p.1.1 p.2.1.1.1.1.1 p.2.1.1.1.1.2.1) (fun r => ((r.1, ()), (((((r.2.1, r.2.2, ()), ()), ()), ()), ()))) ixfm_rt (fun _ _ _ => rfl) (fun r z h => by cases h; rfl) Try.func80 (by kernel_rfl) (by kernel_rfl) (by kernel_rfl) rfl rfl (by kernel_rfl) (fun args w => Sem.pv_run _ _ _ (by kernel_rfl) w) (ixfm_all N) mixed ⟨ixfm_l1_ok N, trivial⟩ (fun z E Xc hE hX hret => trivial) (fun p => ixfm_eq N p.1.1 p.2.1.1.1.1.1 p.2.1.1.1.1.2.1)

def cofm_S (N : Nat) (s : List Int) (f : Int) (f2 : List Qs) : Option (Bool × Int × (List Qs)) :=
  (ixfm_S N s f f2).bind fun (x_1, y_2, y_3) =>
  some ((decide (0 ≤ x_1)), y_2, y_3)
noncomputable def cofm_sp (N : Nat) : List Spec := [sp_ixfm N]
theorem cofm_all (N : Nat) : AllP (SpecOK Try.prog) (cofm_sp N) := ⟨sp_ixfm_ok N, trivial⟩
noncomputable def cofm_c : Code := (Try.f93.body).getD .skip
noncomputable abbrev cofm_B : Body := { c := cofm_c, n := 9, res := [.tmp 4], outs := [⟨[.b], [.segs [.fn 135 [.agg [.i .i64, .sl Qt]] []]]⟩], m0 := 1 }
abbrev cofm_rt : altD cofm_B.outs → Option (Bool × Int × (List Qs)) := fun r => some (r.1.1, r.2.1.1.1.1.1, r.2.1.1.1.1.2.1)
abbrev cofm_st : Sta := ⟨[0, 1], ⟨[.sl (.int .i64), .fn 136 [] [.own 0 0]], [.segs [.fn 135 [.agg [.i .i64, .sl Qt]] []]]⟩⟩
theorem cofm_eq (N : Nat) (s : List Int) (f : Int) (f2 : List Qs) : ev (Z := Bool × Int × (List Qs)) Try.prog (cofm_sp N) cofm_B [] [] (some cofm_rt) 400 false [.c [0], .c [1]] (stL cofm_st ((s, ((), ((), ())), ()), (((((f, f2, ()), ()), ()), ()), ()))) (stH cofm_st ((s, ((), ((), ())), ()), (((((f, f2, ()), ()), ()), ()), ()))) = cofm_S N s f f2 := by kernel_rfl
noncomputable def sp_cofm (N : Nat) : Spec := { f := 93, ins := ⟨[.sl (.int .i64), .fn 136 [] [.own 0 0]], [.segs [.fn 135 [.agg [.i .i64, .sl Qt]] []]]⟩, outs := [⟨[.b], [.segs [.fn 135 [.agg [.i .i64, .sl Qt]] []]]⟩], run := fun p k => (cofm_S N p.1.1 p.2.1.1.1.1.1 p.2.1.1.1.1.2.1).bind fun r => k ((r.1, ()), (((((r.2.1, r.2.2, ()), ()), ()), ()), ())) }
theorem sp_cofm_ok (N : Nat) : SpecOK Try.prog (sp_cofm N) := fn_sound (B := cofm_B) (loops := []) (leaves := []) (fun p => cofm_S N p.1.1 p.2.1.1.1.1.1 p.2.1.1.1.1.2.1) (fun r => ((r.1, ()), (((((r.2.1, r.2.2, ()), ()), ()), ()), ()))) cofm_rt (fun _ _ _ => rfl) (fun r z h => by cases h; rfl) Try.func93 (by kernel_rfl) (by kernel_rfl) (by kernel_rfl) rfl rfl (by kernel_rfl) (fun args w => Sem.pv_run _ _ _ (by kernel_rfl) w) (cofm_all N) mixed trivial (fun z E Xc hE hX hret => trivial) (fun p => cofm_eq N p.1.1 p.2.1.1.1.1.1 p.2.1.1.1.1.2.1)

def everym_S (N : Nat) (l : List Int) (so : Int) (so2 : List Qs) : Option Bool :=
  (cofm_S N l so so2).bind fun (x_1, y_2, y_3) =>
  some (!x_1)
noncomputable def everym_sp (N : Nat) : List Spec := [sp_cofm N]
theorem everym_all (N : Nat) : AllP (SpecOK Try.prog) (everym_sp N) := ⟨sp_cofm_ok N, trivial⟩
noncomputable def everym_c : Code := (Try.f114.body).getD .skip
noncomputable abbrev everym_B : Body := { c := everym_c, n := 9, res := [.tmp 4], outs := [⟨[.b], []⟩], m0 := 0 }
abbrev everym_rt : altD everym_B.outs → Option Bool := fun r => some r.1.1
abbrev everym_st : Sta := ⟨[0, 1], ⟨[.sl (.int .i64), .fn 135 [.agg [.i .i64, .sl Qt]] []], []⟩⟩
theorem everym_eq (N : Nat) (l : List Int) (so : Int) (so2 : List Qs) : ev (Z := Bool) Try.prog (everym_sp N) everym_B [] [] (some everym_rt) 400 false [.c [0], .c [1]] (stL everym_st ((l, (((so, so2, ()), ()), ()), ()), ())) (stH everym_st ((l, (((so, so2, ()), ()), ()), ()), ())) = everym_S N l so so2 := by kernel_rfl
noncomputable def sp_everym (N : Nat) : Spec := { f := 114, ins := ⟨[.sl (.int .i64), .fn 135 [.agg [.i .i64, .sl Qt]] []], []⟩, outs := [⟨[.b], []⟩], run := fun p k => (everym_S N p.1.1 p.1.2.1.1.1.1 p.1.2.1.1.1.2.1).bind fun r => k ((r, ()), ()) }
theorem sp_everym_ok (N : Nat) : SpecOK Try.prog (sp_everym N) := fn_sound (B := everym_B) (loops := []) (leaves := []) (fun p => everym_S N p.1.1 p.1.2.1.1.1.1 p.1.2.1.1.1.2.1) (fun r => ((r, ()), ())) everym_rt (fun _ _ _ => rfl) (fun r z h => by cases h; rfl) Try.func114 (by kernel_rfl) (by kernel_rfl) (by kernel_rfl) rfl rfl (by kernel_rfl) (fun args w => Sem.pv_run _ _ _ (by kernel_rfl) w) (everym_all N) mixed trivial (fun z E Xc hE hX hret => trivial) (fun p => everym_eq N p.1.1 p.1.2.1.1.1.1 p.1.2.1.1.1.2.1)

def check_l1 (N : Nat) : Nat → (List Qs) → Int → Int → Int → (List Qs) → Option ((Unit) ⊕ ((Unit) ⊕ ((Unit) ⊕ ((Unit) ⊕ (Unit)))))
  | 0, _, _, _, _, _ => none
  | n_ + 1, u, u2, u3, r, r2 =>
    br (decide (u3 < u2))
      (idx u u3 fun x_2 =>
      (in__S N x_2.1 1 3).bind fun x_3 =>
      br (!x_3)
        (some (.inl ()))
        ((everym_S N x_2.2 r r2).bind fun x_4 =>
        br (!x_4)
          (some (.inr (.inl ())))
          ((rising_S N x_2.2).bind fun x_5 =>
          br (!x_5)
            (some (.inr (.inr (.inl ()))))
            (br (decide ((x_2.2.length : Int) < x_2.1))
              (some (.inr (.inr (.inr (.inl ())))))
              (chk (u3 + 1) <|
              check_l1 N n_ u u2 (u3 + 1) r r2)))))
      (some (.inr (.inr (.inr (.inr ())))))
def check_S (N : Nat) (r : Int) (r2 : List Qs) : Option Int :=
  (in__S N r 1 5).bind fun x_1 =>
  br (!x_1)
    (some 2)
    (br (decide (6 < (r2.length : Int)))
      (some 2)
      ((check_l1 N N r2 (r2.length : Int) 0 r r2).bind fun e => match e with
      | .inl _ =>
        some 3
      | .inr (.inl _) =>
        some 1
      | .inr (.inr (.inl _)) =>
        some 4
      | .inr (.inr (.inr (.inl _))) =>
        some 6
      | .inr (.inr (.inr (.inr _))) =>
        some 0))
noncomputable def check_sp (N : Nat) : List Spec := [sp_in_ N, sp_rising N, sp_everym N]
theorem check_all (N : Nat) : AllP (SpecOK Try.prog) (check_sp N) := ⟨sp_in__ok N, sp_rising_ok N, sp_everym_ok N, trivial⟩
noncomputable def check_c : Code := (Try.f112.body).getD .skip
noncomputable abbrev check_B : Body := { c := check_c, n := 47, res := [.tmp 2], outs := [⟨[.i .i64], []⟩], m0 := 0 }
abbrev check_rt : altD check_B.outs → Option Int := fun r => some r.1.1
abbrev check_l1_at : List PI := [.c [1, 1, 0, 1, 0, 0, 0], .c [1, 1, 0, 1, 0, 0, 1], .l [1, 1, 0, 1, 0, 0], .b 0, .c [1, 1, 1]]
abbrev check_l1_st : Sta := ⟨[1, 16, 17, 18], ⟨[.own 0 0, .sl Qt, .i .i64, .i .i64], [.segs [.i .i64, .sl Qt]]⟩⟩
abbrev check_l1_h (rec : (List Qs) → Int → Int → Int → (List Qs) → Option ((Unit) ⊕ ((Unit) ⊕ ((Unit) ⊕ ((Unit) ⊕ (Unit)))))) : Leaf ((Unit) ⊕ ((Unit) ⊕ ((Unit) ⊕ ((Unit) ⊕ (Unit))))) := ⟨check_l1_at, check_l1_st, fun p => rec p.1.2.1 p.1.2.2.1 p.1.2.2.2.1 p.2.1.1 p.2.1.2.1⟩
abbrev check_l1_e0 : Leaf ((Unit) ⊕ ((Unit) ⊕ ((Unit) ⊕ ((Unit) ⊕ (Unit))))) := ⟨[.c [1, 1, 0, 1, 0, 0, 1, 1, 0, 0, 1, 0, 1, 0, 0], .c [1, 1, 0, 1, 0, 0, 1, 1, 0, 0, 1, 0, 1, 0, 1], .b 2, .b 1, .c [1, 1, 0, 1, 0, 0, 1, 1, 1], .l [1, 1, 0, 1, 0, 0], .b 0, .c [1, 1, 1]], ⟨[], ⟨[], []⟩⟩, fun p => some (.inl ())⟩
abbrev check_l1_e1 : Leaf ((Unit) ⊕ ((Unit) ⊕ ((Unit) ⊕ ((Unit) ⊕ (Unit))))) := ⟨[.c [1, 1, 0, 1, 0, 0, 1, 1, 0, 0, 1, 0, 1, 1, 1, 0, 0], .c [1, 1, 0, 1, 0, 0, 1, 1, 0, 0, 1, 0, 1, 1, 1, 0, 1], .b 2, .b 1, .c [1, 1, 0, 1, 0, 0, 1, 1, 1], .l [1, 1, 0, 1, 0, 0], .b 0, .c [1, 1, 1]], ⟨[], ⟨[], []⟩⟩, fun p => some (.inr (.inl ()))⟩
abbrev check_l1_e2 : Leaf ((Unit) ⊕ ((Unit) ⊕ ((Unit) ⊕ ((Unit) ⊕ (Unit))))) := ⟨[.c [1, 1, 0, 1, 0, 0, 1, 1, 0, 0, 1, 0, 1, 1, 1, 1, 1, 0, 0], .c [1, 1, 0, 1, 0, 0, 1, 1, 0, 0, 1, 0, 1, 1, 1, 1, 1, 0, 1], .b 2, .b 1, .c [1, 1, 0, 1, 0, 0, 1, 1, 1], .l [1, 1, 0, 1, 0, 0], .b 0, .c [1, 1, 1]], ⟨[], ⟨[], []⟩⟩, fun p => some (.inr (.inr (.inl ())))⟩
abbrev check_l1_e3 : Leaf ((Unit) ⊕ ((Unit) ⊕ ((Unit) ⊕ ((Unit) ⊕ (Unit))))) := ⟨[.c [1, 1, 0, 1, 0, 0, 1, 1, 0, 0, 1, 0, 1, 1, 1, 1, 1, 1, 1, 0, 0], .c [1, 1, 0, 1, 0, 0, 1, 1, 0, 0, 1, 0, 1, 1, 1, 1, 1, 1, 1, 0, 1], .b 2, .b 1, .c [1, 1, 0, 1, 0, 0, 1, 1, 1], .l [1, 1, 0, 1, 0, 0], .b 0, .c [1, 1, 1]], ⟨[], ⟨[], []⟩⟩, fun p => some (.inr (.inr (.inr (.inl ()))))⟩
abbrev check_l1_e4 : Leaf ((Unit) ⊕ ((Unit) ⊕ ((Unit) ⊕ ((Unit) ⊕ (Unit))))) := ⟨[.c [1, 1, 1, 0], .c [1, 1, 1, 1]], ⟨[], ⟨[], []⟩⟩, fun p => some (.inr (.inr (.inr (.inr ()))))⟩
noncomputable def check_l1_L (N : Nat) : LoopS := { at_ := check_l1_at, sta := check_l1_st, exits := [([.c [1, 1, 0, 1, 0, 0, 1, 1, 0, 0, 1, 0, 1, 0, 0], .c [1, 1, 0, 1, 0, 0, 1, 1, 0, 0, 1, 0, 1, 0, 1], .b 2, .b 1, .c [1, 1, 0, 1, 0, 0, 1, 1, 1], .l [1, 1, 0, 1, 0, 0], .b 0, .c [1, 1, 1]], ⟨[], ⟨[], []⟩⟩), ([.c [1, 1, 0, 1, 0, 0, 1, 1, 0, 0, 1, 0, 1, 1, 1, 0, 0], .c [1, 1, 0, 1, 0, 0, 1, 1, 0, 0, 1, 0, 1, 1, 1, 0, 1], .b 2, .b 1, .c [1, 1, 0, 1, 0, 0, 1, 1, 1], .l [1, 1, 0, 1, 0, 0], .b 0, .c [1, 1, 1]], ⟨[], ⟨[], []⟩⟩), ([.c [1, 1, 0, 1, 0, 0, 1, 1, 0, 0, 1, 0, 1, 1, 1, 1, 1, 0, 0], .c [1, 1, 0, 1, 0, 0, 1, 1, 0, 0, 1, 0, 1, 1, 1, 1, 1, 0, 1], .b 2, .b 1, .c [1, 1, 0, 1, 0, 0, 1, 1, 1], .l [1, 1, 0, 1, 0, 0], .b 0, .c [1, 1, 1]], ⟨[], ⟨[], []⟩⟩), ([.c [1, 1, 0, 1, 0, 0, 1, 1, 0, 0, 1, 0, 1, 1, 1, 1, 1, 1, 1, 0, 0], .c [1, 1, 0, 1, 0, 0, 1, 1, 0, 0, 1, 0, 1, 1, 1, 1, 1, 1, 1, 0, 1], .b 2, .b 1, .c [1, 1, 0, 1, 0, 0, 1, 1, 1], .l [1, 1, 0, 1, 0, 0], .b 0, .c [1, 1, 1]], ⟨[], ⟨[], []⟩⟩), ([.c [1, 1, 1, 0], .c [1, 1, 1, 1]], ⟨[], ⟨[], []⟩⟩)], run := fun p k => (check_l1 N N p.1.2.1 p.1.2.2.1 p.1.2.2.2.1 p.2.1.1 p.2.1.2.1).bind fun e => match e with | .inl x => k (.inl ((), ())) | .inr (.inl x) => k (.inr (.inl ((), ()))) | .inr (.inr (.inl x)) => k (.inr (.inr (.inl ((), ())))) | .inr (.inr (.inr (.inl x))) => k (.inr (.inr (.inr (.inl ((), ()))))) | .inr (.inr (.inr (.inr x))) => k (.inr (.inr (.inr (.inr (.inl ((), ())))))) }
theorem check_l1_eq (N n_ : Nat) (u : List Qs) (u2 : Int) (u3 : Int) (r : Int) (r2 : List Qs) : ev (Z := (Unit) ⊕ ((Unit) ⊕ ((Unit) ⊕ ((Unit) ⊕ (Unit))))) Try.prog (check_sp N) check_B [] [check_l1_h (check_l1 N n_), check_l1_e0, check_l1_e1, check_l1_e2, check_l1_e3, check_l1_e4] none 400 true check_l1_at (stL check_l1_st (((), u, u2, u3, ()), ((r, r2, ()), ()))) (stH check_l1_st (((), u, u2, u3, ()), ((r, r2, ()), ()))) = check_l1 N (n_ + 1) u u2 u3 r r2 := by kernel_rfl
theorem check_l1_ok (N : Nat) {top : Bool} : LoopOK Try.prog check_B.c check_B.n check_B.m0 top (check_l1_L N) := loop_of_ev (Z := (Unit) ⊕ ((Unit) ⊕ ((Unit) ⊕ ((Unit) ⊕ (Unit))))) (N := N) (fun m p => check_l1 N m p.1.2.1 p.1.2.2.1 p.1.2.2.2.1 p.2.1.1 p.2.1.2.1) (fun e => match e with | .inl x => .inl ((), ()) | .inr (.inl x) => .inr (.inl ((), ())) | .inr (.inr (.inl x)) => .inr (.inr (.inl ((), ()))) | .inr (.inr (.inr (.inl x))) => .inr (.inr (.inr (.inl ((), ())))) | .inr (.inr (.inr (.inr x))) => .inr (.inr (.inr (.inr (.inl ((), ())))))) (fun _ p k => bind_congr_ (check_l1 N N p.1.2.1 p.1.2.2.1 p.1.2.2.2.1 p.2.1.1 p.2.1.2.1) _ _ (fun e => by rcases e with x | x | x | x | x <;> rfl)) (fun _ => rfl) (fun m z E Xc hE hX hrec hx => leaf_of_ev (B := check_B) (loops := []) (leaves := [check_l1_h (check_l1 N m), check_l1_e0, check_l1_e1, check_l1_e2, check_l1_e3, check_l1_e4]) (check_all N) mixed trivial hE hX ⟨hrec, (fun p hp => by obtain rfl := Option.some.inj hp; exact hx), (fun p hp => by obtain rfl := Option.some.inj hp; exact hx), (fun p hp => by obtain rfl := Option.some.inj hp; exact hx), (fun p hp => by obtain rfl := Option.some.inj hp; exact hx), (fun p hp => by obtain rfl := Option.some.inj hp; exact hx), trivial⟩ RetOK.no (fun p => check_l1_eq N m p.1.2.1 p.1.2.2.1 p.1.2.2.2.1 p.2.1.1 p.2.1.2.1))
abbrev check_st : Sta := ⟨[0], ⟨[.agg [.i .i64, .sl Qt]], []⟩⟩
theorem check_eq (N : Nat) (r : Int) (r2 : List Qs) : ev (Z := Int) Try.prog (check_sp N) check_B [check_l1_L N] [] (some check_rt) 400 false [.c [0], .c [1]] (stL check_st (((r, r2, ()), ()), ())) (stH check_st (((r, r2, ()), ()), ())) = check_S N r r2 := by kernel_rfl
noncomputable def sp_check (N : Nat) : Spec := { f := 112, ins := ⟨[.agg [.i .i64, .sl Qt]], []⟩, outs := [⟨[.i .i64], []⟩], run := fun p k => (check_S N p.1.1.1 p.1.1.2.1).bind fun r => k ((r, ()), ()) }
theorem sp_check_ok (N : Nat) : SpecOK Try.prog (sp_check N) := fn_sound (B := check_B) (loops := [check_l1_L N]) (leaves := []) (fun p => check_S N p.1.1.1 p.1.1.2.1) (fun r => ((r, ()), ())) check_rt (fun _ _ _ => rfl) (fun r z h => by cases h; rfl) Try.func112 (by kernel_rfl) (by kernel_rfl) (by kernel_rfl) rfl rfl (by kernel_rfl) (fun args w => Sem.pv_run _ _ _ (by kernel_rfl) w) (check_all N) mixed ⟨check_l1_ok N, trivial⟩ (fun z E Xc hE hX hret => trivial) (fun p => check_eq N p.1.1.1 p.1.1.2.1)

def nmay_S (N : Nat) (n : Int) (n2 : List Int) (m : Int) : Option Bool :=
  (containsi_S N n2 m).bind fun x_1 =>
  some x_1
noncomputable def nmay_sp (N : Nat) : List Spec := [sp_containsi N]
theorem nmay_all (N : Nat) : AllP (SpecOK Try.prog) (nmay_sp N) := ⟨sp_containsi_ok N, trivial⟩
noncomputable def nmay_c : Code := (Try.f113.body).getD .skip
noncomputable abbrev nmay_B : Body := { c := nmay_c, n := 9, res := [.tmp 4], outs := [⟨[.b], []⟩], m0 := 0 }
abbrev nmay_rt : altD nmay_B.outs → Option Bool := fun r => some r.1.1
abbrev nmay_st : Sta := ⟨[0, 1], ⟨[.agg [.i .i64, .sl (.int .i64)], .i .i64], []⟩⟩
theorem nmay_eq (N : Nat) (n : Int) (n2 : List Int) (m : Int) : ev (Z := Bool) Try.prog (nmay_sp N) nmay_B [] [] (some nmay_rt) 400 false [.c [0], .c [1]] (stL nmay_st (((n, n2, ()), m, ()), ())) (stH nmay_st (((n, n2, ()), m, ()), ())) = nmay_S N n n2 m := by kernel_rfl
noncomputable def sp_nmay (N : Nat) : Spec := { f := 113, ins := ⟨[.agg [.i .i64, .sl (.int .i64)], .i .i64], []⟩, outs := [⟨[.b], []⟩], run := fun p k => (nmay_S N p.1.1.1 p.1.1.2.1 p.1.2.1).bind fun r => k ((r, ()), ()) }
theorem sp_nmay_ok (N : Nat) : SpecOK Try.prog (sp_nmay N) := fn_sound (B := nmay_B) (loops := []) (leaves := []) (fun p => nmay_S N p.1.1.1 p.1.1.2.1 p.1.2.1) (fun r => ((r, ()), ())) nmay_rt (fun _ _ _ => rfl) (fun r z h => by cases h; rfl) Try.func113 (by kernel_rfl) (by kernel_rfl) (by kernel_rfl) rfl rfl (by kernel_rfl) (fun args w => Sem.pv_run _ _ _ (by kernel_rfl) w) (nmay_all N) mixed trivial (fun z E Xc hE hX hret => trivial) (fun p => nmay_eq N p.1.1.1 p.1.1.2.1 p.1.2.1)

def every1y_S (N : Nat) (x : Int) (g : Int) (g2 : List Int) : Option (Bool × Int × List Int) :=
  (nmay_S N g g2 x).bind fun x_1 =>
  some ((!x_1), g, g2)
noncomputable def every1y_sp (N : Nat) : List Spec := [sp_nmay N]
theorem every1y_all (N : Nat) : AllP (SpecOK Try.prog) (every1y_sp N) := ⟨sp_nmay_ok N, trivial⟩
noncomputable def every1y_c : Code := (Try.f136.body).getD .skip
noncomputable abbrev every1y_B : Body := { c := every1y_c, n := 8, res := [.tmp 3], outs := [⟨[.b], [.segs [.fn 113 [.agg [.i .i64, .sl (.int .i64)]] []]]⟩], m0 := 1 }
abbrev every1y_rt : altD every1y_B.outs → Option (Bool × Int × List Int) := fun r => some (r.1.1, r.2.1.1.1.1.1, r.2.1.1.1.1.2.1)
abbrev every1y_st : Sta := ⟨[0, 1], ⟨[.i .i64, .own 0 0], [.segs [.fn 113 [.agg [.i .i64, .sl (.int .i64)]] []]]⟩⟩
theorem every1y_eq (N : Nat) (x : Int) (g : Int) (g2 : List Int) : ev (Z := Bool × Int × List Int) Try.prog (every1y_sp N) every1y_B [] [] (some every1y_rt) 400 false [.c [0], .c [1]] (stL every1y_st ((x, (), ()), (((((g, g2, ()), ()), ()), ()), ()))) (stH every1y_st ((x, (), ()), (((((g, g2, ()), ()), ()), ()), ()))) = every1y_S N x g g2 := by kernel_rfl
noncomputable def sp_every1y (N : Nat) : Spec := { f := 136, ins := ⟨[.i .i64, .own 0 0], [.segs [.fn 113 [.agg [.i .i64, .sl (.int .i64)]] []]]⟩, outs := [⟨[.b], [.segs [.fn 113 [.agg [.i .i64, .sl (.int .i64)]] []]]⟩], run := fun p k => (every1y_S N p.1.1 p.2.1.1.1.1.1 p.2.1.1.1.1.2.1).bind fun r => k ((r.1, ()), (((((r.2.1, r.2.2, ()), ()), ()), ()), ())) }
theorem sp_every1y_ok (N : Nat) : SpecOK Try.prog (sp_every1y N) := fn_sound (B := every1y_B) (loops := []) (leaves := []) (fun p => every1y_S N p.1.1 p.2.1.1.1.1.1 p.2.1.1.1.1.2.1) (fun r => ((r.1, ()), (((((r.2.1, r.2.2, ()), ()), ()), ()), ()))) every1y_rt (fun _ _ _ => rfl) (fun r z h => by cases h; rfl) Try.func136 (by kernel_rfl) (by kernel_rfl) (by kernel_rfl) rfl rfl (by kernel_rfl) (fun args w => Sem.pv_run _ _ _ (by kernel_rfl) w) (every1y_all N) mixed trivial (fun z E Xc hE hX hret => trivial) (fun p => every1y_eq N p.1.1 p.2.1.1.1.1.1 p.2.1.1.1.1.2.1)

def ixfy_l1 (N : Nat) : Nat → Qe → Int → Int → Int → Qe → Option ((Int × Int × List Int) ⊕ (Int × List Int))
  | 0, _, _, _, _, _ => none
  | n_ + 1, s, u, u2, f, f2 =>
    br (decide (u2 < u))
      (idx s u2 fun x_1 =>
      (every1y_S N x_1 f f2).bind fun (x_2, y_3, y_4) =>
      br x_2
        (some (.inl (u2, y_3, y_4)))
        (chk (u2 + 1) <|
        ixfy_l1 N n_ s u (u2 + 1) y_3 y_4))
      (some (.inr (f, f2)))
def ixfy_S (N : Nat) (s : List Int) (f : Int) (f2 : List Int) : Option (Int × Int × List Int) :=
  (ixfy_l1 N N s (s.length : Int) 0 f f2).bind fun e => match e with
  | .inl (i_5, g_6, g2_7) =>
    some (i_5, g_6, g2_7)
  | .inr (g_8, g2_9) =>
    some (-1, g_8, g2_9)
noncomputable def ixfy_sp (N : Nat) : List Spec := [sp_every1y N]
theorem ixfy_all (N : Nat) : AllP (SpecOK Try.prog) (ixfy_sp N) := ⟨sp_every1y_ok N, trivial⟩
noncomputable def ixfy_c : Code := (Try.f80.body).getD .skip
noncomputable abbrev ixfy_B : Body := { c := ixfy_c, n := 19, res := [.tmp 4], outs := [⟨[.i .i64], [.segs [.fn 113 [.agg [.i .i64, .sl (.int .i64)]] []]]⟩], m0 := 1 }
abbrev ixfy_rt : altD ixfy_B.outs → Option (Int × Int × List Int) := fun r => some (r.1.1, r.2.1.1.1.1.1, r.2.1.1.1.1.2.1)
abbrev ixfy_l1_at : List PI := [.c [1, 0, 1, 0, 0, 0], .c [1, 0, 1, 0, 0, 1], .l [1, 0, 1, 0, 0], .b 0, .c [1, 1]]
abbrev ixfy_l1_st : Sta := ⟨[0, 1, 7, 8], ⟨[.sl (.int .i64), .fn 136 [] [.own 0 0], .i .i64, .i .i64], [.segs [.fn 113 [.agg [.i .i64, .sl (.int .i64)]] []]]⟩⟩
abbrev ixfy_l1_h (rec : Qe → Int → Int → Int → Qe → Option ((Int × Int × List Int) ⊕ (Int × List Int))) : Leaf ((Int × Int × List Int) ⊕ (Int × List Int)) := ⟨ixfy_l1_at, ixfy_l1_st, fun p => rec p.1.1 p.1.2.2.1 p.1.2.2.2.1 p.2.1.1.1.1.1 p.2.1.1.1.1.2.1⟩
abbrev ixfy_l1_e0 : Leaf ((Int × Int × List Int) ⊕ (Int × List Int)) := ⟨[.c [1, 0, 1, 0, 0, 1, 1, 0, 0, 1, 1, 0, 0], .c [1, 0, 1, 0, 0, 1, 1, 0, 0, 1, 1, 0, 1], .b 1, .c [1, 0, 1, 0, 0, 1, 1, 1], .l [1, 0, 1, 0, 0], .b 0, .c [1, 1]], ⟨[5], ⟨[.i .i64], [.segs [.fn 113 [.agg [.i .i64, .sl (.int .i64)]] []]]⟩⟩, fun p => some (.inl (p.1.1, p.2.1.1.1.1.1, p.2.1.1.1.1.2.1))⟩
abbrev ixfy_l1_e1 : Leaf ((Int × Int × List Int) ⊕ (Int × List Int)) := ⟨[.c [1, 1, 0], .c [1, 1, 1]], ⟨[], ⟨[], [.segs [.fn 113 [.agg [.i .i64, .sl (.int .i64)]] []]]⟩⟩, fun p => some (.inr (p.2.1.1.1.1.1, p.2.1.1.1.1.2.1))⟩
noncomputable def ixfy_l1_L (N : Nat) : LoopS := { at_ := ixfy_l1_at, sta := ixfy_l1_st, exits := [([.c [1, 0, 1, 0, 0, 1, 1, 0, 0, 1, 1, 0, 0], .c [1, 0, 1, 0, 0, 1, 1, 0, 0, 1, 1, 0, 1], .b 1, .c [1, 0, 1, 0, 0, 1, 1, 1], .l [1, 0, 1, 0, 0], .b 0, .c [1, 1]], ⟨[5], ⟨[.i .i64], [.segs [.fn 113 [.agg [.i .i64, .sl (.int .i64)]] []]]⟩⟩), ([.c [1, 1, 0], .c [1, 1, 1]], ⟨[], ⟨[], [.segs [.fn 113 [.agg [.i .i64, .sl (.int .i64)]] []]]⟩⟩)], run := fun p k => (ixfy_l1 N N p.1.1 p.1.2.2.1 p.1.2.2.2.1 p.2.1.1.1.1.1 p.2.1.1.1.1.2.1).bind fun e => match e with | .inl x => k (.inl ((x.1, ()), (((((x.2.1, x.2.2, ()), ()), ()), ()), ()))) | .inr x => k (.inr (.inl ((), (((((x.1, x.2, ()), ()), ()), ()), ())))) }
theorem ixfy_l1_eq (N n_ : Nat) (s : List Int) (u : Int) (u2 : Int) (f : Int) (f2 : List Int) : ev (Z := (Int × Int × List Int) ⊕ (Int × List Int)) Try.prog (ixfy_sp N) ixfy_B [] [ixfy_l1_h (ixfy_l1 N n_), ixfy_l1_e0, ixfy_l1_e1] none 400 true ixfy_l1_at (stL ixfy_l1_st ((s, ((), ((), ())), u, u2, ()), (((((f, f2, ()), ()), ()), ()), ()))) (stH ixfy_l1_st ((s, ((), ((), ())), u, u2, ()), (((((f, f2, ()), ()), ()), ()), ()))) = ixfy_l1 N (n_ + 1) s u u2 f f2 := by kernel_rfl
theorem ixfy_l1_ok (N : Nat) {top : Bool} : LoopOK Try.prog ixfy_B.c ixfy_B.n ixfy_B.m0 top (ixfy_l1_L N) := loop_of_ev (Z := (Int × Int × List Int) ⊕ (Int × List Int)) (N := N) (fun m p => ixfy_l1 N m p.1.1 p.1.2.2.1 p.1.2.2.2.1 p.2.1.1.1.1.1 p.2.1.1.1.1.2.1) (fun e => match e with | .inl x => .inl ((x.1, ()), (((((x.2.1, x.2.2, ()), ()), ()), ()), ())) | .inr x => .inr (.inl ((), (((((x.1, x.2, ()), ()), ()), ()), ())))) (fun _ p k => bind_congr_ (ixfy_l1 N N p.1.1 p.1.2.2.1 p.1.2.2.2.1 p.2.1.1.1.1.1 p.2.1.1.1.1.2.1) _ _ (fun e => by rcases e with x | x <;> rfl)) (fun _ => rfl) (fun m z E Xc hE hX hrec hx => leaf_of_ev (B := ixfy_B) (loops := []) (leaves := [ixfy_l1_h (ixfy_l1 N m), ixfy_l1_e0, ixfy_l1_e1]) (ixfy_all N) mixed trivial hE hX ⟨hrec, (fun p hp => by obtain rfl := Option.some.inj hp; exact hx), (fun p hp => by obtain rfl := Option.some.inj hp; exact hx), trivial⟩ RetOK.no (fun p => ixfy_l1_eq N m p.1.1 p.1.2.2.1 p.1.2.2.2.1 p.2.1.1.1.1.1 p.2.1.1.1.1.2.1))
abbrev ixfy_st : Sta := ⟨[0, 1], ⟨[.sl (.int .i64), .fn 136 [] [.own 0 0]], [.segs [.fn 113 [.agg [.i .i64, .sl (.int .i64)]] []]]⟩⟩
theorem ixfy_eq (N : Nat) (s : List Int) (f : Int) (f2 : List Int) : ev (Z := Int × Int × List Int) Try.prog (ixfy_sp N) ixfy_B [ixfy_l1_L N] [] (some ixfy_rt) 400 false [.c [0], .c [1]] (stL ixfy_st ((s, ((), ((), ())), ()), (((((f, f2, ()), ()), ()), ()), ()))) (stH ixfy_st ((s, ((), ((), ())), ()), (((((f, f2, ()), ()), ()), ()), ()))) = ixfy_S N s f f2 := by kernel_rfl
noncomputable def sp_ixfy (N : Nat) : Spec := { f := 80, ins := ⟨[.sl (.int .i64), .fn 136 [] [.own 0 0]], [.segs [.fn 113 [.agg [.i .i64, .sl (.int .i64)]] []]]⟩, outs := [⟨[.i .i64], [.segs [.fn 113 [.agg [.i .i64, .sl (.int .i64)]] []]]⟩], run := fun p k => (ixfy_S N p.1.1 p.2.1.1.1.1.1 p.2.1.1.1.1.2.1).bind fun r => k ((r.1, ()), (((((r.2.1, r.2.2, ()), ()), ()), ()), ())) }
theorem sp_ixfy_ok (N : Nat) : SpecOK Try.prog (sp_ixfy N) := fn_sound (B := ixfy_B) (loops := [ixfy_l1_L N]) (leaves := []) (fun p => ixfy_S N p.1.1 p.2.1.1.1.1.1 p.2.1.1.1.1.2.1) (fun r => ((r.1, ()), (((((r.2.1, r.2.2, ()), ()), ()), ()), ()))) ixfy_rt (fun _ _ _ => rfl) (fun r z h => by cases h; rfl) Try.func80 (by kernel_rfl) (by kernel_rfl) (by kernel_rfl) rfl rfl (by kernel_rfl) (fun args w => Sem.pv_run _ _ _ (by kernel_rfl) w) (ixfy_all N) mixed ⟨ixfy_l1_ok N, trivial⟩ (fun z E Xc hE hX hret => trivial) (fun p => ixfy_eq N p.1.1 p.2.1.1.1.1.1 p.2.1.1.1.1.2.1)

def cofy_S (N : Nat) (s : List Int) (f : Int) (f2 : List Int) : Option (Bool × Int × List Int) :=
  (ixfy_S N s f f2).bind fun (x_1, y_2, y_3) =>
  some ((decide (0 ≤ x_1)), y_2, y_3)
noncomputable def cofy_sp (N : Nat) : List Spec := [sp_ixfy N]
theorem cofy_all (N : Nat) : AllP (SpecOK Try.prog) (cofy_sp N) := ⟨sp_ixfy_ok N, trivial⟩
noncomputable def cofy_c : Code := (Try.f93.body).getD .skip
noncomputable abbrev cofy_B : Body := { c := cofy_c, n := 9, res := [.tmp 4], outs := [⟨[.b], [.segs [.fn 113 [.agg [.i .i64, .sl (.int .i64)]] []]]⟩], m0 := 1 }
abbrev cofy_rt : altD cofy_B.outs → Option (Bool × Int × List Int) := fun r => some (r.1.1, r.2.1.1.1.1.1, r.2.1.1.1.1.2.1)
abbrev cofy_st : Sta := ⟨[0, 1], ⟨[.sl (.int .i64), .fn 136 [] [.own 0 0]], [.segs [.fn 113 [.agg [.i .i64, .sl (.int .i64)]] []]]⟩⟩
theorem cofy_eq (N : Nat) (s : List Int) (f : Int) (f2 : List Int) : ev (Z := Bool × Int × List Int) Try.prog (cofy_sp N) cofy_B [] [] (some cofy_rt) 400 false [.c [0], .c [1]] (stL cofy_st ((s, ((), ((), ())), ()), (((((f, f2, ()), ()), ()), ()), ()))) (stH cofy_st ((s, ((), ((), ())), ()), (((((f, f2, ()), ()), ()), ()), ()))) = cofy_S N s f f2 := by kernel_rfl
noncomputable def sp_cofy (N : Nat) : Spec := { f := 93, ins := ⟨[.sl (.int .i64), .fn 136 [] [.own 0 0]], [.segs [.fn 113 [.agg [.i .i64, .sl (.int .i64)]] []]]⟩, outs := [⟨[.b], [.segs [.fn 113 [.agg [.i .i64, .sl (.int .i64)]] []]]⟩], run := fun p k => (cofy_S N p.1.1 p.2.1.1.1.1.1 p.2.1.1.1.1.2.1).bind fun r => k ((r.1, ()), (((((r.2.1, r.2.2, ()), ()), ()), ()), ())) }
theorem sp_cofy_ok (N : Nat) : SpecOK Try.prog (sp_cofy N) := fn_sound (B := cofy_B) (loops := []) (leaves := []) (fun p => cofy_S N p.1.1 p.2.1.1.1.1.1 p.2.1.1.1.1.2.1) (fun r => ((r.1, ()), (((((r.2.1, r.2.2, ()), ()), ()), ()), ()))) cofy_rt (fun _ _ _ => rfl) (fun r z h => by cases h; rfl) Try.func93 (by kernel_rfl) (by kernel_rfl) (by kernel_rfl) rfl rfl (by kernel_rfl) (fun args w => Sem.pv_run _ _ _ (by kernel_rfl) w) (cofy_all N) mixed trivial (fun z E Xc hE hX hret => trivial) (fun p => cofy_eq N p.1.1 p.2.1.1.1.1.1 p.2.1.1.1.1.2.1)

def everyy_S (N : Nat) (l : List Int) (so : Int) (so2 : List Int) : Option Bool :=
  (cofy_S N l so so2).bind fun (x_1, y_2, y_3) =>
  some (!x_1)
noncomputable def everyy_sp (N : Nat) : List Spec := [sp_cofy N]
theorem everyy_all (N : Nat) : AllP (SpecOK Try.prog) (everyy_sp N) := ⟨sp_cofy_ok N, trivial⟩
noncomputable def everyy_c : Code := (Try.f114.body).getD .skip
noncomputable abbrev everyy_B : Body := { c := everyy_c, n := 9, res := [.tmp 4], outs := [⟨[.b], []⟩], m0 := 0 }
abbrev everyy_rt : altD everyy_B.outs → Option Bool := fun r => some r.1.1
abbrev everyy_st : Sta := ⟨[0, 1], ⟨[.sl (.int .i64), .fn 113 [.agg [.i .i64, .sl (.int .i64)]] []], []⟩⟩
theorem everyy_eq (N : Nat) (l : List Int) (so : Int) (so2 : List Int) : ev (Z := Bool) Try.prog (everyy_sp N) everyy_B [] [] (some everyy_rt) 400 false [.c [0], .c [1]] (stL everyy_st ((l, (((so, so2, ()), ()), ()), ()), ())) (stH everyy_st ((l, (((so, so2, ()), ()), ()), ()), ())) = everyy_S N l so so2 := by kernel_rfl
noncomputable def sp_everyy (N : Nat) : Spec := { f := 114, ins := ⟨[.sl (.int .i64), .fn 113 [.agg [.i .i64, .sl (.int .i64)]] []], []⟩, outs := [⟨[.b], []⟩], run := fun p k => (everyy_S N p.1.1 p.1.2.1.1.1.1 p.1.2.1.1.1.2.1).bind fun r => k ((r, ()), ()) }
theorem sp_everyy_ok (N : Nat) : SpecOK Try.prog (sp_everyy N) := fn_sound (B := everyy_B) (loops := []) (leaves := []) (fun p => everyy_S N p.1.1 p.1.2.1.1.1.1 p.1.2.1.1.1.2.1) (fun r => ((r, ()), ())) everyy_rt (fun _ _ _ => rfl) (fun r z h => by cases h; rfl) Try.func114 (by kernel_rfl) (by kernel_rfl) (by kernel_rfl) rfl rfl (by kernel_rfl) (fun args w => Sem.pv_run _ _ _ (by kernel_rfl) w) (everyy_all N) mixed trivial (fun z E Xc hE hX hret => trivial) (fun p => everyy_eq N p.1.1 p.1.2.1.1.1.1 p.1.2.1.1.1.2.1)

def checkshare_l1 (N : Nat) : Nat → Qw → Int → Int → Int → (List Qs) → Option ((Unit) ⊕ ((Unit) ⊕ ((Unit) ⊕ (Unit))))
  | 0, _, _, _, _, _ => none
  | n_ + 1, u, u2, u3, r, r2 =>
    br (decide (u3 < u2))
      (idx u u3 fun x_2 =>
      idx r2 u3 fun x_3 =>
      idx r2 u3 fun x_4 =>
      br (!decide ((x_2.length : Int) = x_4.1))
        (some (.inl ()))
        ((everyy_S N x_2 x_3.1 x_3.2).bind fun x_5 =>
        br (!x_5)
          (some (.inr (.inl ())))
          ((rising_S N x_2).bind fun x_6 =>
          br (!x_6)
            (some (.inr (.inr (.inl ()))))
            (chk (u3 + 1) <|
            checkshare_l1 N n_ u u2 (u3 + 1) r r2))))
      (some (.inr (.inr (.inr ()))))
def checkshare_S (N : Nat) (r : Int) (r2 : List Qs) (share : List Qe) : Option Int :=
  (check_S N r r2).bind fun x_1 =>
  br (!decide (x_1 = 0))
    (some x_1)
    (br (!decide ((share.length : Int) = (r2.length : Int)))
      (some 2)
      ((checkshare_l1 N N share (share.length : Int) 0 r r2).bind fun e => match e with
      | .inl _ =>
        some 2
      | .inr (.inl _) =>
        some 1
      | .inr (.inr (.inl _)) =>
        some 4
      | .inr (.inr (.inr _)) =>
        some 0))
noncomputable def checkshare_sp (N : Nat) : List Spec := [sp_rising N, sp_check N, sp_everyy N]
theorem checkshare_all (N : Nat) : AllP (SpecOK Try.prog) (checkshare_sp N) := ⟨sp_rising_ok N, sp_check_ok N, sp_everyy_ok N, trivial⟩
noncomputable def checkshare_c : Code := (Try.f75.body).getD .skip
noncomputable abbrev checkshare_B : Body := { c := checkshare_c, n := 53, res := [.tmp 4], outs := [⟨[.i .i64], []⟩], m0 := 0 }
abbrev checkshare_rt : altD checkshare_B.outs → Option Int := fun r => some r.1.1
abbrev checkshare_l1_at : List PI := [.c [1, 1, 1, 0, 1, 0, 0, 0], .c [1, 1, 1, 0, 1, 0, 0, 1], .l [1, 1, 1, 0, 1, 0, 0], .b 0, .c [1, 1, 1, 1]]
abbrev checkshare_l1_st : Sta := ⟨[2, 20, 21, 22], ⟨[.own 0 0, .sl Qd, .i .i64, .i .i64], [.segs [.i .i64, .sl Qt]]⟩⟩
abbrev checkshare_l1_h (rec : Qw → Int → Int → Int → (List Qs) → Option ((Unit) ⊕ ((Unit) ⊕ ((Unit) ⊕ (Unit))))) : Leaf ((Unit) ⊕ ((Unit) ⊕ ((Unit) ⊕ (Unit)))) := ⟨checkshare_l1_at, checkshare_l1_st, fun p => rec p.1.2.1 p.1.2.2.1 p.1.2.2.2.1 p.2.1.1 p.2.1.2.1⟩
abbrev checkshare_l1_e0 : Leaf ((Unit) ⊕ ((Unit) ⊕ ((Unit) ⊕ (Unit)))) := ⟨[.c [1, 1, 1, 0, 1, 0, 0, 1, 1, 0, 0, 1, 1, 0, 1, 0, 0], .c [1, 1, 1, 0, 1, 0, 0, 1, 1, 0, 0, 1, 1, 0, 1, 0, 1], .b 2, .b 1, .c [1, 1, 1, 0, 1, 0, 0, 1, 1, 1], .l [1, 1, 1, 0, 1, 0, 0], .b 0, .c [1, 1, 1, 1]], ⟨[], ⟨[], []⟩⟩, fun p => some (.inl ())⟩
abbrev checkshare_l1_e1 : Leaf ((Unit) ⊕ ((Unit) ⊕ ((Unit) ⊕ (Unit)))) := ⟨[.c [1, 1, 1, 0, 1, 0, 0, 1, 1, 0, 0, 1, 1, 0, 1, 1, 1, 0, 0], .c [1, 1, 1, 0, 1, 0, 0, 1, 1, 0, 0, 1, 1, 0, 1, 1, 1, 0, 1], .b 2, .b 1, .c [1, 1, 1, 0, 1, 0, 0, 1, 1, 1], .l [1, 1, 1, 0, 1, 0, 0], .b 0, .c [1, 1, 1, 1]], ⟨[], ⟨[], []⟩⟩, fun p => some (.inr (.inl ()))⟩
abbrev checkshare_l1_e2 : Leaf ((Unit) ⊕ ((Unit) ⊕ ((Unit) ⊕ (Unit)))) := ⟨[.c [1, 1, 1, 0, 1, 0, 0, 1, 1, 0, 0, 1, 1, 0, 1, 1, 1, 1, 1, 0, 0], .c [1, 1, 1, 0, 1, 0, 0, 1, 1, 0, 0, 1, 1, 0, 1, 1, 1, 1, 1, 0, 1], .b 2, .b 1, .c [1, 1, 1, 0, 1, 0, 0, 1, 1, 1], .l [1, 1, 1, 0, 1, 0, 0], .b 0, .c [1, 1, 1, 1]], ⟨[], ⟨[], []⟩⟩, fun p => some (.inr (.inr (.inl ())))⟩
abbrev checkshare_l1_e3 : Leaf ((Unit) ⊕ ((Unit) ⊕ ((Unit) ⊕ (Unit)))) := ⟨[.c [1, 1, 1, 1, 0], .c [1, 1, 1, 1, 1]], ⟨[], ⟨[], []⟩⟩, fun p => some (.inr (.inr (.inr ())))⟩
noncomputable def checkshare_l1_L (N : Nat) : LoopS := { at_ := checkshare_l1_at, sta := checkshare_l1_st, exits := [([.c [1, 1, 1, 0, 1, 0, 0, 1, 1, 0, 0, 1, 1, 0, 1, 0, 0], .c [1, 1, 1, 0, 1, 0, 0, 1, 1, 0, 0, 1, 1, 0, 1, 0, 1], .b 2, .b 1, .c [1, 1, 1, 0, 1, 0, 0, 1, 1, 1], .l [1, 1, 1, 0, 1, 0, 0], .b 0, .c [1, 1, 1, 1]], ⟨[], ⟨[], []⟩⟩), ([.c [1, 1, 1, 0, 1, 0, 0, 1, 1, 0, 0, 1, 1, 0, 1, 1, 1, 0, 0], .c [1, 1, 1, 0, 1, 0, 0, 1, 1, 0, 0, 1, 1, 0, 1, 1, 1, 0, 1], .b 2, .b 1, .c [1, 1, 1, 0, 1, 0, 0, 1, 1, 1], .l [1, 1, 1, 0, 1, 0, 0], .b 0, .c [1, 1, 1, 1]], ⟨[], ⟨[], []⟩⟩), ([.c [1, 1, 1, 0, 1, 0, 0, 1, 1, 0, 0, 1, 1, 0, 1, 1, 1, 1, 1, 0, 0], .c [1, 1, 1, 0, 1, 0, 0, 1, 1, 0, 0, 1, 1, 0, 1, 1, 1, 1, 1, 0, 1], .b 2, .b 1, .c [1, 1, 1, 0, 1, 0, 0, 1, 1, 1], .l [1, 1, 1, 0, 1, 0, 0], .b 0, .c [1, 1, 1, 1]], ⟨[], ⟨[], []⟩⟩), ([.c [1, 1, 1, 1, 0], .c [1, 1, 1, 1, 1]], ⟨[], ⟨[], []⟩⟩)], run := fun p k => (checkshare_l1 N N p.1.2.1 p.1.2.2.1 p.1.2.2.2.1 p.2.1.1 p.2.1.2.1).bind fun e => match e with | .inl x => k (.inl ((), ())) | .inr (.inl x) => k (.inr (.inl ((), ()))) | .inr (.inr (.inl x)) => k (.inr (.inr (.inl ((), ())))) | .inr (.inr (.inr x)) => k (.inr (.inr (.inr (.inl ((), ()))))) }
theorem checkshare_l1_eq (N n_ : Nat) (u : List Qe) (u2 : Int) (u3 : Int) (r : Int) (r2 : List Qs) : ev (Z := (Unit) ⊕ ((Unit) ⊕ ((Unit) ⊕ (Unit)))) Try.prog (checkshare_sp N) checkshare_B [] [checkshare_l1_h (checkshare_l1 N n_), checkshare_l1_e0, checkshare_l1_e1, checkshare_l1_e2, checkshare_l1_e3] none 400 true checkshare_l1_at (stL checkshare_l1_st (((), u, u2, u3, ()), ((r, r2, ()), ()))) (stH checkshare_l1_st (((), u, u2, u3, ()), ((r, r2, ()), ()))) = checkshare_l1 N (n_ + 1) u u2 u3 r r2 := by kernel_rfl
theorem checkshare_l1_ok (N : Nat) {top : Bool} : LoopOK Try.prog checkshare_B.c checkshare_B.n checkshare_B.m0 top (checkshare_l1_L N) := loop_of_ev (Z := (Unit) ⊕ ((Unit) ⊕ ((Unit) ⊕ (Unit)))) (N := N) (fun m p => checkshare_l1 N m p.1.2.1 p.1.2.2.1 p.1.2.2.2.1 p.2.1.1 p.2.1.2.1) (fun e => match e with | .inl x => .inl ((), ()) | .inr (.inl x) => .inr (.inl ((), ())) | .inr (.inr (.inl x)) => .inr (.inr (.inl ((), ()))) | .inr (.inr (.inr x)) => .inr (.inr (.inr (.inl ((), ()))))) (fun _ p k => bind_congr_ (checkshare_l1 N N p.1.2.1 p.1.2.2.1 p.1.2.2.2.1 p.2.1.1 p.2.1.2.1) _ _ (fun e => by rcases e with x | x | x | x <;> rfl)) (fun _ => rfl) (fun m z E Xc hE hX hrec hx => leaf_of_ev (B := checkshare_B) (loops := []) (leaves := [checkshare_l1_h (checkshare_l1 N m), checkshare_l1_e0, checkshare_l1_e1, checkshare_l1_e2, checkshare_l1_e3]) (checkshare_all N) mixed trivial hE hX ⟨hrec, (fun p hp => by obtain rfl := Option.some.inj hp; exact hx), (fun p hp => by obtain rfl := Option.some.inj hp; exact hx), (fun p hp => by obtain rfl := Option.some.inj hp; exact hx), (fun p hp => by obtain rfl := Option.some.inj hp; exact hx), trivial⟩ RetOK.no (fun p => checkshare_l1_eq N m p.1.2.1 p.1.2.2.1 p.1.2.2.2.1 p.2.1.1 p.2.1.2.1))
abbrev checkshare_st : Sta := ⟨[0, 1], ⟨[.agg [.i .i64, .sl Qt], .sl Qd], []⟩⟩
theorem checkshare_eq (N : Nat) (r : Int) (r2 : List Qs) (share : List Qe) : ev (Z := Int) Try.prog (checkshare_sp N) checkshare_B [checkshare_l1_L N] [] (some checkshare_rt) 400 false [.c [0], .c [1]] (stL checkshare_st (((r, r2, ()), share, ()), ())) (stH checkshare_st (((r, r2, ()), share, ()), ())) = checkshare_S N r r2 share := by kernel_rfl
noncomputable def sp_checkshare (N : Nat) : Spec := { f := 75, ins := ⟨[.agg [.i .i64, .sl Qt], .sl Qd], []⟩, outs := [⟨[.i .i64], []⟩], run := fun p k => (checkshare_S N p.1.1.1 p.1.1.2.1 p.1.2.1).bind fun r => k ((r, ()), ()) }
theorem sp_checkshare_ok (N : Nat) : SpecOK Try.prog (sp_checkshare N) := fn_sound (B := checkshare_B) (loops := [checkshare_l1_L N]) (leaves := []) (fun p => checkshare_S N p.1.1.1 p.1.1.2.1 p.1.2.1) (fun r => ((r, ()), ())) checkshare_rt (fun _ _ _ => rfl) (fun r z h => by cases h; rfl) Try.func75 (by kernel_rfl) (by kernel_rfl) (by kernel_rfl) rfl rfl (by kernel_rfl) (fun args w => Sem.pv_run _ _ _ (by kernel_rfl) w) (checkshare_all N) mixed ⟨checkshare_l1_ok N, trivial⟩ (fun z E Xc hE hX hret => trivial) (fun p => checkshare_eq N p.1.1.1 p.1.1.2.1 p.1.2.1)

def greatest_l1 (N : Nat) : Nat → Int → Qe → Int → Int → Option Int
  | 0, _, _, _, _ => none
  | n_ + 1, n, u, u2, u3 =>
    br (decide (u3 < u2))
      (idx u u3 fun x_1 =>
      chk (u3 + 1) <|
      greatest_l1 N n_ (max n x_1) u u2 (u3 + 1))
      (some (n))
def greatest_S (N : Nat) (l : List Int) : Option Int :=
  (greatest_l1 N N 0 l (l.length : Int) 0).bind fun n_2 =>
  some n_2
noncomputable def greatest_sp (N : Nat) : List Spec := []
theorem greatest_all (N : Nat) : AllP (SpecOK Try.prog) (greatest_sp N) := trivial
noncomputable def greatest_c : Code := (Try.f116.body).getD .skip
noncomputable abbrev greatest_B : Body := { c := greatest_c, n := 17, res := [.tmp 2], outs := [⟨[.i .i64], []⟩], m0 := 0 }
abbrev greatest_rt : altD greatest_B.outs → Option Int := fun r => some r.1.1
abbrev greatest_l1_at : List PI := [.c [1, 1, 0, 1, 0, 0, 0], .c [1, 1, 0, 1, 0, 0, 1], .l [1, 1, 0, 1, 0, 0], .b 0, .c [1, 1, 1]]
abbrev greatest_l1_st : Sta := ⟨[3, 6, 7, 8], ⟨[.i .i64, .sl (.int .i64), .i .i64, .i .i64], []⟩⟩
abbrev greatest_l1_h (rec : Int → Qe → Int → Int → Option Int) : Leaf Int := ⟨greatest_l1_at, greatest_l1_st, fun p => rec p.1.1 p.1.2.1 p.1.2.2.1 p.1.2.2.2.1⟩
abbrev greatest_l1_e0 : Leaf Int := ⟨[.c [1, 1, 1, 0], .c [1, 1, 1, 1]], ⟨[3], ⟨[.i .i64], []⟩⟩, fun p => some (p.1.1)⟩
noncomputable def greatest_l1_L (N : Nat) : LoopS := { at_ := greatest_l1_at, sta := greatest_l1_st, exits := [([.c [1, 1, 1, 0], .c [1, 1, 1, 1]], ⟨[3], ⟨[.i .i64], []⟩⟩)], run := fun p k => (greatest_l1 N N p.1.1 p.1.2.1 p.1.2.2.1 p.1.2.2.2.1).bind fun e => k (.inl ((e, ()), ())) }
theorem greatest_l1_eq (N n_ : Nat) (n : Int) (u : List Int) (u2 : Int) (u3 : Int) : ev (Z := Int) Try.prog (greatest_sp N) greatest_B [] [greatest_l1_h (greatest_l1 N n_), greatest_l1_e0] none 400 true greatest_l1_at (stL greatest_l1_st ((n, u, u2, u3, ()), ())) (stH greatest_l1_st ((n, u, u2, u3, ()), ())) = greatest_l1 N (n_ + 1) n u u2 u3 := by kernel_rfl
theorem greatest_l1_ok (N : Nat) {top : Bool} : LoopOK Try.prog greatest_B.c greatest_B.n greatest_B.m0 top (greatest_l1_L N) := loop_of_ev (Z := Int) (N := N) (fun m p => greatest_l1 N m p.1.1 p.1.2.1 p.1.2.2.1 p.1.2.2.2.1) (fun e => .inl ((e, ()), ())) (fun _ _ _ => rfl) (fun _ => rfl) (fun m z E Xc hE hX hrec hx => leaf_of_ev (B := greatest_B) (loops := []) (leaves := [greatest_l1_h (greatest_l1 N m), greatest_l1_e0]) (greatest_all N) mixed trivial hE hX ⟨hrec, (fun p hp => by obtain rfl := Option.some.inj hp; exact hx), trivial⟩ RetOK.no (fun p => greatest_l1_eq N m p.1.1 p.1.2.1 p.1.2.2.1 p.1.2.2.2.1))
abbrev greatest_st : Sta := ⟨[0], ⟨[.sl (.int .i64)], []⟩⟩
theorem greatest_eq (N : Nat) (l : List Int) : ev (Z := Int) Try.prog (greatest_sp N) greatest_B [greatest_l1_L N] [] (some greatest_rt) 400 false [.c [0], .c [1]] (stL greatest_st ((l, ()), ())) (stH greatest_st ((l, ()), ())) = greatest_S N l := by kernel_rfl
noncomputable def sp_greatest (N : Nat) : Spec := { f := 116, ins := ⟨[.sl (.int .i64)], []⟩, outs := [⟨[.i .i64], []⟩], run := fun p k => (greatest_S N p.1.1).bind fun r => k ((r, ()), ()) }
theorem sp_greatest_ok (N : Nat) : SpecOK Try.prog (sp_greatest N) := fn_sound (B := greatest_B) (loops := [greatest_l1_L N]) (leaves := []) (fun p => greatest_S N p.1.1) (fun r => ((r, ()), ())) greatest_rt (fun _ _ _ => rfl) (fun r z h => by cases h; rfl) Try.func116 (by kernel_rfl) (by kernel_rfl) (by kernel_rfl) rfl rfl (by kernel_rfl) (fun args w => Sem.pv_run _ _ _ (by kernel_rfl) w) (greatest_all N) mixed ⟨greatest_l1_ok N, trivial⟩ (fun z E Xc hE hX hret => trivial) (fun p => greatest_eq N p.1.1)

def loads_l2 (N : Nat) : Nat → Qw → Int → Int → Qe → Int → Int → Qe → Option (List Qe × Int × Int × List Int)
  | 0, _, _, _, _, _, _, _ => none
  | n_ + 1, u, u2, u3, u4, u5, u6, out =>
    br (decide (u6 < u5))
      (idx u4 u6 fun x_2 =>
      rng x_2 out.length <|
      get out x_2.toNat fun x_3 =>
      chk (x_3 + 1) <|
      rng x_2 out.length <|
      get out x_2.toNat fun _ =>
      chk (u6 + 1) <|
      loads_l2 N n_ u u2 u3 u4 u5 (u6 + 1) (out.set x_2.toNat (x_3 + 1)))
      (some ((u, u2, u3, out)))
def loads_l1 (N : Nat) : Nat → Qw → Int → Int → Qe → Option Qe
  | 0, _, _, _, _ => none
  | n_ + 1, u, u2, u3, out =>
    br (decide (u3 < u2))
      (idx u u3 fun x_1 =>
      (loads_l2 N N u u2 u3 x_1 (x_1.length : Int) 0 out).bind fun (u_5, u2_6, u3_7, out_8) =>
      chk (u3_7 + 1) <|
      loads_l1 N n_ u_5 u2_6 (u3_7 + 1) out_8)
      (some (out))
def loads_S (N : Nat) (r : Int) (r2 : List Qs) (share : List Qe) : Option Qe :=
  grd (lmI r) <|
  (loads_l1 N N share (share.length : Int) 0 (List.replicate r.toNat (0 : Int))).bind fun out_9 =>
  some out_9
noncomputable def loads_sp (N : Nat) : List Spec := []
theorem loads_all (N : Nat) : AllP (SpecOK Try.prog) (loads_sp N) := trivial
noncomputable def loads_c : Code := (Try.f117.body).getD .skip
noncomputable abbrev loads_B : Body := { c := loads_c, n := 34, res := [.tmp 4], outs := [⟨[.sl (.int .i64)], []⟩], m0 := 0 }
abbrev loads_rt : altD loads_B.outs → Option Qe := fun r => some r.1.1
abbrev loads_l2_at : List PI := [.c [1, 1, 0, 1, 0, 0, 1, 1, 0, 0, 1, 1, 0, 0, 0], .c [1, 1, 0, 1, 0, 0, 1, 1, 0, 0, 1, 1, 0, 0, 1], .l [1, 1, 0, 1, 0, 0, 1, 1, 0, 0, 1, 1, 0, 0], .b 2, .b 1, .c [1, 1, 0, 1, 0, 0, 1, 1, 1], .l [1, 1, 0, 1, 0, 0], .b 0, .c [1, 1, 1]]
abbrev loads_l2_st : Sta := ⟨[5, 13, 14, 15, 19, 20, 21], ⟨[.ols 0, .sl Qd, .i .i64, .i .i64, .sl (.int .i64), .i .i64, .i .i64], [.lst (.int .i64)]⟩⟩
abbrev loads_l2_h (rec : Qw → Int → Int → Qe → Int → Int → Qe → Option (List Qe × Int × Int × List Int)) : Leaf (List Qe × Int × Int × List Int) := ⟨loads_l2_at, loads_l2_st, fun p => rec p.1.2.1 p.1.2.2.1 p.1.2.2.2.1 p.1.2.2.2.2.1 p.1.2.2.2.2.2.1 p.1.2.2.2.2.2.2.1 p.2.1⟩
abbrev loads_l2_e0 : Leaf (List Qe × Int × Int × List Int) := ⟨[.c [1, 1, 0, 1, 0, 0, 1, 1, 1], .l [1, 1, 0, 1, 0, 0], .b 0, .c [1, 1, 1]], ⟨[5, 13, 14, 15], ⟨[.ols 0, .sl Qd, .i .i64, .i .i64], [.lst (.int .i64)]⟩⟩, fun p => some ((p.1.2.1, p.1.2.2.1, p.1.2.2.2.1, p.2.1))⟩
noncomputable def loads_l2_L (N : Nat) : LoopS := { at_ := loads_l2_at, sta := loads_l2_st, exits := [([.c [1, 1, 0, 1, 0, 0, 1, 1, 1], .l [1, 1, 0, 1, 0, 0], .b 0, .c [1, 1, 1]], ⟨[5, 13, 14, 15], ⟨[.ols 0, .sl Qd, .i .i64, .i .i64], [.lst (.int .i64)]⟩⟩)], run := fun p k => (loads_l2 N N p.1.2.1 p.1.2.2.1 p.1.2.2.2.1 p.1.2.2.2.2.1 p.1.2.2.2.2.2.1 p.1.2.2.2.2.2.2.1 p.2.1).bind fun e => k (.inl (((), e.1, e.2.1, e.2.2.1, ()), (e.2.2.2, ()))) }
theorem loads_l2_eq (N n_ : Nat) (u : List Qe) (u2 : Int) (u3 : Int) (u4 : List Int) (u5 : Int) (u6 : Int) (out : List Int) : ev (Z := List Qe × Int × Int × List Int) Try.prog (loads_sp N) loads_B [] [loads_l2_h (loads_l2 N n_), loads_l2_e0] none 400 true loads_l2_at (stL loads_l2_st (((), u, u2, u3, u4, u5, u6, ()), (out, ()))) (stH loads_l2_st (((), u, u2, u3, u4, u5, u6, ()), (out, ()))) = loads_l2 N (n_ + 1) u u2 u3 u4 u5 u6 out := by kernel_rfl
theorem loads_l2_ok (N : Nat) {top : Bool} : LoopOK Try.prog loads_B.c loads_B.n loads_B.m0 top (loads_l2_L N) := loop_of_ev (Z := List Qe × Int × Int × List Int) (N := N) (fun m p => loads_l2 N m p.1.2.1 p.1.2.2.1 p.1.2.2.2.1 p.1.2.2.2.2.1 p.1.2.2.2.2.2.1 p.1.2.2.2.2.2.2.1 p.2.1) (fun e => .inl (((), e.1, e.2.1, e.2.2.1, ()), (e.2.2.2, ()))) (fun _ _ _ => rfl) (fun _ => rfl) (fun m z E Xc hE hX hrec hx => leaf_of_ev (B := loads_B) (loops := []) (leaves := [loads_l2_h (loads_l2 N m), loads_l2_e0]) (loads_all N) mixed trivial hE hX ⟨hrec, (fun p hp => by obtain rfl := Option.some.inj hp; exact hx), trivial⟩ RetOK.no (fun p => loads_l2_eq N m p.1.2.1 p.1.2.2.1 p.1.2.2.2.1 p.1.2.2.2.2.1 p.1.2.2.2.2.2.1 p.1.2.2.2.2.2.2.1 p.2.1))
abbrev loads_l1_at : List PI := [.c [1, 1, 0, 1, 0, 0, 0], .c [1, 1, 0, 1, 0, 0, 1], .l [1, 1, 0, 1, 0, 0], .b 0, .c [1, 1, 1]]
abbrev loads_l1_st : Sta := ⟨[5, 13, 14, 15], ⟨[.ols 0, .sl Qd, .i .i64, .i .i64], [.lst (.int .i64)]⟩⟩
abbrev loads_l1_h (rec : Qw → Int → Int → Qe → Option Qe) : Leaf Qe := ⟨loads_l1_at, loads_l1_st, fun p => rec p.1.2.1 p.1.2.2.1 p.1.2.2.2.1 p.2.1⟩
abbrev loads_l1_e0 : Leaf Qe := ⟨[.c [1, 1, 1, 0], .c [1, 1, 1, 1]], ⟨[5], ⟨[.ols 0], [.lst (.int .i64)]⟩⟩, fun p => some (p.2.1)⟩
noncomputable def loads_l1_L (N : Nat) : LoopS := { at_ := loads_l1_at, sta := loads_l1_st, exits := [([.c [1, 1, 1, 0], .c [1, 1, 1, 1]], ⟨[5], ⟨[.ols 0], [.lst (.int .i64)]⟩⟩)], run := fun p k => (loads_l1 N N p.1.2.1 p.1.2.2.1 p.1.2.2.2.1 p.2.1).bind fun e => k (.inl (((), ()), (e, ()))) }
theorem loads_l1_eq (N n_ : Nat) (u : List Qe) (u2 : Int) (u3 : Int) (out : List Int) : ev (Z := List Int) Try.prog (loads_sp N) loads_B [loads_l2_L N] [loads_l1_h (loads_l1 N n_), loads_l1_e0] none 400 true loads_l1_at (stL loads_l1_st (((), u, u2, u3, ()), (out, ()))) (stH loads_l1_st (((), u, u2, u3, ()), (out, ()))) = loads_l1 N (n_ + 1) u u2 u3 out := by kernel_rfl
theorem loads_l1_ok (N : Nat) {top : Bool} : LoopOK Try.prog loads_B.c loads_B.n loads_B.m0 top (loads_l1_L N) := loop_of_ev (Z := List Int) (N := N) (fun m p => loads_l1 N m p.1.2.1 p.1.2.2.1 p.1.2.2.2.1 p.2.1) (fun e => .inl (((), ()), (e, ()))) (fun _ _ _ => rfl) (fun _ => rfl) (fun m z E Xc hE hX hrec hx => leaf_of_ev (B := loads_B) (loops := [loads_l2_L N]) (leaves := [loads_l1_h (loads_l1 N m), loads_l1_e0]) (loads_all N) mixed ⟨loads_l2_ok N, trivial⟩ hE hX ⟨hrec, (fun p hp => by obtain rfl := Option.some.inj hp; exact hx), trivial⟩ RetOK.no (fun p => loads_l1_eq N m p.1.2.1 p.1.2.2.1 p.1.2.2.2.1 p.2.1))
abbrev loads_st : Sta := ⟨[0, 1], ⟨[.agg [.i .i64, .sl Qt], .sl Qd], []⟩⟩
theorem loads_eq (N : Nat) (r : Int) (r2 : List Qs) (share : List Qe) : ev (Z := List Int) Try.prog (loads_sp N) loads_B [loads_l2_L N, loads_l1_L N] [] (some loads_rt) 400 false [.c [0], .c [1]] (stL loads_st (((r, r2, ()), share, ()), ())) (stH loads_st (((r, r2, ()), share, ()), ())) = loads_S N r r2 share := by kernel_rfl
noncomputable def sp_loads (N : Nat) : Spec := { f := 117, ins := ⟨[.agg [.i .i64, .sl Qt], .sl Qd], []⟩, outs := [⟨[.sl (.int .i64)], []⟩], run := fun p k => (loads_S N p.1.1.1 p.1.1.2.1 p.1.2.1).bind fun r => k ((r, ()), ()) }
theorem sp_loads_ok (N : Nat) : SpecOK Try.prog (sp_loads N) := fn_sound (B := loads_B) (loops := [loads_l2_L N, loads_l1_L N]) (leaves := []) (fun p => loads_S N p.1.1.1 p.1.1.2.1 p.1.2.1) (fun r => ((r, ()), ())) loads_rt (fun _ _ _ => rfl) (fun r z h => by cases h; rfl) Try.func117 (by kernel_rfl) (by kernel_rfl) (by kernel_rfl) rfl rfl (by kernel_rfl) (fun args w => Sem.pv_run _ _ _ (by kernel_rfl) w) (loads_all N) mixed ⟨loads_l2_ok N, loads_l1_ok N, trivial⟩ (fun z E Xc hE hX hret => trivial) (fun p => loads_eq N p.1.1.1 p.1.1.2.1 p.1.2.1)

def times_l1 (N : Nat) : Nat → (List Qs) → Int → Int → Qe → Option Qe
  | 0, _, _, _, _ => none
  | n_ + 1, u, u2, u3, l =>
    br (decide (u3 < u2))
      (idx u u3 fun x_1 =>
      lim (l.length + [x_1.1].length) <|
      chk (u3 + 1) <|
      times_l1 N n_ u u2 (u3 + 1) (l ++ [x_1.1]))
      (some (l))
def times_S (N : Nat) (r : Int) (r2 : List Qs) : Option Int :=
  (times_l1 N N r2 (r2.length : Int) 0 []).bind fun l_2 =>
  (greatest_S N l_2).bind fun x_3 =>
  some x_3
noncomputable def times_sp (N : Nat) : List Spec := [sp_greatest N]
theorem times_all (N : Nat) : AllP (SpecOK Try.prog) (times_sp N) := ⟨sp_greatest_ok N, trivial⟩
noncomputable def times_c : Code := (Try.f118.body).getD .skip
noncomputable abbrev times_B : Body := { c := times_c, n := 21, res := [.tmp 2], outs := [⟨[.i .i64], []⟩], m0 := 0 }
abbrev times_rt : altD times_B.outs → Option Int := fun r => some r.1.1
abbrev times_l1_at : List PI := [.c [1, 1, 0, 1, 0, 0, 0], .c [1, 1, 0, 1, 0, 0, 1], .l [1, 1, 0, 1, 0, 0], .b 0, .c [1, 1, 1]]
abbrev times_l1_st : Sta := ⟨[3, 7, 8, 9], ⟨[.ols 0, .sl Qt, .i .i64, .i .i64], [.lst (.int .i64)]⟩⟩
abbrev times_l1_h (rec : (List Qs) → Int → Int → Qe → Option Qe) : Leaf Qe := ⟨times_l1_at, times_l1_st, fun p => rec p.1.2.1 p.1.2.2.1 p.1.2.2.2.1 p.2.1⟩
abbrev times_l1_e0 : Leaf Qe := ⟨[.c [1, 1, 1, 0], .c [1, 1, 1, 1]], ⟨[3], ⟨[.ols 0], [.lst (.int .i64)]⟩⟩, fun p => some (p.2.1)⟩
noncomputable def times_l1_L (N : Nat) : LoopS := { at_ := times_l1_at, sta := times_l1_st, exits := [([.c [1, 1, 1, 0], .c [1, 1, 1, 1]], ⟨[3], ⟨[.ols 0], [.lst (.int .i64)]⟩⟩)], run := fun p k => (times_l1 N N p.1.2.1 p.1.2.2.1 p.1.2.2.2.1 p.2.1).bind fun e => k (.inl (((), ()), (e, ()))) }
theorem times_l1_eq (N n_ : Nat) (u : List Qs) (u2 : Int) (u3 : Int) (l : List Int) : ev (Z := List Int) Try.prog (times_sp N) times_B [] [times_l1_h (times_l1 N n_), times_l1_e0] none 400 true times_l1_at (stL times_l1_st (((), u, u2, u3, ()), (l, ()))) (stH times_l1_st (((), u, u2, u3, ()), (l, ()))) = times_l1 N (n_ + 1) u u2 u3 l := by kernel_rfl
theorem times_l1_ok (N : Nat) {top : Bool} : LoopOK Try.prog times_B.c times_B.n times_B.m0 top (times_l1_L N) := loop_of_ev (Z := List Int) (N := N) (fun m p => times_l1 N m p.1.2.1 p.1.2.2.1 p.1.2.2.2.1 p.2.1) (fun e => .inl (((), ()), (e, ()))) (fun _ _ _ => rfl) (fun _ => rfl) (fun m z E Xc hE hX hrec hx => leaf_of_ev (B := times_B) (loops := []) (leaves := [times_l1_h (times_l1 N m), times_l1_e0]) (times_all N) mixed trivial hE hX ⟨hrec, (fun p hp => by obtain rfl := Option.some.inj hp; exact hx), trivial⟩ RetOK.no (fun p => times_l1_eq N m p.1.2.1 p.1.2.2.1 p.1.2.2.2.1 p.2.1))
abbrev times_st : Sta := ⟨[0], ⟨[.agg [.i .i64, .sl Qt]], []⟩⟩
theorem times_eq (N : Nat) (r : Int) (r2 : List Qs) : ev (Z := Int) Try.prog (times_sp N) times_B [times_l1_L N] [] (some times_rt) 400 false [.c [0], .c [1]] (stL times_st (((r, r2, ()), ()), ())) (stH times_st (((r, r2, ()), ()), ())) = times_S N r r2 := by kernel_rfl
noncomputable def sp_times (N : Nat) : Spec := { f := 118, ins := ⟨[.agg [.i .i64, .sl Qt]], []⟩, outs := [⟨[.i .i64], []⟩], run := fun p k => (times_S N p.1.1.1 p.1.1.2.1).bind fun r => k ((r, ()), ()) }
theorem sp_times_ok (N : Nat) : SpecOK Try.prog (sp_times N) := fn_sound (B := times_B) (loops := [times_l1_L N]) (leaves := []) (fun p => times_S N p.1.1.1 p.1.1.2.1) (fun r => ((r, ()), ())) times_rt (fun _ _ _ => rfl) (fun r z h => by cases h; rfl) Try.func118 (by kernel_rfl) (by kernel_rfl) (by kernel_rfl) rfl rfl (by kernel_rfl) (fun args w => Sem.pv_run _ _ _ (by kernel_rfl) w) (times_all N) mixed ⟨times_l1_ok N, trivial⟩ (fun z E Xc hE hX hret => trivial) (fun p => times_eq N p.1.1.1 p.1.1.2.1)

def slots__S (N : Nat) (r : Int) (r2 : List Qs) (share : List Qe) : Option Int :=
  (loads_S N r r2 share).bind fun x_1 =>
  (greatest_S N x_1).bind fun x_2 =>
  (times_S N r r2).bind fun x_3 =>
  some (max x_2 x_3)
noncomputable def slots__sp (N : Nat) : List Spec := [sp_greatest N, sp_loads N, sp_times N]
theorem slots__all (N : Nat) : AllP (SpecOK Try.prog) (slots__sp N) := ⟨sp_greatest_ok N, sp_loads_ok N, sp_times_ok N, trivial⟩
noncomputable def slots__c : Code := (Try.f76.body).getD .skip
noncomputable abbrev slots__B : Body := { c := slots__c, n := 12, res := [.tmp 4], outs := [⟨[.i .i64], []⟩], m0 := 0 }
abbrev slots__rt : altD slots__B.outs → Option Int := fun r => some r.1.1
abbrev slots__st : Sta := ⟨[0, 1], ⟨[.agg [.i .i64, .sl Qt], .sl Qd], []⟩⟩
theorem slots__eq (N : Nat) (r : Int) (r2 : List Qs) (share : List Qe) : ev (Z := Int) Try.prog (slots__sp N) slots__B [] [] (some slots__rt) 400 false [.c [0], .c [1]] (stL slots__st (((r, r2, ()), share, ()), ())) (stH slots__st (((r, r2, ()), share, ()), ())) = slots__S N r r2 share := by kernel_rfl
noncomputable def sp_slots_ (N : Nat) : Spec := { f := 76, ins := ⟨[.agg [.i .i64, .sl Qt], .sl Qd], []⟩, outs := [⟨[.i .i64], []⟩], run := fun p k => (slots__S N p.1.1.1 p.1.1.2.1 p.1.2.1).bind fun r => k ((r, ()), ()) }
theorem sp_slots__ok (N : Nat) : SpecOK Try.prog (sp_slots_ N) := fn_sound (B := slots__B) (loops := []) (leaves := []) (fun p => slots__S N p.1.1.1 p.1.1.2.1 p.1.2.1) (fun r => ((r, ()), ())) slots__rt (fun _ _ _ => rfl) (fun r z h => by cases h; rfl) Try.func76 (by kernel_rfl) (by kernel_rfl) (by kernel_rfl) rfl rfl (by kernel_rfl) (fun args w => Sem.pv_run _ _ _ (by kernel_rfl) w) (slots__all N) mixed trivial (fun z E Xc hE hX hret => trivial) (fun p => slots__eq N p.1.1.1 p.1.1.2.1 p.1.2.1)

def slots_S (N : Nat) (r : Int) (r2 : List Qs) (share : List Qe) : Option QG :=
  (checkshare_S N r r2 share).bind fun x_1 =>
  br (!decide (x_1 = 0))
    (some (0, x_1))
    ((slots__S N r r2 share).bind fun x_2 =>
    some (x_2, 0))
noncomputable def slots_sp (N : Nat) : List Spec := [sp_checkshare N, sp_slots_ N]
theorem slots_all (N : Nat) : AllP (SpecOK Try.prog) (slots_sp N) := ⟨sp_checkshare_ok N, sp_slots__ok N, trivial⟩
noncomputable def slots_c : Code := (Try.f43.body).getD .skip
noncomputable abbrev slots_B : Body := { c := slots_c, n := 16, res := [.tmp 4, .tmp 5], outs := [⟨[.i .i64, .i .i64], []⟩], m0 := 0 }
abbrev slots_rt : altD slots_B.outs → Option QG := fun r => some (r.1.1, r.1.2.1)
abbrev slots_st : Sta := ⟨[0, 1], ⟨[.agg [.i .i64, .sl Qt], .sl Qd], []⟩⟩
theorem slots_eq (N : Nat) (r : Int) (r2 : List Qs) (share : List Qe) : ev (Z := Int × Int) Try.prog (slots_sp N) slots_B [] [] (some slots_rt) 400 false [.c [0], .c [1]] (stL slots_st (((r, r2, ()), share, ()), ())) (stH slots_st (((r, r2, ()), share, ()), ())) = slots_S N r r2 share := by kernel_rfl
noncomputable def sp_slots (N : Nat) : Spec := { f := 43, ins := ⟨[.agg [.i .i64, .sl Qt], .sl Qd], []⟩, outs := [⟨[.i .i64, .i .i64], []⟩], run := fun p k => (slots_S N p.1.1.1 p.1.1.2.1 p.1.2.1).bind fun r => k ((r.1, r.2, ()), ()) }
theorem sp_slots_ok (N : Nat) : SpecOK Try.prog (sp_slots N) := fn_sound (B := slots_B) (loops := []) (leaves := []) (fun p => slots_S N p.1.1.1 p.1.1.2.1 p.1.2.1) (fun r => ((r.1, r.2, ()), ())) slots_rt (fun _ _ _ => rfl) (fun r z h => by cases h; rfl) Try.func43 (by kernel_rfl) (by kernel_rfl) (by kernel_rfl) rfl rfl (by kernel_rfl) (fun args w => Sem.pv_run _ _ _ (by kernel_rfl) w) (slots_all N) mixed trivial (fun z E Xc hE hX hret => trivial) (fun p => slots_eq N p.1.1.1 p.1.1.2.1 p.1.2.1)

def court_S (N : Nat)  : Option (Int × (List Qs)) :=
  some (3, [(3, [0, 1, 2]), (1, [0, 1]), (1, [0]), (2, [0, 1, 2])])
noncomputable def court_sp (N : Nat) : List Spec := []
theorem court_all (N : Nat) : AllP (SpecOK Try.prog) (court_sp N) := trivial
noncomputable def court_c : Code := (Try.f44.body).getD .skip
noncomputable abbrev court_B : Body := { c := court_c, n := 11, res := [.cell 0 103], outs := [⟨[.agg [.i .i64, .sl Qt]], []⟩], m0 := 0 }
abbrev court_rt : altD court_B.outs → Option (Int × (List Qs)) := fun r => some (r.1.1.1, r.1.1.2.1)
abbrev court_st : Sta := ⟨[], ⟨[], []⟩⟩
theorem court_eq (N : Nat)  : ev (Z := Int × (List Qs)) Try.prog (court_sp N) court_B [] [] (some court_rt) 400 false [.c [0], .c [1]] (stL court_st ((), ())) (stH court_st ((), ())) = court_S N := by kernel_rfl
noncomputable def sp_court (N : Nat) : Spec := { f := 44, ins := ⟨[], []⟩, outs := [⟨[.agg [.i .i64, .sl Qt]], []⟩], run := fun p k => (court_S N).bind fun r => k (((r.1, r.2, ()), ()), ()) }
theorem sp_court_ok (N : Nat) : SpecOK Try.prog (sp_court N) := fn_sound (B := court_B) (loops := []) (leaves := []) (fun p => court_S N ) (fun r => (((r.1, r.2, ()), ()), ())) court_rt (fun _ _ _ => rfl) (fun r z h => by cases h; rfl) Try.func44 (by kernel_rfl) (by kernel_rfl) (by kernel_rfl) rfl rfl (by kernel_rfl) (fun args w => Sem.pv_run _ _ _ (by kernel_rfl) w) (court_all N) mixed trivial (fun z E Xc hE hX hret => trivial) (fun p => court_eq N )

def shared_S (N : Nat)  : Option Qw :=
  some ([[0, 1, 2], [1], [0], [1, 2]])
noncomputable def shared_sp (N : Nat) : List Spec := []
theorem shared_all (N : Nat) : AllP (SpecOK Try.prog) (shared_sp N) := trivial
noncomputable def shared_c : Code := (Try.f45.body).getD .skip
noncomputable abbrev shared_B : Body := { c := shared_c, n := 6, res := [.tmp 0], outs := [⟨[.sl Qd], []⟩], m0 := 0 }
abbrev shared_rt : altD shared_B.outs → Option Qw := fun r => some r.1.1
abbrev shared_st : Sta := ⟨[], ⟨[], []⟩⟩
theorem shared_eq (N : Nat)  : ev (Z := List Qe) Try.prog (shared_sp N) shared_B [] [] (some shared_rt) 400 false [.c [0], .c [1]] (stL shared_st ((), ())) (stH shared_st ((), ())) = shared_S N := by kernel_rfl
noncomputable def sp_shared (N : Nat) : Spec := { f := 45, ins := ⟨[], []⟩, outs := [⟨[.sl Qd], []⟩], run := fun p k => (shared_S N).bind fun r => k ((r, ()), ()) }
theorem sp_shared_ok (N : Nat) : SpecOK Try.prog (sp_shared N) := fn_sound (B := shared_B) (loops := []) (leaves := []) (fun p => shared_S N ) (fun r => ((r, ()), ())) shared_rt (fun _ _ _ => rfl) (fun r z h => by cases h; rfl) Try.func45 (by kernel_rfl) (by kernel_rfl) (by kernel_rfl) rfl rfl (by kernel_rfl) (fun args w => Sem.pv_run _ _ _ (by kernel_rfl) w) (shared_all N) mixed trivial (fun z E Xc hE hX hret => trivial) (fun p => shared_eq N )

end Go.Proofs.Ytgeijboidfadaaa.Sl

namespace Go.Proofs.Ytgeijboidfadaaa
set_option linter.all false
open Go

noncomputable abbrev sp_sl_slots := Sl.sp_slots
theorem sp_sl_slots_ok (N : Nat) : SpecOK Try.prog (sp_sl_slots N) := Sl.sp_slots_ok N
abbrev sl_slots_S := Sl.slots_S
noncomputable abbrev sp_sl_court := Sl.sp_court
theorem sp_sl_court_ok (N : Nat) : SpecOK Try.prog (sp_sl_court N) := Sl.sp_court_ok N
abbrev sl_court_S := Sl.court_S
noncomputable abbrev sp_sl_shared := Sl.sp_shared
theorem sp_sl_shared_ok (N : Nat) : SpecOK Try.prog (sp_sl_shared N) := Sl.sp_shared_ok N
abbrev sl_shared_S := Sl.shared_S
def awake10_S (N : Nat)  : Option Bool :=
  (two_S N 5 0).bind fun (x_1, y_2, y_3) =>
  (count_S N x_1 y_2 y_3 0 1).bind fun (x_4, y_5) =>
  (sl_court_S N).bind fun (x_6, y_7) =>
  (sl_shared_S N).bind fun x_8 =>
  (sl_slots_S N x_6 y_7 x_8).bind fun (x_9, y_10) =>
  br (decide (y_5 = 0))
    (br (decide (y_10 = 0))
      (br (decide (x_4 = 2))
        (some (decide (x_9 = 3)))
        (some false))
      (some false))
    (some false)
noncomputable def awake10_sp (N : Nat) : List Spec := [sp_count N, sp_two N, sp_sl_slots N, sp_sl_court N, sp_sl_shared N]
theorem awake10_all (N : Nat) : AllP (SpecOK Try.prog) (awake10_sp N) := ⟨sp_count_ok N, sp_two_ok N, sp_sl_slots_ok N, sp_sl_court_ok N, sp_sl_shared_ok N, trivial⟩
noncomputable def awake10_c : Code := (Try.f15.body).getD .skip
noncomputable abbrev awake10_B : Body := { c := awake10_c, n := 31, res := [.tmp 0], outs := [⟨[.b], []⟩], m0 := 0 }
abbrev awake10_rt : altD awake10_B.outs → Option Bool := fun r => some r.1.1
abbrev awake10_st : Sta := ⟨[], ⟨[], []⟩⟩
theorem awake10_eq (N : Nat)  : ev (Z := Bool) Try.prog (awake10_sp N) awake10_B [] [] (some awake10_rt) 400 false [.c [0], .c [1]] (stL awake10_st ((), ())) (stH awake10_st ((), ())) = awake10_S N := by kernel_rfl
noncomputable def sp_awake10 (N : Nat) : Spec := { f := 15, ins := ⟨[], []⟩, outs := [⟨[.b], []⟩], run := fun p k => (awake10_S N).bind fun r => k ((r, ()), ()) }
theorem sp_awake10_ok (N : Nat) : SpecOK Try.prog (sp_awake10 N) := fn_sound (B := awake10_B) (loops := []) (leaves := []) (fun p => awake10_S N ) (fun r => ((r, ()), ())) awake10_rt (fun _ _ _ => rfl) (fun r z h => by cases h; rfl) Try.func15 (by kernel_rfl) (by kernel_rfl) (by kernel_rfl) rfl rfl (by kernel_rfl) (fun args w => Sem.pv_run _ _ _ (by kernel_rfl) w) (awake10_all N) mixed trivial (fun z E Xc hE hX hret => trivial) (fun p => awake10_eq N )

end Go.Proofs.Ytgeijboidfadaaa

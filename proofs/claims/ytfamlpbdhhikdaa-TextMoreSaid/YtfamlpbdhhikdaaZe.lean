/-
  Parts of a proof, put together: X1.
  Conditions: none.
-/
import Derived.Test.YtfamlpbdhhikdaaZd
namespace Go.Proofs.Ytfamlpbdhhikdaa
set_option linter.all false
open Go

def ring_j1 (N : Nat) (b : List Int) (b2 : Int) (b3 : Int) : Option (Int × List Int × Int × Int) :=
  br (decide (0 < (b.length : Int)))
    (idx b b2 fun x_1 =>
    chk (b2 + 1) <|
    grd (decide (0 ≤ (IntKind.u32.wrap ((IntKind.u32.wrap (30011 * b3)) + (IntKind.u32.wrap (263 * (IntKind.u32.wrap x_1))))) ∧ 0 ≤ (Int.fdiv (IntKind.u32.wrap ((IntKind.u32.wrap (30011 * b3)) + (IntKind.u32.wrap (263 * (IntKind.u32.wrap x_1))))) (2 ^ 7)))) <|
    grd (decide (0 ≤ (((IntKind.u32.wrap ((IntKind.u32.wrap (30011 * b3)) + (IntKind.u32.wrap (263 * (IntKind.u32.wrap x_1))))).toNat ^^^ (Int.fdiv (IntKind.u32.wrap ((IntKind.u32.wrap (30011 * b3)) + (IntKind.u32.wrap (263 * (IntKind.u32.wrap x_1))))) (2 ^ 7)).toNat : Nat) : Int) ∧ 0 ≤ 65535)) <|
    some ((IntKind.i64.wrap (((((IntKind.u32.wrap ((IntKind.u32.wrap (30011 * b3)) + (IntKind.u32.wrap (263 * (IntKind.u32.wrap x_1))))).toNat ^^^ (Int.fdiv (IntKind.u32.wrap ((IntKind.u32.wrap (30011 * b3)) + (IntKind.u32.wrap (263 * (IntKind.u32.wrap x_1))))) (2 ^ 7)).toNat : Nat) : Int).toNat &&& 65535 : Nat) : Int)), b, (b2 + 1), b3))
    (grd (decide (0 ≤ (IntKind.u32.wrap (30011 * b3)) ∧ 0 ≤ (Int.fdiv (IntKind.u32.wrap (30011 * b3)) (2 ^ 7)))) <|
    grd (decide (0 ≤ (((IntKind.u32.wrap (30011 * b3)).toNat ^^^ (Int.fdiv (IntKind.u32.wrap (30011 * b3)) (2 ^ 7)).toNat : Nat) : Int) ∧ 0 ≤ 65535)) <|
    some ((IntKind.i64.wrap (((((IntKind.u32.wrap (30011 * b3)).toNat ^^^ (Int.fdiv (IntKind.u32.wrap (30011 * b3)) (2 ^ 7)).toNat : Nat) : Int).toNat &&& 65535 : Nat) : Int)), b, b2, b3))
def ring_S (N : Nat) (b : List Int) (b2 : Int) (b3 : Int) : Option (Int × List Int × Int × Int) :=
  br (decide (b2 = (b.length : Int)))
    (ring_j1 N b 0 (IntKind.u32.wrap (b3 + 1)))
    (ring_j1 N b b2 b3)
noncomputable def ring_sp (N : Nat) : List Spec := []
theorem ring_all (N : Nat) : AllP (SpecOK Try.prog) (ring_sp N) := trivial
noncomputable def ring_c : Code := (Try.f140.body).getD .skip
noncomputable abbrev ring_B : Body := { c := ring_c, n := 63, res := [.tmp 2], outs := [⟨[.i .i64], [.segs [.sl (.int .u8), .i .i64, .i .u32]]⟩], m0 := 1 }
abbrev ring_rt : altD ring_B.outs → Option (Int × List Int × Int × Int) := fun r => some (r.1.1, r.2.1.1, r.2.1.2.1, r.2.1.2.2.1)
abbrev ring_j1_at : List PI := [.c [1, 1, 0], .c [1, 1, 1]]
abbrev ring_j1_st : Sta := ⟨[0], ⟨[.own 0 0], [.segs [.sl (.int .u8), .i .i64, .i .u32]]⟩⟩
abbrev ring_j1_k (N : Nat) : Leaf (Int × List Int × Int × Int) := ⟨ring_j1_at, ring_j1_st, fun p => ring_j1 N p.2.1.1 p.2.1.2.1 p.2.1.2.2.1⟩
theorem ring_j1_eq (N : Nat) (b : List Int) (b2 : Int) (b3 : Int) : ev (Z := Int × List Int × Int × Int) Try.prog (ring_sp N) ring_B [] [] (some ring_rt) 400 true ring_j1_at (stL ring_j1_st (((), ()), ((b, b2, b3, ()), ()))) (stH ring_j1_st (((), ()), ((b, b2, b3, ()), ()))) = ring_j1 N b b2 b3 := by kernel_rfl
theorem ring_j1_lf (N : Nat) {z : Int × List Int × Int × Int} {E : EE} {Xc : Ctx} (hE : EOK ring_B.m0 E) (hX : CxOK true Xc) (hret : RetOK Try.prog ring_B E Xc z (some ring_rt)) : LeafOK Try.prog ring_B.c ring_B.n ring_B.m0 E Xc z (ring_j1_k N) := leaf_of_ev (B := ring_B) (loops := []) (leaves := []) (ring_all N) mixed trivial hE hX trivial hret (fun p => ring_j1_eq N p.2.1.1 p.2.1.2.1 p.2.1.2.2.1)
abbrev ring_st : Sta := ⟨[0], ⟨[.own 0 0], [.segs [.sl (.int .u8), .i .i64, .i .u32]]⟩⟩
theorem ring_eq (N : Nat) (b : List Int) (b2 : Int) (b3 : Int) : ev (Z := Int × List Int × Int × Int) Try.prog (ring_sp N) ring_B [] [ring_j1_k N] (some ring_rt) 400 false [.c [0], .c [1]] (stL ring_st (((), ()), ((b, b2, b3, ()), ()))) (stH ring_st (((), ()), ((b, b2, b3, ()), ()))) = ring_S N b b2 b3 := by kernel_rfl
noncomputable def sp_ring (N : Nat) : Spec := { f := 140, ins := ⟨[.own 0 0], [.segs [.sl (.int .u8), .i .i64, .i .u32]]⟩, outs := [⟨[.i .i64], [.segs [.sl (.int .u8), .i .i64, .i .u32]]⟩], run := fun p k => (ring_S N p.2.1.1 p.2.1.2.1 p.2.1.2.2.1).bind fun r => k ((r.1, ()), ((r.2.1, r.2.2.1, r.2.2.2, ()), ())) }
theorem sp_ring_ok (N : Nat) : SpecOK Try.prog (sp_ring N) := fn_sound (B := ring_B) (loops := []) (leaves := [ring_j1_k N]) (fun p => ring_S N p.2.1.1 p.2.1.2.1 p.2.1.2.2.1) (fun r => ((r.1, ()), ((r.2.1, r.2.2.1, r.2.2.2, ()), ()))) ring_rt (fun _ _ _ => rfl) (fun r z h => by cases h; rfl) Try.func140 (by kernel_rfl) (by kernel_rfl) (by kernel_rfl) rfl rfl (by kernel_rfl) (fun args w => Sem.pv_run _ _ _ (by kernel_rfl) w) (ring_all N) mixed trivial (fun z E Xc hE hX hret => ⟨ring_j1_lf N hE hX hret, trivial⟩) (fun p => ring_eq N p.2.1.1 p.2.1.2.1 p.2.1.2.2.1)

def stroke_S (N : Nat) (n : Int) (b : List Int) (b2 : Int) (b3 : Int) : Option (Int × List Int × Int × Int) :=
  (ring_S N b b2 b3).bind fun (x_1, y_2, y_3, y_4) =>
  chk (n + 1) <|
  grd (!decide ((max 1 (n + 1)) = 0)) <|
  some ((Int.tmod x_1 (max 1 (n + 1))), y_2, y_3, y_4)
noncomputable def stroke_sp (N : Nat) : List Spec := [sp_ring N]
theorem stroke_all (N : Nat) : AllP (SpecOK Try.prog) (stroke_sp N) := ⟨sp_ring_ok N, trivial⟩
noncomputable def stroke_c : Code := (Try.f82.body).getD .skip
noncomputable abbrev stroke_B : Body := { c := stroke_c, n := 11, res := [.tmp 4], outs := [⟨[.i .i64], [.segs [.sl (.int .u8), .i .i64, .i .u32]]⟩], m0 := 1 }
abbrev stroke_rt : altD stroke_B.outs → Option (Int × List Int × Int × Int) := fun r => some (r.1.1, r.2.1.1, r.2.1.2.1, r.2.1.2.2.1)
abbrev stroke_st : Sta := ⟨[0, 1], ⟨[.own 0 0, .i .i64], [.segs [.sl (.int .u8), .i .i64, .i .u32]]⟩⟩
theorem stroke_eq (N : Nat) (n : Int) (b : List Int) (b2 : Int) (b3 : Int) : ev (Z := Int × List Int × Int × Int) Try.prog (stroke_sp N) stroke_B [] [] (some stroke_rt) 400 false [.c [0], .c [1]] (stL stroke_st (((), n, ()), ((b, b2, b3, ()), ()))) (stH stroke_st (((), n, ()), ((b, b2, b3, ()), ()))) = stroke_S N n b b2 b3 := by kernel_rfl
noncomputable def sp_stroke (N : Nat) : Spec := { f := 82, ins := ⟨[.own 0 0, .i .i64], [.segs [.sl (.int .u8), .i .i64, .i .u32]]⟩, outs := [⟨[.i .i64], [.segs [.sl (.int .u8), .i .i64, .i .u32]]⟩], run := fun p k => (stroke_S N p.1.2.1 p.2.1.1 p.2.1.2.1 p.2.1.2.2.1).bind fun r => k ((r.1, ()), ((r.2.1, r.2.2.1, r.2.2.2, ()), ())) }
theorem sp_stroke_ok (N : Nat) : SpecOK Try.prog (sp_stroke N) := fn_sound (B := stroke_B) (loops := []) (leaves := []) (fun p => stroke_S N p.1.2.1 p.2.1.1 p.2.1.2.1 p.2.1.2.2.1) (fun r => ((r.1, ()), ((r.2.1, r.2.2.1, r.2.2.2, ()), ()))) stroke_rt (fun _ _ _ => rfl) (fun r z h => by cases h; rfl) Try.func82 (by kernel_rfl) (by kernel_rfl) (by kernel_rfl) rfl rfl (by kernel_rfl) (fun args w => Sem.pv_run _ _ _ (by kernel_rfl) w) (stroke_all N) mixed trivial (fun z E Xc hE hX hret => trivial) (fun p => stroke_eq N p.1.2.1 p.2.1.1 p.2.1.2.1 p.2.1.2.2.1)

def strike_S (N : Nat) (lo : Int) (hi : Int) (b : List Int) (b2 : Int) (b3 : Int) : Option (Int × List Int × Int × Int) :=
  chk (hi - lo) <|
  (stroke_S N (hi - lo) b b2 b3).bind fun (x_1, y_2, y_3, y_4) =>
  chk (lo + x_1) <|
  some ((lo + x_1), y_2, y_3, y_4)
noncomputable def strike_sp (N : Nat) : List Spec := [sp_stroke N]
theorem strike_all (N : Nat) : AllP (SpecOK Try.prog) (strike_sp N) := ⟨sp_stroke_ok N, trivial⟩
noncomputable def strike_c : Code := (Try.f70.body).getD .skip
noncomputable abbrev strike_B : Body := { c := strike_c, n := 14, res := [.tmp 6], outs := [⟨[.i .i64], [.segs [.sl (.int .u8), .i .i64, .i .u32]]⟩], m0 := 1 }
abbrev strike_rt : altD strike_B.outs → Option (Int × List Int × Int × Int) := fun r => some (r.1.1, r.2.1.1, r.2.1.2.1, r.2.1.2.2.1)
abbrev strike_st : Sta := ⟨[0, 1, 2], ⟨[.own 0 0, .i .i64, .i .i64], [.segs [.sl (.int .u8), .i .i64, .i .u32]]⟩⟩
theorem strike_eq (N : Nat) (lo : Int) (hi : Int) (b : List Int) (b2 : Int) (b3 : Int) : ev (Z := Int × List Int × Int × Int) Try.prog (strike_sp N) strike_B [] [] (some strike_rt) 400 false [.c [0], .c [1]] (stL strike_st (((), lo, hi, ()), ((b, b2, b3, ()), ()))) (stH strike_st (((), lo, hi, ()), ((b, b2, b3, ()), ()))) = strike_S N lo hi b b2 b3 := by kernel_rfl
noncomputable def sp_strike (N : Nat) : Spec := { f := 70, ins := ⟨[.own 0 0, .i .i64, .i .i64], [.segs [.sl (.int .u8), .i .i64, .i .u32]]⟩, outs := [⟨[.i .i64], [.segs [.sl (.int .u8), .i .i64, .i .u32]]⟩], run := fun p k => (strike_S N p.1.2.1 p.1.2.2.1 p.2.1.1 p.2.1.2.1 p.2.1.2.2.1).bind fun r => k ((r.1, ()), ((r.2.1, r.2.2.1, r.2.2.2, ()), ())) }
theorem sp_strike_ok (N : Nat) : SpecOK Try.prog (sp_strike N) := fn_sound (B := strike_B) (loops := []) (leaves := []) (fun p => strike_S N p.1.2.1 p.1.2.2.1 p.2.1.1 p.2.1.2.1 p.2.1.2.2.1) (fun r => ((r.1, ()), ((r.2.1, r.2.2.1, r.2.2.2, ()), ()))) strike_rt (fun _ _ _ => rfl) (fun r z h => by cases h; rfl) Try.func70 (by kernel_rfl) (by kernel_rfl) (by kernel_rfl) rfl rfl (by kernel_rfl) (fun args w => Sem.pv_run _ _ _ (by kernel_rfl) w) (strike_all N) mixed trivial (fun z E Xc hE hX hret => trivial) (fun p => strike_eq N p.1.2.1 p.1.2.2.1 p.2.1.1 p.2.1.2.1 p.2.1.2.2.1)

def seldom_S (N : Nat) (n : Int) (b : List Int) (b2 : Int) (b3 : Int) : Option (Bool × List Int × Int × Int) :=
  chk (n - 1) <|
  (stroke_S N (n - 1) b b2 b3).bind fun (x_1, y_2, y_3, y_4) =>
  some ((decide (x_1 = 0)), y_2, y_3, y_4)
noncomputable def seldom_sp (N : Nat) : List Spec := [sp_stroke N]
theorem seldom_all (N : Nat) : AllP (SpecOK Try.prog) (seldom_sp N) := ⟨sp_stroke_ok N, trivial⟩
noncomputable def seldom_c : Code := (Try.f71.body).getD .skip
noncomputable abbrev seldom_B : Body := { c := seldom_c, n := 10, res := [.tmp 4], outs := [⟨[.b], [.segs [.sl (.int .u8), .i .i64, .i .u32]]⟩], m0 := 1 }
abbrev seldom_rt : altD seldom_B.outs → Option (Bool × List Int × Int × Int) := fun r => some (r.1.1, r.2.1.1, r.2.1.2.1, r.2.1.2.2.1)
abbrev seldom_st : Sta := ⟨[0, 1], ⟨[.own 0 0, .i .i64], [.segs [.sl (.int .u8), .i .i64, .i .u32]]⟩⟩
theorem seldom_eq (N : Nat) (n : Int) (b : List Int) (b2 : Int) (b3 : Int) : ev (Z := Bool × List Int × Int × Int) Try.prog (seldom_sp N) seldom_B [] [] (some seldom_rt) 400 false [.c [0], .c [1]] (stL seldom_st (((), n, ()), ((b, b2, b3, ()), ()))) (stH seldom_st (((), n, ()), ((b, b2, b3, ()), ()))) = seldom_S N n b b2 b3 := by kernel_rfl
noncomputable def sp_seldom (N : Nat) : Spec := { f := 71, ins := ⟨[.own 0 0, .i .i64], [.segs [.sl (.int .u8), .i .i64, .i .u32]]⟩, outs := [⟨[.b], [.segs [.sl (.int .u8), .i .i64, .i .u32]]⟩], run := fun p k => (seldom_S N p.1.2.1 p.2.1.1 p.2.1.2.1 p.2.1.2.2.1).bind fun r => k ((r.1, ()), ((r.2.1, r.2.2.1, r.2.2.2, ()), ())) }
theorem sp_seldom_ok (N : Nat) : SpecOK Try.prog (sp_seldom N) := fn_sound (B := seldom_B) (loops := []) (leaves := []) (fun p => seldom_S N p.1.2.1 p.2.1.1 p.2.1.2.1 p.2.1.2.2.1) (fun r => ((r.1, ()), ((r.2.1, r.2.2.1, r.2.2.2, ()), ()))) seldom_rt (fun _ _ _ => rfl) (fun r z h => by cases h; rfl) Try.func71 (by kernel_rfl) (by kernel_rfl) (by kernel_rfl) rfl rfl (by kernel_rfl) (fun args w => Sem.pv_run _ _ _ (by kernel_rfl) w) (seldom_all N) mixed trivial (fun z E Xc hE hX hret => trivial) (fun p => seldom_eq N p.1.2.1 p.2.1.1 p.2.1.2.1 p.2.1.2.2.1)

def hang_S (N : Nat) (metal : List Int) : Option (List Int × Int × Int) :=
  some (metal, 0, 0)
noncomputable def hang_sp (N : Nat) : List Spec := []
theorem hang_all (N : Nat) : AllP (SpecOK Try.prog) (hang_sp N) := trivial
noncomputable def hang_c : Code := (Try.f37.body).getD .skip
noncomputable abbrev hang_B : Body := { c := hang_c, n := 6, res := [.tmp 2], outs := [⟨[.own 0 0], [.segs [.sl (.int .u8), .i .i64, .i .u32]]⟩], m0 := 0 }
abbrev hang_rt : altD hang_B.outs → Option (List Int × Int × Int) := fun r => some (r.2.1.1, r.2.1.2.1, r.2.1.2.2.1)
abbrev hang_st : Sta := ⟨[0], ⟨[.sl (.int .u8)], []⟩⟩
theorem hang_eq (N : Nat) (metal : List Int) : ev (Z := List Int × Int × Int) Try.prog (hang_sp N) hang_B [] [] (some hang_rt) 400 false [.c [0], .c [1]] (stL hang_st ((metal, ()), ())) (stH hang_st ((metal, ()), ())) = hang_S N metal := by kernel_rfl
noncomputable def sp_hang (N : Nat) : Spec := { f := 37, ins := ⟨[.sl (.int .u8)], []⟩, outs := [⟨[.own 0 0], [.segs [.sl (.int .u8), .i .i64, .i .u32]]⟩], run := fun p k => (hang_S N p.1.1).bind fun r => k (((), ()), ((r.1, r.2.1, r.2.2, ()), ())) }
theorem sp_hang_ok (N : Nat) : SpecOK Try.prog (sp_hang N) := fn_sound (B := hang_B) (loops := []) (leaves := []) (fun p => hang_S N p.1.1) (fun r => (((), ()), ((r.1, r.2.1, r.2.2, ()), ()))) hang_rt (fun _ _ _ => rfl) (fun r z h => by cases h; rfl) Try.func37 (by kernel_rfl) (by kernel_rfl) (by kernel_rfl) rfl rfl (by kernel_rfl) (fun args w => Sem.pv_run _ _ _ (by kernel_rfl) w) (hang_all N) mixed trivial (fun z E Xc hE hX hret => trivial) (fun p => hang_eq N p.1.1)

def in__S (N : Nat) (n : Int) (lo : Int) (hi : Int) : Option Bool :=
  br (decide (lo ≤ n))
    (some (decide (n ≤ hi)))
    (some false)
noncomputable def in__sp (N : Nat) : List Spec := []
theorem in__all (N : Nat) : AllP (SpecOK Try.prog) (in__sp N) := trivial
noncomputable def in__c : Code := (Try.f104.body).getD .skip
noncomputable abbrev in__B : Body := { c := in__c, n := 15, res := [.tmp 6], outs := [⟨[.b], []⟩], m0 := 0 }
abbrev in__rt : altD in__B.outs → Option Bool := fun r => some r.1.1
abbrev in__st : Sta := ⟨[0, 1, 2], ⟨[.i .i64, .i .i64, .i .i64], []⟩⟩
theorem in__eq (N : Nat) (n : Int) (lo : Int) (hi : Int) : ev (Z := Bool) Try.prog (in__sp N) in__B [] [] (some in__rt) 400 false [.c [0], .c [1]] (stL in__st ((n, lo, hi, ()), ())) (stH in__st ((n, lo, hi, ()), ())) = in__S N n lo hi := by kernel_rfl
noncomputable def sp_in_ (N : Nat) : Spec := { f := 104, ins := ⟨[.i .i64, .i .i64, .i .i64], []⟩, outs := [⟨[.b], []⟩], run := fun p k => (in__S N p.1.1 p.1.2.1 p.1.2.2.1).bind fun r => k ((r, ()), ()) }
theorem sp_in__ok (N : Nat) : SpecOK Try.prog (sp_in_ N) := fn_sound (B := in__B) (loops := []) (leaves := []) (fun p => in__S N p.1.1 p.1.2.1 p.1.2.2.1) (fun r => ((r, ()), ())) in__rt (fun _ _ _ => rfl) (fun r z h => by cases h; rfl) Try.func104 (by kernel_rfl) (by kernel_rfl) (by kernel_rfl) rfl rfl (by kernel_rfl) (fun args w => Sem.pv_run _ _ _ (by kernel_rfl) w) (in__all N) mixed trivial (fun z E Xc hE hX hret => trivial) (fun p => in__eq N p.1.1 p.1.2.1 p.1.2.2.1)

def sum_l1 (N : Nat) : Nat → Int → (List Int) → Int → Int → Option Int
  | 0, _, _, _, _ => none
  | n_ + 1, n, u, u2, u3 =>
    br (decide (u3 < u2))
      (idx u u3 fun x_1 =>
      chk (n + x_1) <|
      chk (u3 + 1) <|
      sum_l1 N n_ (n + x_1) u u2 (u3 + 1))
      (some (n))
def sum_S (N : Nat) (l : List Int) : Option Int :=
  (sum_l1 N N 0 l (l.length : Int) 0).bind fun n_2 =>
  some n_2
noncomputable def sum_sp (N : Nat) : List Spec := []
theorem sum_all (N : Nat) : AllP (SpecOK Try.prog) (sum_sp N) := trivial
noncomputable def sum_c : Code := (Try.f148.body).getD .skip
noncomputable abbrev sum_B : Body := { c := sum_c, n := 17, res := [.tmp 2], outs := [⟨[.i .i64], []⟩], m0 := 0 }
abbrev sum_rt : altD sum_B.outs → Option Int := fun r => some r.1.1
abbrev sum_l1_at : List PI := [.c [1, 1, 0, 1, 0, 0, 0], .c [1, 1, 0, 1, 0, 0, 1], .l [1, 1, 0, 1, 0, 0], .b 0, .c [1, 1, 1]]
abbrev sum_l1_st : Sta := ⟨[3, 6, 7, 8], ⟨[.i .i64, .sl (.int .i64), .i .i64, .i .i64], []⟩⟩
abbrev sum_l1_h (rec : Int → (List Int) → Int → Int → Option Int) : Leaf Int := ⟨sum_l1_at, sum_l1_st, fun p => rec p.1.1 p.1.2.1 p.1.2.2.1 p.1.2.2.2.1⟩
abbrev sum_l1_e0 : Leaf Int := ⟨[.c [1, 1, 1, 0], .c [1, 1, 1, 1]], ⟨[3], ⟨[.i .i64], []⟩⟩, fun p => some (p.1.1)⟩
noncomputable def sum_l1_L (N : Nat) : LoopS := { at_ := sum_l1_at, sta := sum_l1_st, exits := [([.c [1, 1, 1, 0], .c [1, 1, 1, 1]], ⟨[3], ⟨[.i .i64], []⟩⟩)], run := fun p k => (sum_l1 N N p.1.1 p.1.2.1 p.1.2.2.1 p.1.2.2.2.1).bind fun e => k (.inl ((e, ()), ())) }
theorem sum_l1_eq (N n_ : Nat) (n : Int) (u : List Int) (u2 : Int) (u3 : Int) : ev (Z := Int) Try.prog (sum_sp N) sum_B [] [sum_l1_h (sum_l1 N n_), sum_l1_e0] none 400 true sum_l1_at (stL sum_l1_st ((n, u, u2, u3, ()), ())) (stH sum_l1_st ((n, u, u2, u3, ()), ())) = sum_l1 N (n_ + 1) n u u2 u3 := by kernel_rfl
theorem sum_l1_ok (N : Nat) {top : Bool} : LoopOK Try.prog sum_B.c sum_B.n sum_B.m0 top (sum_l1_L N) := loop_of_ev (Z := Int) (N := N) (fun m p => sum_l1 N m p.1.1 p.1.2.1 p.1.2.2.1 p.1.2.2.2.1) (fun e => .inl ((e, ()), ())) (fun _ _ _ => rfl) (fun _ => rfl) (fun m z E Xc hE hX hrec hx => leaf_of_ev (B := sum_B) (loops := []) (leaves := [sum_l1_h (sum_l1 N m), sum_l1_e0]) (sum_all N) mixed trivial hE hX ⟨hrec, (fun p hp => by obtain rfl := Option.some.inj hp; exact hx), trivial⟩ RetOK.no (fun p => sum_l1_eq N m p.1.1 p.1.2.1 p.1.2.2.1 p.1.2.2.2.1))
abbrev sum_st : Sta := ⟨[0], ⟨[.sl (.int .i64)], []⟩⟩
theorem sum_eq (N : Nat) (l : List Int) : ev (Z := Int) Try.prog (sum_sp N) sum_B [sum_l1_L N] [] (some sum_rt) 400 false [.c [0], .c [1]] (stL sum_st ((l, ()), ())) (stH sum_st ((l, ()), ())) = sum_S N l := by kernel_rfl
noncomputable def sp_sum (N : Nat) : Spec := { f := 148, ins := ⟨[.sl (.int .i64)], []⟩, outs := [⟨[.i .i64], []⟩], run := fun p k => (sum_S N p.1.1).bind fun r => k ((r, ()), ()) }
theorem sp_sum_ok (N : Nat) : SpecOK Try.prog (sp_sum N) := fn_sound (B := sum_B) (loops := [sum_l1_L N]) (leaves := []) (fun p => sum_S N p.1.1) (fun r => ((r, ()), ())) sum_rt (fun _ _ _ => rfl) (fun r z h => by cases h; rfl) Try.func148 (by kernel_rfl) (by kernel_rfl) (by kernel_rfl) rfl rfl (by kernel_rfl) (fun args w => Sem.pv_run _ _ _ (by kernel_rfl) w) (sum_all N) mixed ⟨sum_l1_ok N, trivial⟩ (fun z E Xc hE hX hret => trivial) (fun p => sum_eq N p.1.1)

def word_S (N : Nat) (t : List (Int × (Int × Bool))) (t2 : List (Int × (Int × Int))) (t3 : Int) (n : Int) : Option Bool :=
  chk ((t.length : Int) - 1) <|
  (in__S N n 0 ((t.length : Int) - 1)).bind fun x_1 =>
  some x_1
noncomputable def word_sp (N : Nat) : List Spec := [sp_in_ N]
theorem word_all (N : Nat) : AllP (SpecOK Try.prog) (word_sp N) := ⟨sp_in__ok N, trivial⟩
noncomputable def word_c : Code := (Try.f109.body).getD .skip
noncomputable abbrev word_B : Body := { c := word_c, n := 11, res := [.tmp 4], outs := [⟨[.b], []⟩], m0 := 0 }
abbrev word_rt : altD word_B.outs → Option Bool := fun r => some r.1.1
abbrev word_st : Sta := ⟨[0, 1], ⟨[.agg [.sl (.pair (.int .i64) (.pair (.int .i64) .bool)), .sl (.pair (.int .i64) (.pair (.int .i64) (.int .i64))), .i .i64], .i .i64], []⟩⟩
theorem word_eq (N : Nat) (t : List (Int × (Int × Bool))) (t2 : List (Int × (Int × Int))) (t3 : Int) (n : Int) : ev (Z := Bool) Try.prog (word_sp N) word_B [] [] (some word_rt) 400 false [.c [0], .c [1]] (stL word_st (((t, t2, t3, ()), n, ()), ())) (stH word_st (((t, t2, t3, ()), n, ()), ())) = word_S N t t2 t3 n := by kernel_rfl
noncomputable def sp_word (N : Nat) : Spec := { f := 109, ins := ⟨[.agg [.sl (.pair (.int .i64) (.pair (.int .i64) .bool)), .sl (.pair (.int .i64) (.pair (.int .i64) (.int .i64))), .i .i64], .i .i64], []⟩, outs := [⟨[.b], []⟩], run := fun p k => (word_S N p.1.1.1 p.1.1.2.1 p.1.1.2.2.1 p.1.2.1).bind fun r => k ((r, ()), ()) }
theorem sp_word_ok (N : Nat) : SpecOK Try.prog (sp_word N) := fn_sound (B := word_B) (loops := []) (leaves := []) (fun p => word_S N p.1.1.1 p.1.1.2.1 p.1.1.2.2.1 p.1.2.1) (fun r => ((r, ()), ())) word_rt (fun _ _ _ => rfl) (fun r z h => by cases h; rfl) Try.func109 (by kernel_rfl) (by kernel_rfl) (by kernel_rfl) rfl rfl (by kernel_rfl) (fun args w => Sem.pv_run _ _ _ (by kernel_rfl) w) (word_all N) mixed trivial (fun z E Xc hE hX hret => trivial) (fun p => word_eq N p.1.1.1 p.1.1.2.1 p.1.1.2.2.1 p.1.2.1)

def check1_S (N : Nat) (w : Int) (w2 : Int) (w3 : Bool) : Option Bool :=
  (in__S N w 1 9).bind fun x_1 =>
  br x_1
    ((in__S N w2 0 20).bind fun x_2 =>
    some x_2)
    (some false)
noncomputable def check1_sp (N : Nat) : List Spec := [sp_in_ N]
theorem check1_all (N : Nat) : AllP (SpecOK Try.prog) (check1_sp N) := ⟨sp_in__ok N, trivial⟩
noncomputable def check1_c : Code := (Try.f106.body).getD .skip
noncomputable abbrev check1_B : Body := { c := check1_c, n := 11, res := [.tmp 2], outs := [⟨[.b], []⟩], m0 := 0 }
abbrev check1_rt : altD check1_B.outs → Option Bool := fun r => some r.1.1
abbrev check1_st : Sta := ⟨[0], ⟨[.agg [.i .i64, .i .i64, .b]], []⟩⟩
theorem check1_eq (N : Nat) (w : Int) (w2 : Int) (w3 : Bool) : ev (Z := Bool) Try.prog (check1_sp N) check1_B [] [] (some check1_rt) 400 false [.c [0], .c [1]] (stL check1_st (((w, w2, w3, ()), ()), ())) (stH check1_st (((w, w2, w3, ()), ()), ())) = check1_S N w w2 w3 := by kernel_rfl
noncomputable def sp_check1 (N : Nat) : Spec := { f := 106, ins := ⟨[.agg [.i .i64, .i .i64, .b]], []⟩, outs := [⟨[.b], []⟩], run := fun p k => (check1_S N p.1.1.1 p.1.1.2.1 p.1.1.2.2.1).bind fun r => k ((r, ()), ()) }
theorem sp_check1_ok (N : Nat) : SpecOK Try.prog (sp_check1 N) := fn_sound (B := check1_B) (loops := []) (leaves := []) (fun p => check1_S N p.1.1.1 p.1.1.2.1 p.1.1.2.2.1) (fun r => ((r, ()), ())) check1_rt (fun _ _ _ => rfl) (fun r z h => by cases h; rfl) Try.func106 (by kernel_rfl) (by kernel_rfl) (by kernel_rfl) rfl rfl (by kernel_rfl) (fun args w => Sem.pv_run _ _ _ (by kernel_rfl) w) (check1_all N) mixed trivial (fun z E Xc hE hX hret => trivial) (fun p => check1_eq N p.1.1.1 p.1.1.2.1 p.1.1.2.2.1)

def check2_S (N : Nat) (x : Int) (x2 : Int) (x3 : Int) (u : ((List (Int × (Int × Bool))) × ((List (Int × (Int × Int))) × Int))) : Option Bool :=
  (word_S N u.1 u.2.1 u.2.2 x).bind fun x_1 =>
  br x_1
    ((word_S N u.1 u.2.1 u.2.2 x2).bind fun x_2 =>
    br x_2
      ((word_S N u.1 u.2.1 u.2.2 x3).bind fun x_3 =>
      some x_3)
      (some false))
    (some false)
noncomputable def check2_sp (N : Nat) : List Spec := [sp_word N]
theorem check2_all (N : Nat) : AllP (SpecOK Try.prog) (check2_sp N) := ⟨sp_word_ok N, trivial⟩
noncomputable def check2_c : Code := (Try.f108.body).getD .skip
noncomputable abbrev check2_B : Body := { c := check2_c, n := 22, res := [.tmp 3], outs := [⟨[.b], []⟩], m0 := 0 }
abbrev check2_rt : altD check2_B.outs → Option Bool := fun r => some r.1.1
abbrev check2_st : Sta := ⟨[0, 1], ⟨[.agg [.i .i64, .i .i64, .i .i64], .fe (.pair (.sl (.pair (.int .i64) (.pair (.int .i64) .bool))) (.pair (.sl (.pair (.int .i64) (.pair (.int .i64) (.int .i64)))) (.int .i64)))], []⟩⟩
theorem check2_eq (N : Nat) (x : Int) (x2 : Int) (x3 : Int) (u : ((List (Int × (Int × Bool))) × ((List (Int × (Int × Int))) × Int))) : ev (Z := Bool) Try.prog (check2_sp N) check2_B [] [] (some check2_rt) 400 false [.c [0], .c [1]] (stL check2_st (((x, x2, x3, ()), u, ()), ())) (stH check2_st (((x, x2, x3, ()), u, ()), ())) = check2_S N x x2 x3 u := by kernel_rfl
noncomputable def sp_check2 (N : Nat) : Spec := { f := 108, ins := ⟨[.agg [.i .i64, .i .i64, .i .i64], .fe (.pair (.sl (.pair (.int .i64) (.pair (.int .i64) .bool))) (.pair (.sl (.pair (.int .i64) (.pair (.int .i64) (.int .i64)))) (.int .i64)))], []⟩, outs := [⟨[.b], []⟩], run := fun p k => (check2_S N p.1.1.1 p.1.1.2.1 p.1.1.2.2.1 p.1.2.1).bind fun r => k ((r, ()), ()) }
theorem sp_check2_ok (N : Nat) : SpecOK Try.prog (sp_check2 N) := fn_sound (B := check2_B) (loops := []) (leaves := []) (fun p => check2_S N p.1.1.1 p.1.1.2.1 p.1.1.2.2.1 p.1.2.1) (fun r => ((r, ()), ())) check2_rt (fun _ _ _ => rfl) (fun r z h => by cases h; rfl) Try.func108 (by kernel_rfl) (by kernel_rfl) (by kernel_rfl) rfl rfl (by kernel_rfl) (fun args w => Sem.pv_run _ _ _ (by kernel_rfl) w) (check2_all N) mixed trivial (fun z E Xc hE hX hret => trivial) (fun p => check2_eq N p.1.1.1 p.1.1.2.1 p.1.1.2.2.1 p.1.2.1)

def check3_S (N : Nat) (x : Int) (x2 : Int) (x3 : Int) : Option Bool :=
  some (decide (x2 ≤ x3))
noncomputable def check3_sp (N : Nat) : List Spec := []
theorem check3_all (N : Nat) : AllP (SpecOK Try.prog) (check3_sp N) := trivial
noncomputable def check3_c : Code := (Try.f110.body).getD .skip
noncomputable abbrev check3_B : Body := { c := check3_c, n := 10, res := [.tmp 2], outs := [⟨[.b], []⟩], m0 := 0 }
abbrev check3_rt : altD check3_B.outs → Option Bool := fun r => some r.1.1
abbrev check3_st : Sta := ⟨[0], ⟨[.agg [.i .i64, .i .i64, .i .i64]], []⟩⟩
theorem check3_eq (N : Nat) (x : Int) (x2 : Int) (x3 : Int) : ev (Z := Bool) Try.prog (check3_sp N) check3_B [] [] (some check3_rt) 400 false [.c [0], .c [1]] (stL check3_st (((x, x2, x3, ()), ()), ())) (stH check3_st (((x, x2, x3, ()), ()), ())) = check3_S N x x2 x3 := by kernel_rfl
noncomputable def sp_check3 (N : Nat) : Spec := { f := 110, ins := ⟨[.agg [.i .i64, .i .i64, .i .i64]], []⟩, outs := [⟨[.b], []⟩], run := fun p k => (check3_S N p.1.1.1 p.1.1.2.1 p.1.1.2.2.1).bind fun r => k ((r, ()), ()) }
theorem sp_check3_ok (N : Nat) : SpecOK Try.prog (sp_check3 N) := fn_sound (B := check3_B) (loops := []) (leaves := []) (fun p => check3_S N p.1.1.1 p.1.1.2.1 p.1.1.2.2.1) (fun r => ((r, ()), ())) check3_rt (fun _ _ _ => rfl) (fun r z h => by cases h; rfl) Try.func110 (by kernel_rfl) (by kernel_rfl) (by kernel_rfl) rfl rfl (by kernel_rfl) (fun args w => Sem.pv_run _ _ _ (by kernel_rfl) w) (check3_all N) mixed trivial (fun z E Xc hE hX hret => trivial) (fun p => check3_eq N p.1.1.1 p.1.1.2.1 p.1.1.2.2.1)

def check4_S (N : Nat) (x : Int) (x2 : Int) (x3 : Int) : Option Bool :=
  (in__S N x x2 x3).bind fun x_1 =>
  some (!x_1)
noncomputable def check4_sp (N : Nat) : List Spec := [sp_in_ N]
theorem check4_all (N : Nat) : AllP (SpecOK Try.prog) (check4_sp N) := ⟨sp_in__ok N, trivial⟩
noncomputable def check4_c : Code := (Try.f111.body).getD .skip
noncomputable abbrev check4_B : Body := { c := check4_c, n := 13, res := [.tmp 2], outs := [⟨[.b], []⟩], m0 := 0 }
abbrev check4_rt : altD check4_B.outs → Option Bool := fun r => some r.1.1
abbrev check4_st : Sta := ⟨[0], ⟨[.agg [.i .i64, .i .i64, .i .i64]], []⟩⟩
theorem check4_eq (N : Nat) (x : Int) (x2 : Int) (x3 : Int) : ev (Z := Bool) Try.prog (check4_sp N) check4_B [] [] (some check4_rt) 400 false [.c [0], .c [1]] (stL check4_st (((x, x2, x3, ()), ()), ())) (stH check4_st (((x, x2, x3, ()), ()), ())) = check4_S N x x2 x3 := by kernel_rfl
noncomputable def sp_check4 (N : Nat) : Spec := { f := 111, ins := ⟨[.agg [.i .i64, .i .i64, .i .i64]], []⟩, outs := [⟨[.b], []⟩], run := fun p k => (check4_S N p.1.1.1 p.1.1.2.1 p.1.1.2.2.1).bind fun r => k ((r, ()), ()) }
theorem sp_check4_ok (N : Nat) : SpecOK Try.prog (sp_check4 N) := fn_sound (B := check4_B) (loops := []) (leaves := []) (fun p => check4_S N p.1.1.1 p.1.1.2.1 p.1.1.2.2.1) (fun r => ((r, ()), ())) check4_rt (fun _ _ _ => rfl) (fun r z h => by cases h; rfl) Try.func111 (by kernel_rfl) (by kernel_rfl) (by kernel_rfl) rfl rfl (by kernel_rfl) (fun args w => Sem.pv_run _ _ _ (by kernel_rfl) w) (check4_all N) mixed trivial (fun z E Xc hE hX hret => trivial) (fun p => check4_eq N p.1.1.1 p.1.1.2.1 p.1.1.2.2.1)

def every1w_S (N : Nat) (x : Int) (x2 : Int) (x3 : Bool) : Option Bool :=
  (check1_S N x x2 x3).bind fun x_1 =>
  some (!x_1)
noncomputable def every1w_sp (N : Nat) : List Spec := [sp_check1 N]
theorem every1w_all (N : Nat) : AllP (SpecOK Try.prog) (every1w_sp N) := ⟨sp_check1_ok N, trivial⟩
noncomputable def every1w_c : Code := (Try.f149.body).getD .skip
noncomputable abbrev every1w_B : Body := { c := every1w_c, n := 8, res := [.tmp 3], outs := [⟨[.b], [.segs [.fn 106 [] []]]⟩], m0 := 1 }
abbrev every1w_rt : altD every1w_B.outs → Option Bool := fun r => some r.1.1
abbrev every1w_st : Sta := ⟨[0, 1], ⟨[.agg [.i .i64, .i .i64, .b], .own 0 0], [.segs [.fn 106 [] []]]⟩⟩
theorem every1w_eq (N : Nat) (x : Int) (x2 : Int) (x3 : Bool) : ev (Z := Bool) Try.prog (every1w_sp N) every1w_B [] [] (some every1w_rt) 400 false [.c [0], .c [1]] (stL every1w_st (((x, x2, x3, ()), (), ()), ((((), ()), ()), ()))) (stH every1w_st (((x, x2, x3, ()), (), ()), ((((), ()), ()), ()))) = every1w_S N x x2 x3 := by kernel_rfl
noncomputable def sp_every1w (N : Nat) : Spec := { f := 149, ins := ⟨[.agg [.i .i64, .i .i64, .b], .own 0 0], [.segs [.fn 106 [] []]]⟩, outs := [⟨[.b], [.segs [.fn 106 [] []]]⟩], run := fun p k => (every1w_S N p.1.1.1 p.1.1.2.1 p.1.1.2.2.1).bind fun r => k ((r, ()), ((((), ()), ()), ())) }
theorem sp_every1w_ok (N : Nat) : SpecOK Try.prog (sp_every1w N) := fn_sound (B := every1w_B) (loops := []) (leaves := []) (fun p => every1w_S N p.1.1.1 p.1.1.2.1 p.1.1.2.2.1) (fun r => ((r, ()), ((((), ()), ()), ()))) every1w_rt (fun _ _ _ => rfl) (fun r z h => by cases h; rfl) Try.func149 (by kernel_rfl) (by kernel_rfl) (by kernel_rfl) rfl rfl (by kernel_rfl) (fun args w => Sem.pv_run _ _ _ (by kernel_rfl) w) (every1w_all N) mixed trivial (fun z E Xc hE hX hret => trivial) (fun p => every1w_eq N p.1.1.1 p.1.1.2.1 p.1.1.2.2.1)

def ixfw_l1 (N : Nat) : Nat → (List (Int × (Int × Bool))) → Int → Int → Option ((Int) ⊕ (Unit))
  | 0, _, _, _ => none
  | n_ + 1, s, u, u2 =>
    br (decide (u2 < u))
      (idx s u2 fun x_1 =>
      (every1w_S N x_1.1 x_1.2.1 x_1.2.2).bind fun x_2 =>
      br x_2
        (some (.inl u2))
        (chk (u2 + 1) <|
        ixfw_l1 N n_ s u (u2 + 1)))
      (some (.inr ()))
def ixfw_S (N : Nat) (s : List (Int × (Int × Bool))) : Option Int :=
  (ixfw_l1 N N s (s.length : Int) 0).bind fun e => match e with
  | .inl i_3 =>
    some i_3
  | .inr _ =>
    some (-1)
noncomputable def ixfw_sp (N : Nat) : List Spec := [sp_every1w N]
theorem ixfw_all (N : Nat) : AllP (SpecOK Try.prog) (ixfw_sp N) := ⟨sp_every1w_ok N, trivial⟩
noncomputable def ixfw_c : Code := (Try.f156.body).getD .skip
noncomputable abbrev ixfw_B : Body := { c := ixfw_c, n := 19, res := [.tmp 4], outs := [⟨[.i .i64], [.segs [.fn 106 [] []]]⟩], m0 := 1 }
abbrev ixfw_rt : altD ixfw_B.outs → Option Int := fun r => some r.1.1
abbrev ixfw_l1_at : List PI := [.c [1, 0, 1, 0, 0, 0], .c [1, 0, 1, 0, 0, 1], .l [1, 0, 1, 0, 0], .b 0, .c [1, 1]]
abbrev ixfw_l1_st : Sta := ⟨[0, 1, 7, 8], ⟨[.sl (.pair (.int .i64) (.pair (.int .i64) .bool)), .fn 149 [] [.own 0 0], .i .i64, .i .i64], [.segs [.fn 106 [] []]]⟩⟩
abbrev ixfw_l1_h (rec : (List (Int × (Int × Bool))) → Int → Int → Option ((Int) ⊕ (Unit))) : Leaf ((Int) ⊕ (Unit)) := ⟨ixfw_l1_at, ixfw_l1_st, fun p => rec p.1.1 p.1.2.2.1 p.1.2.2.2.1⟩
abbrev ixfw_l1_e0 : Leaf ((Int) ⊕ (Unit)) := ⟨[.c [1, 0, 1, 0, 0, 1, 1, 0, 0, 1, 1, 0, 0], .c [1, 0, 1, 0, 0, 1, 1, 0, 0, 1, 1, 0, 1], .b 1, .c [1, 0, 1, 0, 0, 1, 1, 1], .l [1, 0, 1, 0, 0], .b 0, .c [1, 1]], ⟨[5], ⟨[.i .i64], [.segs [.fn 106 [] []]]⟩⟩, fun p => some (.inl p.1.1)⟩
abbrev ixfw_l1_e1 : Leaf ((Int) ⊕ (Unit)) := ⟨[.c [1, 1, 0], .c [1, 1, 1]], ⟨[], ⟨[], [.segs [.fn 106 [] []]]⟩⟩, fun p => some (.inr ())⟩
noncomputable def ixfw_l1_L (N : Nat) : LoopS := { at_ := ixfw_l1_at, sta := ixfw_l1_st, exits := [([.c [1, 0, 1, 0, 0, 1, 1, 0, 0, 1, 1, 0, 0], .c [1, 0, 1, 0, 0, 1, 1, 0, 0, 1, 1, 0, 1], .b 1, .c [1, 0, 1, 0, 0, 1, 1, 1], .l [1, 0, 1, 0, 0], .b 0, .c [1, 1]], ⟨[5], ⟨[.i .i64], [.segs [.fn 106 [] []]]⟩⟩), ([.c [1, 1, 0], .c [1, 1, 1]], ⟨[], ⟨[], [.segs [.fn 106 [] []]]⟩⟩)], run := fun p k => (ixfw_l1 N N p.1.1 p.1.2.2.1 p.1.2.2.2.1).bind fun e => match e with | .inl x => k (.inl ((x, ()), ((((), ()), ()), ()))) | .inr x => k (.inr (.inl ((), ((((), ()), ()), ())))) }
theorem ixfw_l1_eq (N n_ : Nat) (s : List (Int × (Int × Bool))) (u : Int) (u2 : Int) : ev (Z := (Int) ⊕ (Unit)) Try.prog (ixfw_sp N) ixfw_B [] [ixfw_l1_h (ixfw_l1 N n_), ixfw_l1_e0, ixfw_l1_e1] none 400 true ixfw_l1_at (stL ixfw_l1_st ((s, ((), ((), ())), u, u2, ()), ((((), ()), ()), ()))) (stH ixfw_l1_st ((s, ((), ((), ())), u, u2, ()), ((((), ()), ()), ()))) = ixfw_l1 N (n_ + 1) s u u2 := by kernel_rfl
theorem ixfw_l1_ok (N : Nat) {top : Bool} : LoopOK Try.prog ixfw_B.c ixfw_B.n ixfw_B.m0 top (ixfw_l1_L N) := loop_of_ev (Z := (Int) ⊕ (Unit)) (N := N) (fun m p => ixfw_l1 N m p.1.1 p.1.2.2.1 p.1.2.2.2.1) (fun e => match e with | .inl x => .inl ((x, ()), ((((), ()), ()), ())) | .inr x => .inr (.inl ((), ((((), ()), ()), ())))) (fun _ p k => bind_congr_ (ixfw_l1 N N p.1.1 p.1.2.2.1 p.1.2.2.2.1) _ _ (fun e => by rcases e with x | x <;> rfl)) (fun _ => rfl) (fun m z E Xc hE hX hrec hx => leaf_of_ev (B := ixfw_B) (loops := []) (leaves := [ixfw_l1_h (ixfw_l1 N m), ixfw_l1_e0, ixfw_l1_e1]) (ixfw_all N) mixed trivial hE hX ⟨hrec, (fun p hp => by obtain rfl := Option.some.inj hp; exact hx), (fun p hp => by obtain rfl := Option.some.inj hp; exact hx), trivial⟩ RetOK.no (fun p => ixfw_l1_eq N m p.1.1 p.1.2.2.1 p.1.2.2.2.1))
abbrev ixfw_st : Sta := ⟨[0, 1], ⟨[.sl (.pair (.int .i64) (.pair (.int .i64) .bool)), .fn 149 [] [.own 0 0]], [.segs [.fn 106 [] []]]⟩⟩
theorem ixfw_eq (N : Nat) (s : List (Int × (Int × Bool))) : ev (Z := Int) Try.prog (ixfw_sp N) ixfw_B [ixfw_l1_L N] [] (some ixfw_rt) 400 false [.c [0], .c [1]] (stL ixfw_st ((s, ((), ((), ())), ()), ((((), ()), ()), ()))) (stH ixfw_st ((s, ((), ((), ())), ()), ((((), ()), ()), ()))) = ixfw_S N s := by kernel_rfl
noncomputable def sp_ixfw (N : Nat) : Spec := { f := 156, ins := ⟨[.sl (.pair (.int .i64) (.pair (.int .i64) .bool)), .fn 149 [] [.own 0 0]], [.segs [.fn 106 [] []]]⟩, outs := [⟨[.i .i64], [.segs [.fn 106 [] []]]⟩], run := fun p k => (ixfw_S N p.1.1).bind fun r => k ((r, ()), ((((), ()), ()), ())) }
theorem sp_ixfw_ok (N : Nat) : SpecOK Try.prog (sp_ixfw N) := fn_sound (B := ixfw_B) (loops := [ixfw_l1_L N]) (leaves := []) (fun p => ixfw_S N p.1.1) (fun r => ((r, ()), ((((), ()), ()), ()))) ixfw_rt (fun _ _ _ => rfl) (fun r z h => by cases h; rfl) Try.func156 (by kernel_rfl) (by kernel_rfl) (by kernel_rfl) rfl rfl (by kernel_rfl) (fun args w => Sem.pv_run _ _ _ (by kernel_rfl) w) (ixfw_all N) mixed ⟨ixfw_l1_ok N, trivial⟩ (fun z E Xc hE hX hret => trivial) (fun p => ixfw_eq N p.1.1)

def cofw_S (N : Nat) (s : List (Int × (Int × Bool))) : Option Bool :=
  (ixfw_S N s).bind fun x_1 =>
  some (decide (0 ≤ x_1))
noncomputable def cofw_sp (N : Nat) : List Spec := [sp_ixfw N]
theorem cofw_all (N : Nat) : AllP (SpecOK Try.prog) (cofw_sp N) := ⟨sp_ixfw_ok N, trivial⟩
noncomputable def cofw_c : Code := (Try.f136.body).getD .skip
noncomputable abbrev cofw_B : Body := { c := cofw_c, n := 9, res := [.tmp 4], outs := [⟨[.b], [.segs [.fn 106 [] []]]⟩], m0 := 1 }
abbrev cofw_rt : altD cofw_B.outs → Option Bool := fun r => some r.1.1
abbrev cofw_st : Sta := ⟨[0, 1], ⟨[.sl (.pair (.int .i64) (.pair (.int .i64) .bool)), .fn 149 [] [.own 0 0]], [.segs [.fn 106 [] []]]⟩⟩
theorem cofw_eq (N : Nat) (s : List (Int × (Int × Bool))) : ev (Z := Bool) Try.prog (cofw_sp N) cofw_B [] [] (some cofw_rt) 400 false [.c [0], .c [1]] (stL cofw_st ((s, ((), ((), ())), ()), ((((), ()), ()), ()))) (stH cofw_st ((s, ((), ((), ())), ()), ((((), ()), ()), ()))) = cofw_S N s := by kernel_rfl
noncomputable def sp_cofw (N : Nat) : Spec := { f := 136, ins := ⟨[.sl (.pair (.int .i64) (.pair (.int .i64) .bool)), .fn 149 [] [.own 0 0]], [.segs [.fn 106 [] []]]⟩, outs := [⟨[.b], [.segs [.fn 106 [] []]]⟩], run := fun p k => (cofw_S N p.1.1).bind fun r => k ((r, ()), ((((), ()), ()), ())) }
theorem sp_cofw_ok (N : Nat) : SpecOK Try.prog (sp_cofw N) := fn_sound (B := cofw_B) (loops := []) (leaves := []) (fun p => cofw_S N p.1.1) (fun r => ((r, ()), ((((), ()), ()), ()))) cofw_rt (fun _ _ _ => rfl) (fun r z h => by cases h; rfl) Try.func136 (by kernel_rfl) (by kernel_rfl) (by kernel_rfl) rfl rfl (by kernel_rfl) (fun args w => Sem.pv_run _ _ _ (by kernel_rfl) w) (cofw_all N) mixed trivial (fun z E Xc hE hX hret => trivial) (fun p => cofw_eq N p.1.1)

def everyw_S (N : Nat) (l : List (Int × (Int × Bool))) : Option Bool :=
  (cofw_S N l).bind fun x_1 =>
  some (!x_1)
noncomputable def everyw_sp (N : Nat) : List Spec := [sp_cofw N]
theorem everyw_all (N : Nat) : AllP (SpecOK Try.prog) (everyw_sp N) := ⟨sp_cofw_ok N, trivial⟩
noncomputable def everyw_c : Code := (Try.f105.body).getD .skip
noncomputable abbrev everyw_B : Body := { c := everyw_c, n := 9, res := [.tmp 4], outs := [⟨[.b], []⟩], m0 := 0 }
abbrev everyw_rt : altD everyw_B.outs → Option Bool := fun r => some r.1.1
abbrev everyw_st : Sta := ⟨[0, 1], ⟨[.sl (.pair (.int .i64) (.pair (.int .i64) .bool)), .fn 106 [] []], []⟩⟩
theorem everyw_eq (N : Nat) (l : List (Int × (Int × Bool))) : ev (Z := Bool) Try.prog (everyw_sp N) everyw_B [] [] (some everyw_rt) 400 false [.c [0], .c [1]] (stL everyw_st ((l, ((), ()), ()), ())) (stH everyw_st ((l, ((), ()), ()), ())) = everyw_S N l := by kernel_rfl
noncomputable def sp_everyw (N : Nat) : Spec := { f := 105, ins := ⟨[.sl (.pair (.int .i64) (.pair (.int .i64) .bool)), .fn 106 [] []], []⟩, outs := [⟨[.b], []⟩], run := fun p k => (everyw_S N p.1.1).bind fun r => k ((r, ()), ()) }
theorem sp_everyw_ok (N : Nat) : SpecOK Try.prog (sp_everyw N) := fn_sound (B := everyw_B) (loops := []) (leaves := []) (fun p => everyw_S N p.1.1) (fun r => ((r, ()), ())) everyw_rt (fun _ _ _ => rfl) (fun r z h => by cases h; rfl) Try.func105 (by kernel_rfl) (by kernel_rfl) (by kernel_rfl) rfl rfl (by kernel_rfl) (fun args w => Sem.pv_run _ _ _ (by kernel_rfl) w) (everyw_all N) mixed trivial (fun z E Xc hE hX hret => trivial) (fun p => everyw_eq N p.1.1)

def every1t2_S (N : Nat) (x : Int) (x2 : Int) (x3 : Int) (g : ((List (Int × (Int × Bool))) × ((List (Int × (Int × Int))) × Int))) : Option (Bool × ((List (Int × (Int × Bool))) × ((List (Int × (Int × Int))) × Int))) :=
  (check2_S N x x2 x3 g).bind fun x_1 =>
  some ((!x_1), g)
noncomputable def every1t2_sp (N : Nat) : List Spec := [sp_check2 N]
theorem every1t2_all (N : Nat) : AllP (SpecOK Try.prog) (every1t2_sp N) := ⟨sp_check2_ok N, trivial⟩
noncomputable def every1t2_c : Code := (Try.f150.body).getD .skip
noncomputable abbrev every1t2_B : Body := { c := every1t2_c, n := 8, res := [.tmp 3], outs := [⟨[.b], [.segs [.fn 108 [] [.fe (.pair (.sl (.pair (.int .i64) (.pair (.int .i64) .bool))) (.pair (.sl (.pair (.int .i64) (.pair (.int .i64) (.int .i64)))) (.int .i64)))]]]⟩], m0 := 1 }
abbrev every1t2_rt : altD every1t2_B.outs → Option (Bool × ((List (Int × (Int × Bool))) × ((List (Int × (Int × Int))) × Int))) := fun r => some (r.1.1, r.2.1.1.2.1)
abbrev every1t2_st : Sta := ⟨[0, 1], ⟨[.agg [.i .i64, .i .i64, .i .i64], .own 0 0], [.segs [.fn 108 [] [.fe (.pair (.sl (.pair (.int .i64) (.pair (.int .i64) .bool))) (.pair (.sl (.pair (.int .i64) (.pair (.int .i64) (.int .i64)))) (.int .i64)))]]]⟩⟩
theorem every1t2_eq (N : Nat) (x : Int) (x2 : Int) (x3 : Int) (g : ((List (Int × (Int × Bool))) × ((List (Int × (Int × Int))) × Int))) : ev (Z := Bool × ((List (Int × (Int × Bool))) × ((List (Int × (Int × Int))) × Int))) Try.prog (every1t2_sp N) every1t2_B [] [] (some every1t2_rt) 400 false [.c [0], .c [1]] (stL every1t2_st (((x, x2, x3, ()), (), ()), ((((), (g, ())), ()), ()))) (stH every1t2_st (((x, x2, x3, ()), (), ()), ((((), (g, ())), ()), ()))) = every1t2_S N x x2 x3 g := by kernel_rfl
noncomputable def sp_every1t2 (N : Nat) : Spec := { f := 150, ins := ⟨[.agg [.i .i64, .i .i64, .i .i64], .own 0 0], [.segs [.fn 108 [] [.fe (.pair (.sl (.pair (.int .i64) (.pair (.int .i64) .bool))) (.pair (.sl (.pair (.int .i64) (.pair (.int .i64) (.int .i64)))) (.int .i64)))]]]⟩, outs := [⟨[.b], [.segs [.fn 108 [] [.fe (.pair (.sl (.pair (.int .i64) (.pair (.int .i64) .bool))) (.pair (.sl (.pair (.int .i64) (.pair (.int .i64) (.int .i64)))) (.int .i64)))]]]⟩], run := fun p k => (every1t2_S N p.1.1.1 p.1.1.2.1 p.1.1.2.2.1 p.2.1.1.2.1).bind fun r => k ((r.1, ()), ((((), (r.2, ())), ()), ())) }
theorem sp_every1t2_ok (N : Nat) : SpecOK Try.prog (sp_every1t2 N) := fn_sound (B := every1t2_B) (loops := []) (leaves := []) (fun p => every1t2_S N p.1.1.1 p.1.1.2.1 p.1.1.2.2.1 p.2.1.1.2.1) (fun r => ((r.1, ()), ((((), (r.2, ())), ()), ()))) every1t2_rt (fun _ _ _ => rfl) (fun r z h => by cases h; rfl) Try.func150 (by kernel_rfl) (by kernel_rfl) (by kernel_rfl) rfl rfl (by kernel_rfl) (fun args w => Sem.pv_run _ _ _ (by kernel_rfl) w) (every1t2_all N) mixed trivial (fun z E Xc hE hX hret => trivial) (fun p => every1t2_eq N p.1.1.1 p.1.1.2.1 p.1.1.2.2.1 p.2.1.1.2.1)

def ixft2_l1 (N : Nat) : Nat → (List (Int × (Int × Int))) → Int → Int → (((List (Int × (Int × Bool))) × ((List (Int × (Int × Int))) × Int))) → Option ((Int × ((List (Int × (Int × Bool))) × ((List (Int × (Int × Int))) × Int))) ⊕ (((List (Int × (Int × Bool))) × ((List (Int × (Int × Int))) × Int))))
  | 0, _, _, _, _ => none
  | n_ + 1, s, u, u2, f =>
    br (decide (u2 < u))
      (idx s u2 fun x_1 =>
      (every1t2_S N x_1.1 x_1.2.1 x_1.2.2 f).bind fun (x_2, y_3) =>
      br x_2
        (some (.inl (u2, y_3)))
        (chk (u2 + 1) <|
        ixft2_l1 N n_ s u (u2 + 1) y_3))
      (some (.inr f))
def ixft2_S (N : Nat) (s : List (Int × (Int × Int))) (f : ((List (Int × (Int × Bool))) × ((List (Int × (Int × Int))) × Int))) : Option (Int × ((List (Int × (Int × Bool))) × ((List (Int × (Int × Int))) × Int))) :=
  (ixft2_l1 N N s (s.length : Int) 0 f).bind fun e => match e with
  | .inl (i_4, g_5) =>
    some (i_4, g_5)
  | .inr g_6 =>
    some (-1, g_6)
noncomputable def ixft2_sp (N : Nat) : List Spec := [sp_every1t2 N]
theorem ixft2_all (N : Nat) : AllP (SpecOK Try.prog) (ixft2_sp N) := ⟨sp_every1t2_ok N, trivial⟩
noncomputable def ixft2_c : Code := (Try.f134.body).getD .skip
noncomputable abbrev ixft2_B : Body := { c := ixft2_c, n := 19, res := [.tmp 4], outs := [⟨[.i .i64], [.segs [.fn 108 [] [.fe (.pair (.sl (.pair (.int .i64) (.pair (.int .i64) .bool))) (.pair (.sl (.pair (.int .i64) (.pair (.int .i64) (.int .i64)))) (.int .i64)))]]]⟩], m0 := 1 }
abbrev ixft2_rt : altD ixft2_B.outs → Option (Int × ((List (Int × (Int × Bool))) × ((List (Int × (Int × Int))) × Int))) := fun r => some (r.1.1, r.2.1.1.2.1)
abbrev ixft2_l1_at : List PI := [.c [1, 0, 1, 0, 0, 0], .c [1, 0, 1, 0, 0, 1], .l [1, 0, 1, 0, 0], .b 0, .c [1, 1]]
abbrev ixft2_l1_st : Sta := ⟨[0, 1, 7, 8], ⟨[.sl (.pair (.int .i64) (.pair (.int .i64) (.int .i64))), .fn 150 [] [.own 0 0], .i .i64, .i .i64], [.segs [.fn 108 [] [.fe (.pair (.sl (.pair (.int .i64) (.pair (.int .i64) .bool))) (.pair (.sl (.pair (.int .i64) (.pair (.int .i64) (.int .i64)))) (.int .i64)))]]]⟩⟩
abbrev ixft2_l1_h (rec : (List (Int × (Int × Int))) → Int → Int → (((List (Int × (Int × Bool))) × ((List (Int × (Int × Int))) × Int))) → Option ((Int × ((List (Int × (Int × Bool))) × ((List (Int × (Int × Int))) × Int))) ⊕ (((List (Int × (Int × Bool))) × ((List (Int × (Int × Int))) × Int))))) : Leaf ((Int × ((List (Int × (Int × Bool))) × ((List (Int × (Int × Int))) × Int))) ⊕ (((List (Int × (Int × Bool))) × ((List (Int × (Int × Int))) × Int)))) := ⟨ixft2_l1_at, ixft2_l1_st, fun p => rec p.1.1 p.1.2.2.1 p.1.2.2.2.1 p.2.1.1.2.1⟩
abbrev ixft2_l1_e0 : Leaf ((Int × ((List (Int × (Int × Bool))) × ((List (Int × (Int × Int))) × Int))) ⊕ (((List (Int × (Int × Bool))) × ((List (Int × (Int × Int))) × Int)))) := ⟨[.c [1, 0, 1, 0, 0, 1, 1, 0, 0, 1, 1, 0, 0], .c [1, 0, 1, 0, 0, 1, 1, 0, 0, 1, 1, 0, 1], .b 1, .c [1, 0, 1, 0, 0, 1, 1, 1], .l [1, 0, 1, 0, 0], .b 0, .c [1, 1]], ⟨[5], ⟨[.i .i64], [.segs [.fn 108 [] [.fe (.pair (.sl (.pair (.int .i64) (.pair (.int .i64) .bool))) (.pair (.sl (.pair (.int .i64) (.pair (.int .i64) (.int .i64)))) (.int .i64)))]]]⟩⟩, fun p => some (.inl (p.1.1, p.2.1.1.2.1))⟩
abbrev ixft2_l1_e1 : Leaf ((Int × ((List (Int × (Int × Bool))) × ((List (Int × (Int × Int))) × Int))) ⊕ (((List (Int × (Int × Bool))) × ((List (Int × (Int × Int))) × Int)))) := ⟨[.c [1, 1, 0], .c [1, 1, 1]], ⟨[], ⟨[], [.segs [.fn 108 [] [.fe (.pair (.sl (.pair (.int .i64) (.pair (.int .i64) .bool))) (.pair (.sl (.pair (.int .i64) (.pair (.int .i64) (.int .i64)))) (.int .i64)))]]]⟩⟩, fun p => some (.inr p.2.1.1.2.1)⟩
noncomputable def ixft2_l1_L (N : Nat) : LoopS := { at_ := ixft2_l1_at, sta := ixft2_l1_st, exits := [([.c [1, 0, 1, 0, 0, 1, 1, 0, 0, 1, 1, 0, 0], .c [1, 0, 1, 0, 0, 1, 1, 0, 0, 1, 1, 0, 1], .b 1, .c [1, 0, 1, 0, 0, 1, 1, 1], .l [1, 0, 1, 0, 0], .b 0, .c [1, 1]], ⟨[5], ⟨[.i .i64], [.segs [.fn 108 [] [.fe (.pair (.sl (.pair (.int .i64) (.pair (.int .i64) .bool))) (.pair (.sl (.pair (.int .i64) (.pair (.int .i64) (.int .i64)))) (.int .i64)))]]]⟩⟩), ([.c [1, 1, 0], .c [1, 1, 1]], ⟨[], ⟨[], [.segs [.fn 108 [] [.fe (.pair (.sl (.pair (.int .i64) (.pair (.int .i64) .bool))) (.pair (.sl (.pair (.int .i64) (.pair (.int .i64) (.int .i64)))) (.int .i64)))]]]⟩⟩)], run := fun p k => (ixft2_l1 N N p.1.1 p.1.2.2.1 p.1.2.2.2.1 p.2.1.1.2.1).bind fun e => match e with | .inl x => k (.inl ((x.1, ()), ((((), (x.2, ())), ()), ()))) | .inr x => k (.inr (.inl ((), ((((), (x, ())), ()), ())))) }
theorem ixft2_l1_eq (N n_ : Nat) (s : List (Int × (Int × Int))) (u : Int) (u2 : Int) (f : ((List (Int × (Int × Bool))) × ((List (Int × (Int × Int))) × Int))) : ev (Z := (Int × ((List (Int × (Int × Bool))) × ((List (Int × (Int × Int))) × Int))) ⊕ (((List (Int × (Int × Bool))) × ((List (Int × (Int × Int))) × Int)))) Try.prog (ixft2_sp N) ixft2_B [] [ixft2_l1_h (ixft2_l1 N n_), ixft2_l1_e0, ixft2_l1_e1] none 400 true ixft2_l1_at (stL ixft2_l1_st ((s, ((), ((), ())), u, u2, ()), ((((), (f, ())), ()), ()))) (stH ixft2_l1_st ((s, ((), ((), ())), u, u2, ()), ((((), (f, ())), ()), ()))) = ixft2_l1 N (n_ + 1) s u u2 f := by kernel_rfl
theorem ixft2_l1_ok (N : Nat) {top : Bool} : LoopOK Try.prog ixft2_B.c ixft2_B.n ixft2_B.m0 top (ixft2_l1_L N) := loop_of_ev (Z := (Int × ((List (Int × (Int × Bool))) × ((List (Int × (Int × Int))) × Int))) ⊕ (((List (Int × (Int × Bool))) × ((List (Int × (Int × Int))) × Int)))) (N := N) (fun m p => ixft2_l1 N m p.1.1 p.1.2.2.1 p.1.2.2.2.1 p.2.1.1.2.1) (fun e => match e with | .inl x => .inl ((x.1, ()), ((((), (x.2, ())), ()), ())) | .inr x => .inr (.inl ((), ((((), (x, ())), ()), ())))) (fun _ p k => bind_congr_ (ixft2_l1 N N p.1.1 p.1.2.2.1 p.1.2.2.2.1 p.2.1.1.2.1) _ _ (fun e => by rcases e with x | x <;> rfl)) (fun _ => rfl) (fun m z E Xc hE hX hrec hx => leaf_of_ev (B := ixft2_B) (loops := []) (leaves := [ixft2_l1_h (ixft2_l1 N m), ixft2_l1_e0, ixft2_l1_e1]) (ixft2_all N) mixed trivial hE hX ⟨hrec, (fun p hp => by obtain rfl := Option.some.inj hp; exact hx), (fun p hp => by obtain rfl := Option.some.inj hp; exact hx), trivial⟩ RetOK.no (fun p => ixft2_l1_eq N m p.1.1 p.1.2.2.1 p.1.2.2.2.1 p.2.1.1.2.1))
abbrev ixft2_st : Sta := ⟨[0, 1], ⟨[.sl (.pair (.int .i64) (.pair (.int .i64) (.int .i64))), .fn 150 [] [.own 0 0]], [.segs [.fn 108 [] [.fe (.pair (.sl (.pair (.int .i64) (.pair (.int .i64) .bool))) (.pair (.sl (.pair (.int .i64) (.pair (.int .i64) (.int .i64)))) (.int .i64)))]]]⟩⟩
theorem ixft2_eq (N : Nat) (s : List (Int × (Int × Int))) (f : ((List (Int × (Int × Bool))) × ((List (Int × (Int × Int))) × Int))) : ev (Z := Int × ((List (Int × (Int × Bool))) × ((List (Int × (Int × Int))) × Int))) Try.prog (ixft2_sp N) ixft2_B [ixft2_l1_L N] [] (some ixft2_rt) 400 false [.c [0], .c [1]] (stL ixft2_st ((s, ((), ((), ())), ()), ((((), (f, ())), ()), ()))) (stH ixft2_st ((s, ((), ((), ())), ()), ((((), (f, ())), ()), ()))) = ixft2_S N s f := by kernel_rfl
noncomputable def sp_ixft2 (N : Nat) : Spec := { f := 134, ins := ⟨[.sl (.pair (.int .i64) (.pair (.int .i64) (.int .i64))), .fn 150 [] [.own 0 0]], [.segs [.fn 108 [] [.fe (.pair (.sl (.pair (.int .i64) (.pair (.int .i64) .bool))) (.pair (.sl (.pair (.int .i64) (.pair (.int .i64) (.int .i64)))) (.int .i64)))]]]⟩, outs := [⟨[.i .i64], [.segs [.fn 108 [] [.fe (.pair (.sl (.pair (.int .i64) (.pair (.int .i64) .bool))) (.pair (.sl (.pair (.int .i64) (.pair (.int .i64) (.int .i64)))) (.int .i64)))]]]⟩], run := fun p k => (ixft2_S N p.1.1 p.2.1.1.2.1).bind fun r => k ((r.1, ()), ((((), (r.2, ())), ()), ())) }
theorem sp_ixft2_ok (N : Nat) : SpecOK Try.prog (sp_ixft2 N) := fn_sound (B := ixft2_B) (loops := [ixft2_l1_L N]) (leaves := []) (fun p => ixft2_S N p.1.1 p.2.1.1.2.1) (fun r => ((r.1, ()), ((((), (r.2, ())), ()), ()))) ixft2_rt (fun _ _ _ => rfl) (fun r z h => by cases h; rfl) Try.func134 (by kernel_rfl) (by kernel_rfl) (by kernel_rfl) rfl rfl (by kernel_rfl) (fun args w => Sem.pv_run _ _ _ (by kernel_rfl) w) (ixft2_all N) mixed ⟨ixft2_l1_ok N, trivial⟩ (fun z E Xc hE hX hret => trivial) (fun p => ixft2_eq N p.1.1 p.2.1.1.2.1)

def coft2_S (N : Nat) (s : List (Int × (Int × Int))) (f : ((List (Int × (Int × Bool))) × ((List (Int × (Int × Int))) × Int))) : Option (Bool × ((List (Int × (Int × Bool))) × ((List (Int × (Int × Int))) × Int))) :=
  (ixft2_S N s f).bind fun (x_1, y_2) =>
  some ((decide (0 ≤ x_1)), y_2)
noncomputable def coft2_sp (N : Nat) : List Spec := [sp_ixft2 N]
theorem coft2_all (N : Nat) : AllP (SpecOK Try.prog) (coft2_sp N) := ⟨sp_ixft2_ok N, trivial⟩
noncomputable def coft2_c : Code := (Try.f75.body).getD .skip
noncomputable abbrev coft2_B : Body := { c := coft2_c, n := 9, res := [.tmp 4], outs := [⟨[.b], [.segs [.fn 108 [] [.fe (.pair (.sl (.pair (.int .i64) (.pair (.int .i64) .bool))) (.pair (.sl (.pair (.int .i64) (.pair (.int .i64) (.int .i64)))) (.int .i64)))]]]⟩], m0 := 1 }
abbrev coft2_rt : altD coft2_B.outs → Option (Bool × ((List (Int × (Int × Bool))) × ((List (Int × (Int × Int))) × Int))) := fun r => some (r.1.1, r.2.1.1.2.1)
abbrev coft2_st : Sta := ⟨[0, 1], ⟨[.sl (.pair (.int .i64) (.pair (.int .i64) (.int .i64))), .fn 150 [] [.own 0 0]], [.segs [.fn 108 [] [.fe (.pair (.sl (.pair (.int .i64) (.pair (.int .i64) .bool))) (.pair (.sl (.pair (.int .i64) (.pair (.int .i64) (.int .i64)))) (.int .i64)))]]]⟩⟩
theorem coft2_eq (N : Nat) (s : List (Int × (Int × Int))) (f : ((List (Int × (Int × Bool))) × ((List (Int × (Int × Int))) × Int))) : ev (Z := Bool × ((List (Int × (Int × Bool))) × ((List (Int × (Int × Int))) × Int))) Try.prog (coft2_sp N) coft2_B [] [] (some coft2_rt) 400 false [.c [0], .c [1]] (stL coft2_st ((s, ((), ((), ())), ()), ((((), (f, ())), ()), ()))) (stH coft2_st ((s, ((), ((), ())), ()), ((((), (f, ())), ()), ()))) = coft2_S N s f := by kernel_rfl
noncomputable def sp_coft2 (N : Nat) : Spec := { f := 75, ins := ⟨[.sl (.pair (.int .i64) (.pair (.int .i64) (.int .i64))), .fn 150 [] [.own 0 0]], [.segs [.fn 108 [] [.fe (.pair (.sl (.pair (.int .i64) (.pair (.int .i64) .bool))) (.pair (.sl (.pair (.int .i64) (.pair (.int .i64) (.int .i64)))) (.int .i64)))]]]⟩, outs := [⟨[.b], [.segs [.fn 108 [] [.fe (.pair (.sl (.pair (.int .i64) (.pair (.int .i64) .bool))) (.pair (.sl (.pair (.int .i64) (.pair (.int .i64) (.int .i64)))) (.int .i64)))]]]⟩], run := fun p k => (coft2_S N p.1.1 p.2.1.1.2.1).bind fun r => k ((r.1, ()), ((((), (r.2, ())), ()), ())) }
theorem sp_coft2_ok (N : Nat) : SpecOK Try.prog (sp_coft2 N) := fn_sound (B := coft2_B) (loops := []) (leaves := []) (fun p => coft2_S N p.1.1 p.2.1.1.2.1) (fun r => ((r.1, ()), ((((), (r.2, ())), ()), ()))) coft2_rt (fun _ _ _ => rfl) (fun r z h => by cases h; rfl) Try.func75 (by kernel_rfl) (by kernel_rfl) (by kernel_rfl) rfl rfl (by kernel_rfl) (fun args w => Sem.pv_run _ _ _ (by kernel_rfl) w) (coft2_all N) mixed trivial (fun z E Xc hE hX hret => trivial) (fun p => coft2_eq N p.1.1 p.2.1.1.2.1)

def everyt2_S (N : Nat) (l : List (Int × (Int × Int))) (holds : ((List (Int × (Int × Bool))) × ((List (Int × (Int × Int))) × Int))) : Option Bool :=
  (coft2_S N l holds).bind fun (x_1, y_2) =>
  some (!x_1)
noncomputable def everyt2_sp (N : Nat) : List Spec := [sp_coft2 N]
theorem everyt2_all (N : Nat) : AllP (SpecOK Try.prog) (everyt2_sp N) := ⟨sp_coft2_ok N, trivial⟩
noncomputable def everyt2_c : Code := (Try.f107.body).getD .skip
noncomputable abbrev everyt2_B : Body := { c := everyt2_c, n := 9, res := [.tmp 4], outs := [⟨[.b], []⟩], m0 := 0 }
abbrev everyt2_rt : altD everyt2_B.outs → Option Bool := fun r => some r.1.1
abbrev everyt2_st : Sta := ⟨[0, 1], ⟨[.sl (.pair (.int .i64) (.pair (.int .i64) (.int .i64))), .fn 108 [] [.fe (.pair (.sl (.pair (.int .i64) (.pair (.int .i64) .bool))) (.pair (.sl (.pair (.int .i64) (.pair (.int .i64) (.int .i64)))) (.int .i64)))]], []⟩⟩
theorem everyt2_eq (N : Nat) (l : List (Int × (Int × Int))) (holds : ((List (Int × (Int × Bool))) × ((List (Int × (Int × Int))) × Int))) : ev (Z := Bool) Try.prog (everyt2_sp N) everyt2_B [] [] (some everyt2_rt) 400 false [.c [0], .c [1]] (stL everyt2_st ((l, ((), (holds, ())), ()), ())) (stH everyt2_st ((l, ((), (holds, ())), ()), ())) = everyt2_S N l holds := by kernel_rfl
noncomputable def sp_everyt2 (N : Nat) : Spec := { f := 107, ins := ⟨[.sl (.pair (.int .i64) (.pair (.int .i64) (.int .i64))), .fn 108 [] [.fe (.pair (.sl (.pair (.int .i64) (.pair (.int .i64) .bool))) (.pair (.sl (.pair (.int .i64) (.pair (.int .i64) (.int .i64)))) (.int .i64)))]], []⟩, outs := [⟨[.b], []⟩], run := fun p k => (everyt2_S N p.1.1 p.1.2.1.2.1).bind fun r => k ((r, ()), ()) }
theorem sp_everyt2_ok (N : Nat) : SpecOK Try.prog (sp_everyt2 N) := fn_sound (B := everyt2_B) (loops := []) (leaves := []) (fun p => everyt2_S N p.1.1 p.1.2.1.2.1) (fun r => ((r, ()), ())) everyt2_rt (fun _ _ _ => rfl) (fun r z h => by cases h; rfl) Try.func107 (by kernel_rfl) (by kernel_rfl) (by kernel_rfl) rfl rfl (by kernel_rfl) (fun args w => Sem.pv_run _ _ _ (by kernel_rfl) w) (everyt2_all N) mixed trivial (fun z E Xc hE hX hret => trivial) (fun p => everyt2_eq N p.1.1 p.1.2.1.2.1)

def every1t3_S (N : Nat) (x : Int) (x2 : Int) (x3 : Int) : Option Bool :=
  (check3_S N x x2 x3).bind fun x_1 =>
  some (!x_1)
noncomputable def every1t3_sp (N : Nat) : List Spec := [sp_check3 N]
theorem every1t3_all (N : Nat) : AllP (SpecOK Try.prog) (every1t3_sp N) := ⟨sp_check3_ok N, trivial⟩
noncomputable def every1t3_c : Code := (Try.f150.body).getD .skip
noncomputable abbrev every1t3_B : Body := { c := every1t3_c, n := 8, res := [.tmp 3], outs := [⟨[.b], [.segs [.fn 110 [] []]]⟩], m0 := 1 }
abbrev every1t3_rt : altD every1t3_B.outs → Option Bool := fun r => some r.1.1
abbrev every1t3_st : Sta := ⟨[0, 1], ⟨[.agg [.i .i64, .i .i64, .i .i64], .own 0 0], [.segs [.fn 110 [] []]]⟩⟩
theorem every1t3_eq (N : Nat) (x : Int) (x2 : Int) (x3 : Int) : ev (Z := Bool) Try.prog (every1t3_sp N) every1t3_B [] [] (some every1t3_rt) 400 false [.c [0], .c [1]] (stL every1t3_st (((x, x2, x3, ()), (), ()), ((((), ()), ()), ()))) (stH every1t3_st (((x, x2, x3, ()), (), ()), ((((), ()), ()), ()))) = every1t3_S N x x2 x3 := by kernel_rfl
noncomputable def sp_every1t3 (N : Nat) : Spec := { f := 150, ins := ⟨[.agg [.i .i64, .i .i64, .i .i64], .own 0 0], [.segs [.fn 110 [] []]]⟩, outs := [⟨[.b], [.segs [.fn 110 [] []]]⟩], run := fun p k => (every1t3_S N p.1.1.1 p.1.1.2.1 p.1.1.2.2.1).bind fun r => k ((r, ()), ((((), ()), ()), ())) }
theorem sp_every1t3_ok (N : Nat) : SpecOK Try.prog (sp_every1t3 N) := fn_sound (B := every1t3_B) (loops := []) (leaves := []) (fun p => every1t3_S N p.1.1.1 p.1.1.2.1 p.1.1.2.2.1) (fun r => ((r, ()), ((((), ()), ()), ()))) every1t3_rt (fun _ _ _ => rfl) (fun r z h => by cases h; rfl) Try.func150 (by kernel_rfl) (by kernel_rfl) (by kernel_rfl) rfl rfl (by kernel_rfl) (fun args w => Sem.pv_run _ _ _ (by kernel_rfl) w) (every1t3_all N) mixed trivial (fun z E Xc hE hX hret => trivial) (fun p => every1t3_eq N p.1.1.1 p.1.1.2.1 p.1.1.2.2.1)

def ixft3_l1 (N : Nat) : Nat → (List (Int × (Int × Int))) → Int → Int → Option ((Int) ⊕ (Unit))
  | 0, _, _, _ => none
  | n_ + 1, s, u, u2 =>
    br (decide (u2 < u))
      (idx s u2 fun x_1 =>
      (every1t3_S N x_1.1 x_1.2.1 x_1.2.2).bind fun x_2 =>
      br x_2
        (some (.inl u2))
        (chk (u2 + 1) <|
        ixft3_l1 N n_ s u (u2 + 1)))
      (some (.inr ()))
def ixft3_S (N : Nat) (s : List (Int × (Int × Int))) : Option Int :=
  (ixft3_l1 N N s (s.length : Int) 0).bind fun e => match e with
  | .inl i_3 =>
    some i_3
  | .inr _ =>
    some (-1)
noncomputable def ixft3_sp (N : Nat) : List Spec := [sp_every1t3 N]
theorem ixft3_all (N : Nat) : AllP (SpecOK Try.prog) (ixft3_sp N) := ⟨sp_every1t3_ok N, trivial⟩
noncomputable def ixft3_c : Code := (Try.f134.body).getD .skip
noncomputable abbrev ixft3_B : Body := { c := ixft3_c, n := 19, res := [.tmp 4], outs := [⟨[.i .i64], [.segs [.fn 110 [] []]]⟩], m0 := 1 }
abbrev ixft3_rt : altD ixft3_B.outs → Option Int := fun r => some r.1.1
abbrev ixft3_l1_at : List PI := [.c [1, 0, 1, 0, 0, 0], .c [1, 0, 1, 0, 0, 1], .l [1, 0, 1, 0, 0], .b 0, .c [1, 1]]
abbrev ixft3_l1_st : Sta := ⟨[0, 1, 7, 8], ⟨[.sl (.pair (.int .i64) (.pair (.int .i64) (.int .i64))), .fn 150 [] [.own 0 0], .i .i64, .i .i64], [.segs [.fn 110 [] []]]⟩⟩
abbrev ixft3_l1_h (rec : (List (Int × (Int × Int))) → Int → Int → Option ((Int) ⊕ (Unit))) : Leaf ((Int) ⊕ (Unit)) := ⟨ixft3_l1_at, ixft3_l1_st, fun p => rec p.1.1 p.1.2.2.1 p.1.2.2.2.1⟩
abbrev ixft3_l1_e0 : Leaf ((Int) ⊕ (Unit)) := ⟨[.c [1, 0, 1, 0, 0, 1, 1, 0, 0, 1, 1, 0, 0], .c [1, 0, 1, 0, 0, 1, 1, 0, 0, 1, 1, 0, 1], .b 1, .c [1, 0, 1, 0, 0, 1, 1, 1], .l [1, 0, 1, 0, 0], .b 0, .c [1, 1]], ⟨[5], ⟨[.i .i64], [.segs [.fn 110 [] []]]⟩⟩, fun p => some (.inl p.1.1)⟩
abbrev ixft3_l1_e1 : Leaf ((Int) ⊕ (Unit)) := ⟨[.c [1, 1, 0], .c [1, 1, 1]], ⟨[], ⟨[], [.segs [.fn 110 [] []]]⟩⟩, fun p => some (.inr ())⟩
noncomputable def ixft3_l1_L (N : Nat) : LoopS := { at_ := ixft3_l1_at, sta := ixft3_l1_st, exits := [([.c [1, 0, 1, 0, 0, 1, 1, 0, 0, 1, 1, 0, 0], .c [1, 0, 1, 0, 0, 1, 1, 0, 0, 1, 1, 0, 1], .b 1, .c [1, 0, 1, 0, 0, 1, 1, 1], .l [1, 0, 1, 0, 0], .b 0, .c [1, 1]], ⟨[5], ⟨[.i .i64], [.segs [.fn 110 [] []]]⟩⟩), ([.c [1, 1, 0], .c [1, 1, 1]], ⟨[], ⟨[], [.segs [.fn 110 [] []]]⟩⟩)], run := fun p k => (ixft3_l1 N N p.1.1 p.1.2.2.1 p.1.2.2.2.1).bind fun e => match e with | .inl x => k (.inl ((x, ()), ((((), ()), ()), ()))) | .inr x => k (.inr (.inl ((), ((((), ()), ()), ())))) }
theorem ixft3_l1_eq (N n_ : Nat) (s : List (Int × (Int × Int))) (u : Int) (u2 : Int) : ev (Z := (Int) ⊕ (Unit)) Try.prog (ixft3_sp N) ixft3_B [] [ixft3_l1_h (ixft3_l1 N n_), ixft3_l1_e0, ixft3_l1_e1] none 400 true ixft3_l1_at (stL ixft3_l1_st ((s, ((), ((), ())), u, u2, ()), ((((), ()), ()), ()))) (stH ixft3_l1_st ((s, ((), ((), ())), u, u2, ()), ((((), ()), ()), ()))) = ixft3_l1 N (n_ + 1) s u u2 := by kernel_rfl
theorem ixft3_l1_ok (N : Nat) {top : Bool} : LoopOK Try.prog ixft3_B.c ixft3_B.n ixft3_B.m0 top (ixft3_l1_L N) := loop_of_ev (Z := (Int) ⊕ (Unit)) (N := N) (fun m p => ixft3_l1 N m p.1.1 p.1.2.2.1 p.1.2.2.2.1) (fun e => match e with | .inl x => .inl ((x, ()), ((((), ()), ()), ())) | .inr x => .inr (.inl ((), ((((), ()), ()), ())))) (fun _ p k => bind_congr_ (ixft3_l1 N N p.1.1 p.1.2.2.1 p.1.2.2.2.1) _ _ (fun e => by rcases e with x | x <;> rfl)) (fun _ => rfl) (fun m z E Xc hE hX hrec hx => leaf_of_ev (B := ixft3_B) (loops := []) (leaves := [ixft3_l1_h (ixft3_l1 N m), ixft3_l1_e0, ixft3_l1_e1]) (ixft3_all N) mixed trivial hE hX ⟨hrec, (fun p hp => by obtain rfl := Option.some.inj hp; exact hx), (fun p hp => by obtain rfl := Option.some.inj hp; exact hx), trivial⟩ RetOK.no (fun p => ixft3_l1_eq N m p.1.1 p.1.2.2.1 p.1.2.2.2.1))
abbrev ixft3_st : Sta := ⟨[0, 1], ⟨[.sl (.pair (.int .i64) (.pair (.int .i64) (.int .i64))), .fn 150 [] [.own 0 0]], [.segs [.fn 110 [] []]]⟩⟩
theorem ixft3_eq (N : Nat) (s : List (Int × (Int × Int))) : ev (Z := Int) Try.prog (ixft3_sp N) ixft3_B [ixft3_l1_L N] [] (some ixft3_rt) 400 false [.c [0], .c [1]] (stL ixft3_st ((s, ((), ((), ())), ()), ((((), ()), ()), ()))) (stH ixft3_st ((s, ((), ((), ())), ()), ((((), ()), ()), ()))) = ixft3_S N s := by kernel_rfl
noncomputable def sp_ixft3 (N : Nat) : Spec := { f := 134, ins := ⟨[.sl (.pair (.int .i64) (.pair (.int .i64) (.int .i64))), .fn 150 [] [.own 0 0]], [.segs [.fn 110 [] []]]⟩, outs := [⟨[.i .i64], [.segs [.fn 110 [] []]]⟩], run := fun p k => (ixft3_S N p.1.1).bind fun r => k ((r, ()), ((((), ()), ()), ())) }
theorem sp_ixft3_ok (N : Nat) : SpecOK Try.prog (sp_ixft3 N) := fn_sound (B := ixft3_B) (loops := [ixft3_l1_L N]) (leaves := []) (fun p => ixft3_S N p.1.1) (fun r => ((r, ()), ((((), ()), ()), ()))) ixft3_rt (fun _ _ _ => rfl) (fun r z h => by cases h; rfl) Try.func134 (by kernel_rfl) (by kernel_rfl) (by kernel_rfl) rfl rfl (by kernel_rfl) (fun args w => Sem.pv_run _ _ _ (by kernel_rfl) w) (ixft3_all N) mixed ⟨ixft3_l1_ok N, trivial⟩ (fun z E Xc hE hX hret => trivial) (fun p => ixft3_eq N p.1.1)

def coft3_S (N : Nat) (s : List (Int × (Int × Int))) : Option Bool :=
  (ixft3_S N s).bind fun x_1 =>
  some (decide (0 ≤ x_1))
noncomputable def coft3_sp (N : Nat) : List Spec := [sp_ixft3 N]
theorem coft3_all (N : Nat) : AllP (SpecOK Try.prog) (coft3_sp N) := ⟨sp_ixft3_ok N, trivial⟩
noncomputable def coft3_c : Code := (Try.f75.body).getD .skip
noncomputable abbrev coft3_B : Body := { c := coft3_c, n := 9, res := [.tmp 4], outs := [⟨[.b], [.segs [.fn 110 [] []]]⟩], m0 := 1 }
abbrev coft3_rt : altD coft3_B.outs → Option Bool := fun r => some r.1.1
abbrev coft3_st : Sta := ⟨[0, 1], ⟨[.sl (.pair (.int .i64) (.pair (.int .i64) (.int .i64))), .fn 150 [] [.own 0 0]], [.segs [.fn 110 [] []]]⟩⟩
theorem coft3_eq (N : Nat) (s : List (Int × (Int × Int))) : ev (Z := Bool) Try.prog (coft3_sp N) coft3_B [] [] (some coft3_rt) 400 false [.c [0], .c [1]] (stL coft3_st ((s, ((), ((), ())), ()), ((((), ()), ()), ()))) (stH coft3_st ((s, ((), ((), ())), ()), ((((), ()), ()), ()))) = coft3_S N s := by kernel_rfl
noncomputable def sp_coft3 (N : Nat) : Spec := { f := 75, ins := ⟨[.sl (.pair (.int .i64) (.pair (.int .i64) (.int .i64))), .fn 150 [] [.own 0 0]], [.segs [.fn 110 [] []]]⟩, outs := [⟨[.b], [.segs [.fn 110 [] []]]⟩], run := fun p k => (coft3_S N p.1.1).bind fun r => k ((r, ()), ((((), ()), ()), ())) }
theorem sp_coft3_ok (N : Nat) : SpecOK Try.prog (sp_coft3 N) := fn_sound (B := coft3_B) (loops := []) (leaves := []) (fun p => coft3_S N p.1.1) (fun r => ((r, ()), ((((), ()), ()), ()))) coft3_rt (fun _ _ _ => rfl) (fun r z h => by cases h; rfl) Try.func75 (by kernel_rfl) (by kernel_rfl) (by kernel_rfl) rfl rfl (by kernel_rfl) (fun args w => Sem.pv_run _ _ _ (by kernel_rfl) w) (coft3_all N) mixed trivial (fun z E Xc hE hX hret => trivial) (fun p => coft3_eq N p.1.1)

def everyt3_S (N : Nat) (l : List (Int × (Int × Int))) : Option Bool :=
  (coft3_S N l).bind fun x_1 =>
  some (!x_1)
noncomputable def everyt3_sp (N : Nat) : List Spec := [sp_coft3 N]
theorem everyt3_all (N : Nat) : AllP (SpecOK Try.prog) (everyt3_sp N) := ⟨sp_coft3_ok N, trivial⟩
noncomputable def everyt3_c : Code := (Try.f107.body).getD .skip
noncomputable abbrev everyt3_B : Body := { c := everyt3_c, n := 9, res := [.tmp 4], outs := [⟨[.b], []⟩], m0 := 0 }
abbrev everyt3_rt : altD everyt3_B.outs → Option Bool := fun r => some r.1.1
abbrev everyt3_st : Sta := ⟨[0, 1], ⟨[.sl (.pair (.int .i64) (.pair (.int .i64) (.int .i64))), .fn 110 [] []], []⟩⟩
theorem everyt3_eq (N : Nat) (l : List (Int × (Int × Int))) : ev (Z := Bool) Try.prog (everyt3_sp N) everyt3_B [] [] (some everyt3_rt) 400 false [.c [0], .c [1]] (stL everyt3_st ((l, ((), ()), ()), ())) (stH everyt3_st ((l, ((), ()), ()), ())) = everyt3_S N l := by kernel_rfl
noncomputable def sp_everyt3 (N : Nat) : Spec := { f := 107, ins := ⟨[.sl (.pair (.int .i64) (.pair (.int .i64) (.int .i64))), .fn 110 [] []], []⟩, outs := [⟨[.b], []⟩], run := fun p k => (everyt3_S N p.1.1).bind fun r => k ((r, ()), ()) }
theorem sp_everyt3_ok (N : Nat) : SpecOK Try.prog (sp_everyt3 N) := fn_sound (B := everyt3_B) (loops := []) (leaves := []) (fun p => everyt3_S N p.1.1) (fun r => ((r, ()), ())) everyt3_rt (fun _ _ _ => rfl) (fun r z h => by cases h; rfl) Try.func107 (by kernel_rfl) (by kernel_rfl) (by kernel_rfl) rfl rfl (by kernel_rfl) (fun args w => Sem.pv_run _ _ _ (by kernel_rfl) w) (everyt3_all N) mixed trivial (fun z E Xc hE hX hret => trivial) (fun p => everyt3_eq N p.1.1)

def every1t4_S (N : Nat) (x : Int) (x2 : Int) (x3 : Int) : Option Bool :=
  (check4_S N x x2 x3).bind fun x_1 =>
  some (!x_1)
noncomputable def every1t4_sp (N : Nat) : List Spec := [sp_check4 N]
theorem every1t4_all (N : Nat) : AllP (SpecOK Try.prog) (every1t4_sp N) := ⟨sp_check4_ok N, trivial⟩
noncomputable def every1t4_c : Code := (Try.f150.body).getD .skip
noncomputable abbrev every1t4_B : Body := { c := every1t4_c, n := 8, res := [.tmp 3], outs := [⟨[.b], [.segs [.fn 111 [] []]]⟩], m0 := 1 }
abbrev every1t4_rt : altD every1t4_B.outs → Option Bool := fun r => some r.1.1
abbrev every1t4_st : Sta := ⟨[0, 1], ⟨[.agg [.i .i64, .i .i64, .i .i64], .own 0 0], [.segs [.fn 111 [] []]]⟩⟩
theorem every1t4_eq (N : Nat) (x : Int) (x2 : Int) (x3 : Int) : ev (Z := Bool) Try.prog (every1t4_sp N) every1t4_B [] [] (some every1t4_rt) 400 false [.c [0], .c [1]] (stL every1t4_st (((x, x2, x3, ()), (), ()), ((((), ()), ()), ()))) (stH every1t4_st (((x, x2, x3, ()), (), ()), ((((), ()), ()), ()))) = every1t4_S N x x2 x3 := by kernel_rfl
noncomputable def sp_every1t4 (N : Nat) : Spec := { f := 150, ins := ⟨[.agg [.i .i64, .i .i64, .i .i64], .own 0 0], [.segs [.fn 111 [] []]]⟩, outs := [⟨[.b], [.segs [.fn 111 [] []]]⟩], run := fun p k => (every1t4_S N p.1.1.1 p.1.1.2.1 p.1.1.2.2.1).bind fun r => k ((r, ()), ((((), ()), ()), ())) }
theorem sp_every1t4_ok (N : Nat) : SpecOK Try.prog (sp_every1t4 N) := fn_sound (B := every1t4_B) (loops := []) (leaves := []) (fun p => every1t4_S N p.1.1.1 p.1.1.2.1 p.1.1.2.2.1) (fun r => ((r, ()), ((((), ()), ()), ()))) every1t4_rt (fun _ _ _ => rfl) (fun r z h => by cases h; rfl) Try.func150 (by kernel_rfl) (by kernel_rfl) (by kernel_rfl) rfl rfl (by kernel_rfl) (fun args w => Sem.pv_run _ _ _ (by kernel_rfl) w) (every1t4_all N) mixed trivial (fun z E Xc hE hX hret => trivial) (fun p => every1t4_eq N p.1.1.1 p.1.1.2.1 p.1.1.2.2.1)

def ixft4_l1 (N : Nat) : Nat → (List (Int × (Int × Int))) → Int → Int → Option ((Int) ⊕ (Unit))
  | 0, _, _, _ => none
  | n_ + 1, s, u, u2 =>
    br (decide (u2 < u))
      (idx s u2 fun x_1 =>
      (every1t4_S N x_1.1 x_1.2.1 x_1.2.2).bind fun x_2 =>
      br x_2
        (some (.inl u2))
        (chk (u2 + 1) <|
        ixft4_l1 N n_ s u (u2 + 1)))
      (some (.inr ()))
def ixft4_S (N : Nat) (s : List (Int × (Int × Int))) : Option Int :=
  (ixft4_l1 N N s (s.length : Int) 0).bind fun e => match e with
  | .inl i_3 =>
    some i_3
  | .inr _ =>
    some (-1)
noncomputable def ixft4_sp (N : Nat) : List Spec := [sp_every1t4 N]
theorem ixft4_all (N : Nat) : AllP (SpecOK Try.prog) (ixft4_sp N) := ⟨sp_every1t4_ok N, trivial⟩
noncomputable def ixft4_c : Code := (Try.f134.body).getD .skip
noncomputable abbrev ixft4_B : Body := { c := ixft4_c, n := 19, res := [.tmp 4], outs := [⟨[.i .i64], [.segs [.fn 111 [] []]]⟩], m0 := 1 }
abbrev ixft4_rt : altD ixft4_B.outs → Option Int := fun r => some r.1.1
abbrev ixft4_l1_at : List PI := [.c [1, 0, 1, 0, 0, 0], .c [1, 0, 1, 0, 0, 1], .l [1, 0, 1, 0, 0], .b 0, .c [1, 1]]
abbrev ixft4_l1_st : Sta := ⟨[0, 1, 7, 8], ⟨[.sl (.pair (.int .i64) (.pair (.int .i64) (.int .i64))), .fn 150 [] [.own 0 0], .i .i64, .i .i64], [.segs [.fn 111 [] []]]⟩⟩
abbrev ixft4_l1_h (rec : (List (Int × (Int × Int))) → Int → Int → Option ((Int) ⊕ (Unit))) : Leaf ((Int) ⊕ (Unit)) := ⟨ixft4_l1_at, ixft4_l1_st, fun p => rec p.1.1 p.1.2.2.1 p.1.2.2.2.1⟩
abbrev ixft4_l1_e0 : Leaf ((Int) ⊕ (Unit)) := ⟨[.c [1, 0, 1, 0, 0, 1, 1, 0, 0, 1, 1, 0, 0], .c [1, 0, 1, 0, 0, 1, 1, 0, 0, 1, 1, 0, 1], .b 1, .c [1, 0, 1, 0, 0, 1, 1, 1], .l [1, 0, 1, 0, 0], .b 0, .c [1, 1]], ⟨[5], ⟨[.i .i64], [.segs [.fn 111 [] []]]⟩⟩, fun p => some (.inl p.1.1)⟩
abbrev ixft4_l1_e1 : Leaf ((Int) ⊕ (Unit)) := ⟨[.c [1, 1, 0], .c [1, 1, 1]], ⟨[], ⟨[], [.segs [.fn 111 [] []]]⟩⟩, fun p => some (.inr ())⟩
noncomputable def ixft4_l1_L (N : Nat) : LoopS := { at_ := ixft4_l1_at, sta := ixft4_l1_st, exits := [([.c [1, 0, 1, 0, 0, 1, 1, 0, 0, 1, 1, 0, 0], .c [1, 0, 1, 0, 0, 1, 1, 0, 0, 1, 1, 0, 1], .b 1, .c [1, 0, 1, 0, 0, 1, 1, 1], .l [1, 0, 1, 0, 0], .b 0, .c [1, 1]], ⟨[5], ⟨[.i .i64], [.segs [.fn 111 [] []]]⟩⟩), ([.c [1, 1, 0], .c [1, 1, 1]], ⟨[], ⟨[], [.segs [.fn 111 [] []]]⟩⟩)], run := fun p k => (ixft4_l1 N N p.1.1 p.1.2.2.1 p.1.2.2.2.1).bind fun e => match e with | .inl x => k (.inl ((x, ()), ((((), ()), ()), ()))) | .inr x => k (.inr (.inl ((), ((((), ()), ()), ())))) }
theorem ixft4_l1_eq (N n_ : Nat) (s : List (Int × (Int × Int))) (u : Int) (u2 : Int) : ev (Z := (Int) ⊕ (Unit)) Try.prog (ixft4_sp N) ixft4_B [] [ixft4_l1_h (ixft4_l1 N n_), ixft4_l1_e0, ixft4_l1_e1] none 400 true ixft4_l1_at (stL ixft4_l1_st ((s, ((), ((), ())), u, u2, ()), ((((), ()), ()), ()))) (stH ixft4_l1_st ((s, ((), ((), ())), u, u2, ()), ((((), ()), ()), ()))) = ixft4_l1 N (n_ + 1) s u u2 := by kernel_rfl
theorem ixft4_l1_ok (N : Nat) {top : Bool} : LoopOK Try.prog ixft4_B.c ixft4_B.n ixft4_B.m0 top (ixft4_l1_L N) := loop_of_ev (Z := (Int) ⊕ (Unit)) (N := N) (fun m p => ixft4_l1 N m p.1.1 p.1.2.2.1 p.1.2.2.2.1) (fun e => match e with | .inl x => .inl ((x, ()), ((((), ()), ()), ())) | .inr x => .inr (.inl ((), ((((), ()), ()), ())))) (fun _ p k => bind_congr_ (ixft4_l1 N N p.1.1 p.1.2.2.1 p.1.2.2.2.1) _ _ (fun e => by rcases e with x | x <;> rfl)) (fun _ => rfl) (fun m z E Xc hE hX hrec hx => leaf_of_ev (B := ixft4_B) (loops := []) (leaves := [ixft4_l1_h (ixft4_l1 N m), ixft4_l1_e0, ixft4_l1_e1]) (ixft4_all N) mixed trivial hE hX ⟨hrec, (fun p hp => by obtain rfl := Option.some.inj hp; exact hx), (fun p hp => by obtain rfl := Option.some.inj hp; exact hx), trivial⟩ RetOK.no (fun p => ixft4_l1_eq N m p.1.1 p.1.2.2.1 p.1.2.2.2.1))
abbrev ixft4_st : Sta := ⟨[0, 1], ⟨[.sl (.pair (.int .i64) (.pair (.int .i64) (.int .i64))), .fn 150 [] [.own 0 0]], [.segs [.fn 111 [] []]]⟩⟩
theorem ixft4_eq (N : Nat) (s : List (Int × (Int × Int))) : ev (Z := Int) Try.prog (ixft4_sp N) ixft4_B [ixft4_l1_L N] [] (some ixft4_rt) 400 false [.c [0], .c [1]] (stL ixft4_st ((s, ((), ((), ())), ()), ((((), ()), ()), ()))) (stH ixft4_st ((s, ((), ((), ())), ()), ((((), ()), ()), ()))) = ixft4_S N s := by kernel_rfl
noncomputable def sp_ixft4 (N : Nat) : Spec := { f := 134, ins := ⟨[.sl (.pair (.int .i64) (.pair (.int .i64) (.int .i64))), .fn 150 [] [.own 0 0]], [.segs [.fn 111 [] []]]⟩, outs := [⟨[.i .i64], [.segs [.fn 111 [] []]]⟩], run := fun p k => (ixft4_S N p.1.1).bind fun r => k ((r, ()), ((((), ()), ()), ())) }
theorem sp_ixft4_ok (N : Nat) : SpecOK Try.prog (sp_ixft4 N) := fn_sound (B := ixft4_B) (loops := [ixft4_l1_L N]) (leaves := []) (fun p => ixft4_S N p.1.1) (fun r => ((r, ()), ((((), ()), ()), ()))) ixft4_rt (fun _ _ _ => rfl) (fun r z h => by cases h; rfl) Try.func134 (by kernel_rfl) (by kernel_rfl) (by kernel_rfl) rfl rfl (by kernel_rfl) (fun args w => Sem.pv_run _ _ _ (by kernel_rfl) w) (ixft4_all N) mixed ⟨ixft4_l1_ok N, trivial⟩ (fun z E Xc hE hX hret => trivial) (fun p => ixft4_eq N p.1.1)

def coft4_S (N : Nat) (s : List (Int × (Int × Int))) : Option Bool :=
  (ixft4_S N s).bind fun x_1 =>
  some (decide (0 ≤ x_1))
noncomputable def coft4_sp (N : Nat) : List Spec := [sp_ixft4 N]
theorem coft4_all (N : Nat) : AllP (SpecOK Try.prog) (coft4_sp N) := ⟨sp_ixft4_ok N, trivial⟩
noncomputable def coft4_c : Code := (Try.f75.body).getD .skip
noncomputable abbrev coft4_B : Body := { c := coft4_c, n := 9, res := [.tmp 4], outs := [⟨[.b], [.segs [.fn 111 [] []]]⟩], m0 := 1 }
abbrev coft4_rt : altD coft4_B.outs → Option Bool := fun r => some r.1.1
abbrev coft4_st : Sta := ⟨[0, 1], ⟨[.sl (.pair (.int .i64) (.pair (.int .i64) (.int .i64))), .fn 150 [] [.own 0 0]], [.segs [.fn 111 [] []]]⟩⟩
theorem coft4_eq (N : Nat) (s : List (Int × (Int × Int))) : ev (Z := Bool) Try.prog (coft4_sp N) coft4_B [] [] (some coft4_rt) 400 false [.c [0], .c [1]] (stL coft4_st ((s, ((), ((), ())), ()), ((((), ()), ()), ()))) (stH coft4_st ((s, ((), ((), ())), ()), ((((), ()), ()), ()))) = coft4_S N s := by kernel_rfl
noncomputable def sp_coft4 (N : Nat) : Spec := { f := 75, ins := ⟨[.sl (.pair (.int .i64) (.pair (.int .i64) (.int .i64))), .fn 150 [] [.own 0 0]], [.segs [.fn 111 [] []]]⟩, outs := [⟨[.b], [.segs [.fn 111 [] []]]⟩], run := fun p k => (coft4_S N p.1.1).bind fun r => k ((r, ()), ((((), ()), ()), ())) }
theorem sp_coft4_ok (N : Nat) : SpecOK Try.prog (sp_coft4 N) := fn_sound (B := coft4_B) (loops := []) (leaves := []) (fun p => coft4_S N p.1.1) (fun r => ((r, ()), ((((), ()), ()), ()))) coft4_rt (fun _ _ _ => rfl) (fun r z h => by cases h; rfl) Try.func75 (by kernel_rfl) (by kernel_rfl) (by kernel_rfl) rfl rfl (by kernel_rfl) (fun args w => Sem.pv_run _ _ _ (by kernel_rfl) w) (coft4_all N) mixed trivial (fun z E Xc hE hX hret => trivial) (fun p => coft4_eq N p.1.1)

def everyt4_S (N : Nat) (l : List (Int × (Int × Int))) : Option Bool :=
  (coft4_S N l).bind fun x_1 =>
  some (!x_1)
noncomputable def everyt4_sp (N : Nat) : List Spec := [sp_coft4 N]
theorem everyt4_all (N : Nat) : AllP (SpecOK Try.prog) (everyt4_sp N) := ⟨sp_coft4_ok N, trivial⟩
noncomputable def everyt4_c : Code := (Try.f107.body).getD .skip
noncomputable abbrev everyt4_B : Body := { c := everyt4_c, n := 9, res := [.tmp 4], outs := [⟨[.b], []⟩], m0 := 0 }
abbrev everyt4_rt : altD everyt4_B.outs → Option Bool := fun r => some r.1.1
abbrev everyt4_st : Sta := ⟨[0, 1], ⟨[.sl (.pair (.int .i64) (.pair (.int .i64) (.int .i64))), .fn 111 [] []], []⟩⟩
theorem everyt4_eq (N : Nat) (l : List (Int × (Int × Int))) : ev (Z := Bool) Try.prog (everyt4_sp N) everyt4_B [] [] (some everyt4_rt) 400 false [.c [0], .c [1]] (stL everyt4_st ((l, ((), ()), ()), ())) (stH everyt4_st ((l, ((), ()), ()), ())) = everyt4_S N l := by kernel_rfl
noncomputable def sp_everyt4 (N : Nat) : Spec := { f := 107, ins := ⟨[.sl (.pair (.int .i64) (.pair (.int .i64) (.int .i64))), .fn 111 [] []], []⟩, outs := [⟨[.b], []⟩], run := fun p k => (everyt4_S N p.1.1).bind fun r => k ((r, ()), ()) }
theorem sp_everyt4_ok (N : Nat) : SpecOK Try.prog (sp_everyt4 N) := fn_sound (B := everyt4_B) (loops := []) (leaves := []) (fun p => everyt4_S N p.1.1) (fun r => ((r, ()), ())) everyt4_rt (fun _ _ _ => rfl) (fun r z h => by cases h; rfl) Try.func107 (by kernel_rfl) (by kernel_rfl) (by kernel_rfl) rfl rfl (by kernel_rfl) (fun args w => Sem.pv_run _ _ _ (by kernel_rfl) w) (everyt4_all N) mixed trivial (fun z E Xc hE hX hret => trivial) (fun p => everyt4_eq N p.1.1)

def check_S (N : Nat) (t : List (Int × (Int × Bool))) (t2 : List (Int × (Int × Int))) (t3 : Int) : Option Int :=
  (in__S N (t.length : Int) 1 12).bind fun x_1 =>
  br (!x_1)
    (some 2)
    (br (decide (6 < (t2.length : Int)))
      (some 2)
      ((in__S N t3 1 40).bind fun x_2 =>
      br (!x_2)
        (some 3)
        ((everyw_S N t).bind fun x_3 =>
        br (!x_3)
          (some 3)
          ((everyt2_S N t2 (t, t2, t3)).bind fun x_4 =>
          br (!x_4)
            (some 1)
            ((everyt3_S N t2).bind fun x_5 =>
            br (!x_5)
              (some 4)
              ((everyt4_S N t2).bind fun x_6 =>
              br (!x_6)
                (some 7)
                (some 0)))))))
noncomputable def check_sp (N : Nat) : List Spec := [sp_in_ N, sp_everyw N, sp_everyt2 N, sp_everyt3 N, sp_everyt4 N]
theorem check_all (N : Nat) : AllP (SpecOK Try.prog) (check_sp N) := ⟨sp_in__ok N, sp_everyw_ok N, sp_everyt2_ok N, sp_everyt3_ok N, sp_everyt4_ok N, trivial⟩
noncomputable def check_c : Code := (Try.f41.body).getD .skip
noncomputable abbrev check_B : Body := { c := check_c, n := 42, res := [.tmp 2], outs := [⟨[.i .i64], []⟩], m0 := 0 }
abbrev check_rt : altD check_B.outs → Option Int := fun r => some r.1.1
abbrev check_st : Sta := ⟨[0], ⟨[.agg [.sl (.pair (.int .i64) (.pair (.int .i64) .bool)), .sl (.pair (.int .i64) (.pair (.int .i64) (.int .i64))), .i .i64]], []⟩⟩
theorem check_eq (N : Nat) (t : List (Int × (Int × Bool))) (t2 : List (Int × (Int × Int))) (t3 : Int) : ev (Z := Int) Try.prog (check_sp N) check_B [] [] (some check_rt) 400 false [.c [0], .c [1]] (stL check_st (((t, t2, t3, ()), ()), ())) (stH check_st (((t, t2, t3, ()), ()), ())) = check_S N t t2 t3 := by kernel_rfl
noncomputable def sp_check (N : Nat) : Spec := { f := 41, ins := ⟨[.agg [.sl (.pair (.int .i64) (.pair (.int .i64) .bool)), .sl (.pair (.int .i64) (.pair (.int .i64) (.int .i64))), .i .i64]], []⟩, outs := [⟨[.i .i64], []⟩], run := fun p k => (check_S N p.1.1.1 p.1.1.2.1 p.1.1.2.2.1).bind fun r => k ((r, ()), ()) }
theorem sp_check_ok (N : Nat) : SpecOK Try.prog (sp_check N) := fn_sound (B := check_B) (loops := []) (leaves := []) (fun p => check_S N p.1.1.1 p.1.1.2.1 p.1.1.2.2.1) (fun r => ((r, ()), ())) check_rt (fun _ _ _ => rfl) (fun r z h => by cases h; rfl) Try.func41 (by kernel_rfl) (by kernel_rfl) (by kernel_rfl) rfl rfl (by kernel_rfl) (fun args w => Sem.pv_run _ _ _ (by kernel_rfl) w) (check_all N) mixed trivial (fun z E Xc hE hX hret => trivial) (fun p => check_eq N p.1.1.1 p.1.1.2.1 p.1.1.2.2.1)

def opened_S (N : Nat) (t : List (Int × (Int × Bool))) (t2 : List (Int × (Int × Int))) (t3 : Int) : Option ((((List (Int × (Int × Bool))) × ((List (Int × (Int × Int))) × Int)) × Int) ⊕ (Int)) :=
  (check_S N t t2 t3).bind fun x_1 =>
  br (!decide (x_1 = 0))
    (some (.inr x_1))
    (some (.inl ((t, t2, t3), 0)))
noncomputable def opened_sp (N : Nat) : List Spec := [sp_check N]
theorem opened_all (N : Nat) : AllP (SpecOK Try.prog) (opened_sp N) := ⟨sp_check_ok N, trivial⟩
noncomputable def opened_c : Code := (Try.f86.body).getD .skip
noncomputable abbrev opened_B : Body := { c := opened_c, n := 13, res := [.tmp 2, .tmp 3], outs := [⟨[.fe (.pair (.sl (.pair (.int .i64) (.pair (.int .i64) .bool))) (.pair (.sl (.pair (.int .i64) (.pair (.int .i64) (.int .i64)))) (.int .i64))), .i .i64], []⟩, ⟨[.nilp, .i .i64], []⟩], m0 := 0 }
abbrev opened_rt : altD opened_B.outs → Option ((((List (Int × (Int × Bool))) × ((List (Int × (Int × Int))) × Int)) × Int) ⊕ (Int)) := fun r => match r with | .inl r => some (.inl (r.1.1, r.1.2.1)) | .inr r => some (.inr r.1.2.1)
abbrev opened_st : Sta := ⟨[0], ⟨[.agg [.sl (.pair (.int .i64) (.pair (.int .i64) .bool)), .sl (.pair (.int .i64) (.pair (.int .i64) (.int .i64))), .i .i64]], []⟩⟩
theorem opened_eq (N : Nat) (t : List (Int × (Int × Bool))) (t2 : List (Int × (Int × Int))) (t3 : Int) : ev (Z := (((List (Int × (Int × Bool))) × ((List (Int × (Int × Int))) × Int)) × Int) ⊕ (Int)) Try.prog (opened_sp N) opened_B [] [] (some opened_rt) 400 false [.c [0], .c [1]] (stL opened_st (((t, t2, t3, ()), ()), ())) (stH opened_st (((t, t2, t3, ()), ()), ())) = opened_S N t t2 t3 := by kernel_rfl
noncomputable def sp_opened (N : Nat) : Spec := { f := 86, ins := ⟨[.agg [.sl (.pair (.int .i64) (.pair (.int .i64) .bool)), .sl (.pair (.int .i64) (.pair (.int .i64) (.int .i64))), .i .i64]], []⟩, outs := [⟨[.fe (.pair (.sl (.pair (.int .i64) (.pair (.int .i64) .bool))) (.pair (.sl (.pair (.int .i64) (.pair (.int .i64) (.int .i64)))) (.int .i64))), .i .i64], []⟩, ⟨[.nilp, .i .i64], []⟩], run := fun p k => (opened_S N p.1.1.1 p.1.1.2.1 p.1.1.2.2.1).bind fun r => match r with | .inl r => k (.inl ((r.1, r.2, ()), ())) | .inr r => k (.inr (((), r, ()), ())) }
theorem sp_opened_ok (N : Nat) : SpecOK Try.prog (sp_opened N) := fn_sound (B := opened_B) (loops := []) (leaves := []) (fun p => opened_S N p.1.1.1 p.1.1.2.1 p.1.1.2.2.1) (fun r => match r with | .inl r => (.inl ((r.1, r.2, ()), ())) | .inr r => (.inr (((), r, ()), ()))) opened_rt (fun _ p k => bind_congr_ (opened_S N p.1.1.1 p.1.1.2.1 p.1.1.2.2.1) _ _ (fun e => by rcases e with x | x <;> rfl)) (fun r z h => by rcases r with x | x <;> (cases h; rfl)) Try.func86 (by kernel_rfl) (by kernel_rfl) (by kernel_rfl) rfl rfl (by kernel_rfl) (fun args w => Sem.pv_run _ _ _ (by kernel_rfl) w) (opened_all N) mixed trivial (fun z E Xc hE hX hret => trivial) (fun p => opened_eq N p.1.1.1 p.1.1.2.1 p.1.1.2.2.1)

def end__S (N : Nat) (d : ((List (Int × (Int × Bool))) × ((List (Int × (Int × Int))) × Int))) : Option Int :=
  some (d.1.length : Int)
noncomputable def end__sp (N : Nat) : List Spec := []
theorem end__all (N : Nat) : AllP (SpecOK Try.prog) (end__sp N) := trivial
noncomputable def end__c : Code := (Try.f90.body).getD .skip
noncomputable abbrev end__B : Body := { c := end__c, n := 9, res := [.tmp 2], outs := [⟨[.i .i64], []⟩], m0 := 0 }
abbrev end__rt : altD end__B.outs → Option Int := fun r => some r.1.1
abbrev end__st : Sta := ⟨[0], ⟨[.fe (.pair (.sl (.pair (.int .i64) (.pair (.int .i64) .bool))) (.pair (.sl (.pair (.int .i64) (.pair (.int .i64) (.int .i64)))) (.int .i64)))], []⟩⟩
theorem end__eq (N : Nat) (d : ((List (Int × (Int × Bool))) × ((List (Int × (Int × Int))) × Int))) : ev (Z := Int) Try.prog (end__sp N) end__B [] [] (some end__rt) 400 false [.c [0], .c [1]] (stL end__st ((d, ()), ())) (stH end__st ((d, ()), ())) = end__S N d := by kernel_rfl
noncomputable def sp_end_ (N : Nat) : Spec := { f := 90, ins := ⟨[.fe (.pair (.sl (.pair (.int .i64) (.pair (.int .i64) .bool))) (.pair (.sl (.pair (.int .i64) (.pair (.int .i64) (.int .i64)))) (.int .i64)))], []⟩, outs := [⟨[.i .i64], []⟩], run := fun p k => (end__S N p.1.1).bind fun r => k ((r, ()), ()) }
theorem sp_end__ok (N : Nat) : SpecOK Try.prog (sp_end_ N) := fn_sound (B := end__B) (loops := []) (leaves := []) (fun p => end__S N p.1.1) (fun r => ((r, ()), ())) end__rt (fun _ _ _ => rfl) (fun r z h => by cases h; rfl) Try.func90 (by kernel_rfl) (by kernel_rfl) (by kernel_rfl) rfl rfl (by kernel_rfl) (fun args w => Sem.pv_run _ _ _ (by kernel_rfl) w) (end__all N) mixed trivial (fun z E Xc hE hX hret => trivial) (fun p => end__eq N p.1.1)

def syllables_l1 (N : Nat) : Nat → Int → (List (Int × (Int × Bool))) → Int → Int → Option Int
  | 0, _, _, _, _ => none
  | n_ + 1, n, u, u2, u3 =>
    br (decide (u3 < u2))
      (idx u u3 fun x_1 =>
      chk (n + x_1.1) <|
      chk (u3 + 1) <|
      syllables_l1 N n_ (n + x_1.1) u u2 (u3 + 1))
      (some (n))
def syllables_S (N : Nat) (d : ((List (Int × (Int × Bool))) × ((List (Int × (Int × Int))) × Int))) (from_ : Int) (to : Int) : Option Int :=
  grd (decide ((0 : Int) ≤ from_ ∧ (from_ : Int) ≤ to ∧ to ≤ (d.1.length : Int))) <|
  (syllables_l1 N N 0 ((d.1.take to.toNat).drop from_.toNat) (((d.1.take to.toNat).drop from_.toNat).length : Int) 0).bind fun n_2 =>
  some n_2
noncomputable def syllables_sp (N : Nat) : List Spec := []
theorem syllables_all (N : Nat) : AllP (SpecOK Try.prog) (syllables_sp N) := trivial
noncomputable def syllables_c : Code := (Try.f116.body).getD .skip
noncomputable abbrev syllables_B : Body := { c := syllables_c, n := 29, res := [.tmp 6], outs := [⟨[.i .i64], []⟩], m0 := 0 }
abbrev syllables_rt : altD syllables_B.outs → Option Int := fun r => some r.1.1
abbrev syllables_l1_at : List PI := [.c [1, 1, 0, 1, 0, 0, 0], .c [1, 1, 0, 1, 0, 0, 1], .l [1, 1, 0, 1, 0, 0], .b 0, .c [1, 1, 1]]
abbrev syllables_l1_st : Sta := ⟨[7, 17, 18, 19], ⟨[.i .i64, .sl (.pair (.int .i64) (.pair (.int .i64) .bool)), .i .i64, .i .i64], []⟩⟩
abbrev syllables_l1_h (rec : Int → (List (Int × (Int × Bool))) → Int → Int → Option Int) : Leaf Int := ⟨syllables_l1_at, syllables_l1_st, fun p => rec p.1.1 p.1.2.1 p.1.2.2.1 p.1.2.2.2.1⟩
abbrev syllables_l1_e0 : Leaf Int := ⟨[.c [1, 1, 1, 0], .c [1, 1, 1, 1]], ⟨[7], ⟨[.i .i64], []⟩⟩, fun p => some (p.1.1)⟩
noncomputable def syllables_l1_L (N : Nat) : LoopS := { at_ := syllables_l1_at, sta := syllables_l1_st, exits := [([.c [1, 1, 1, 0], .c [1, 1, 1, 1]], ⟨[7], ⟨[.i .i64], []⟩⟩)], run := fun p k => (syllables_l1 N N p.1.1 p.1.2.1 p.1.2.2.1 p.1.2.2.2.1).bind fun e => k (.inl ((e, ()), ())) }
theorem syllables_l1_eq (N n_ : Nat) (n : Int) (u : List (Int × (Int × Bool))) (u2 : Int) (u3 : Int) : ev (Z := Int) Try.prog (syllables_sp N) syllables_B [] [syllables_l1_h (syllables_l1 N n_), syllables_l1_e0] none 400 true syllables_l1_at (stL syllables_l1_st ((n, u, u2, u3, ()), ())) (stH syllables_l1_st ((n, u, u2, u3, ()), ())) = syllables_l1 N (n_ + 1) n u u2 u3 := by kernel_rfl
theorem syllables_l1_ok (N : Nat) {top : Bool} : LoopOK Try.prog syllables_B.c syllables_B.n syllables_B.m0 top (syllables_l1_L N) := loop_of_ev (Z := Int) (N := N) (fun m p => syllables_l1 N m p.1.1 p.1.2.1 p.1.2.2.1 p.1.2.2.2.1) (fun e => .inl ((e, ()), ())) (fun _ _ _ => rfl) (fun _ => rfl) (fun m z E Xc hE hX hrec hx => leaf_of_ev (B := syllables_B) (loops := []) (leaves := [syllables_l1_h (syllables_l1 N m), syllables_l1_e0]) (syllables_all N) mixed trivial hE hX ⟨hrec, (fun p hp => by obtain rfl := Option.some.inj hp; exact hx), trivial⟩ RetOK.no (fun p => syllables_l1_eq N m p.1.1 p.1.2.1 p.1.2.2.1 p.1.2.2.2.1))
abbrev syllables_st : Sta := ⟨[0, 1, 2], ⟨[.fe (.pair (.sl (.pair (.int .i64) (.pair (.int .i64) .bool))) (.pair (.sl (.pair (.int .i64) (.pair (.int .i64) (.int .i64)))) (.int .i64))), .i .i64, .i .i64], []⟩⟩
theorem syllables_eq (N : Nat) (d : ((List (Int × (Int × Bool))) × ((List (Int × (Int × Int))) × Int))) (from_ : Int) (to : Int) : ev (Z := Int) Try.prog (syllables_sp N) syllables_B [syllables_l1_L N] [] (some syllables_rt) 400 false [.c [0], .c [1]] (stL syllables_st ((d, from_, to, ()), ())) (stH syllables_st ((d, from_, to, ()), ())) = syllables_S N d from_ to := by kernel_rfl
noncomputable def sp_syllables (N : Nat) : Spec := { f := 116, ins := ⟨[.fe (.pair (.sl (.pair (.int .i64) (.pair (.int .i64) .bool))) (.pair (.sl (.pair (.int .i64) (.pair (.int .i64) (.int .i64)))) (.int .i64))), .i .i64, .i .i64], []⟩, outs := [⟨[.i .i64], []⟩], run := fun p k => (syllables_S N p.1.1 p.1.2.1 p.1.2.2.1).bind fun r => k ((r, ()), ()) }
theorem sp_syllables_ok (N : Nat) : SpecOK Try.prog (sp_syllables N) := fn_sound (B := syllables_B) (loops := [syllables_l1_L N]) (leaves := []) (fun p => syllables_S N p.1.1 p.1.2.1 p.1.2.2.1) (fun r => ((r, ()), ())) syllables_rt (fun _ _ _ => rfl) (fun r z h => by cases h; rfl) Try.func116 (by kernel_rfl) (by kernel_rfl) (by kernel_rfl) rfl rfl (by kernel_rfl) (fun args w => Sem.pv_run _ _ _ (by kernel_rfl) w) (syllables_all N) mixed ⟨syllables_l1_ok N, trivial⟩ (fun z E Xc hE hX hret => trivial) (fun p => syllables_eq N p.1.1 p.1.2.1 p.1.2.2.1)

def turned_j1 (N : Nat) (rec : Int → Int → (List (Int × (Int × Int))) → Int → Int → (List Int) → Option (List Int)) (from_ : Int) (to : Int) (u : List (Int × (Int × Int))) (u2 : Int) (u3 : Int) (out : List Int) : Option (List Int) :=
  chk (u3 + 1) <|
  rec from_ to u u2 (u3 + 1) out
def turned_l1 (N : Nat) : Nat → Int → Int → (List (Int × (Int × Int))) → Int → Int → (List Int) → Option (List Int)
  | 0, _, _, _, _, _, _ => none
  | n_ + 1, from_, to, u, u2, u3, out =>
    br (decide (u3 < u2))
      (idx u u3 fun x_1 =>
      br (decide (from_ ≤ x_1.2.1))
        (br (decide (x_1.2.2 < to))
          (chk (to - 1) <|
          (in__S N x_1.1 from_ (to - 1)).bind fun x_2 =>
          br (!x_2)
            (lim (out.length + [u3].length) <|
            turned_j1 N (turned_l1 N n_) from_ to u u2 u3 (out ++ [u3]))
            (turned_j1 N (turned_l1 N n_) from_ to u u2 u3 out))
          (turned_j1 N (turned_l1 N n_) from_ to u u2 u3 out))
        (turned_j1 N (turned_l1 N n_) from_ to u u2 u3 out))
      (some (out))
def turned_S (N : Nat) (d : ((List (Int × (Int × Bool))) × ((List (Int × (Int × Int))) × Int))) (from_ : Int) (to : Int) : Option (List Int) :=
  (turned_l1 N N from_ to d.2.1 (d.2.1.length : Int) 0 []).bind fun out_3 =>
  some out_3
noncomputable def turned_sp (N : Nat) : List Spec := [sp_in_ N]
theorem turned_all (N : Nat) : AllP (SpecOK Try.prog) (turned_sp N) := ⟨sp_in__ok N, trivial⟩
noncomputable def turned_c : Code := (Try.f100.body).getD .skip
noncomputable abbrev turned_B : Body := { c := turned_c, n := 48, res := [.tmp 6], outs := [⟨[.sl (.int .i64)], []⟩], m0 := 0 }
abbrev turned_rt : altD turned_B.outs → Option (List Int) := fun r => some r.1.1
abbrev turned_l1_at : List PI := [.c [1, 1, 0, 1, 0, 0, 0], .c [1, 1, 0, 1, 0, 0, 1], .l [1, 1, 0, 1, 0, 0], .b 0, .c [1, 1, 1]]
abbrev turned_l1_st : Sta := ⟨[1, 2, 7, 14, 15, 16], ⟨[.i .i64, .i .i64, .ols 0, .sl (.pair (.int .i64) (.pair (.int .i64) (.int .i64))), .i .i64, .i .i64], [.lst (.int .i64)]⟩⟩
abbrev turned_l1_h (rec : Int → Int → (List (Int × (Int × Int))) → Int → Int → (List Int) → Option (List Int)) : Leaf (List Int) := ⟨turned_l1_at, turned_l1_st, fun p => rec p.1.1 p.1.2.1 p.1.2.2.2.1 p.1.2.2.2.2.1 p.1.2.2.2.2.2.1 p.2.1⟩
abbrev turned_l1_e0 : Leaf (List Int) := ⟨[.c [1, 1, 1, 0], .c [1, 1, 1, 1]], ⟨[7], ⟨[.ols 0], [.lst (.int .i64)]⟩⟩, fun p => some (p.2.1)⟩
abbrev turned_j1_at : List PI := [.c [1, 1, 0, 1, 0, 0, 1, 1, 1], .l [1, 1, 0, 1, 0, 0], .b 0, .c [1, 1, 1]]
abbrev turned_j1_st : Sta := ⟨[1, 2, 7, 14, 15, 16], ⟨[.i .i64, .i .i64, .ols 0, .sl (.pair (.int .i64) (.pair (.int .i64) (.int .i64))), .i .i64, .i .i64], [.lst (.int .i64)]⟩⟩
abbrev turned_j1_k (N : Nat) (rec : Int → Int → (List (Int × (Int × Int))) → Int → Int → (List Int) → Option (List Int)) : Leaf (List Int) := ⟨turned_j1_at, turned_j1_st, fun p => turned_j1 N rec p.1.1 p.1.2.1 p.1.2.2.2.1 p.1.2.2.2.2.1 p.1.2.2.2.2.2.1 p.2.1⟩
theorem turned_j1_eq (N : Nat) (rec : Int → Int → (List (Int × (Int × Int))) → Int → Int → (List Int) → Option (List Int)) (from_ : Int) (to : Int) (u : List (Int × (Int × Int))) (u2 : Int) (u3 : Int) (out : List Int) : ev (Z := List Int) Try.prog (turned_sp N) turned_B [] [turned_l1_h rec, turned_l1_e0] none 400 true turned_j1_at (stL turned_j1_st ((from_, to, (), u, u2, u3, ()), (out, ()))) (stH turned_j1_st ((from_, to, (), u, u2, u3, ()), (out, ()))) = turned_j1 N rec from_ to u u2 u3 out := by kernel_rfl
theorem turned_j1_lf (N : Nat) (rec : Int → Int → (List (Int × (Int × Int))) → Int → Int → (List Int) → Option (List Int)) {z : List Int} {top : Bool} {E : EE} {Xc : Ctx} (hE : EOK turned_B.m0 E) (hX : CxOK top Xc) (hrec : LeafOK Try.prog turned_B.c turned_B.n turned_B.m0 E Xc z (turned_l1_h rec)) (h0 : LeafOK Try.prog turned_B.c turned_B.n turned_B.m0 E Xc z turned_l1_e0) : LeafOK Try.prog turned_B.c turned_B.n turned_B.m0 E Xc z (turned_j1_k N rec) := leaf_of_ev (B := turned_B) (loops := []) (leaves := [turned_l1_h rec, turned_l1_e0]) (turned_all N) mixed trivial hE hX ⟨hrec, h0, trivial⟩ RetOK.no (fun p => turned_j1_eq N rec p.1.1 p.1.2.1 p.1.2.2.2.1 p.1.2.2.2.2.1 p.1.2.2.2.2.2.1 p.2.1)
noncomputable def turned_l1_L (N : Nat) : LoopS := { at_ := turned_l1_at, sta := turned_l1_st, exits := [([.c [1, 1, 1, 0], .c [1, 1, 1, 1]], ⟨[7], ⟨[.ols 0], [.lst (.int .i64)]⟩⟩)], run := fun p k => (turned_l1 N N p.1.1 p.1.2.1 p.1.2.2.2.1 p.1.2.2.2.2.1 p.1.2.2.2.2.2.1 p.2.1).bind fun e => k (.inl (((), ()), (e, ()))) }
theorem turned_l1_eq (N n_ : Nat) (from_ : Int) (to : Int) (u : List (Int × (Int × Int))) (u2 : Int) (u3 : Int) (out : List Int) : ev (Z := List Int) Try.prog (turned_sp N) turned_B [] [turned_l1_h (turned_l1 N n_), turned_l1_e0, turned_j1_k N (turned_l1 N n_)] none 400 true turned_l1_at (stL turned_l1_st ((from_, to, (), u, u2, u3, ()), (out, ()))) (stH turned_l1_st ((from_, to, (), u, u2, u3, ()), (out, ()))) = turned_l1 N (n_ + 1) from_ to u u2 u3 out := by kernel_rfl
theorem turned_l1_ok (N : Nat) {top : Bool} : LoopOK Try.prog turned_B.c turned_B.n turned_B.m0 top (turned_l1_L N) := loop_of_ev (Z := List Int) (N := N) (fun m p => turned_l1 N m p.1.1 p.1.2.1 p.1.2.2.2.1 p.1.2.2.2.2.1 p.1.2.2.2.2.2.1 p.2.1) (fun e => .inl (((), ()), (e, ()))) (fun _ _ _ => rfl) (fun _ => rfl) (fun m z E Xc hE hX hrec hx => leaf_of_ev (B := turned_B) (loops := []) (leaves := [turned_l1_h (turned_l1 N m), turned_l1_e0, turned_j1_k N (turned_l1 N m)]) (turned_all N) mixed trivial hE hX ⟨hrec, (fun p hp => by obtain rfl := Option.some.inj hp; exact hx), turned_j1_lf N _ hE hX hrec (fun p hp => by obtain rfl := Option.some.inj hp; exact hx), trivial⟩ RetOK.no (fun p => turned_l1_eq N m p.1.1 p.1.2.1 p.1.2.2.2.1 p.1.2.2.2.2.1 p.1.2.2.2.2.2.1 p.2.1))
abbrev turned_st : Sta := ⟨[0, 1, 2], ⟨[.fe (.pair (.sl (.pair (.int .i64) (.pair (.int .i64) .bool))) (.pair (.sl (.pair (.int .i64) (.pair (.int .i64) (.int .i64)))) (.int .i64))), .i .i64, .i .i64], []⟩⟩
theorem turned_eq (N : Nat) (d : ((List (Int × (Int × Bool))) × ((List (Int × (Int × Int))) × Int))) (from_ : Int) (to : Int) : ev (Z := List Int) Try.prog (turned_sp N) turned_B [turned_l1_L N] [] (some turned_rt) 400 false [.c [0], .c [1]] (stL turned_st ((d, from_, to, ()), ())) (stH turned_st ((d, from_, to, ()), ())) = turned_S N d from_ to := by kernel_rfl
noncomputable def sp_turned (N : Nat) : Spec := { f := 100, ins := ⟨[.fe (.pair (.sl (.pair (.int .i64) (.pair (.int .i64) .bool))) (.pair (.sl (.pair (.int .i64) (.pair (.int .i64) (.int .i64)))) (.int .i64))), .i .i64, .i .i64], []⟩, outs := [⟨[.sl (.int .i64)], []⟩], run := fun p k => (turned_S N p.1.1 p.1.2.1 p.1.2.2.1).bind fun r => k ((r, ()), ()) }
theorem sp_turned_ok (N : Nat) : SpecOK Try.prog (sp_turned N) := fn_sound (B := turned_B) (loops := [turned_l1_L N]) (leaves := []) (fun p => turned_S N p.1.1 p.1.2.1 p.1.2.2.1) (fun r => ((r, ()), ())) turned_rt (fun _ _ _ => rfl) (fun r z h => by cases h; rfl) Try.func100 (by kernel_rfl) (by kernel_rfl) (by kernel_rfl) rfl rfl (by kernel_rfl) (fun args w => Sem.pv_run _ _ _ (by kernel_rfl) w) (turned_all N) mixed ⟨turned_l1_ok N, trivial⟩ (fun z E Xc hE hX hret => trivial) (fun p => turned_eq N p.1.1 p.1.2.1 p.1.2.2.1)

def stops_S (N : Nat) (d : ((List (Int × (Int × Bool))) × ((List (Int × (Int × Int))) × Int))) (place : Int) : Option Bool :=
  br (decide (place = 0))
    (some true)
    ((end__S N d).bind fun x_1 =>
    br (decide (place = x_1))
      (some true)
      (chk (place - 1) <|
      idx d.1 (place - 1) fun x_2 =>
      some x_2.2.2))
noncomputable def stops_sp (N : Nat) : List Spec := [sp_end_ N]
theorem stops_all (N : Nat) : AllP (SpecOK Try.prog) (stops_sp N) := ⟨sp_end__ok N, trivial⟩
noncomputable def stops_c : Code := (Try.f159.body).getD .skip
noncomputable abbrev stops_B : Body := { c := stops_c, n := 25, res := [.tmp 4], outs := [⟨[.b], []⟩], m0 := 0 }
abbrev stops_rt : altD stops_B.outs → Option Bool := fun r => some r.1.1
abbrev stops_st : Sta := ⟨[0, 1], ⟨[.fe (.pair (.sl (.pair (.int .i64) (.pair (.int .i64) .bool))) (.pair (.sl (.pair (.int .i64) (.pair (.int .i64) (.int .i64)))) (.int .i64))), .i .i64], []⟩⟩
theorem stops_eq (N : Nat) (d : ((List (Int × (Int × Bool))) × ((List (Int × (Int × Int))) × Int))) (place : Int) : ev (Z := Bool) Try.prog (stops_sp N) stops_B [] [] (some stops_rt) 400 false [.c [0], .c [1]] (stL stops_st ((d, place, ()), ())) (stH stops_st ((d, place, ()), ())) = stops_S N d place := by kernel_rfl
noncomputable def sp_stops (N : Nat) : Spec := { f := 159, ins := ⟨[.fe (.pair (.sl (.pair (.int .i64) (.pair (.int .i64) .bool))) (.pair (.sl (.pair (.int .i64) (.pair (.int .i64) (.int .i64)))) (.int .i64))), .i .i64], []⟩, outs := [⟨[.b], []⟩], run := fun p k => (stops_S N p.1.1 p.1.2.1).bind fun r => k ((r, ()), ()) }
theorem sp_stops_ok (N : Nat) : SpecOK Try.prog (sp_stops N) := fn_sound (B := stops_B) (loops := []) (leaves := []) (fun p => stops_S N p.1.1 p.1.2.1) (fun r => ((r, ()), ())) stops_rt (fun _ _ _ => rfl) (fun r z h => by cases h; rfl) Try.func159 (by kernel_rfl) (by kernel_rfl) (by kernel_rfl) rfl rfl (by kernel_rfl) (fun args w => Sem.pv_run _ _ _ (by kernel_rfl) w) (stops_all N) mixed trivial (fun z E Xc hE hX hret => trivial) (fun p => stops_eq N p.1.1 p.1.2.1)

def fault_S (N : Nat) (d : ((List (Int × (Int × Bool))) × ((List (Int × (Int × Int))) × Int))) (from_ : Int) (to : Int) : Option (Int × Bool) :=
  (syllables_S N d from_ to).bind fun x_1 =>
  br (decide (d.2.2 < x_1))
    (some (0, true))
    ((stops_S N d from_).bind fun x_2 =>
    br (!x_2)
      (some (1, true))
      ((stops_S N d to).bind fun x_3 =>
      br (!x_3)
        (some (1, true))
        ((turned_S N d from_ to).bind fun x_4 =>
        some (2, (decide (0 < (x_4.length : Int)))))))
noncomputable def fault_sp (N : Nat) : List Spec := [sp_syllables N, sp_turned N, sp_stops N]
theorem fault_all (N : Nat) : AllP (SpecOK Try.prog) (fault_sp N) := ⟨sp_syllables_ok N, sp_turned_ok N, sp_stops_ok N, trivial⟩
noncomputable def fault_c : Code := (Try.f142.body).getD .skip
noncomputable abbrev fault_B : Body := { c := fault_c, n := 36, res := [.tmp 6, .tmp 7], outs := [⟨[.i .i64, .b], []⟩], m0 := 0 }
abbrev fault_rt : altD fault_B.outs → Option (Int × Bool) := fun r => some (r.1.1, r.1.2.1)
abbrev fault_st : Sta := ⟨[0, 1, 2], ⟨[.fe (.pair (.sl (.pair (.int .i64) (.pair (.int .i64) .bool))) (.pair (.sl (.pair (.int .i64) (.pair (.int .i64) (.int .i64)))) (.int .i64))), .i .i64, .i .i64], []⟩⟩
theorem fault_eq (N : Nat) (d : ((List (Int × (Int × Bool))) × ((List (Int × (Int × Int))) × Int))) (from_ : Int) (to : Int) : ev (Z := Int × Bool) Try.prog (fault_sp N) fault_B [] [] (some fault_rt) 400 false [.c [0], .c [1]] (stL fault_st ((d, from_, to, ()), ())) (stH fault_st ((d, from_, to, ()), ())) = fault_S N d from_ to := by kernel_rfl
noncomputable def sp_fault (N : Nat) : Spec := { f := 142, ins := ⟨[.fe (.pair (.sl (.pair (.int .i64) (.pair (.int .i64) .bool))) (.pair (.sl (.pair (.int .i64) (.pair (.int .i64) (.int .i64)))) (.int .i64))), .i .i64, .i .i64], []⟩, outs := [⟨[.i .i64, .b], []⟩], run := fun p k => (fault_S N p.1.1 p.1.2.1 p.1.2.2.1).bind fun r => k ((r.1, r.2, ()), ()) }
theorem sp_fault_ok (N : Nat) : SpecOK Try.prog (sp_fault N) := fn_sound (B := fault_B) (loops := []) (leaves := []) (fun p => fault_S N p.1.1 p.1.2.1 p.1.2.2.1) (fun r => ((r.1, r.2, ()), ())) fault_rt (fun _ _ _ => rfl) (fun r z h => by cases h; rfl) Try.func142 (by kernel_rfl) (by kernel_rfl) (by kernel_rfl) rfl rfl (by kernel_rfl) (fun args w => Sem.pv_run _ _ _ (by kernel_rfl) w) (fault_all N) mixed trivial (fun z E Xc hE hX hret => trivial) (fun p => fault_eq N p.1.1 p.1.2.1 p.1.2.2.1)

def right_S (N : Nat) (d : ((List (Int × (Int × Bool))) × ((List (Int × (Int × Int))) × Int))) (from_ : Int) (to : Int) : Option Bool :=
  (fault_S N d from_ to).bind fun (x_1, y_2) =>
  some (!y_2)
noncomputable def right_sp (N : Nat) : List Spec := [sp_fault N]
theorem right_all (N : Nat) : AllP (SpecOK Try.prog) (right_sp N) := ⟨sp_fault_ok N, trivial⟩
noncomputable def right_c : Code := (Try.f87.body).getD .skip
noncomputable abbrev right_B : Body := { c := right_c, n := 18, res := [.tmp 6], outs := [⟨[.b], []⟩], m0 := 0 }
abbrev right_rt : altD right_B.outs → Option Bool := fun r => some r.1.1
abbrev right_st : Sta := ⟨[0, 1, 2], ⟨[.fe (.pair (.sl (.pair (.int .i64) (.pair (.int .i64) .bool))) (.pair (.sl (.pair (.int .i64) (.pair (.int .i64) (.int .i64)))) (.int .i64))), .i .i64, .i .i64], []⟩⟩
theorem right_eq (N : Nat) (d : ((List (Int × (Int × Bool))) × ((List (Int × (Int × Int))) × Int))) (from_ : Int) (to : Int) : ev (Z := Bool) Try.prog (right_sp N) right_B [] [] (some right_rt) 400 false [.c [0], .c [1]] (stL right_st ((d, from_, to, ()), ())) (stH right_st ((d, from_, to, ()), ())) = right_S N d from_ to := by kernel_rfl
noncomputable def sp_right (N : Nat) : Spec := { f := 87, ins := ⟨[.fe (.pair (.sl (.pair (.int .i64) (.pair (.int .i64) .bool))) (.pair (.sl (.pair (.int .i64) (.pair (.int .i64) (.int .i64)))) (.int .i64))), .i .i64, .i .i64], []⟩, outs := [⟨[.b], []⟩], run := fun p k => (right_S N p.1.1 p.1.2.1 p.1.2.2.1).bind fun r => k ((r, ()), ()) }
theorem sp_right_ok (N : Nat) : SpecOK Try.prog (sp_right N) := fn_sound (B := right_B) (loops := []) (leaves := []) (fun p => right_S N p.1.1 p.1.2.1 p.1.2.2.1) (fun r => ((r, ()), ())) right_rt (fun _ _ _ => rfl) (fun r z h => by cases h; rfl) Try.func87 (by kernel_rfl) (by kernel_rfl) (by kernel_rfl) rfl rfl (by kernel_rfl) (fun args w => Sem.pv_run _ _ _ (by kernel_rfl) w) (right_all N) mixed trivial (fun z E Xc hE hX hret => trivial) (fun p => right_eq N p.1.1 p.1.2.1 p.1.2.2.1)

def reading1_S (N : Nat) (n : Int) : Option Bool :=
  (in__S N n 1 12).bind fun x_1 =>
  some x_1
noncomputable def reading1_sp (N : Nat) : List Spec := [sp_in_ N]
theorem reading1_all (N : Nat) : AllP (SpecOK Try.prog) (reading1_sp N) := ⟨sp_in__ok N, trivial⟩
noncomputable def reading1_c : Code := (Try.f147.body).getD .skip
noncomputable abbrev reading1_B : Body := { c := reading1_c, n := 5, res := [.tmp 2], outs := [⟨[.b], []⟩], m0 := 0 }
abbrev reading1_rt : altD reading1_B.outs → Option Bool := fun r => some r.1.1
abbrev reading1_st : Sta := ⟨[0], ⟨[.i .i64], []⟩⟩
theorem reading1_eq (N : Nat) (n : Int) : ev (Z := Bool) Try.prog (reading1_sp N) reading1_B [] [] (some reading1_rt) 400 false [.c [0], .c [1]] (stL reading1_st ((n, ()), ())) (stH reading1_st ((n, ()), ())) = reading1_S N n := by kernel_rfl
noncomputable def sp_reading1 (N : Nat) : Spec := { f := 147, ins := ⟨[.i .i64], []⟩, outs := [⟨[.b], []⟩], run := fun p k => (reading1_S N p.1.1).bind fun r => k ((r, ()), ()) }
theorem sp_reading1_ok (N : Nat) : SpecOK Try.prog (sp_reading1 N) := fn_sound (B := reading1_B) (loops := []) (leaves := []) (fun p => reading1_S N p.1.1) (fun r => ((r, ()), ())) reading1_rt (fun _ _ _ => rfl) (fun r z h => by cases h; rfl) Try.func147 (by kernel_rfl) (by kernel_rfl) (by kernel_rfl) rfl rfl (by kernel_rfl) (fun args w => Sem.pv_run _ _ _ (by kernel_rfl) w) (reading1_all N) mixed trivial (fun z E Xc hE hX hret => trivial) (fun p => reading1_eq N p.1.1)

def every1i1_S (N : Nat) (x : Int) : Option Bool :=
  (reading1_S N x).bind fun x_1 =>
  some (!x_1)
noncomputable def every1i1_sp (N : Nat) : List Spec := [sp_reading1 N]
theorem every1i1_all (N : Nat) : AllP (SpecOK Try.prog) (every1i1_sp N) := ⟨sp_reading1_ok N, trivial⟩
noncomputable def every1i1_c : Code := (Try.f154.body).getD .skip
noncomputable abbrev every1i1_B : Body := { c := every1i1_c, n := 8, res := [.tmp 3], outs := [⟨[.b], [.segs [.fn 147 [] []]]⟩], m0 := 1 }
abbrev every1i1_rt : altD every1i1_B.outs → Option Bool := fun r => some r.1.1
abbrev every1i1_st : Sta := ⟨[0, 1], ⟨[.i .i64, .own 0 0], [.segs [.fn 147 [] []]]⟩⟩
theorem every1i1_eq (N : Nat) (x : Int) : ev (Z := Bool) Try.prog (every1i1_sp N) every1i1_B [] [] (some every1i1_rt) 400 false [.c [0], .c [1]] (stL every1i1_st ((x, (), ()), ((((), ()), ()), ()))) (stH every1i1_st ((x, (), ()), ((((), ()), ()), ()))) = every1i1_S N x := by kernel_rfl
noncomputable def sp_every1i1 (N : Nat) : Spec := { f := 154, ins := ⟨[.i .i64, .own 0 0], [.segs [.fn 147 [] []]]⟩, outs := [⟨[.b], [.segs [.fn 147 [] []]]⟩], run := fun p k => (every1i1_S N p.1.1).bind fun r => k ((r, ()), ((((), ()), ()), ())) }
theorem sp_every1i1_ok (N : Nat) : SpecOK Try.prog (sp_every1i1 N) := fn_sound (B := every1i1_B) (loops := []) (leaves := []) (fun p => every1i1_S N p.1.1) (fun r => ((r, ()), ((((), ()), ()), ()))) every1i1_rt (fun _ _ _ => rfl) (fun r z h => by cases h; rfl) Try.func154 (by kernel_rfl) (by kernel_rfl) (by kernel_rfl) rfl rfl (by kernel_rfl) (fun args w => Sem.pv_run _ _ _ (by kernel_rfl) w) (every1i1_all N) mixed trivial (fun z E Xc hE hX hret => trivial) (fun p => every1i1_eq N p.1.1)

def ixfi1_l1 (N : Nat) : Nat → (List Int) → Int → Int → Option ((Int) ⊕ (Unit))
  | 0, _, _, _ => none
  | n_ + 1, s, u, u2 =>
    br (decide (u2 < u))
      (idx s u2 fun x_1 =>
      (every1i1_S N x_1).bind fun x_2 =>
      br x_2
        (some (.inl u2))
        (chk (u2 + 1) <|
        ixfi1_l1 N n_ s u (u2 + 1)))
      (some (.inr ()))
def ixfi1_S (N : Nat) (s : List Int) : Option Int :=
  (ixfi1_l1 N N s (s.length : Int) 0).bind fun e => match e with
  | .inl i_3 =>
    some i_3
  | .inr _ =>
    some (-1)
noncomputable def ixfi1_sp (N : Nat) : List Spec := [sp_every1i1 N]
theorem ixfi1_all (N : Nat) : AllP (SpecOK Try.prog) (ixfi1_sp N) := ⟨sp_every1i1_ok N, trivial⟩
noncomputable def ixfi1_c : Code := (Try.f113.body).getD .skip
noncomputable abbrev ixfi1_B : Body := { c := ixfi1_c, n := 19, res := [.tmp 4], outs := [⟨[.i .i64], [.segs [.fn 147 [] []]]⟩], m0 := 1 }
abbrev ixfi1_rt : altD ixfi1_B.outs → Option Int := fun r => some r.1.1
abbrev ixfi1_l1_at : List PI := [.c [1, 0, 1, 0, 0, 0], .c [1, 0, 1, 0, 0, 1], .l [1, 0, 1, 0, 0], .b 0, .c [1, 1]]
abbrev ixfi1_l1_st : Sta := ⟨[0, 1, 7, 8], ⟨[.sl (.int .i64), .fn 154 [] [.own 0 0], .i .i64, .i .i64], [.segs [.fn 147 [] []]]⟩⟩
abbrev ixfi1_l1_h (rec : (List Int) → Int → Int → Option ((Int) ⊕ (Unit))) : Leaf ((Int) ⊕ (Unit)) := ⟨ixfi1_l1_at, ixfi1_l1_st, fun p => rec p.1.1 p.1.2.2.1 p.1.2.2.2.1⟩
abbrev ixfi1_l1_e0 : Leaf ((Int) ⊕ (Unit)) := ⟨[.c [1, 0, 1, 0, 0, 1, 1, 0, 0, 1, 1, 0, 0], .c [1, 0, 1, 0, 0, 1, 1, 0, 0, 1, 1, 0, 1], .b 1, .c [1, 0, 1, 0, 0, 1, 1, 1], .l [1, 0, 1, 0, 0], .b 0, .c [1, 1]], ⟨[5], ⟨[.i .i64], [.segs [.fn 147 [] []]]⟩⟩, fun p => some (.inl p.1.1)⟩
abbrev ixfi1_l1_e1 : Leaf ((Int) ⊕ (Unit)) := ⟨[.c [1, 1, 0], .c [1, 1, 1]], ⟨[], ⟨[], [.segs [.fn 147 [] []]]⟩⟩, fun p => some (.inr ())⟩
noncomputable def ixfi1_l1_L (N : Nat) : LoopS := { at_ := ixfi1_l1_at, sta := ixfi1_l1_st, exits := [([.c [1, 0, 1, 0, 0, 1, 1, 0, 0, 1, 1, 0, 0], .c [1, 0, 1, 0, 0, 1, 1, 0, 0, 1, 1, 0, 1], .b 1, .c [1, 0, 1, 0, 0, 1, 1, 1], .l [1, 0, 1, 0, 0], .b 0, .c [1, 1]], ⟨[5], ⟨[.i .i64], [.segs [.fn 147 [] []]]⟩⟩), ([.c [1, 1, 0], .c [1, 1, 1]], ⟨[], ⟨[], [.segs [.fn 147 [] []]]⟩⟩)], run := fun p k => (ixfi1_l1 N N p.1.1 p.1.2.2.1 p.1.2.2.2.1).bind fun e => match e with | .inl x => k (.inl ((x, ()), ((((), ()), ()), ()))) | .inr x => k (.inr (.inl ((), ((((), ()), ()), ())))) }
theorem ixfi1_l1_eq (N n_ : Nat) (s : List Int) (u : Int) (u2 : Int) : ev (Z := (Int) ⊕ (Unit)) Try.prog (ixfi1_sp N) ixfi1_B [] [ixfi1_l1_h (ixfi1_l1 N n_), ixfi1_l1_e0, ixfi1_l1_e1] none 400 true ixfi1_l1_at (stL ixfi1_l1_st ((s, ((), ((), ())), u, u2, ()), ((((), ()), ()), ()))) (stH ixfi1_l1_st ((s, ((), ((), ())), u, u2, ()), ((((), ()), ()), ()))) = ixfi1_l1 N (n_ + 1) s u u2 := by kernel_rfl
theorem ixfi1_l1_ok (N : Nat) {top : Bool} : LoopOK Try.prog ixfi1_B.c ixfi1_B.n ixfi1_B.m0 top (ixfi1_l1_L N) := loop_of_ev (Z := (Int) ⊕ (Unit)) (N := N) (fun m p => ixfi1_l1 N m p.1.1 p.1.2.2.1 p.1.2.2.2.1) (fun e => match e with | .inl x => .inl ((x, ()), ((((), ()), ()), ())) | .inr x => .inr (.inl ((), ((((), ()), ()), ())))) (fun _ p k => bind_congr_ (ixfi1_l1 N N p.1.1 p.1.2.2.1 p.1.2.2.2.1) _ _ (fun e => by rcases e with x | x <;> rfl)) (fun _ => rfl) (fun m z E Xc hE hX hrec hx => leaf_of_ev (B := ixfi1_B) (loops := []) (leaves := [ixfi1_l1_h (ixfi1_l1 N m), ixfi1_l1_e0, ixfi1_l1_e1]) (ixfi1_all N) mixed trivial hE hX ⟨hrec, (fun p hp => by obtain rfl := Option.some.inj hp; exact hx), (fun p hp => by obtain rfl := Option.some.inj hp; exact hx), trivial⟩ RetOK.no (fun p => ixfi1_l1_eq N m p.1.1 p.1.2.2.1 p.1.2.2.2.1))
abbrev ixfi1_st : Sta := ⟨[0, 1], ⟨[.sl (.int .i64), .fn 154 [] [.own 0 0]], [.segs [.fn 147 [] []]]⟩⟩
theorem ixfi1_eq (N : Nat) (s : List Int) : ev (Z := Int) Try.prog (ixfi1_sp N) ixfi1_B [ixfi1_l1_L N] [] (some ixfi1_rt) 400 false [.c [0], .c [1]] (stL ixfi1_st ((s, ((), ((), ())), ()), ((((), ()), ()), ()))) (stH ixfi1_st ((s, ((), ((), ())), ()), ((((), ()), ()), ()))) = ixfi1_S N s := by kernel_rfl
noncomputable def sp_ixfi1 (N : Nat) : Spec := { f := 113, ins := ⟨[.sl (.int .i64), .fn 154 [] [.own 0 0]], [.segs [.fn 147 [] []]]⟩, outs := [⟨[.i .i64], [.segs [.fn 147 [] []]]⟩], run := fun p k => (ixfi1_S N p.1.1).bind fun r => k ((r, ()), ((((), ()), ()), ())) }
theorem sp_ixfi1_ok (N : Nat) : SpecOK Try.prog (sp_ixfi1 N) := fn_sound (B := ixfi1_B) (loops := [ixfi1_l1_L N]) (leaves := []) (fun p => ixfi1_S N p.1.1) (fun r => ((r, ()), ((((), ()), ()), ()))) ixfi1_rt (fun _ _ _ => rfl) (fun r z h => by cases h; rfl) Try.func113 (by kernel_rfl) (by kernel_rfl) (by kernel_rfl) rfl rfl (by kernel_rfl) (fun args w => Sem.pv_run _ _ _ (by kernel_rfl) w) (ixfi1_all N) mixed ⟨ixfi1_l1_ok N, trivial⟩ (fun z E Xc hE hX hret => trivial) (fun p => ixfi1_eq N p.1.1)

def cofi1_S (N : Nat) (s : List Int) : Option Bool :=
  (ixfi1_S N s).bind fun x_1 =>
  some (decide (0 ≤ x_1))
noncomputable def cofi1_sp (N : Nat) : List Spec := [sp_ixfi1 N]
theorem cofi1_all (N : Nat) : AllP (SpecOK Try.prog) (cofi1_sp N) := ⟨sp_ixfi1_ok N, trivial⟩
noncomputable def cofi1_c : Code := (Try.f46.body).getD .skip
noncomputable abbrev cofi1_B : Body := { c := cofi1_c, n := 9, res := [.tmp 4], outs := [⟨[.b], [.segs [.fn 147 [] []]]⟩], m0 := 1 }
abbrev cofi1_rt : altD cofi1_B.outs → Option Bool := fun r => some r.1.1
abbrev cofi1_st : Sta := ⟨[0, 1], ⟨[.sl (.int .i64), .fn 154 [] [.own 0 0]], [.segs [.fn 147 [] []]]⟩⟩
theorem cofi1_eq (N : Nat) (s : List Int) : ev (Z := Bool) Try.prog (cofi1_sp N) cofi1_B [] [] (some cofi1_rt) 400 false [.c [0], .c [1]] (stL cofi1_st ((s, ((), ((), ())), ()), ((((), ()), ()), ()))) (stH cofi1_st ((s, ((), ((), ())), ()), ((((), ()), ()), ()))) = cofi1_S N s := by kernel_rfl
noncomputable def sp_cofi1 (N : Nat) : Spec := { f := 46, ins := ⟨[.sl (.int .i64), .fn 154 [] [.own 0 0]], [.segs [.fn 147 [] []]]⟩, outs := [⟨[.b], [.segs [.fn 147 [] []]]⟩], run := fun p k => (cofi1_S N p.1.1).bind fun r => k ((r, ()), ((((), ()), ()), ())) }
theorem sp_cofi1_ok (N : Nat) : SpecOK Try.prog (sp_cofi1 N) := fn_sound (B := cofi1_B) (loops := []) (leaves := []) (fun p => cofi1_S N p.1.1) (fun r => ((r, ()), ((((), ()), ()), ()))) cofi1_rt (fun _ _ _ => rfl) (fun r z h => by cases h; rfl) Try.func46 (by kernel_rfl) (by kernel_rfl) (by kernel_rfl) rfl rfl (by kernel_rfl) (fun args w => Sem.pv_run _ _ _ (by kernel_rfl) w) (cofi1_all N) mixed trivial (fun z E Xc hE hX hret => trivial) (fun p => cofi1_eq N p.1.1)

def everyi1_S (N : Nat) (l : List Int) : Option Bool :=
  (cofi1_S N l).bind fun x_1 =>
  some (!x_1)
noncomputable def everyi1_sp (N : Nat) : List Spec := [sp_cofi1 N]
theorem everyi1_all (N : Nat) : AllP (SpecOK Try.prog) (everyi1_sp N) := ⟨sp_cofi1_ok N, trivial⟩
noncomputable def everyi1_c : Code := (Try.f128.body).getD .skip
noncomputable abbrev everyi1_B : Body := { c := everyi1_c, n := 9, res := [.tmp 4], outs := [⟨[.b], []⟩], m0 := 0 }
abbrev everyi1_rt : altD everyi1_B.outs → Option Bool := fun r => some r.1.1
abbrev everyi1_st : Sta := ⟨[0, 1], ⟨[.sl (.int .i64), .fn 147 [] []], []⟩⟩
theorem everyi1_eq (N : Nat) (l : List Int) : ev (Z := Bool) Try.prog (everyi1_sp N) everyi1_B [] [] (some everyi1_rt) 400 false [.c [0], .c [1]] (stL everyi1_st ((l, ((), ()), ()), ())) (stH everyi1_st ((l, ((), ()), ()), ())) = everyi1_S N l := by kernel_rfl
noncomputable def sp_everyi1 (N : Nat) : Spec := { f := 128, ins := ⟨[.sl (.int .i64), .fn 147 [] []], []⟩, outs := [⟨[.b], []⟩], run := fun p k => (everyi1_S N p.1.1).bind fun r => k ((r, ()), ()) }
theorem sp_everyi1_ok (N : Nat) : SpecOK Try.prog (sp_everyi1 N) := fn_sound (B := everyi1_B) (loops := []) (leaves := []) (fun p => everyi1_S N p.1.1) (fun r => ((r, ()), ())) everyi1_rt (fun _ _ _ => rfl) (fun r z h => by cases h; rfl) Try.func128 (by kernel_rfl) (by kernel_rfl) (by kernel_rfl) rfl rfl (by kernel_rfl) (fun args w => Sem.pv_run _ _ _ (by kernel_rfl) w) (everyi1_all N) mixed trivial (fun z E Xc hE hX hret => trivial) (fun p => everyi1_eq N p.1.1)

def reading_S (N : Nat) (t : List (Int × (Int × Bool))) (t2 : List (Int × (Int × Int))) (t3 : Int) (l : List Int) : Option ((((List (Int × (Int × Bool))) × ((List (Int × (Int × Int))) × Int)) × Int) ⊕ (Int)) :=
  ((opened_S N t t2 t3).bind fun e => match e with
  | .inl (x_1, y_2) =>
    (br (!decide (y_2 = 0))
      (some (.inr y_2))
      ((everyi1_S N l).bind fun x_3 =>
      br (!x_3)
        (some (.inr 3))
        ((sum_S N l).bind fun x_4 =>
        (end__S N x_1).bind fun x_5 =>
        br (!decide (x_4 = x_5))
          (some (.inr 2))
          (some (.inl (x_1, 0))))))
  | .inr x_6 =>
    (br (!decide (x_6 = 0))
      (some (.inr x_6))
      ((everyi1_S N l).bind fun x_7 =>
      br (!x_7)
        (some (.inr 3))
        ((sum_S N l).bind fun x_8 =>
        none))))
noncomputable def reading_sp (N : Nat) : List Spec := [sp_sum N, sp_opened N, sp_end_ N, sp_everyi1 N]
theorem reading_all (N : Nat) : AllP (SpecOK Try.prog) (reading_sp N) := ⟨sp_sum_ok N, sp_opened_ok N, sp_end__ok N, sp_everyi1_ok N, trivial⟩
noncomputable def reading_c : Code := (Try.f98.body).getD .skip
noncomputable abbrev reading_B : Body := { c := reading_c, n := 28, res := [.tmp 4, .tmp 5], outs := [⟨[.fe (.pair (.sl (.pair (.int .i64) (.pair (.int .i64) .bool))) (.pair (.sl (.pair (.int .i64) (.pair (.int .i64) (.int .i64)))) (.int .i64))), .i .i64], []⟩, ⟨[.nilp, .i .i64], []⟩], m0 := 0 }
abbrev reading_rt : altD reading_B.outs → Option ((((List (Int × (Int × Bool))) × ((List (Int × (Int × Int))) × Int)) × Int) ⊕ (Int)) := fun r => match r with | .inl r => some (.inl (r.1.1, r.1.2.1)) | .inr r => some (.inr r.1.2.1)
abbrev reading_st : Sta := ⟨[0, 1], ⟨[.agg [.sl (.pair (.int .i64) (.pair (.int .i64) .bool)), .sl (.pair (.int .i64) (.pair (.int .i64) (.int .i64))), .i .i64], .sl (.int .i64)], []⟩⟩
theorem reading_eq (N : Nat) (t : List (Int × (Int × Bool))) (t2 : List (Int × (Int × Int))) (t3 : Int) (l : List Int) : ev (Z := (((List (Int × (Int × Bool))) × ((List (Int × (Int × Int))) × Int)) × Int) ⊕ (Int)) Try.prog (reading_sp N) reading_B [] [] (some reading_rt) 400 false [.c [0], .c [1]] (stL reading_st (((t, t2, t3, ()), l, ()), ())) (stH reading_st (((t, t2, t3, ()), l, ()), ())) = reading_S N t t2 t3 l := by kernel_rfl
noncomputable def sp_reading (N : Nat) : Spec := { f := 98, ins := ⟨[.agg [.sl (.pair (.int .i64) (.pair (.int .i64) .bool)), .sl (.pair (.int .i64) (.pair (.int .i64) (.int .i64))), .i .i64], .sl (.int .i64)], []⟩, outs := [⟨[.fe (.pair (.sl (.pair (.int .i64) (.pair (.int .i64) .bool))) (.pair (.sl (.pair (.int .i64) (.pair (.int .i64) (.int .i64)))) (.int .i64))), .i .i64], []⟩, ⟨[.nilp, .i .i64], []⟩], run := fun p k => (reading_S N p.1.1.1 p.1.1.2.1 p.1.1.2.2.1 p.1.2.1).bind fun r => match r with | .inl r => k (.inl ((r.1, r.2, ()), ())) | .inr r => k (.inr (((), r, ()), ())) }
theorem sp_reading_ok (N : Nat) : SpecOK Try.prog (sp_reading N) := fn_sound (B := reading_B) (loops := []) (leaves := []) (fun p => reading_S N p.1.1.1 p.1.1.2.1 p.1.1.2.2.1 p.1.2.1) (fun r => match r with | .inl r => (.inl ((r.1, r.2, ()), ())) | .inr r => (.inr (((), r, ()), ()))) reading_rt (fun _ p k => bind_congr_ (reading_S N p.1.1.1 p.1.1.2.1 p.1.1.2.2.1 p.1.2.1) _ _ (fun e => by rcases e with x | x <;> rfl)) (fun r z h => by rcases r with x | x <;> (cases h; rfl)) Try.func98 (by kernel_rfl) (by kernel_rfl) (by kernel_rfl) rfl rfl (by kernel_rfl) (fun args w => Sem.pv_run _ _ _ (by kernel_rfl) w) (reading_all N) mixed trivial (fun z E Xc hE hX hret => trivial) (fun p => reading_eq N p.1.1.1 p.1.1.2.1 p.1.1.2.2.1 p.1.2.1)

def wrong_l1 (N : Nat) : Nat → (((List (Int × (Int × Bool))) × ((List (Int × (Int × Int))) × Int))) → Int → Int → Int → Bool → (List Int) → Int → Int → Option ((Int × Bool × Int) ⊕ (Int × Int × Bool))
  | 0, _, _, _, _, _, _, _, _ => none
  | n_ + 1, d, at_, kind, place, found, u, u2, u3 =>
    br (decide (u3 < u2))
      (idx u u3 fun x_1 =>
      chk (place + x_1) <|
      (fault_S N d place (place + x_1)).bind fun (x_2, y_3) =>
      br y_3
        (some (.inl (x_2, y_3, u3)))
        (chk (place + x_1) <|
        chk (u3 + 1) <|
        wrong_l1 N n_ d at_ x_2 (place + x_1) y_3 u u2 (u3 + 1)))
      (some (.inr (at_, kind, found)))
def wrong_S (N : Nat) (d : ((List (Int × (Int × Bool))) × ((List (Int × (Int × Int))) × Int))) (l : List Int) : Option (Int × Int × Bool) :=
  (wrong_l1 N N d 0 0 0 false l (l.length : Int) 0).bind fun e => match e with
  | .inl (kind_4, found_5, i_6) =>
    some (i_6, kind_4, found_5)
  | .inr (at__7, kind_8, found_9) =>
    some (at__7, kind_8, found_9)
noncomputable def wrong_sp (N : Nat) : List Spec := [sp_fault N]
theorem wrong_all (N : Nat) : AllP (SpecOK Try.prog) (wrong_sp N) := ⟨sp_fault_ok N, trivial⟩
noncomputable def wrong_c : Code := (Try.f99.body).getD .skip
noncomputable abbrev wrong_B : Body := { c := wrong_c, n := 38, res := [.tmp 4, .tmp 5, .tmp 6], outs := [⟨[.i .i64, .i .i64, .b], []⟩], m0 := 0 }
abbrev wrong_rt : altD wrong_B.outs → Option (Int × Int × Bool) := fun r => some (r.1.1, r.1.2.1, r.1.2.2.1)
abbrev wrong_l1_at : List PI := [.c [1, 0, 1, 1, 1, 0, 1, 0, 0, 0], .c [1, 0, 1, 1, 1, 0, 1, 0, 0, 1], .l [1, 0, 1, 1, 1, 0, 1, 0, 0], .b 0, .c [1, 0, 1, 1, 1, 1], .s [1, 0]]
abbrev wrong_l1_st : Sta := ⟨[0, 7, 8, 9, 10, 13, 14, 15], ⟨[.fe (.pair (.sl (.pair (.int .i64) (.pair (.int .i64) .bool))) (.pair (.sl (.pair (.int .i64) (.pair (.int .i64) (.int .i64)))) (.int .i64))), .i .i64, .i .i64, .i .i64, .b, .sl (.int .i64), .i .i64, .i .i64], []⟩⟩
abbrev wrong_l1_h (rec : (((List (Int × (Int × Bool))) × ((List (Int × (Int × Int))) × Int))) → Int → Int → Int → Bool → (List Int) → Int → Int → Option ((Int × Bool × Int) ⊕ (Int × Int × Bool))) : Leaf ((Int × Bool × Int) ⊕ (Int × Int × Bool)) := ⟨wrong_l1_at, wrong_l1_st, fun p => rec p.1.1 p.1.2.1 p.1.2.2.1 p.1.2.2.2.1 p.1.2.2.2.2.1 p.1.2.2.2.2.2.1 p.1.2.2.2.2.2.2.1 p.1.2.2.2.2.2.2.2.1⟩
abbrev wrong_l1_e0 : Leaf ((Int × Bool × Int) ⊕ (Int × Int × Bool)) := ⟨[.c [1, 0, 1, 1, 1, 0, 1, 0, 0, 1, 1, 0, 0, 1, 0, 1, 1, 0, 0], .c [1, 0, 1, 1, 1, 0, 1, 0, 0, 1, 1, 0, 0, 1, 0, 1, 1, 0, 1], .c [1, 0, 1, 1, 1, 0, 1, 0, 0, 1, 1, 0, 0, 1, 1], .b 1, .c [1, 0, 1, 1, 1, 0, 1, 0, 0, 1, 1, 1], .l [1, 0, 1, 1, 1, 0, 1, 0, 0], .b 0, .c [1, 0, 1, 1, 1, 1], .s [1, 0]], ⟨[8, 10, 11], ⟨[.i .i64, .b, .i .i64], []⟩⟩, fun p => some (.inl (p.1.1, p.1.2.1, p.1.2.2.1))⟩
abbrev wrong_l1_e1 : Leaf ((Int × Bool × Int) ⊕ (Int × Int × Bool)) := ⟨[.c [1, 0, 1, 1, 1, 1, 0], .c [1, 0, 1, 1, 1, 1, 1], .s [1, 0]], ⟨[7, 8, 10], ⟨[.i .i64, .i .i64, .b], []⟩⟩, fun p => some (.inr (p.1.1, p.1.2.1, p.1.2.2.1))⟩
noncomputable def wrong_l1_L (N : Nat) : LoopS := { at_ := wrong_l1_at, sta := wrong_l1_st, exits := [([.c [1, 0, 1, 1, 1, 0, 1, 0, 0, 1, 1, 0, 0, 1, 0, 1, 1, 0, 0], .c [1, 0, 1, 1, 1, 0, 1, 0, 0, 1, 1, 0, 0, 1, 0, 1, 1, 0, 1], .c [1, 0, 1, 1, 1, 0, 1, 0, 0, 1, 1, 0, 0, 1, 1], .b 1, .c [1, 0, 1, 1, 1, 0, 1, 0, 0, 1, 1, 1], .l [1, 0, 1, 1, 1, 0, 1, 0, 0], .b 0, .c [1, 0, 1, 1, 1, 1], .s [1, 0]], ⟨[8, 10, 11], ⟨[.i .i64, .b, .i .i64], []⟩⟩), ([.c [1, 0, 1, 1, 1, 1, 0], .c [1, 0, 1, 1, 1, 1, 1], .s [1, 0]], ⟨[7, 8, 10], ⟨[.i .i64, .i .i64, .b], []⟩⟩)], run := fun p k => (wrong_l1 N N p.1.1 p.1.2.1 p.1.2.2.1 p.1.2.2.2.1 p.1.2.2.2.2.1 p.1.2.2.2.2.2.1 p.1.2.2.2.2.2.2.1 p.1.2.2.2.2.2.2.2.1).bind fun e => match e with | .inl x => k (.inl ((x.1, x.2.1, x.2.2, ()), ())) | .inr x => k (.inr (.inl ((x.1, x.2.1, x.2.2, ()), ()))) }
theorem wrong_l1_eq (N n_ : Nat) (d : ((List (Int × (Int × Bool))) × ((List (Int × (Int × Int))) × Int))) (at_ : Int) (kind : Int) (place : Int) (found : Bool) (u : List Int) (u2 : Int) (u3 : Int) : ev (Z := (Int × Bool × Int) ⊕ (Int × Int × Bool)) Try.prog (wrong_sp N) wrong_B [] [wrong_l1_h (wrong_l1 N n_), wrong_l1_e0, wrong_l1_e1] none 400 true wrong_l1_at (stL wrong_l1_st ((d, at_, kind, place, found, u, u2, u3, ()), ())) (stH wrong_l1_st ((d, at_, kind, place, found, u, u2, u3, ()), ())) = wrong_l1 N (n_ + 1) d at_ kind place found u u2 u3 := by kernel_rfl
theorem wrong_l1_ok (N : Nat) {top : Bool} : LoopOK Try.prog wrong_B.c wrong_B.n wrong_B.m0 top (wrong_l1_L N) := loop_of_ev (Z := (Int × Bool × Int) ⊕ (Int × Int × Bool)) (N := N) (fun m p => wrong_l1 N m p.1.1 p.1.2.1 p.1.2.2.1 p.1.2.2.2.1 p.1.2.2.2.2.1 p.1.2.2.2.2.2.1 p.1.2.2.2.2.2.2.1 p.1.2.2.2.2.2.2.2.1) (fun e => match e with | .inl x => .inl ((x.1, x.2.1, x.2.2, ()), ()) | .inr x => .inr (.inl ((x.1, x.2.1, x.2.2, ()), ()))) (fun _ p k => bind_congr_ (wrong_l1 N N p.1.1 p.1.2.1 p.1.2.2.1 p.1.2.2.2.1 p.1.2.2.2.2.1 p.1.2.2.2.2.2.1 p.1.2.2.2.2.2.2.1 p.1.2.2.2.2.2.2.2.1) _ _ (fun e => by rcases e with x | x <;> rfl)) (fun _ => rfl) (fun m z E Xc hE hX hrec hx => leaf_of_ev (B := wrong_B) (loops := []) (leaves := [wrong_l1_h (wrong_l1 N m), wrong_l1_e0, wrong_l1_e1]) (wrong_all N) mixed trivial hE hX ⟨hrec, (fun p hp => by obtain rfl := Option.some.inj hp; exact hx), (fun p hp => by obtain rfl := Option.some.inj hp; exact hx), trivial⟩ RetOK.no (fun p => wrong_l1_eq N m p.1.1 p.1.2.1 p.1.2.2.1 p.1.2.2.2.1 p.1.2.2.2.2.1 p.1.2.2.2.2.2.1 p.1.2.2.2.2.2.2.1 p.1.2.2.2.2.2.2.2.1))
abbrev wrong_st : Sta := ⟨[0, 1], ⟨[.fe (.pair (.sl (.pair (.int .i64) (.pair (.int .i64) .bool))) (.pair (.sl (.pair (.int .i64) (.pair (.int .i64) (.int .i64)))) (.int .i64))), .sl (.int .i64)], []⟩⟩
theorem wrong_eq (N : Nat) (d : ((List (Int × (Int × Bool))) × ((List (Int × (Int × Int))) × Int))) (l : List Int) : ev (Z := Int × Int × Bool) Try.prog (wrong_sp N) wrong_B [wrong_l1_L N] [] (some wrong_rt) 400 false [.c [0], .c [1]] (stL wrong_st ((d, l, ()), ())) (stH wrong_st ((d, l, ()), ())) = wrong_S N d l := by kernel_rfl
noncomputable def sp_wrong (N : Nat) : Spec := { f := 99, ins := ⟨[.fe (.pair (.sl (.pair (.int .i64) (.pair (.int .i64) .bool))) (.pair (.sl (.pair (.int .i64) (.pair (.int .i64) (.int .i64)))) (.int .i64))), .sl (.int .i64)], []⟩, outs := [⟨[.i .i64, .i .i64, .b], []⟩], run := fun p k => (wrong_S N p.1.1 p.1.2.1).bind fun r => k ((r.1, r.2.1, r.2.2, ()), ()) }
theorem sp_wrong_ok (N : Nat) : SpecOK Try.prog (sp_wrong N) := fn_sound (B := wrong_B) (loops := [wrong_l1_L N]) (leaves := []) (fun p => wrong_S N p.1.1 p.1.2.1) (fun r => ((r.1, r.2.1, r.2.2, ()), ())) wrong_rt (fun _ _ _ => rfl) (fun r z h => by cases h; rfl) Try.func99 (by kernel_rfl) (by kernel_rfl) (by kernel_rfl) rfl rfl (by kernel_rfl) (fun args w => Sem.pv_run _ _ _ (by kernel_rfl) w) (wrong_all N) mixed ⟨wrong_l1_ok N, trivial⟩ (fun z E Xc hE hX hret => trivial) (fun p => wrong_eq N p.1.1 p.1.2.1)

def lwrong_S (N : Nat) (t : List (Int × (Int × Bool))) (t2 : List (Int × (Int × Int))) (t3 : Int) (l : List Int) : Option (Int × Int × Int) :=
  ((reading_S N t t2 t3 l).bind fun e => match e with
  | .inl (x_1, y_2) =>
    (br (!decide (y_2 = 0))
      (some (0, 0, y_2))
      ((wrong_S N x_1 l).bind fun (x_3, y_4, y_5) =>
      br (!y_5)
        (some (0, 0, 6))
        (some (x_3, y_4, 0))))
  | .inr x_6 =>
    (br (!decide (x_6 = 0))
      (some (0, 0, x_6))
      (none)))
noncomputable def lwrong_sp (N : Nat) : List Spec := [sp_reading N, sp_wrong N]
theorem lwrong_all (N : Nat) : AllP (SpecOK Try.prog) (lwrong_sp N) := ⟨sp_reading_ok N, sp_wrong_ok N, trivial⟩
noncomputable def lwrong_c : Code := (Try.f44.body).getD .skip
noncomputable abbrev lwrong_B : Body := { c := lwrong_c, n := 32, res := [.tmp 4, .tmp 5, .tmp 6], outs := [⟨[.i .i64, .i .i64, .i .i64], []⟩], m0 := 0 }
abbrev lwrong_rt : altD lwrong_B.outs → Option (Int × Int × Int) := fun r => some (r.1.1, r.1.2.1, r.1.2.2.1)
abbrev lwrong_st : Sta := ⟨[0, 1], ⟨[.agg [.sl (.pair (.int .i64) (.pair (.int .i64) .bool)), .sl (.pair (.int .i64) (.pair (.int .i64) (.int .i64))), .i .i64], .sl (.int .i64)], []⟩⟩
theorem lwrong_eq (N : Nat) (t : List (Int × (Int × Bool))) (t2 : List (Int × (Int × Int))) (t3 : Int) (l : List Int) : ev (Z := Int × Int × Int) Try.prog (lwrong_sp N) lwrong_B [] [] (some lwrong_rt) 400 false [.c [0], .c [1]] (stL lwrong_st (((t, t2, t3, ()), l, ()), ())) (stH lwrong_st (((t, t2, t3, ()), l, ()), ())) = lwrong_S N t t2 t3 l := by kernel_rfl
noncomputable def sp_lwrong (N : Nat) : Spec := { f := 44, ins := ⟨[.agg [.sl (.pair (.int .i64) (.pair (.int .i64) .bool)), .sl (.pair (.int .i64) (.pair (.int .i64) (.int .i64))), .i .i64], .sl (.int .i64)], []⟩, outs := [⟨[.i .i64, .i .i64, .i .i64], []⟩], run := fun p k => (lwrong_S N p.1.1.1 p.1.1.2.1 p.1.1.2.2.1 p.1.2.1).bind fun r => k ((r.1, r.2.1, r.2.2, ()), ()) }
theorem sp_lwrong_ok (N : Nat) : SpecOK Try.prog (sp_lwrong N) := fn_sound (B := lwrong_B) (loops := []) (leaves := []) (fun p => lwrong_S N p.1.1.1 p.1.1.2.1 p.1.1.2.2.1 p.1.2.1) (fun r => ((r.1, r.2.1, r.2.2, ()), ())) lwrong_rt (fun _ _ _ => rfl) (fun r z h => by cases h; rfl) Try.func44 (by kernel_rfl) (by kernel_rfl) (by kernel_rfl) rfl rfl (by kernel_rfl) (fun args w => Sem.pv_run _ _ _ (by kernel_rfl) w) (lwrong_all N) mixed trivial (fun z E Xc hE hX hret => trivial) (fun p => lwrong_eq N p.1.1.1 p.1.1.2.1 p.1.1.2.2.1 p.1.2.1)

def indexi_l1 (N : Nat) : Nat → (List Int) → Int → Int → Int → Option ((Int) ⊕ (Unit))
  | 0, _, _, _, _ => none
  | n_ + 1, s, v, u, u2 =>
    br (decide (u2 < u))
      (idx s u2 fun x_1 =>
      br (decide (v = x_1))
        (some (.inl u2))
        (chk (u2 + 1) <|
        indexi_l1 N n_ s v u (u2 + 1)))
      (some (.inr ()))
def indexi_S (N : Nat) (s : List Int) (v : Int) : Option Int :=
  (indexi_l1 N N s v (s.length : Int) 0).bind fun e => match e with
  | .inl i_2 =>
    some i_2
  | .inr _ =>
    some (-1)
noncomputable def indexi_sp (N : Nat) : List Spec := []
theorem indexi_all (N : Nat) : AllP (SpecOK Try.prog) (indexi_sp N) := trivial
noncomputable def indexi_c : Code := (Try.f103.body).getD .skip
noncomputable abbrev indexi_B : Body := { c := indexi_c, n := 19, res := [.tmp 4], outs := [⟨[.i .i64], []⟩], m0 := 0 }
abbrev indexi_rt : altD indexi_B.outs → Option Int := fun r => some r.1.1
abbrev indexi_l1_at : List PI := [.c [1, 0, 1, 0, 0, 0], .c [1, 0, 1, 0, 0, 1], .l [1, 0, 1, 0, 0], .b 0, .c [1, 1]]
abbrev indexi_l1_st : Sta := ⟨[0, 1, 7, 8], ⟨[.sl (.int .i64), .i .i64, .i .i64, .i .i64], []⟩⟩
abbrev indexi_l1_h (rec : (List Int) → Int → Int → Int → Option ((Int) ⊕ (Unit))) : Leaf ((Int) ⊕ (Unit)) := ⟨indexi_l1_at, indexi_l1_st, fun p => rec p.1.1 p.1.2.1 p.1.2.2.1 p.1.2.2.2.1⟩
abbrev indexi_l1_e0 : Leaf ((Int) ⊕ (Unit)) := ⟨[.c [1, 0, 1, 0, 0, 1, 1, 0, 0, 1, 1, 0, 0], .c [1, 0, 1, 0, 0, 1, 1, 0, 0, 1, 1, 0, 1], .b 1, .c [1, 0, 1, 0, 0, 1, 1, 1], .l [1, 0, 1, 0, 0], .b 0, .c [1, 1]], ⟨[5], ⟨[.i .i64], []⟩⟩, fun p => some (.inl p.1.1)⟩
abbrev indexi_l1_e1 : Leaf ((Int) ⊕ (Unit)) := ⟨[.c [1, 1, 0], .c [1, 1, 1]], ⟨[], ⟨[], []⟩⟩, fun p => some (.inr ())⟩
noncomputable def indexi_l1_L (N : Nat) : LoopS := { at_ := indexi_l1_at, sta := indexi_l1_st, exits := [([.c [1, 0, 1, 0, 0, 1, 1, 0, 0, 1, 1, 0, 0], .c [1, 0, 1, 0, 0, 1, 1, 0, 0, 1, 1, 0, 1], .b 1, .c [1, 0, 1, 0, 0, 1, 1, 1], .l [1, 0, 1, 0, 0], .b 0, .c [1, 1]], ⟨[5], ⟨[.i .i64], []⟩⟩), ([.c [1, 1, 0], .c [1, 1, 1]], ⟨[], ⟨[], []⟩⟩)], run := fun p k => (indexi_l1 N N p.1.1 p.1.2.1 p.1.2.2.1 p.1.2.2.2.1).bind fun e => match e with | .inl x => k (.inl ((x, ()), ())) | .inr x => k (.inr (.inl ((), ()))) }
theorem indexi_l1_eq (N n_ : Nat) (s : List Int) (v : Int) (u : Int) (u2 : Int) : ev (Z := (Int) ⊕ (Unit)) Try.prog (indexi_sp N) indexi_B [] [indexi_l1_h (indexi_l1 N n_), indexi_l1_e0, indexi_l1_e1] none 400 true indexi_l1_at (stL indexi_l1_st ((s, v, u, u2, ()), ())) (stH indexi_l1_st ((s, v, u, u2, ()), ())) = indexi_l1 N (n_ + 1) s v u u2 := by kernel_rfl
theorem indexi_l1_ok (N : Nat) {top : Bool} : LoopOK Try.prog indexi_B.c indexi_B.n indexi_B.m0 top (indexi_l1_L N) := loop_of_ev (Z := (Int) ⊕ (Unit)) (N := N) (fun m p => indexi_l1 N m p.1.1 p.1.2.1 p.1.2.2.1 p.1.2.2.2.1) (fun e => match e with | .inl x => .inl ((x, ()), ()) | .inr x => .inr (.inl ((), ()))) (fun _ p k => bind_congr_ (indexi_l1 N N p.1.1 p.1.2.1 p.1.2.2.1 p.1.2.2.2.1) _ _ (fun e => by rcases e with x | x <;> rfl)) (fun _ => rfl) (fun m z E Xc hE hX hrec hx => leaf_of_ev (B := indexi_B) (loops := []) (leaves := [indexi_l1_h (indexi_l1 N m), indexi_l1_e0, indexi_l1_e1]) (indexi_all N) mixed trivial hE hX ⟨hrec, (fun p hp => by obtain rfl := Option.some.inj hp; exact hx), (fun p hp => by obtain rfl := Option.some.inj hp; exact hx), trivial⟩ RetOK.no (fun p => indexi_l1_eq N m p.1.1 p.1.2.1 p.1.2.2.1 p.1.2.2.2.1))
abbrev indexi_st : Sta := ⟨[0, 1], ⟨[.sl (.int .i64), .i .i64], []⟩⟩
theorem indexi_eq (N : Nat) (s : List Int) (v : Int) : ev (Z := Int) Try.prog (indexi_sp N) indexi_B [indexi_l1_L N] [] (some indexi_rt) 400 false [.c [0], .c [1]] (stL indexi_st ((s, v, ()), ())) (stH indexi_st ((s, v, ()), ())) = indexi_S N s v := by kernel_rfl
noncomputable def sp_indexi (N : Nat) : Spec := { f := 103, ins := ⟨[.sl (.int .i64), .i .i64], []⟩, outs := [⟨[.i .i64], []⟩], run := fun p k => (indexi_S N p.1.1 p.1.2.1).bind fun r => k ((r, ()), ()) }
theorem sp_indexi_ok (N : Nat) : SpecOK Try.prog (sp_indexi N) := fn_sound (B := indexi_B) (loops := [indexi_l1_L N]) (leaves := []) (fun p => indexi_S N p.1.1 p.1.2.1) (fun r => ((r, ()), ())) indexi_rt (fun _ _ _ => rfl) (fun r z h => by cases h; rfl) Try.func103 (by kernel_rfl) (by kernel_rfl) (by kernel_rfl) rfl rfl (by kernel_rfl) (fun args w => Sem.pv_run _ _ _ (by kernel_rfl) w) (indexi_all N) mixed ⟨indexi_l1_ok N, trivial⟩ (fun z E Xc hE hX hret => trivial) (fun p => indexi_eq N p.1.1 p.1.2.1)

def containsi_S (N : Nat) (s : List Int) (v : Int) : Option Bool :=
  (indexi_S N s v).bind fun x_1 =>
  some (decide (0 ≤ x_1))
noncomputable def containsi_sp (N : Nat) : List Spec := [sp_indexi N]
theorem containsi_all (N : Nat) : AllP (SpecOK Try.prog) (containsi_sp N) := ⟨sp_indexi_ok N, trivial⟩
noncomputable def containsi_c : Code := (Try.f40.body).getD .skip
noncomputable abbrev containsi_B : Body := { c := containsi_c, n := 9, res := [.tmp 4], outs := [⟨[.b], []⟩], m0 := 0 }
abbrev containsi_rt : altD containsi_B.outs → Option Bool := fun r => some r.1.1
abbrev containsi_st : Sta := ⟨[0, 1], ⟨[.sl (.int .i64), .i .i64], []⟩⟩
theorem containsi_eq (N : Nat) (s : List Int) (v : Int) : ev (Z := Bool) Try.prog (containsi_sp N) containsi_B [] [] (some containsi_rt) 400 false [.c [0], .c [1]] (stL containsi_st ((s, v, ()), ())) (stH containsi_st ((s, v, ()), ())) = containsi_S N s v := by kernel_rfl
noncomputable def sp_containsi (N : Nat) : Spec := { f := 40, ins := ⟨[.sl (.int .i64), .i .i64], []⟩, outs := [⟨[.b], []⟩], run := fun p k => (containsi_S N p.1.1 p.1.2.1).bind fun r => k ((r, ()), ()) }
theorem sp_containsi_ok (N : Nat) : SpecOK Try.prog (sp_containsi N) := fn_sound (B := containsi_B) (loops := []) (leaves := []) (fun p => containsi_S N p.1.1 p.1.2.1) (fun r => ((r, ()), ())) containsi_rt (fun _ _ _ => rfl) (fun r z h => by cases h; rfl) Try.func40 (by kernel_rfl) (by kernel_rfl) (by kernel_rfl) rfl rfl (by kernel_rfl) (fun args w => Sem.pv_run _ _ _ (by kernel_rfl) w) (containsi_all N) mixed trivial (fun z E Xc hE hX hret => trivial) (fun p => containsi_eq N p.1.1 p.1.2.1)

def astray_l3 (N : Nat) : Nat → (List Int) → (((List (Int × (Int × Bool))) × ((List (Int × (Int × Int))) × Int))) → Int → Int → Int → Int → Int → Int → Int → Int → (List Int) → Int → Int → Int → Int → Option ((Int × Int × Int × Int × Int) ⊕ (List Int × ((List (Int × (Int × Bool))) × ((List (Int × (Int × Int))) × Int)) × Int × Int × Int × Int × Int × List Int × Int × Int × Int × Int))
  | 0, _, _, _, _, _, _, _, _, _, _, _, _, _, _, _ => none
  | n_ + 1, l, d, turn, from_, a, n, to, b, u, u2, u3, u4, u5, g, g2 =>
    br (decide (b < (l.length : Int)))
      (idx l b fun x_7 =>
      chk (to + x_7) <|
      (turned_S N d from_ (to + x_7)).bind fun x_8 =>
      (containsi_S N x_8 turn).bind fun x_9 =>
      br x_9
        (some (.inl (turn, a, b, g, g2)))
        (chk (b + 1) <|
        astray_l3 N n_ l d turn from_ a n (to + x_7) (b + 1) u u2 u3 u4 u5 g g2))
      (some (.inr (l, d, turn, from_, n, u, u2, u3, u4, u5, g, g2)))
def astray_l2 (N : Nat) : Nat → (List Int) → (((List (Int × (Int × Bool))) × ((List (Int × (Int × Int))) × Int))) → Int → Int → Int → Int → (List Int) → Int → Int → Int → Int → Option ((Int × Int × Int × Int × Int) ⊕ (List Int × ((List (Int × (Int × Bool))) × ((List (Int × (Int × Int))) × Int)) × Int × Int × Int × Int))
  | 0, _, _, _, _, _, _, _, _, _, _, _ => none
  | n_ + 1, l, d, turn, from_, u, u2, u3, u4, u5, g, g2 =>
    br (decide (u5 < u4))
      (idx u3 u5 fun x_6 =>
      (astray_l3 N N l d turn from_ u5 x_6 from_ u5 u u2 u3 u4 u5 g g2).bind fun e => match e with
      | .inl (turn_10, a_11, b_12, g_13, g2_14) =>
        some (.inl (turn_10, a_11, b_12, g_13, g2_14))
      | .inr (l_15, d_16, turn_17, from__18, n_19, u_20, u2_21, u3_22, u4_23, u5_24, g_25, g2_26) =>
        chk (from__18 + n_19) <|
        chk (u5_24 + 1) <|
        astray_l2 N n_ l_15 d_16 turn_17 (from__18 + n_19) u_20 u2_21 u3_22 u4_23 (u5_24 + 1) g_25 g2_26)
      (some (.inr (l, d, u, u2, g, g2)))
def astray_l1 (N : Nat) : Nat → (List Int) → (((List (Int × (Int × Bool))) × ((List (Int × (Int × Int))) × Int))) → Int → Int → Int → Int → Option ((Int × Int × Int × Int × Int) ⊕ (Int × Int))
  | 0, _, _, _, _, _, _ => none
  | n_ + 1, l, d, u, u2, g, g2 =>
    br (decide (u2 < u))
      ((astray_l2 N N l d u2 0 u u2 l (l.length : Int) 0 g g2).bind fun e => match e with
      | .inl (turn_27, a_28, b_29, g_30, g2_31) =>
        some (.inl (turn_27, a_28, b_29, g_30, g2_31))
      | .inr (l_32, d_33, u_34, u2_35, g_36, g2_37) =>
        chk (u2_35 + 1) <|
        astray_l1 N n_ l_32 d_33 u_34 (u2_35 + 1) g_36 g2_37)
      (some (.inr (g, g2)))
def astray_S (N : Nat) (t : List (Int × (Int × Bool))) (t2 : List (Int × (Int × Int))) (t3 : Int) (l : List Int) : Option (Int × Int × Int × Int) :=
  ((reading_S N t t2 t3 l).bind fun e => match e with
  | .inl (x_1, y_2) =>
    (br (!decide (y_2 = 0))
      (some (0, 0, 0, y_2))
      ((wrong_S N x_1 l).bind fun (x_3, y_4, y_5) =>
      br y_5
        (some (0, 0, 0, 8))
        ((astray_l1 N N l x_1 (x_1.2.1.length : Int) 0 0 0).bind fun e => match e with
        | .inl (turn_38, a_39, b_40, g_41, g2_42) =>
          some (turn_38, a_39, b_40, 0)
        | .inr (g_43, g2_44) =>
          some (0, 0, 0, 6))))
  | .inr x_45 =>
    (br (!decide (x_45 = 0))
      (some (0, 0, 0, x_45))
      (none)))
noncomputable def astray_sp (N : Nat) : List Spec := [sp_turned N, sp_reading N, sp_wrong N, sp_containsi N]
theorem astray_all (N : Nat) : AllP (SpecOK Try.prog) (astray_sp N) := ⟨sp_turned_ok N, sp_reading_ok N, sp_wrong_ok N, sp_containsi_ok N, trivial⟩
noncomputable def astray_c : Code := (Try.f33.body).getD .skip
noncomputable abbrev astray_B : Body := { c := astray_c, n := 83, res := [.tmp 4, .cell 5 52, .tmp 6], outs := [⟨[.i .i64, .agg [.i .i64, .i .i64], .i .i64], []⟩], m0 := 0 }
abbrev astray_rt : altD astray_B.outs → Option (Int × Int × Int × Int) := fun r => some (r.1.1, r.1.2.1.1, r.1.2.1.2.1, r.1.2.2.1)
abbrev astray_l3_at : List PI := [.c [1, 1, 1, 1, 0, 1, 0, 0, 1, 1, 0, 0, 1, 1, 1, 0, 0, 1, 1, 0, 0, 1, 1, 0, 1, 0, 0, 0, 0], .c [1, 1, 1, 1, 0, 1, 0, 0, 1, 1, 0, 0, 1, 1, 1, 0, 0, 1, 1, 0, 0, 1, 1, 0, 1, 0, 0, 0, 1], .c [1, 1, 1, 1, 0, 1, 0, 0, 1, 1, 0, 0, 1, 1, 1, 0, 0, 1, 1, 0, 0, 1, 1, 0, 1, 0, 0, 1], .l [1, 1, 1, 1, 0, 1, 0, 0, 1, 1, 0, 0, 1, 1, 1, 0, 0, 1, 1, 0, 0, 1, 1, 0, 1, 0, 0], .b 4, .c [1, 1, 1, 1, 0, 1, 0, 0, 1, 1, 0, 0, 1, 1, 1, 0, 0, 1, 1, 0, 0, 1, 1, 1], .b 3, .c [1, 1, 1, 1, 0, 1, 0, 0, 1, 1, 0, 0, 1, 1, 1, 0, 0, 1, 1, 1], .l [1, 1, 1, 1, 0, 1, 0, 0, 1, 1, 0, 0, 1, 1, 1, 0, 0], .b 2, .b 1, .c [1, 1, 1, 1, 0, 1, 0, 0, 1, 1, 1], .l [1, 1, 1, 1, 0, 1, 0, 0], .b 0, .c [1, 1, 1, 1, 1]]
abbrev astray_l3_st : Sta := ⟨[1, 5, 7, 12, 13, 14, 15, 16, 17, 42, 43, 46, 47, 48], ⟨[.sl (.int .i64), .own 0 0, .fe (.pair (.sl (.pair (.int .i64) (.pair (.int .i64) .bool))) (.pair (.sl (.pair (.int .i64) (.pair (.int .i64) (.int .i64)))) (.int .i64))), .i .i64, .i .i64, .i .i64, .i .i64, .i .i64, .i .i64, .i .i64, .i .i64, .sl (.int .i64), .i .i64, .i .i64], [.segs [.i .i64, .i .i64]]⟩⟩
abbrev astray_l3_h (rec : (List Int) → (((List (Int × (Int × Bool))) × ((List (Int × (Int × Int))) × Int))) → Int → Int → Int → Int → Int → Int → Int → Int → (List Int) → Int → Int → Int → Int → Option ((Int × Int × Int × Int × Int) ⊕ (List Int × ((List (Int × (Int × Bool))) × ((List (Int × (Int × Int))) × Int)) × Int × Int × Int × Int × Int × List Int × Int × Int × Int × Int))) : Leaf ((Int × Int × Int × Int × Int) ⊕ (List Int × ((List (Int × (Int × Bool))) × ((List (Int × (Int × Int))) × Int)) × Int × Int × Int × Int × Int × List Int × Int × Int × Int × Int)) := ⟨astray_l3_at, astray_l3_st, fun p => rec p.1.1 p.1.2.2.1 p.1.2.2.2.1 p.1.2.2.2.2.1 p.1.2.2.2.2.2.1 p.1.2.2.2.2.2.2.1 p.1.2.2.2.2.2.2.2.1 p.1.2.2.2.2.2.2.2.2.1 p.1.2.2.2.2.2.2.2.2.2.1 p.1.2.2.2.2.2.2.2.2.2.2.1 p.1.2.2.2.2.2.2.2.2.2.2.2.1 p.1.2.2.2.2.2.2.2.2.2.2.2.2.1 p.1.2.2.2.2.2.2.2.2.2.2.2.2.2.1 p.2.1.1 p.2.1.2.1⟩
abbrev astray_l3_e0 : Leaf ((Int × Int × Int × Int × Int) ⊕ (List Int × ((List (Int × (Int × Bool))) × ((List (Int × (Int × Int))) × Int)) × Int × Int × Int × Int × Int × List Int × Int × Int × Int × Int)) := ⟨[.c [1, 1, 1, 1, 0, 1, 0, 0, 1, 1, 0, 0, 1, 1, 1, 0, 0, 1, 1, 0, 0, 1, 1, 0, 1, 0, 0, 1, 0, 0, 1, 1, 0, 0], .c [1, 1, 1, 1, 0, 1, 0, 0, 1, 1, 0, 0, 1, 1, 1, 0, 0, 1, 1, 0, 0, 1, 1, 0, 1, 0, 0, 1, 0, 0, 1, 1, 0, 1], .b 5, .c [1, 1, 1, 1, 0, 1, 0, 0, 1, 1, 0, 0, 1, 1, 1, 0, 0, 1, 1, 0, 0, 1, 1, 0, 1, 0, 0, 1, 1], .l [1, 1, 1, 1, 0, 1, 0, 0, 1, 1, 0, 0, 1, 1, 1, 0, 0, 1, 1, 0, 0, 1, 1, 0, 1, 0, 0], .b 4, .c [1, 1, 1, 1, 0, 1, 0, 0, 1, 1, 0, 0, 1, 1, 1, 0, 0, 1, 1, 0, 0, 1, 1, 1], .b 3, .c [1, 1, 1, 1, 0, 1, 0, 0, 1, 1, 0, 0, 1, 1, 1, 0, 0, 1, 1, 1], .l [1, 1, 1, 1, 0, 1, 0, 0, 1, 1, 0, 0, 1, 1, 1, 0, 0], .b 2, .b 1, .c [1, 1, 1, 1, 0, 1, 0, 0, 1, 1, 1], .l [1, 1, 1, 1, 0, 1, 0, 0], .b 0, .c [1, 1, 1, 1, 1]], ⟨[5, 12, 14, 17], ⟨[.own 0 0, .i .i64, .i .i64, .i .i64], [.segs [.i .i64, .i .i64]]⟩⟩, fun p => some (.inl (p.1.2.1, p.1.2.2.1, p.1.2.2.2.1, p.2.1.1, p.2.1.2.1))⟩
abbrev astray_l3_e1 : Leaf ((Int × Int × Int × Int × Int) ⊕ (List Int × ((List (Int × (Int × Bool))) × ((List (Int × (Int × Int))) × Int)) × Int × Int × Int × Int × Int × List Int × Int × Int × Int × Int)) := ⟨[.c [1, 1, 1, 1, 0, 1, 0, 0, 1, 1, 0, 0, 1, 1, 1, 0, 0, 1, 1, 0, 0, 1, 1, 1], .b 3, .c [1, 1, 1, 1, 0, 1, 0, 0, 1, 1, 0, 0, 1, 1, 1, 0, 0, 1, 1, 1], .l [1, 1, 1, 1, 0, 1, 0, 0, 1, 1, 0, 0, 1, 1, 1, 0, 0], .b 2, .b 1, .c [1, 1, 1, 1, 0, 1, 0, 0, 1, 1, 1], .l [1, 1, 1, 1, 0, 1, 0, 0], .b 0, .c [1, 1, 1, 1, 1]], ⟨[1, 5, 7, 12, 13, 15, 42, 43, 46, 47, 48], ⟨[.sl (.int .i64), .own 0 0, .fe (.pair (.sl (.pair (.int .i64) (.pair (.int .i64) .bool))) (.pair (.sl (.pair (.int .i64) (.pair (.int .i64) (.int .i64)))) (.int .i64))), .i .i64, .i .i64, .i .i64, .i .i64, .i .i64, .sl (.int .i64), .i .i64, .i .i64], [.segs [.i .i64, .i .i64]]⟩⟩, fun p => some (.inr (p.1.1, p.1.2.2.1, p.1.2.2.2.1, p.1.2.2.2.2.1, p.1.2.2.2.2.2.1, p.1.2.2.2.2.2.2.1, p.1.2.2.2.2.2.2.2.1, p.1.2.2.2.2.2.2.2.2.1, p.1.2.2.2.2.2.2.2.2.2.1, p.1.2.2.2.2.2.2.2.2.2.2.1, p.2.1.1, p.2.1.2.1))⟩
noncomputable def astray_l3_L (N : Nat) : LoopS := { at_ := astray_l3_at, sta := astray_l3_st, exits := [([.c [1, 1, 1, 1, 0, 1, 0, 0, 1, 1, 0, 0, 1, 1, 1, 0, 0, 1, 1, 0, 0, 1, 1, 0, 1, 0, 0, 1, 0, 0, 1, 1, 0, 0], .c [1, 1, 1, 1, 0, 1, 0, 0, 1, 1, 0, 0, 1, 1, 1, 0, 0, 1, 1, 0, 0, 1, 1, 0, 1, 0, 0, 1, 0, 0, 1, 1, 0, 1], .b 5, .c [1, 1, 1, 1, 0, 1, 0, 0, 1, 1, 0, 0, 1, 1, 1, 0, 0, 1, 1, 0, 0, 1, 1, 0, 1, 0, 0, 1, 1], .l [1, 1, 1, 1, 0, 1, 0, 0, 1, 1, 0, 0, 1, 1, 1, 0, 0, 1, 1, 0, 0, 1, 1, 0, 1, 0, 0], .b 4, .c [1, 1, 1, 1, 0, 1, 0, 0, 1, 1, 0, 0, 1, 1, 1, 0, 0, 1, 1, 0, 0, 1, 1, 1], .b 3, .c [1, 1, 1, 1, 0, 1, 0, 0, 1, 1, 0, 0, 1, 1, 1, 0, 0, 1, 1, 1], .l [1, 1, 1, 1, 0, 1, 0, 0, 1, 1, 0, 0, 1, 1, 1, 0, 0], .b 2, .b 1, .c [1, 1, 1, 1, 0, 1, 0, 0, 1, 1, 1], .l [1, 1, 1, 1, 0, 1, 0, 0], .b 0, .c [1, 1, 1, 1, 1]], ⟨[5, 12, 14, 17], ⟨[.own 0 0, .i .i64, .i .i64, .i .i64], [.segs [.i .i64, .i .i64]]⟩⟩), ([.c [1, 1, 1, 1, 0, 1, 0, 0, 1, 1, 0, 0, 1, 1, 1, 0, 0, 1, 1, 0, 0, 1, 1, 1], .b 3, .c [1, 1, 1, 1, 0, 1, 0, 0, 1, 1, 0, 0, 1, 1, 1, 0, 0, 1, 1, 1], .l [1, 1, 1, 1, 0, 1, 0, 0, 1, 1, 0, 0, 1, 1, 1, 0, 0], .b 2, .b 1, .c [1, 1, 1, 1, 0, 1, 0, 0, 1, 1, 1], .l [1, 1, 1, 1, 0, 1, 0, 0], .b 0, .c [1, 1, 1, 1, 1]], ⟨[1, 5, 7, 12, 13, 15, 42, 43, 46, 47, 48], ⟨[.sl (.int .i64), .own 0 0, .fe (.pair (.sl (.pair (.int .i64) (.pair (.int .i64) .bool))) (.pair (.sl (.pair (.int .i64) (.pair (.int .i64) (.int .i64)))) (.int .i64))), .i .i64, .i .i64, .i .i64, .i .i64, .i .i64, .sl (.int .i64), .i .i64, .i .i64], [.segs [.i .i64, .i .i64]]⟩⟩)], run := fun p k => (astray_l3 N N p.1.1 p.1.2.2.1 p.1.2.2.2.1 p.1.2.2.2.2.1 p.1.2.2.2.2.2.1 p.1.2.2.2.2.2.2.1 p.1.2.2.2.2.2.2.2.1 p.1.2.2.2.2.2.2.2.2.1 p.1.2.2.2.2.2.2.2.2.2.1 p.1.2.2.2.2.2.2.2.2.2.2.1 p.1.2.2.2.2.2.2.2.2.2.2.2.1 p.1.2.2.2.2.2.2.2.2.2.2.2.2.1 p.1.2.2.2.2.2.2.2.2.2.2.2.2.2.1 p.2.1.1 p.2.1.2.1).bind fun e => match e with | .inl x => k (.inl (((), x.1, x.2.1, x.2.2.1, ()), ((x.2.2.2.1, x.2.2.2.2, ()), ()))) | .inr x => k (.inr (.inl ((x.1, (), x.2.1, x.2.2.1, x.2.2.2.1, x.2.2.2.2.1, x.2.2.2.2.2.1, x.2.2.2.2.2.2.1, x.2.2.2.2.2.2.2.1, x.2.2.2.2.2.2.2.2.1, x.2.2.2.2.2.2.2.2.2.1, ()), ((x.2.2.2.2.2.2.2.2.2.2.1, x.2.2.2.2.2.2.2.2.2.2.2, ()), ())))) }
theorem astray_l3_eq (N n_ : Nat) (l : List Int) (d : ((List (Int × (Int × Bool))) × ((List (Int × (Int × Int))) × Int))) (turn : Int) (from_ : Int) (a : Int) (n : Int) (to : Int) (b : Int) (u : Int) (u2 : Int) (u3 : List Int) (u4 : Int) (u5 : Int) (g : Int) (g2 : Int) : ev (Z := (Int × Int × Int × Int × Int) ⊕ (List Int × ((List (Int × (Int × Bool))) × ((List (Int × (Int × Int))) × Int)) × Int × Int × Int × Int × Int × List Int × Int × Int × Int × Int)) Try.prog (astray_sp N) astray_B [] [astray_l3_h (astray_l3 N n_), astray_l3_e0, astray_l3_e1] none 400 true astray_l3_at (stL astray_l3_st ((l, (), d, turn, from_, a, n, to, b, u, u2, u3, u4, u5, ()), ((g, g2, ()), ()))) (stH astray_l3_st ((l, (), d, turn, from_, a, n, to, b, u, u2, u3, u4, u5, ()), ((g, g2, ()), ()))) = astray_l3 N (n_ + 1) l d turn from_ a n to b u u2 u3 u4 u5 g g2 := by kernel_rfl
theorem astray_l3_ok (N : Nat) {top : Bool} : LoopOK Try.prog astray_B.c astray_B.n astray_B.m0 top (astray_l3_L N) := loop_of_ev (Z := (Int × Int × Int × Int × Int) ⊕ (List Int × ((List (Int × (Int × Bool))) × ((List (Int × (Int × Int))) × Int)) × Int × Int × Int × Int × Int × List Int × Int × Int × Int × Int)) (N := N) (fun m p => astray_l3 N m p.1.1 p.1.2.2.1 p.1.2.2.2.1 p.1.2.2.2.2.1 p.1.2.2.2.2.2.1 p.1.2.2.2.2.2.2.1 p.1.2.2.2.2.2.2.2.1 p.1.2.2.2.2.2.2.2.2.1 p.1.2.2.2.2.2.2.2.2.2.1 p.1.2.2.2.2.2.2.2.2.2.2.1 p.1.2.2.2.2.2.2.2.2.2.2.2.1 p.1.2.2.2.2.2.2.2.2.2.2.2.2.1 p.1.2.2.2.2.2.2.2.2.2.2.2.2.2.1 p.2.1.1 p.2.1.2.1) (fun e => match e with | .inl x => .inl (((), x.1, x.2.1, x.2.2.1, ()), ((x.2.2.2.1, x.2.2.2.2, ()), ())) | .inr x => .inr (.inl ((x.1, (), x.2.1, x.2.2.1, x.2.2.2.1, x.2.2.2.2.1, x.2.2.2.2.2.1, x.2.2.2.2.2.2.1, x.2.2.2.2.2.2.2.1, x.2.2.2.2.2.2.2.2.1, x.2.2.2.2.2.2.2.2.2.1, ()), ((x.2.2.2.2.2.2.2.2.2.2.1, x.2.2.2.2.2.2.2.2.2.2.2, ()), ())))) (fun _ p k => bind_congr_ (astray_l3 N N p.1.1 p.1.2.2.1 p.1.2.2.2.1 p.1.2.2.2.2.1 p.1.2.2.2.2.2.1 p.1.2.2.2.2.2.2.1 p.1.2.2.2.2.2.2.2.1 p.1.2.2.2.2.2.2.2.2.1 p.1.2.2.2.2.2.2.2.2.2.1 p.1.2.2.2.2.2.2.2.2.2.2.1 p.1.2.2.2.2.2.2.2.2.2.2.2.1 p.1.2.2.2.2.2.2.2.2.2.2.2.2.1 p.1.2.2.2.2.2.2.2.2.2.2.2.2.2.1 p.2.1.1 p.2.1.2.1) _ _ (fun e => by rcases e with x | x <;> rfl)) (fun _ => rfl) (fun m z E Xc hE hX hrec hx => leaf_of_ev (B := astray_B) (loops := []) (leaves := [astray_l3_h (astray_l3 N m), astray_l3_e0, astray_l3_e1]) (astray_all N) mixed trivial hE hX ⟨hrec, (fun p hp => by obtain rfl := Option.some.inj hp; exact hx), (fun p hp => by obtain rfl := Option.some.inj hp; exact hx), trivial⟩ RetOK.no (fun p => astray_l3_eq N m p.1.1 p.1.2.2.1 p.1.2.2.2.1 p.1.2.2.2.2.1 p.1.2.2.2.2.2.1 p.1.2.2.2.2.2.2.1 p.1.2.2.2.2.2.2.2.1 p.1.2.2.2.2.2.2.2.2.1 p.1.2.2.2.2.2.2.2.2.2.1 p.1.2.2.2.2.2.2.2.2.2.2.1 p.1.2.2.2.2.2.2.2.2.2.2.2.1 p.1.2.2.2.2.2.2.2.2.2.2.2.2.1 p.1.2.2.2.2.2.2.2.2.2.2.2.2.2.1 p.2.1.1 p.2.1.2.1))
abbrev astray_l2_at : List PI := [.c [1, 1, 1, 1, 0, 1, 0, 0, 1, 1, 0, 0, 1, 1, 1, 0, 0, 0], .c [1, 1, 1, 1, 0, 1, 0, 0, 1, 1, 0, 0, 1, 1, 1, 0, 0, 1], .l [1, 1, 1, 1, 0, 1, 0, 0, 1, 1, 0, 0, 1, 1, 1, 0, 0], .b 2, .b 1, .c [1, 1, 1, 1, 0, 1, 0, 0, 1, 1, 1], .l [1, 1, 1, 1, 0, 1, 0, 0], .b 0, .c [1, 1, 1, 1, 1]]
abbrev astray_l2_st : Sta := ⟨[1, 5, 7, 12, 13, 42, 43, 46, 47, 48], ⟨[.sl (.int .i64), .own 0 0, .fe (.pair (.sl (.pair (.int .i64) (.pair (.int .i64) .bool))) (.pair (.sl (.pair (.int .i64) (.pair (.int .i64) (.int .i64)))) (.int .i64))), .i .i64, .i .i64, .i .i64, .i .i64, .sl (.int .i64), .i .i64, .i .i64], [.segs [.i .i64, .i .i64]]⟩⟩
abbrev astray_l2_h (rec : (List Int) → (((List (Int × (Int × Bool))) × ((List (Int × (Int × Int))) × Int))) → Int → Int → Int → Int → (List Int) → Int → Int → Int → Int → Option ((Int × Int × Int × Int × Int) ⊕ (List Int × ((List (Int × (Int × Bool))) × ((List (Int × (Int × Int))) × Int)) × Int × Int × Int × Int))) : Leaf ((Int × Int × Int × Int × Int) ⊕ (List Int × ((List (Int × (Int × Bool))) × ((List (Int × (Int × Int))) × Int)) × Int × Int × Int × Int)) := ⟨astray_l2_at, astray_l2_st, fun p => rec p.1.1 p.1.2.2.1 p.1.2.2.2.1 p.1.2.2.2.2.1 p.1.2.2.2.2.2.1 p.1.2.2.2.2.2.2.1 p.1.2.2.2.2.2.2.2.1 p.1.2.2.2.2.2.2.2.2.1 p.1.2.2.2.2.2.2.2.2.2.1 p.2.1.1 p.2.1.2.1⟩
abbrev astray_l2_e0 : Leaf ((Int × Int × Int × Int × Int) ⊕ (List Int × ((List (Int × (Int × Bool))) × ((List (Int × (Int × Int))) × Int)) × Int × Int × Int × Int)) := ⟨[.c [1, 1, 1, 1, 0, 1, 0, 0, 1, 1, 0, 0, 1, 1, 1, 0, 0, 1, 1, 0, 0, 1, 1, 0, 1, 0, 0, 1, 0, 0, 1, 1, 0, 0], .c [1, 1, 1, 1, 0, 1, 0, 0, 1, 1, 0, 0, 1, 1, 1, 0, 0, 1, 1, 0, 0, 1, 1, 0, 1, 0, 0, 1, 0, 0, 1, 1, 0, 1], .b 5, .c [1, 1, 1, 1, 0, 1, 0, 0, 1, 1, 0, 0, 1, 1, 1, 0, 0, 1, 1, 0, 0, 1, 1, 0, 1, 0, 0, 1, 1], .l [1, 1, 1, 1, 0, 1, 0, 0, 1, 1, 0, 0, 1, 1, 1, 0, 0, 1, 1, 0, 0, 1, 1, 0, 1, 0, 0], .b 4, .c [1, 1, 1, 1, 0, 1, 0, 0, 1, 1, 0, 0, 1, 1, 1, 0, 0, 1, 1, 0, 0, 1, 1, 1], .b 3, .c [1, 1, 1, 1, 0, 1, 0, 0, 1, 1, 0, 0, 1, 1, 1, 0, 0, 1, 1, 1], .l [1, 1, 1, 1, 0, 1, 0, 0, 1, 1, 0, 0, 1, 1, 1, 0, 0], .b 2, .b 1, .c [1, 1, 1, 1, 0, 1, 0, 0, 1, 1, 1], .l [1, 1, 1, 1, 0, 1, 0, 0], .b 0, .c [1, 1, 1, 1, 1]], ⟨[5, 12, 14, 17], ⟨[.own 0 0, .i .i64, .i .i64, .i .i64], [.segs [.i .i64, .i .i64]]⟩⟩, fun p => some (.inl (p.1.2.1, p.1.2.2.1, p.1.2.2.2.1, p.2.1.1, p.2.1.2.1))⟩
abbrev astray_l2_e1 : Leaf ((Int × Int × Int × Int × Int) ⊕ (List Int × ((List (Int × (Int × Bool))) × ((List (Int × (Int × Int))) × Int)) × Int × Int × Int × Int)) := ⟨[.c [1, 1, 1, 1, 0, 1, 0, 0, 1, 1, 1], .l [1, 1, 1, 1, 0, 1, 0, 0], .b 0, .c [1, 1, 1, 1, 1]], ⟨[1, 5, 7, 42, 43], ⟨[.sl (.int .i64), .own 0 0, .fe (.pair (.sl (.pair (.int .i64) (.pair (.int .i64) .bool))) (.pair (.sl (.pair (.int .i64) (.pair (.int .i64) (.int .i64)))) (.int .i64))), .i .i64, .i .i64], [.segs [.i .i64, .i .i64]]⟩⟩, fun p => some (.inr (p.1.1, p.1.2.2.1, p.1.2.2.2.1, p.1.2.2.2.2.1, p.2.1.1, p.2.1.2.1))⟩
noncomputable def astray_l2_L (N : Nat) : LoopS := { at_ := astray_l2_at, sta := astray_l2_st, exits := [([.c [1, 1, 1, 1, 0, 1, 0, 0, 1, 1, 0, 0, 1, 1, 1, 0, 0, 1, 1, 0, 0, 1, 1, 0, 1, 0, 0, 1, 0, 0, 1, 1, 0, 0], .c [1, 1, 1, 1, 0, 1, 0, 0, 1, 1, 0, 0, 1, 1, 1, 0, 0, 1, 1, 0, 0, 1, 1, 0, 1, 0, 0, 1, 0, 0, 1, 1, 0, 1], .b 5, .c [1, 1, 1, 1, 0, 1, 0, 0, 1, 1, 0, 0, 1, 1, 1, 0, 0, 1, 1, 0, 0, 1, 1, 0, 1, 0, 0, 1, 1], .l [1, 1, 1, 1, 0, 1, 0, 0, 1, 1, 0, 0, 1, 1, 1, 0, 0, 1, 1, 0, 0, 1, 1, 0, 1, 0, 0], .b 4, .c [1, 1, 1, 1, 0, 1, 0, 0, 1, 1, 0, 0, 1, 1, 1, 0, 0, 1, 1, 0, 0, 1, 1, 1], .b 3, .c [1, 1, 1, 1, 0, 1, 0, 0, 1, 1, 0, 0, 1, 1, 1, 0, 0, 1, 1, 1], .l [1, 1, 1, 1, 0, 1, 0, 0, 1, 1, 0, 0, 1, 1, 1, 0, 0], .b 2, .b 1, .c [1, 1, 1, 1, 0, 1, 0, 0, 1, 1, 1], .l [1, 1, 1, 1, 0, 1, 0, 0], .b 0, .c [1, 1, 1, 1, 1]], ⟨[5, 12, 14, 17], ⟨[.own 0 0, .i .i64, .i .i64, .i .i64], [.segs [.i .i64, .i .i64]]⟩⟩), ([.c [1, 1, 1, 1, 0, 1, 0, 0, 1, 1, 1], .l [1, 1, 1, 1, 0, 1, 0, 0], .b 0, .c [1, 1, 1, 1, 1]], ⟨[1, 5, 7, 42, 43], ⟨[.sl (.int .i64), .own 0 0, .fe (.pair (.sl (.pair (.int .i64) (.pair (.int .i64) .bool))) (.pair (.sl (.pair (.int .i64) (.pair (.int .i64) (.int .i64)))) (.int .i64))), .i .i64, .i .i64], [.segs [.i .i64, .i .i64]]⟩⟩)], run := fun p k => (astray_l2 N N p.1.1 p.1.2.2.1 p.1.2.2.2.1 p.1.2.2.2.2.1 p.1.2.2.2.2.2.1 p.1.2.2.2.2.2.2.1 p.1.2.2.2.2.2.2.2.1 p.1.2.2.2.2.2.2.2.2.1 p.1.2.2.2.2.2.2.2.2.2.1 p.2.1.1 p.2.1.2.1).bind fun e => match e with | .inl x => k (.inl (((), x.1, x.2.1, x.2.2.1, ()), ((x.2.2.2.1, x.2.2.2.2, ()), ()))) | .inr x => k (.inr (.inl ((x.1, (), x.2.1, x.2.2.1, x.2.2.2.1, ()), ((x.2.2.2.2.1, x.2.2.2.2.2, ()), ())))) }
theorem astray_l2_eq (N n_ : Nat) (l : List Int) (d : ((List (Int × (Int × Bool))) × ((List (Int × (Int × Int))) × Int))) (turn : Int) (from_ : Int) (u : Int) (u2 : Int) (u3 : List Int) (u4 : Int) (u5 : Int) (g : Int) (g2 : Int) : ev (Z := (Int × Int × Int × Int × Int) ⊕ (List Int × ((List (Int × (Int × Bool))) × ((List (Int × (Int × Int))) × Int)) × Int × Int × Int × Int)) Try.prog (astray_sp N) astray_B [astray_l3_L N] [astray_l2_h (astray_l2 N n_), astray_l2_e0, astray_l2_e1] none 400 true astray_l2_at (stL astray_l2_st ((l, (), d, turn, from_, u, u2, u3, u4, u5, ()), ((g, g2, ()), ()))) (stH astray_l2_st ((l, (), d, turn, from_, u, u2, u3, u4, u5, ()), ((g, g2, ()), ()))) = astray_l2 N (n_ + 1) l d turn from_ u u2 u3 u4 u5 g g2 := by kernel_rfl
theorem astray_l2_ok (N : Nat) {top : Bool} : LoopOK Try.prog astray_B.c astray_B.n astray_B.m0 top (astray_l2_L N) := loop_of_ev (Z := (Int × Int × Int × Int × Int) ⊕ (List Int × ((List (Int × (Int × Bool))) × ((List (Int × (Int × Int))) × Int)) × Int × Int × Int × Int)) (N := N) (fun m p => astray_l2 N m p.1.1 p.1.2.2.1 p.1.2.2.2.1 p.1.2.2.2.2.1 p.1.2.2.2.2.2.1 p.1.2.2.2.2.2.2.1 p.1.2.2.2.2.2.2.2.1 p.1.2.2.2.2.2.2.2.2.1 p.1.2.2.2.2.2.2.2.2.2.1 p.2.1.1 p.2.1.2.1) (fun e => match e with | .inl x => .inl (((), x.1, x.2.1, x.2.2.1, ()), ((x.2.2.2.1, x.2.2.2.2, ()), ())) | .inr x => .inr (.inl ((x.1, (), x.2.1, x.2.2.1, x.2.2.2.1, ()), ((x.2.2.2.2.1, x.2.2.2.2.2, ()), ())))) (fun _ p k => bind_congr_ (astray_l2 N N p.1.1 p.1.2.2.1 p.1.2.2.2.1 p.1.2.2.2.2.1 p.1.2.2.2.2.2.1 p.1.2.2.2.2.2.2.1 p.1.2.2.2.2.2.2.2.1 p.1.2.2.2.2.2.2.2.2.1 p.1.2.2.2.2.2.2.2.2.2.1 p.2.1.1 p.2.1.2.1) _ _ (fun e => by rcases e with x | x <;> rfl)) (fun _ => rfl) (fun m z E Xc hE hX hrec hx => leaf_of_ev (B := astray_B) (loops := [astray_l3_L N]) (leaves := [astray_l2_h (astray_l2 N m), astray_l2_e0, astray_l2_e1]) (astray_all N) mixed ⟨astray_l3_ok N, trivial⟩ hE hX ⟨hrec, (fun p hp => by obtain rfl := Option.some.inj hp; exact hx), (fun p hp => by obtain rfl := Option.some.inj hp; exact hx), trivial⟩ RetOK.no (fun p => astray_l2_eq N m p.1.1 p.1.2.2.1 p.1.2.2.2.1 p.1.2.2.2.2.1 p.1.2.2.2.2.2.1 p.1.2.2.2.2.2.2.1 p.1.2.2.2.2.2.2.2.1 p.1.2.2.2.2.2.2.2.2.1 p.1.2.2.2.2.2.2.2.2.2.1 p.2.1.1 p.2.1.2.1))
abbrev astray_l1_at : List PI := [.c [1, 1, 1, 1, 0, 1, 0, 0, 0], .c [1, 1, 1, 1, 0, 1, 0, 0, 1], .l [1, 1, 1, 1, 0, 1, 0, 0], .b 0, .c [1, 1, 1, 1, 1]]
abbrev astray_l1_st : Sta := ⟨[1, 5, 7, 42, 43], ⟨[.sl (.int .i64), .own 0 0, .fe (.pair (.sl (.pair (.int .i64) (.pair (.int .i64) .bool))) (.pair (.sl (.pair (.int .i64) (.pair (.int .i64) (.int .i64)))) (.int .i64))), .i .i64, .i .i64], [.segs [.i .i64, .i .i64]]⟩⟩
abbrev astray_l1_h (rec : (List Int) → (((List (Int × (Int × Bool))) × ((List (Int × (Int × Int))) × Int))) → Int → Int → Int → Int → Option ((Int × Int × Int × Int × Int) ⊕ (Int × Int))) : Leaf ((Int × Int × Int × Int × Int) ⊕ (Int × Int)) := ⟨astray_l1_at, astray_l1_st, fun p => rec p.1.1 p.1.2.2.1 p.1.2.2.2.1 p.1.2.2.2.2.1 p.2.1.1 p.2.1.2.1⟩
abbrev astray_l1_e0 : Leaf ((Int × Int × Int × Int × Int) ⊕ (Int × Int)) := ⟨[.c [1, 1, 1, 1, 0, 1, 0, 0, 1, 1, 0, 0, 1, 1, 1, 0, 0, 1, 1, 0, 0, 1, 1, 0, 1, 0, 0, 1, 0, 0, 1, 1, 0, 0], .c [1, 1, 1, 1, 0, 1, 0, 0, 1, 1, 0, 0, 1, 1, 1, 0, 0, 1, 1, 0, 0, 1, 1, 0, 1, 0, 0, 1, 0, 0, 1, 1, 0, 1], .b 5, .c [1, 1, 1, 1, 0, 1, 0, 0, 1, 1, 0, 0, 1, 1, 1, 0, 0, 1, 1, 0, 0, 1, 1, 0, 1, 0, 0, 1, 1], .l [1, 1, 1, 1, 0, 1, 0, 0, 1, 1, 0, 0, 1, 1, 1, 0, 0, 1, 1, 0, 0, 1, 1, 0, 1, 0, 0], .b 4, .c [1, 1, 1, 1, 0, 1, 0, 0, 1, 1, 0, 0, 1, 1, 1, 0, 0, 1, 1, 0, 0, 1, 1, 1], .b 3, .c [1, 1, 1, 1, 0, 1, 0, 0, 1, 1, 0, 0, 1, 1, 1, 0, 0, 1, 1, 1], .l [1, 1, 1, 1, 0, 1, 0, 0, 1, 1, 0, 0, 1, 1, 1, 0, 0], .b 2, .b 1, .c [1, 1, 1, 1, 0, 1, 0, 0, 1, 1, 1], .l [1, 1, 1, 1, 0, 1, 0, 0], .b 0, .c [1, 1, 1, 1, 1]], ⟨[5, 12, 14, 17], ⟨[.own 0 0, .i .i64, .i .i64, .i .i64], [.segs [.i .i64, .i .i64]]⟩⟩, fun p => some (.inl (p.1.2.1, p.1.2.2.1, p.1.2.2.2.1, p.2.1.1, p.2.1.2.1))⟩
abbrev astray_l1_e1 : Leaf ((Int × Int × Int × Int × Int) ⊕ (Int × Int)) := ⟨[.c [1, 1, 1, 1, 1, 0], .c [1, 1, 1, 1, 1, 1]], ⟨[5], ⟨[.own 0 0], [.segs [.i .i64, .i .i64]]⟩⟩, fun p => some (.inr (p.2.1.1, p.2.1.2.1))⟩
noncomputable def astray_l1_L (N : Nat) : LoopS := { at_ := astray_l1_at, sta := astray_l1_st, exits := [([.c [1, 1, 1, 1, 0, 1, 0, 0, 1, 1, 0, 0, 1, 1, 1, 0, 0, 1, 1, 0, 0, 1, 1, 0, 1, 0, 0, 1, 0, 0, 1, 1, 0, 0], .c [1, 1, 1, 1, 0, 1, 0, 0, 1, 1, 0, 0, 1, 1, 1, 0, 0, 1, 1, 0, 0, 1, 1, 0, 1, 0, 0, 1, 0, 0, 1, 1, 0, 1], .b 5, .c [1, 1, 1, 1, 0, 1, 0, 0, 1, 1, 0, 0, 1, 1, 1, 0, 0, 1, 1, 0, 0, 1, 1, 0, 1, 0, 0, 1, 1], .l [1, 1, 1, 1, 0, 1, 0, 0, 1, 1, 0, 0, 1, 1, 1, 0, 0, 1, 1, 0, 0, 1, 1, 0, 1, 0, 0], .b 4, .c [1, 1, 1, 1, 0, 1, 0, 0, 1, 1, 0, 0, 1, 1, 1, 0, 0, 1, 1, 0, 0, 1, 1, 1], .b 3, .c [1, 1, 1, 1, 0, 1, 0, 0, 1, 1, 0, 0, 1, 1, 1, 0, 0, 1, 1, 1], .l [1, 1, 1, 1, 0, 1, 0, 0, 1, 1, 0, 0, 1, 1, 1, 0, 0], .b 2, .b 1, .c [1, 1, 1, 1, 0, 1, 0, 0, 1, 1, 1], .l [1, 1, 1, 1, 0, 1, 0, 0], .b 0, .c [1, 1, 1, 1, 1]], ⟨[5, 12, 14, 17], ⟨[.own 0 0, .i .i64, .i .i64, .i .i64], [.segs [.i .i64, .i .i64]]⟩⟩), ([.c [1, 1, 1, 1, 1, 0], .c [1, 1, 1, 1, 1, 1]], ⟨[5], ⟨[.own 0 0], [.segs [.i .i64, .i .i64]]⟩⟩)], run := fun p k => (astray_l1 N N p.1.1 p.1.2.2.1 p.1.2.2.2.1 p.1.2.2.2.2.1 p.2.1.1 p.2.1.2.1).bind fun e => match e with | .inl x => k (.inl (((), x.1, x.2.1, x.2.2.1, ()), ((x.2.2.2.1, x.2.2.2.2, ()), ()))) | .inr x => k (.inr (.inl (((), ()), ((x.1, x.2, ()), ())))) }
theorem astray_l1_eq (N n_ : Nat) (l : List Int) (d : ((List (Int × (Int × Bool))) × ((List (Int × (Int × Int))) × Int))) (u : Int) (u2 : Int) (g : Int) (g2 : Int) : ev (Z := (Int × Int × Int × Int × Int) ⊕ (Int × Int)) Try.prog (astray_sp N) astray_B [astray_l3_L N, astray_l2_L N] [astray_l1_h (astray_l1 N n_), astray_l1_e0, astray_l1_e1] none 400 true astray_l1_at (stL astray_l1_st ((l, (), d, u, u2, ()), ((g, g2, ()), ()))) (stH astray_l1_st ((l, (), d, u, u2, ()), ((g, g2, ()), ()))) = astray_l1 N (n_ + 1) l d u u2 g g2 := by kernel_rfl
theorem astray_l1_ok (N : Nat) {top : Bool} : LoopOK Try.prog astray_B.c astray_B.n astray_B.m0 top (astray_l1_L N) := loop_of_ev (Z := (Int × Int × Int × Int × Int) ⊕ (Int × Int)) (N := N) (fun m p => astray_l1 N m p.1.1 p.1.2.2.1 p.1.2.2.2.1 p.1.2.2.2.2.1 p.2.1.1 p.2.1.2.1) (fun e => match e with | .inl x => .inl (((), x.1, x.2.1, x.2.2.1, ()), ((x.2.2.2.1, x.2.2.2.2, ()), ())) | .inr x => .inr (.inl (((), ()), ((x.1, x.2, ()), ())))) (fun _ p k => bind_congr_ (astray_l1 N N p.1.1 p.1.2.2.1 p.1.2.2.2.1 p.1.2.2.2.2.1 p.2.1.1 p.2.1.2.1) _ _ (fun e => by rcases e with x | x <;> rfl)) (fun _ => rfl) (fun m z E Xc hE hX hrec hx => leaf_of_ev (B := astray_B) (loops := [astray_l3_L N, astray_l2_L N]) (leaves := [astray_l1_h (astray_l1 N m), astray_l1_e0, astray_l1_e1]) (astray_all N) mixed ⟨astray_l3_ok N, astray_l2_ok N, trivial⟩ hE hX ⟨hrec, (fun p hp => by obtain rfl := Option.some.inj hp; exact hx), (fun p hp => by obtain rfl := Option.some.inj hp; exact hx), trivial⟩ RetOK.no (fun p => astray_l1_eq N m p.1.1 p.1.2.2.1 p.1.2.2.2.1 p.1.2.2.2.2.1 p.2.1.1 p.2.1.2.1))
abbrev astray_st : Sta := ⟨[0, 1], ⟨[.agg [.sl (.pair (.int .i64) (.pair (.int .i64) .bool)), .sl (.pair (.int .i64) (.pair (.int .i64) (.int .i64))), .i .i64], .sl (.int .i64)], []⟩⟩
theorem astray_eq (N : Nat) (t : List (Int × (Int × Bool))) (t2 : List (Int × (Int × Int))) (t3 : Int) (l : List Int) : ev (Z := Int × Int × Int × Int) Try.prog (astray_sp N) astray_B [astray_l3_L N, astray_l2_L N, astray_l1_L N] [] (some astray_rt) 400 false [.c [0], .c [1]] (stL astray_st (((t, t2, t3, ()), l, ()), ())) (stH astray_st (((t, t2, t3, ()), l, ()), ())) = astray_S N t t2 t3 l := by kernel_rfl
noncomputable def sp_astray (N : Nat) : Spec := { f := 33, ins := ⟨[.agg [.sl (.pair (.int .i64) (.pair (.int .i64) .bool)), .sl (.pair (.int .i64) (.pair (.int .i64) (.int .i64))), .i .i64], .sl (.int .i64)], []⟩, outs := [⟨[.i .i64, .agg [.i .i64, .i .i64], .i .i64], []⟩], run := fun p k => (astray_S N p.1.1.1 p.1.1.2.1 p.1.1.2.2.1 p.1.2.1).bind fun r => k ((r.1, (r.2.1, r.2.2.1, ()), r.2.2.2, ()), ()) }
theorem sp_astray_ok (N : Nat) : SpecOK Try.prog (sp_astray N) := fn_sound (B := astray_B) (loops := [astray_l3_L N, astray_l2_L N, astray_l1_L N]) (leaves := []) (fun p => astray_S N p.1.1.1 p.1.1.2.1 p.1.1.2.2.1 p.1.2.1) (fun r => ((r.1, (r.2.1, r.2.2.1, ()), r.2.2.2, ()), ())) astray_rt (fun _ _ _ => rfl) (fun r z h => by cases h; rfl) Try.func33 (by kernel_rfl) (by kernel_rfl) (by kernel_rfl) rfl rfl (by kernel_rfl) (fun args w => Sem.pv_run _ _ _ (by kernel_rfl) w) (astray_all N) mixed ⟨astray_l3_ok N, astray_l2_ok N, astray_l1_ok N, trivial⟩ (fun z E Xc hE hX hret => trivial) (fun p => astray_eq N p.1.1.1 p.1.1.2.1 p.1.1.2.2.1 p.1.2.1)

def keeps1_l1 (N : Nat) : Nat → ((List Int)) → Int → Int → Int → Int → Option ((Unit) ⊕ ((List Int) × Int × Int × Int))
  | 0, _, _, _, _, _ => none
  | n_ + 1, u, w, x, x2, x3 =>
    br (decide (w ≤ x3))
      ((containsi_S N u w).bind fun x_1 =>
      br (!x_1)
        (some (.inl ()))
        (chk (w + 1) <|
        keeps1_l1 N n_ u (w + 1) x x2 x3))
      (some (.inr (u, x, x2, x3)))
def keeps1_S (N : Nat) (x : Int) (x2 : Int) (x3 : Int) (u : (List Int)) : Option Bool :=
  (keeps1_l1 N N u x2 x x2 x3).bind fun e => match e with
  | .inl _ =>
    some true
  | .inr (u_2, x_3, x2_4, x3_5) =>
    (containsi_S N u_2 x_3).bind fun x_6 =>
    some x_6
noncomputable def keeps1_sp (N : Nat) : List Spec := [sp_containsi N]
theorem keeps1_all (N : Nat) : AllP (SpecOK Try.prog) (keeps1_sp N) := ⟨sp_containsi_ok N, trivial⟩
noncomputable def keeps1_c : Code := (Try.f152.body).getD .skip
noncomputable abbrev keeps1_B : Body := { c := keeps1_c, n := 23, res := [.tmp 3], outs := [⟨[.b], []⟩], m0 := 0 }
abbrev keeps1_rt : altD keeps1_B.outs → Option Bool := fun r => some r.1.1
abbrev keeps1_l1_at : List PI := [.c [1, 0, 1, 0, 0, 0, 0], .c [1, 0, 1, 0, 0, 0, 1], .c [1, 0, 1, 0, 0, 1], .l [1, 0, 1, 0, 0], .b 0, .c [1, 1]]
abbrev keeps1_l1_st : Sta := ⟨[1, 2, 4], ⟨[.fe (.sl (.int .i64)), .own 0 0, .i .i64], [.segs [.i .i64, .i .i64, .i .i64]]⟩⟩
abbrev keeps1_l1_h (rec : ((List Int)) → Int → Int → Int → Int → Option ((Unit) ⊕ ((List Int) × Int × Int × Int))) : Leaf ((Unit) ⊕ ((List Int) × Int × Int × Int)) := ⟨keeps1_l1_at, keeps1_l1_st, fun p => rec p.1.1 p.1.2.2.1 p.2.1.1 p.2.1.2.1 p.2.1.2.2.1⟩
abbrev keeps1_l1_e0 : Leaf ((Unit) ⊕ ((List Int) × Int × Int × Int)) := ⟨[.c [1, 0, 1, 0, 0, 1, 0, 0, 1, 0, 0], .c [1, 0, 1, 0, 0, 1, 0, 0, 1, 0, 1], .b 1, .c [1, 0, 1, 0, 0, 1, 1], .l [1, 0, 1, 0, 0], .b 0, .c [1, 1]], ⟨[], ⟨[], []⟩⟩, fun p => some (.inl ())⟩
abbrev keeps1_l1_e1 : Leaf ((Unit) ⊕ ((List Int) × Int × Int × Int)) := ⟨[.c [1, 1, 0], .c [1, 1, 1]], ⟨[1, 2], ⟨[.fe (.sl (.int .i64)), .own 0 0], [.segs [.i .i64, .i .i64, .i .i64]]⟩⟩, fun p => some (.inr (p.1.1, p.2.1.1, p.2.1.2.1, p.2.1.2.2.1))⟩
noncomputable def keeps1_l1_L (N : Nat) : LoopS := { at_ := keeps1_l1_at, sta := keeps1_l1_st, exits := [([.c [1, 0, 1, 0, 0, 1, 0, 0, 1, 0, 0], .c [1, 0, 1, 0, 0, 1, 0, 0, 1, 0, 1], .b 1, .c [1, 0, 1, 0, 0, 1, 1], .l [1, 0, 1, 0, 0], .b 0, .c [1, 1]], ⟨[], ⟨[], []⟩⟩), ([.c [1, 1, 0], .c [1, 1, 1]], ⟨[1, 2], ⟨[.fe (.sl (.int .i64)), .own 0 0], [.segs [.i .i64, .i .i64, .i .i64]]⟩⟩)], run := fun p k => (keeps1_l1 N N p.1.1 p.1.2.2.1 p.2.1.1 p.2.1.2.1 p.2.1.2.2.1).bind fun e => match e with | .inl x => k (.inl ((), ())) | .inr x => k (.inr (.inl ((x.1, (), ()), ((x.2.1, x.2.2.1, x.2.2.2, ()), ())))) }
theorem keeps1_l1_eq (N n_ : Nat) (u : (List Int)) (w : Int) (x : Int) (x2 : Int) (x3 : Int) : ev (Z := (Unit) ⊕ ((List Int) × Int × Int × Int)) Try.prog (keeps1_sp N) keeps1_B [] [keeps1_l1_h (keeps1_l1 N n_), keeps1_l1_e0, keeps1_l1_e1] none 400 true keeps1_l1_at (stL keeps1_l1_st ((u, (), w, ()), ((x, x2, x3, ()), ()))) (stH keeps1_l1_st ((u, (), w, ()), ((x, x2, x3, ()), ()))) = keeps1_l1 N (n_ + 1) u w x x2 x3 := by kernel_rfl
theorem keeps1_l1_ok (N : Nat) {top : Bool} : LoopOK Try.prog keeps1_B.c keeps1_B.n keeps1_B.m0 top (keeps1_l1_L N) := loop_of_ev (Z := (Unit) ⊕ ((List Int) × Int × Int × Int)) (N := N) (fun m p => keeps1_l1 N m p.1.1 p.1.2.2.1 p.2.1.1 p.2.1.2.1 p.2.1.2.2.1) (fun e => match e with | .inl x => .inl ((), ()) | .inr x => .inr (.inl ((x.1, (), ()), ((x.2.1, x.2.2.1, x.2.2.2, ()), ())))) (fun _ p k => bind_congr_ (keeps1_l1 N N p.1.1 p.1.2.2.1 p.2.1.1 p.2.1.2.1 p.2.1.2.2.1) _ _ (fun e => by rcases e with x | x <;> rfl)) (fun _ => rfl) (fun m z E Xc hE hX hrec hx => leaf_of_ev (B := keeps1_B) (loops := []) (leaves := [keeps1_l1_h (keeps1_l1 N m), keeps1_l1_e0, keeps1_l1_e1]) (keeps1_all N) mixed trivial hE hX ⟨hrec, (fun p hp => by obtain rfl := Option.some.inj hp; exact hx), (fun p hp => by obtain rfl := Option.some.inj hp; exact hx), trivial⟩ RetOK.no (fun p => keeps1_l1_eq N m p.1.1 p.1.2.2.1 p.2.1.1 p.2.1.2.1 p.2.1.2.2.1))
abbrev keeps1_st : Sta := ⟨[0, 1], ⟨[.agg [.i .i64, .i .i64, .i .i64], .fe (.sl (.int .i64))], []⟩⟩
theorem keeps1_eq (N : Nat) (x : Int) (x2 : Int) (x3 : Int) (u : (List Int)) : ev (Z := Bool) Try.prog (keeps1_sp N) keeps1_B [keeps1_l1_L N] [] (some keeps1_rt) 400 false [.c [0], .c [1]] (stL keeps1_st (((x, x2, x3, ()), u, ()), ())) (stH keeps1_st (((x, x2, x3, ()), u, ()), ())) = keeps1_S N x x2 x3 u := by kernel_rfl
noncomputable def sp_keeps1 (N : Nat) : Spec := { f := 152, ins := ⟨[.agg [.i .i64, .i .i64, .i .i64], .fe (.sl (.int .i64))], []⟩, outs := [⟨[.b], []⟩], run := fun p k => (keeps1_S N p.1.1.1 p.1.1.2.1 p.1.1.2.2.1 p.1.2.1).bind fun r => k ((r, ()), ()) }
theorem sp_keeps1_ok (N : Nat) : SpecOK Try.prog (sp_keeps1 N) := fn_sound (B := keeps1_B) (loops := [keeps1_l1_L N]) (leaves := []) (fun p => keeps1_S N p.1.1.1 p.1.1.2.1 p.1.1.2.2.1 p.1.2.1) (fun r => ((r, ()), ())) keeps1_rt (fun _ _ _ => rfl) (fun r z h => by cases h; rfl) Try.func152 (by kernel_rfl) (by kernel_rfl) (by kernel_rfl) rfl rfl (by kernel_rfl) (fun args w => Sem.pv_run _ _ _ (by kernel_rfl) w) (keeps1_all N) mixed ⟨keeps1_l1_ok N, trivial⟩ (fun z E Xc hE hX hret => trivial) (fun p => keeps1_eq N p.1.1.1 p.1.1.2.1 p.1.1.2.2.1 p.1.2.1)

def every1t5_S (N : Nat) (x : Int) (x2 : Int) (x3 : Int) (g : (List Int)) : Option (Bool × (List Int)) :=
  (keeps1_S N x x2 x3 g).bind fun x_1 =>
  some ((!x_1), g)
noncomputable def every1t5_sp (N : Nat) : List Spec := [sp_keeps1 N]
theorem every1t5_all (N : Nat) : AllP (SpecOK Try.prog) (every1t5_sp N) := ⟨sp_keeps1_ok N, trivial⟩
noncomputable def every1t5_c : Code := (Try.f150.body).getD .skip
noncomputable abbrev every1t5_B : Body := { c := every1t5_c, n := 8, res := [.tmp 3], outs := [⟨[.b], [.segs [.fn 152 [] [.fe (.sl (.int .i64))]]]⟩], m0 := 1 }
abbrev every1t5_rt : altD every1t5_B.outs → Option (Bool × (List Int)) := fun r => some (r.1.1, r.2.1.1.2.1)
abbrev every1t5_st : Sta := ⟨[0, 1], ⟨[.agg [.i .i64, .i .i64, .i .i64], .own 0 0], [.segs [.fn 152 [] [.fe (.sl (.int .i64))]]]⟩⟩
theorem every1t5_eq (N : Nat) (x : Int) (x2 : Int) (x3 : Int) (g : (List Int)) : ev (Z := Bool × (List Int)) Try.prog (every1t5_sp N) every1t5_B [] [] (some every1t5_rt) 400 false [.c [0], .c [1]] (stL every1t5_st (((x, x2, x3, ()), (), ()), ((((), (g, ())), ()), ()))) (stH every1t5_st (((x, x2, x3, ()), (), ()), ((((), (g, ())), ()), ()))) = every1t5_S N x x2 x3 g := by kernel_rfl
noncomputable def sp_every1t5 (N : Nat) : Spec := { f := 150, ins := ⟨[.agg [.i .i64, .i .i64, .i .i64], .own 0 0], [.segs [.fn 152 [] [.fe (.sl (.int .i64))]]]⟩, outs := [⟨[.b], [.segs [.fn 152 [] [.fe (.sl (.int .i64))]]]⟩], run := fun p k => (every1t5_S N p.1.1.1 p.1.1.2.1 p.1.1.2.2.1 p.2.1.1.2.1).bind fun r => k ((r.1, ()), ((((), (r.2, ())), ()), ())) }
theorem sp_every1t5_ok (N : Nat) : SpecOK Try.prog (sp_every1t5 N) := fn_sound (B := every1t5_B) (loops := []) (leaves := []) (fun p => every1t5_S N p.1.1.1 p.1.1.2.1 p.1.1.2.2.1 p.2.1.1.2.1) (fun r => ((r.1, ()), ((((), (r.2, ())), ()), ()))) every1t5_rt (fun _ _ _ => rfl) (fun r z h => by cases h; rfl) Try.func150 (by kernel_rfl) (by kernel_rfl) (by kernel_rfl) rfl rfl (by kernel_rfl) (fun args w => Sem.pv_run _ _ _ (by kernel_rfl) w) (every1t5_all N) mixed trivial (fun z E Xc hE hX hret => trivial) (fun p => every1t5_eq N p.1.1.1 p.1.1.2.1 p.1.1.2.2.1 p.2.1.1.2.1)

def ixft5_l1 (N : Nat) : Nat → (List (Int × (Int × Int))) → Int → Int → ((List Int)) → Option ((Int × (List Int)) ⊕ ((List Int)))
  | 0, _, _, _, _ => none
  | n_ + 1, s, u, u2, f =>
    br (decide (u2 < u))
      (idx s u2 fun x_1 =>
      (every1t5_S N x_1.1 x_1.2.1 x_1.2.2 f).bind fun (x_2, y_3) =>
      br x_2
        (some (.inl (u2, y_3)))
        (chk (u2 + 1) <|
        ixft5_l1 N n_ s u (u2 + 1) y_3))
      (some (.inr f))
def ixft5_S (N : Nat) (s : List (Int × (Int × Int))) (f : (List Int)) : Option (Int × (List Int)) :=
  (ixft5_l1 N N s (s.length : Int) 0 f).bind fun e => match e with
  | .inl (i_4, g_5) =>
    some (i_4, g_5)
  | .inr g_6 =>
    some (-1, g_6)
noncomputable def ixft5_sp (N : Nat) : List Spec := [sp_every1t5 N]
theorem ixft5_all (N : Nat) : AllP (SpecOK Try.prog) (ixft5_sp N) := ⟨sp_every1t5_ok N, trivial⟩
noncomputable def ixft5_c : Code := (Try.f134.body).getD .skip
noncomputable abbrev ixft5_B : Body := { c := ixft5_c, n := 19, res := [.tmp 4], outs := [⟨[.i .i64], [.segs [.fn 152 [] [.fe (.sl (.int .i64))]]]⟩], m0 := 1 }
abbrev ixft5_rt : altD ixft5_B.outs → Option (Int × (List Int)) := fun r => some (r.1.1, r.2.1.1.2.1)
abbrev ixft5_l1_at : List PI := [.c [1, 0, 1, 0, 0, 0], .c [1, 0, 1, 0, 0, 1], .l [1, 0, 1, 0, 0], .b 0, .c [1, 1]]
abbrev ixft5_l1_st : Sta := ⟨[0, 1, 7, 8], ⟨[.sl (.pair (.int .i64) (.pair (.int .i64) (.int .i64))), .fn 150 [] [.own 0 0], .i .i64, .i .i64], [.segs [.fn 152 [] [.fe (.sl (.int .i64))]]]⟩⟩
abbrev ixft5_l1_h (rec : (List (Int × (Int × Int))) → Int → Int → ((List Int)) → Option ((Int × (List Int)) ⊕ ((List Int)))) : Leaf ((Int × (List Int)) ⊕ ((List Int))) := ⟨ixft5_l1_at, ixft5_l1_st, fun p => rec p.1.1 p.1.2.2.1 p.1.2.2.2.1 p.2.1.1.2.1⟩
abbrev ixft5_l1_e0 : Leaf ((Int × (List Int)) ⊕ ((List Int))) := ⟨[.c [1, 0, 1, 0, 0, 1, 1, 0, 0, 1, 1, 0, 0], .c [1, 0, 1, 0, 0, 1, 1, 0, 0, 1, 1, 0, 1], .b 1, .c [1, 0, 1, 0, 0, 1, 1, 1], .l [1, 0, 1, 0, 0], .b 0, .c [1, 1]], ⟨[5], ⟨[.i .i64], [.segs [.fn 152 [] [.fe (.sl (.int .i64))]]]⟩⟩, fun p => some (.inl (p.1.1, p.2.1.1.2.1))⟩
abbrev ixft5_l1_e1 : Leaf ((Int × (List Int)) ⊕ ((List Int))) := ⟨[.c [1, 1, 0], .c [1, 1, 1]], ⟨[], ⟨[], [.segs [.fn 152 [] [.fe (.sl (.int .i64))]]]⟩⟩, fun p => some (.inr p.2.1.1.2.1)⟩
noncomputable def ixft5_l1_L (N : Nat) : LoopS := { at_ := ixft5_l1_at, sta := ixft5_l1_st, exits := [([.c [1, 0, 1, 0, 0, 1, 1, 0, 0, 1, 1, 0, 0], .c [1, 0, 1, 0, 0, 1, 1, 0, 0, 1, 1, 0, 1], .b 1, .c [1, 0, 1, 0, 0, 1, 1, 1], .l [1, 0, 1, 0, 0], .b 0, .c [1, 1]], ⟨[5], ⟨[.i .i64], [.segs [.fn 152 [] [.fe (.sl (.int .i64))]]]⟩⟩), ([.c [1, 1, 0], .c [1, 1, 1]], ⟨[], ⟨[], [.segs [.fn 152 [] [.fe (.sl (.int .i64))]]]⟩⟩)], run := fun p k => (ixft5_l1 N N p.1.1 p.1.2.2.1 p.1.2.2.2.1 p.2.1.1.2.1).bind fun e => match e with | .inl x => k (.inl ((x.1, ()), ((((), (x.2, ())), ()), ()))) | .inr x => k (.inr (.inl ((), ((((), (x, ())), ()), ())))) }
theorem ixft5_l1_eq (N n_ : Nat) (s : List (Int × (Int × Int))) (u : Int) (u2 : Int) (f : (List Int)) : ev (Z := (Int × (List Int)) ⊕ ((List Int))) Try.prog (ixft5_sp N) ixft5_B [] [ixft5_l1_h (ixft5_l1 N n_), ixft5_l1_e0, ixft5_l1_e1] none 400 true ixft5_l1_at (stL ixft5_l1_st ((s, ((), ((), ())), u, u2, ()), ((((), (f, ())), ()), ()))) (stH ixft5_l1_st ((s, ((), ((), ())), u, u2, ()), ((((), (f, ())), ()), ()))) = ixft5_l1 N (n_ + 1) s u u2 f := by kernel_rfl
theorem ixft5_l1_ok (N : Nat) {top : Bool} : LoopOK Try.prog ixft5_B.c ixft5_B.n ixft5_B.m0 top (ixft5_l1_L N) := loop_of_ev (Z := (Int × (List Int)) ⊕ ((List Int))) (N := N) (fun m p => ixft5_l1 N m p.1.1 p.1.2.2.1 p.1.2.2.2.1 p.2.1.1.2.1) (fun e => match e with | .inl x => .inl ((x.1, ()), ((((), (x.2, ())), ()), ())) | .inr x => .inr (.inl ((), ((((), (x, ())), ()), ())))) (fun _ p k => bind_congr_ (ixft5_l1 N N p.1.1 p.1.2.2.1 p.1.2.2.2.1 p.2.1.1.2.1) _ _ (fun e => by rcases e with x | x <;> rfl)) (fun _ => rfl) (fun m z E Xc hE hX hrec hx => leaf_of_ev (B := ixft5_B) (loops := []) (leaves := [ixft5_l1_h (ixft5_l1 N m), ixft5_l1_e0, ixft5_l1_e1]) (ixft5_all N) mixed trivial hE hX ⟨hrec, (fun p hp => by obtain rfl := Option.some.inj hp; exact hx), (fun p hp => by obtain rfl := Option.some.inj hp; exact hx), trivial⟩ RetOK.no (fun p => ixft5_l1_eq N m p.1.1 p.1.2.2.1 p.1.2.2.2.1 p.2.1.1.2.1))
abbrev ixft5_st : Sta := ⟨[0, 1], ⟨[.sl (.pair (.int .i64) (.pair (.int .i64) (.int .i64))), .fn 150 [] [.own 0 0]], [.segs [.fn 152 [] [.fe (.sl (.int .i64))]]]⟩⟩
theorem ixft5_eq (N : Nat) (s : List (Int × (Int × Int))) (f : (List Int)) : ev (Z := Int × (List Int)) Try.prog (ixft5_sp N) ixft5_B [ixft5_l1_L N] [] (some ixft5_rt) 400 false [.c [0], .c [1]] (stL ixft5_st ((s, ((), ((), ())), ()), ((((), (f, ())), ()), ()))) (stH ixft5_st ((s, ((), ((), ())), ()), ((((), (f, ())), ()), ()))) = ixft5_S N s f := by kernel_rfl
noncomputable def sp_ixft5 (N : Nat) : Spec := { f := 134, ins := ⟨[.sl (.pair (.int .i64) (.pair (.int .i64) (.int .i64))), .fn 150 [] [.own 0 0]], [.segs [.fn 152 [] [.fe (.sl (.int .i64))]]]⟩, outs := [⟨[.i .i64], [.segs [.fn 152 [] [.fe (.sl (.int .i64))]]]⟩], run := fun p k => (ixft5_S N p.1.1 p.2.1.1.2.1).bind fun r => k ((r.1, ()), ((((), (r.2, ())), ()), ())) }
theorem sp_ixft5_ok (N : Nat) : SpecOK Try.prog (sp_ixft5 N) := fn_sound (B := ixft5_B) (loops := [ixft5_l1_L N]) (leaves := []) (fun p => ixft5_S N p.1.1 p.2.1.1.2.1) (fun r => ((r.1, ()), ((((), (r.2, ())), ()), ()))) ixft5_rt (fun _ _ _ => rfl) (fun r z h => by cases h; rfl) Try.func134 (by kernel_rfl) (by kernel_rfl) (by kernel_rfl) rfl rfl (by kernel_rfl) (fun args w => Sem.pv_run _ _ _ (by kernel_rfl) w) (ixft5_all N) mixed ⟨ixft5_l1_ok N, trivial⟩ (fun z E Xc hE hX hret => trivial) (fun p => ixft5_eq N p.1.1 p.2.1.1.2.1)

def coft5_S (N : Nat) (s : List (Int × (Int × Int))) (f : (List Int)) : Option (Bool × (List Int)) :=
  (ixft5_S N s f).bind fun (x_1, y_2) =>
  some ((decide (0 ≤ x_1)), y_2)
noncomputable def coft5_sp (N : Nat) : List Spec := [sp_ixft5 N]
theorem coft5_all (N : Nat) : AllP (SpecOK Try.prog) (coft5_sp N) := ⟨sp_ixft5_ok N, trivial⟩
noncomputable def coft5_c : Code := (Try.f75.body).getD .skip
noncomputable abbrev coft5_B : Body := { c := coft5_c, n := 9, res := [.tmp 4], outs := [⟨[.b], [.segs [.fn 152 [] [.fe (.sl (.int .i64))]]]⟩], m0 := 1 }
abbrev coft5_rt : altD coft5_B.outs → Option (Bool × (List Int)) := fun r => some (r.1.1, r.2.1.1.2.1)
abbrev coft5_st : Sta := ⟨[0, 1], ⟨[.sl (.pair (.int .i64) (.pair (.int .i64) (.int .i64))), .fn 150 [] [.own 0 0]], [.segs [.fn 152 [] [.fe (.sl (.int .i64))]]]⟩⟩
theorem coft5_eq (N : Nat) (s : List (Int × (Int × Int))) (f : (List Int)) : ev (Z := Bool × (List Int)) Try.prog (coft5_sp N) coft5_B [] [] (some coft5_rt) 400 false [.c [0], .c [1]] (stL coft5_st ((s, ((), ((), ())), ()), ((((), (f, ())), ()), ()))) (stH coft5_st ((s, ((), ((), ())), ()), ((((), (f, ())), ()), ()))) = coft5_S N s f := by kernel_rfl
noncomputable def sp_coft5 (N : Nat) : Spec := { f := 75, ins := ⟨[.sl (.pair (.int .i64) (.pair (.int .i64) (.int .i64))), .fn 150 [] [.own 0 0]], [.segs [.fn 152 [] [.fe (.sl (.int .i64))]]]⟩, outs := [⟨[.b], [.segs [.fn 152 [] [.fe (.sl (.int .i64))]]]⟩], run := fun p k => (coft5_S N p.1.1 p.2.1.1.2.1).bind fun r => k ((r.1, ()), ((((), (r.2, ())), ()), ())) }
theorem sp_coft5_ok (N : Nat) : SpecOK Try.prog (sp_coft5 N) := fn_sound (B := coft5_B) (loops := []) (leaves := []) (fun p => coft5_S N p.1.1 p.2.1.1.2.1) (fun r => ((r.1, ()), ((((), (r.2, ())), ()), ()))) coft5_rt (fun _ _ _ => rfl) (fun r z h => by cases h; rfl) Try.func75 (by kernel_rfl) (by kernel_rfl) (by kernel_rfl) rfl rfl (by kernel_rfl) (fun args w => Sem.pv_run _ _ _ (by kernel_rfl) w) (coft5_all N) mixed trivial (fun z E Xc hE hX hret => trivial) (fun p => coft5_eq N p.1.1 p.2.1.1.2.1)

def everyt5_S (N : Nat) (l : List (Int × (Int × Int))) (holds : (List Int)) : Option Bool :=
  (coft5_S N l holds).bind fun (x_1, y_2) =>
  some (!x_1)
noncomputable def everyt5_sp (N : Nat) : List Spec := [sp_coft5 N]
theorem everyt5_all (N : Nat) : AllP (SpecOK Try.prog) (everyt5_sp N) := ⟨sp_coft5_ok N, trivial⟩
noncomputable def everyt5_c : Code := (Try.f107.body).getD .skip
noncomputable abbrev everyt5_B : Body := { c := everyt5_c, n := 9, res := [.tmp 4], outs := [⟨[.b], []⟩], m0 := 0 }
abbrev everyt5_rt : altD everyt5_B.outs → Option Bool := fun r => some r.1.1
abbrev everyt5_st : Sta := ⟨[0, 1], ⟨[.sl (.pair (.int .i64) (.pair (.int .i64) (.int .i64))), .fn 152 [] [.fe (.sl (.int .i64))]], []⟩⟩
theorem everyt5_eq (N : Nat) (l : List (Int × (Int × Int))) (holds : (List Int)) : ev (Z := Bool) Try.prog (everyt5_sp N) everyt5_B [] [] (some everyt5_rt) 400 false [.c [0], .c [1]] (stL everyt5_st ((l, ((), (holds, ())), ()), ())) (stH everyt5_st ((l, ((), (holds, ())), ()), ())) = everyt5_S N l holds := by kernel_rfl
noncomputable def sp_everyt5 (N : Nat) : Spec := { f := 107, ins := ⟨[.sl (.pair (.int .i64) (.pair (.int .i64) (.int .i64))), .fn 152 [] [.fe (.sl (.int .i64))]], []⟩, outs := [⟨[.b], []⟩], run := fun p k => (everyt5_S N p.1.1 p.1.2.1.2.1).bind fun r => k ((r, ()), ()) }
theorem sp_everyt5_ok (N : Nat) : SpecOK Try.prog (sp_everyt5 N) := fn_sound (B := everyt5_B) (loops := []) (leaves := []) (fun p => everyt5_S N p.1.1 p.1.2.1.2.1) (fun r => ((r, ()), ())) everyt5_rt (fun _ _ _ => rfl) (fun r z h => by cases h; rfl) Try.func107 (by kernel_rfl) (by kernel_rfl) (by kernel_rfl) rfl rfl (by kernel_rfl) (fun args w => Sem.pv_run _ _ _ (by kernel_rfl) w) (everyt5_all N) mixed trivial (fun z E Xc hE hX hret => trivial) (fun p => everyt5_eq N p.1.1 p.1.2.1.2.1)

def keeps_S (N : Nat) (d : ((List (Int × (Int × Bool))) × ((List (Int × (Int × Int))) × Int))) (l : List Int) : Option Bool :=
  (everyt5_S N d.2.1 l).bind fun x_1 =>
  some x_1
noncomputable def keeps_sp (N : Nat) : List Spec := [sp_everyt5 N]
theorem keeps_all (N : Nat) : AllP (SpecOK Try.prog) (keeps_sp N) := ⟨sp_everyt5_ok N, trivial⟩
noncomputable def keeps_c : Code := (Try.f119.body).getD .skip
noncomputable abbrev keeps_B : Body := { c := keeps_c, n := 12, res := [.tmp 4], outs := [⟨[.b], []⟩], m0 := 0 }
abbrev keeps_rt : altD keeps_B.outs → Option Bool := fun r => some r.1.1
abbrev keeps_st : Sta := ⟨[0, 1], ⟨[.fe (.pair (.sl (.pair (.int .i64) (.pair (.int .i64) .bool))) (.pair (.sl (.pair (.int .i64) (.pair (.int .i64) (.int .i64)))) (.int .i64))), .sl (.int .i64)], []⟩⟩
theorem keeps_eq (N : Nat) (d : ((List (Int × (Int × Bool))) × ((List (Int × (Int × Int))) × Int))) (l : List Int) : ev (Z := Bool) Try.prog (keeps_sp N) keeps_B [] [] (some keeps_rt) 400 false [.c [0], .c [1]] (stL keeps_st ((d, l, ()), ())) (stH keeps_st ((d, l, ()), ())) = keeps_S N d l := by kernel_rfl
noncomputable def sp_keeps (N : Nat) : Spec := { f := 119, ins := ⟨[.fe (.pair (.sl (.pair (.int .i64) (.pair (.int .i64) .bool))) (.pair (.sl (.pair (.int .i64) (.pair (.int .i64) (.int .i64)))) (.int .i64))), .sl (.int .i64)], []⟩, outs := [⟨[.b], []⟩], run := fun p k => (keeps_S N p.1.1 p.1.2.1).bind fun r => k ((r, ()), ()) }
theorem sp_keeps_ok (N : Nat) : SpecOK Try.prog (sp_keeps N) := fn_sound (B := keeps_B) (loops := []) (leaves := []) (fun p => keeps_S N p.1.1 p.1.2.1) (fun r => ((r, ()), ())) keeps_rt (fun _ _ _ => rfl) (fun r z h => by cases h; rfl) Try.func119 (by kernel_rfl) (by kernel_rfl) (by kernel_rfl) rfl rfl (by kernel_rfl) (fun args w => Sem.pv_run _ _ _ (by kernel_rfl) w) (keeps_all N) mixed trivial (fun z E Xc hE hX hret => trivial) (fun p => keeps_eq N p.1.1 p.1.2.1)

def weight_l1 (N : Nat) : Nat → (((List (Int × (Int × Bool))) × ((List (Int × (Int × Int))) × Int))) → (List Int) → Int → Int → (List Int) → Option (List Int)
  | 0, _, _, _, _, _ => none
  | n_ + 1, d, u, u2, u3, out =>
    br (decide (u3 < u2))
      (idx u u3 fun x_1 =>
      idx d.1 x_1 fun x_2 =>
      lim (out.length + [x_2.2.1].length) <|
      chk (u3 + 1) <|
      weight_l1 N n_ d u u2 (u3 + 1) (out ++ [x_2.2.1]))
      (some (out))
def weight_S (N : Nat) (d : ((List (Int × (Int × Bool))) × ((List (Int × (Int × Int))) × Int))) (l : List Int) : Option Int :=
  (weight_l1 N N d l (l.length : Int) 0 []).bind fun out_3 =>
  (sum_S N out_3).bind fun x_4 =>
  some x_4
noncomputable def weight_sp (N : Nat) : List Spec := [sp_sum N]
theorem weight_all (N : Nat) : AllP (SpecOK Try.prog) (weight_sp N) := ⟨sp_sum_ok N, trivial⟩
noncomputable def weight_c : Code := (Try.f118.body).getD .skip
noncomputable abbrev weight_B : Body := { c := weight_c, n := 29, res := [.tmp 4], outs := [⟨[.i .i64], []⟩], m0 := 0 }
abbrev weight_rt : altD weight_B.outs → Option Int := fun r => some r.1.1
abbrev weight_l1_at : List PI := [.c [1, 1, 0, 1, 0, 0, 0], .c [1, 1, 0, 1, 0, 0, 1], .l [1, 1, 0, 1, 0, 0], .b 0, .c [1, 1, 1]]
abbrev weight_l1_st : Sta := ⟨[0, 5, 8, 9, 10], ⟨[.fe (.pair (.sl (.pair (.int .i64) (.pair (.int .i64) .bool))) (.pair (.sl (.pair (.int .i64) (.pair (.int .i64) (.int .i64)))) (.int .i64))), .ols 0, .sl (.int .i64), .i .i64, .i .i64], [.lst (.int .i64)]⟩⟩
abbrev weight_l1_h (rec : (((List (Int × (Int × Bool))) × ((List (Int × (Int × Int))) × Int))) → (List Int) → Int → Int → (List Int) → Option (List Int)) : Leaf (List Int) := ⟨weight_l1_at, weight_l1_st, fun p => rec p.1.1 p.1.2.2.1 p.1.2.2.2.1 p.1.2.2.2.2.1 p.2.1⟩
abbrev weight_l1_e0 : Leaf (List Int) := ⟨[.c [1, 1, 1, 0], .c [1, 1, 1, 1]], ⟨[5], ⟨[.ols 0], [.lst (.int .i64)]⟩⟩, fun p => some (p.2.1)⟩
noncomputable def weight_l1_L (N : Nat) : LoopS := { at_ := weight_l1_at, sta := weight_l1_st, exits := [([.c [1, 1, 1, 0], .c [1, 1, 1, 1]], ⟨[5], ⟨[.ols 0], [.lst (.int .i64)]⟩⟩)], run := fun p k => (weight_l1 N N p.1.1 p.1.2.2.1 p.1.2.2.2.1 p.1.2.2.2.2.1 p.2.1).bind fun e => k (.inl (((), ()), (e, ()))) }
theorem weight_l1_eq (N n_ : Nat) (d : ((List (Int × (Int × Bool))) × ((List (Int × (Int × Int))) × Int))) (u : List Int) (u2 : Int) (u3 : Int) (out : List Int) : ev (Z := List Int) Try.prog (weight_sp N) weight_B [] [weight_l1_h (weight_l1 N n_), weight_l1_e0] none 400 true weight_l1_at (stL weight_l1_st ((d, (), u, u2, u3, ()), (out, ()))) (stH weight_l1_st ((d, (), u, u2, u3, ()), (out, ()))) = weight_l1 N (n_ + 1) d u u2 u3 out := by kernel_rfl
theorem weight_l1_ok (N : Nat) {top : Bool} : LoopOK Try.prog weight_B.c weight_B.n weight_B.m0 top (weight_l1_L N) := loop_of_ev (Z := List Int) (N := N) (fun m p => weight_l1 N m p.1.1 p.1.2.2.1 p.1.2.2.2.1 p.1.2.2.2.2.1 p.2.1) (fun e => .inl (((), ()), (e, ()))) (fun _ _ _ => rfl) (fun _ => rfl) (fun m z E Xc hE hX hrec hx => leaf_of_ev (B := weight_B) (loops := []) (leaves := [weight_l1_h (weight_l1 N m), weight_l1_e0]) (weight_all N) mixed trivial hE hX ⟨hrec, (fun p hp => by obtain rfl := Option.some.inj hp; exact hx), trivial⟩ RetOK.no (fun p => weight_l1_eq N m p.1.1 p.1.2.2.1 p.1.2.2.2.1 p.1.2.2.2.2.1 p.2.1))
abbrev weight_st : Sta := ⟨[0, 1], ⟨[.fe (.pair (.sl (.pair (.int .i64) (.pair (.int .i64) .bool))) (.pair (.sl (.pair (.int .i64) (.pair (.int .i64) (.int .i64)))) (.int .i64))), .sl (.int .i64)], []⟩⟩
theorem weight_eq (N : Nat) (d : ((List (Int × (Int × Bool))) × ((List (Int × (Int × Int))) × Int))) (l : List Int) : ev (Z := Int) Try.prog (weight_sp N) weight_B [weight_l1_L N] [] (some weight_rt) 400 false [.c [0], .c [1]] (stL weight_st ((d, l, ()), ())) (stH weight_st ((d, l, ()), ())) = weight_S N d l := by kernel_rfl
noncomputable def sp_weight (N : Nat) : Spec := { f := 118, ins := ⟨[.fe (.pair (.sl (.pair (.int .i64) (.pair (.int .i64) .bool))) (.pair (.sl (.pair (.int .i64) (.pair (.int .i64) (.int .i64)))) (.int .i64))), .sl (.int .i64)], []⟩, outs := [⟨[.i .i64], []⟩], run := fun p k => (weight_S N p.1.1 p.1.2.1).bind fun r => k ((r, ()), ()) }
theorem sp_weight_ok (N : Nat) : SpecOK Try.prog (sp_weight N) := fn_sound (B := weight_B) (loops := [weight_l1_L N]) (leaves := []) (fun p => weight_S N p.1.1 p.1.2.1) (fun r => ((r, ()), ())) weight_rt (fun _ _ _ => rfl) (fun r z h => by cases h; rfl) Try.func118 (by kernel_rfl) (by kernel_rfl) (by kernel_rfl) rfl rfl (by kernel_rfl) (fun args w => Sem.pv_run _ _ _ (by kernel_rfl) w) (weight_all N) mixed ⟨weight_l1_ok N, trivial⟩ (fun z E Xc hE hX hret => trivial) (fun p => weight_eq N p.1.1 p.1.2.1)

def fewestr_j1 (N : Nat) (rec : (((List (Int × (Int × Bool))) × ((List (Int × (Int × Int))) × Int))) → Int → Int → (((List (Int × (Int × Bool))) × ((List (Int × (Int × Int))) × Int))) → (List Int) → (List Int) → Option (((List (Int × (Int × Bool))) × ((List (Int × (Int × Int))) × Int)) × Int × ((List (Int × (Int × Bool))) × ((List (Int × (Int × Int))) × Int)) × List Int × List Int)) (d : ((List (Int × (Int × Bool))) × ((List (Int × (Int × Int))) × Int))) (from_ : Int) (to : Int) (r : ((List (Int × (Int × Bool))) × ((List (Int × (Int × Int))) × Int))) (least : List Int) (next : List Int) : Option (((List (Int × (Int × Bool))) × ((List (Int × (Int × Int))) × Int)) × Int × ((List (Int × (Int × Bool))) × ((List (Int × (Int × Int))) × Int)) × List Int × List Int) :=
  chk (to + 1) <|
  rec d from_ (to + 1) r least next
def fewestr_l2 (N : Nat) : Nat → (((List (Int × (Int × Bool))) × ((List (Int × (Int × Int))) × Int))) → Int → Int → (((List (Int × (Int × Bool))) × ((List (Int × (Int × Int))) × Int))) → (List Int) → (List Int) → Option (((List (Int × (Int × Bool))) × ((List (Int × (Int × Int))) × Int)) × Int × ((List (Int × (Int × Bool))) × ((List (Int × (Int × Int))) × Int)) × List Int × List Int)
  | 0, _, _, _, _, _, _ => none
  | n_ + 1, d, from_, to, r, least, next =>
    (end__S N d).bind fun x_2 =>
    br (decide (to ≤ x_2))
      ((end__S N d).bind fun x_3 =>
      br (decide (to < x_3))
        (rng to 13 <|
        get next to.toNat fun x_4 =>
        br (decide (x_4 = 0))
          (fewestr_j1 N (fewestr_l2 N n_) d from_ to r least next)
          ((right_S N r from_ to).bind fun x_5 =>
          br (!x_5)
            (fewestr_j1 N (fewestr_l2 N n_) d from_ to r least next)
            (rng from_ 13 <|
            get next from_.toNat fun x_6 =>
            br (decide (x_6 = 0))
              (rng to 13 <|
              get least to.toNat fun x_7 =>
              chk (x_7 + 1) <|
              rng from_ 13 <|
              get least from_.toNat fun _ =>
              rng from_ 13 <|
              get next from_.toNat fun _ =>
              fewestr_j1 N (fewestr_l2 N n_) d from_ to r (least.set from_.toNat (x_7 + 1)) (next.set from_.toNat to))
              (rng to 13 <|
              get least to.toNat fun x_10 =>
              chk (x_10 + 1) <|
              rng from_ 13 <|
              get least from_.toNat fun x_11 =>
              br (decide ((x_10 + 1) < x_11))
                (rng to 13 <|
                get least to.toNat fun x_12 =>
                chk (x_12 + 1) <|
                rng from_ 13 <|
                get least from_.toNat fun _ =>
                rng from_ 13 <|
                get next from_.toNat fun _ =>
                fewestr_j1 N (fewestr_l2 N n_) d from_ to r (least.set from_.toNat (x_12 + 1)) (next.set from_.toNat to))
                (fewestr_j1 N (fewestr_l2 N n_) d from_ to r least next)))))
        ((right_S N r from_ to).bind fun x_15 =>
        br (!x_15)
          (fewestr_j1 N (fewestr_l2 N n_) d from_ to r least next)
          (rng from_ 13 <|
          get next from_.toNat fun x_16 =>
          br (decide (x_16 = 0))
            (rng to 13 <|
            get least to.toNat fun x_17 =>
            chk (x_17 + 1) <|
            rng from_ 13 <|
            get least from_.toNat fun _ =>
            rng from_ 13 <|
            get next from_.toNat fun _ =>
            fewestr_j1 N (fewestr_l2 N n_) d from_ to r (least.set from_.toNat (x_17 + 1)) (next.set from_.toNat to))
            (rng to 13 <|
            get least to.toNat fun x_20 =>
            chk (x_20 + 1) <|
            rng from_ 13 <|
            get least from_.toNat fun x_21 =>
            br (decide ((x_20 + 1) < x_21))
              (rng to 13 <|
              get least to.toNat fun x_22 =>
              chk (x_22 + 1) <|
              rng from_ 13 <|
              get least from_.toNat fun _ =>
              rng from_ 13 <|
              get next from_.toNat fun _ =>
              fewestr_j1 N (fewestr_l2 N n_) d from_ to r (least.set from_.toNat (x_22 + 1)) (next.set from_.toNat to))
              (fewestr_j1 N (fewestr_l2 N n_) d from_ to r least next)))))
      (some ((d, from_, r, least, next)))
def fewestr_l1 (N : Nat) : Nat → (((List (Int × (Int × Bool))) × ((List (Int × (Int × Int))) × Int))) → Int → (((List (Int × (Int × Bool))) × ((List (Int × (Int × Int))) × Int))) → (List Int) → (List Int) → Option (((List (Int × (Int × Bool))) × ((List (Int × (Int × Int))) × Int)) × List Int)
  | 0, _, _, _, _, _ => none
  | n_ + 1, d, from_, r, least, next =>
    br (decide (0 ≤ from_))
      (chk (from_ + 1) <|
      (fewestr_l2 N N d from_ (from_ + 1) r least next).bind fun (d_25, from__26, r_27, least_28, next_29) =>
      chk (from__26 - 1) <|
      fewestr_l1 N n_ d_25 (from__26 - 1) r_27 least_28 next_29)
      (some ((d, next)))
def fewestr_l3 (N : Nat) : Nat → (((List (Int × (Int × Bool))) × ((List (Int × (Int × Int))) × Int))) → Int → (List Int) → (List Int) → Option (List Int)
  | 0, _, _, _, _ => none
  | n_ + 1, d, at_, next, out =>
    (end__S N d).bind fun x_33 =>
    br (decide (at_ < x_33))
      (rng at_ 13 <|
      get next at_.toNat fun x_34 =>
      chk (x_34 - at_) <|
      lim (out.length + [(x_34 - at_)].length) <|
      rng at_ 13 <|
      get next at_.toNat fun x_35 =>
      fewestr_l3 N n_ d x_35 next (out ++ [(x_34 - at_)]))
      (some (out))
def fewestr_S (N : Nat) (r : ((List (Int × (Int × Bool))) × ((List (Int × (Int × Int))) × Int))) (d : ((List (Int × (Int × Bool))) × ((List (Int × (Int × Int))) × Int))) : Option (List Int × Bool) :=
  (end__S N d).bind fun x_1 =>
  chk (x_1 - 1) <|
  (fewestr_l1 N N d (x_1 - 1) r (List.replicate 13 (0 : Int)) (List.replicate 13 (0 : Int))).bind fun (d_30, next_31) =>
  get next_31 0 fun x_32 =>
  br (decide (x_32 = 0))
    (some ([], false))
    ((fewestr_l3 N N d_30 0 next_31 []).bind fun out_36 =>
    some (out_36, true))
noncomputable def fewestr_sp (N : Nat) : List Spec := [sp_end_ N, sp_right N]
theorem fewestr_all (N : Nat) : AllP (SpecOK Try.prog) (fewestr_sp N) := ⟨sp_end__ok N, sp_right_ok N, trivial⟩
noncomputable def fewestr_c : Code := (Try.f88.body).getD .skip
noncomputable abbrev fewestr_B : Body := { c := fewestr_c, n := 87, res := [.tmp 4, .tmp 5], outs := [⟨[.sl (.int .i64), .b], []⟩], m0 := 0 }
abbrev fewestr_rt : altD fewestr_B.outs → Option (List Int × Bool) := fun r => some (r.1.1, r.1.2.1)
abbrev fewestr_l2_at : List PI := [.c [1, 1, 0, 1, 0, 0, 1, 0, 0, 1, 0, 0, 0, 0], .c [1, 1, 0, 1, 0, 0, 1, 0, 0, 1, 0, 0, 0, 1], .c [1, 1, 0, 1, 0, 0, 1, 0, 0, 1, 0, 0, 1], .l [1, 1, 0, 1, 0, 0, 1, 0, 0, 1, 0, 0], .b 2, .b 1, .c [1, 1, 0, 1, 0, 0, 1, 1], .l [1, 1, 0, 1, 0, 0], .b 0, .c [1, 1, 1]]
abbrev fewestr_l2_st : Sta := ⟨[1, 2, 6, 7, 8, 9], ⟨[.fe (.pair (.sl (.pair (.int .i64) (.pair (.int .i64) .bool))) (.pair (.sl (.pair (.int .i64) (.pair (.int .i64) (.int .i64)))) (.int .i64))), .own 0 0, .own 1 0, .own 2 0, .i .i64, .i .i64], [.segs [.fn 87 [.fe (.pair (.sl (.pair (.int .i64) (.pair (.int .i64) .bool))) (.pair (.sl (.pair (.int .i64) (.pair (.int .i64) (.int .i64)))) (.int .i64)))] []], .segs [.arr (.int .i64) 13], .segs [.arr (.int .i64) 13]]⟩⟩
abbrev fewestr_l2_h (rec : (((List (Int × (Int × Bool))) × ((List (Int × (Int × Int))) × Int))) → Int → Int → (((List (Int × (Int × Bool))) × ((List (Int × (Int × Int))) × Int))) → (List Int) → (List Int) → Option (((List (Int × (Int × Bool))) × ((List (Int × (Int × Int))) × Int)) × Int × ((List (Int × (Int × Bool))) × ((List (Int × (Int × Int))) × Int)) × List Int × List Int)) : Leaf (((List (Int × (Int × Bool))) × ((List (Int × (Int × Int))) × Int)) × Int × ((List (Int × (Int × Bool))) × ((List (Int × (Int × Int))) × Int)) × List Int × List Int) := ⟨fewestr_l2_at, fewestr_l2_st, fun p => rec p.1.1 p.1.2.2.2.2.1 p.1.2.2.2.2.2.1 p.2.1.1.1.1 p.2.2.1.1 p.2.2.2.1.1⟩
abbrev fewestr_l2_e0 : Leaf (((List (Int × (Int × Bool))) × ((List (Int × (Int × Int))) × Int)) × Int × ((List (Int × (Int × Bool))) × ((List (Int × (Int × Int))) × Int)) × List Int × List Int) := ⟨[.c [1, 1, 0, 1, 0, 0, 1, 1], .l [1, 1, 0, 1, 0, 0], .b 0, .c [1, 1, 1]], ⟨[1, 2, 6, 7, 8], ⟨[.fe (.pair (.sl (.pair (.int .i64) (.pair (.int .i64) .bool))) (.pair (.sl (.pair (.int .i64) (.pair (.int .i64) (.int .i64)))) (.int .i64))), .own 0 0, .own 1 0, .own 2 0, .i .i64], [.segs [.fn 87 [.fe (.pair (.sl (.pair (.int .i64) (.pair (.int .i64) .bool))) (.pair (.sl (.pair (.int .i64) (.pair (.int .i64) (.int .i64)))) (.int .i64)))] []], .segs [.arr (.int .i64) 13], .segs [.arr (.int .i64) 13]]⟩⟩, fun p => some ((p.1.1, p.1.2.2.2.2.1, p.2.1.1.1.1, p.2.2.1.1, p.2.2.2.1.1))⟩
abbrev fewestr_j1_at : List PI := [.c [1, 1, 0, 1, 0, 0, 1, 0, 0, 1, 0, 0, 1, 1], .l [1, 1, 0, 1, 0, 0, 1, 0, 0, 1, 0, 0], .b 2, .b 1, .c [1, 1, 0, 1, 0, 0, 1, 1], .l [1, 1, 0, 1, 0, 0], .b 0, .c [1, 1, 1]]
abbrev fewestr_j1_st : Sta := ⟨[1, 2, 6, 7, 8, 9], ⟨[.fe (.pair (.sl (.pair (.int .i64) (.pair (.int .i64) .bool))) (.pair (.sl (.pair (.int .i64) (.pair (.int .i64) (.int .i64)))) (.int .i64))), .own 0 0, .own 1 0, .own 2 0, .i .i64, .i .i64], [.segs [.fn 87 [.fe (.pair (.sl (.pair (.int .i64) (.pair (.int .i64) .bool))) (.pair (.sl (.pair (.int .i64) (.pair (.int .i64) (.int .i64)))) (.int .i64)))] []], .segs [.arr (.int .i64) 13], .segs [.arr (.int .i64) 13]]⟩⟩
abbrev fewestr_j1_k (N : Nat) (rec : (((List (Int × (Int × Bool))) × ((List (Int × (Int × Int))) × Int))) → Int → Int → (((List (Int × (Int × Bool))) × ((List (Int × (Int × Int))) × Int))) → (List Int) → (List Int) → Option (((List (Int × (Int × Bool))) × ((List (Int × (Int × Int))) × Int)) × Int × ((List (Int × (Int × Bool))) × ((List (Int × (Int × Int))) × Int)) × List Int × List Int)) : Leaf (((List (Int × (Int × Bool))) × ((List (Int × (Int × Int))) × Int)) × Int × ((List (Int × (Int × Bool))) × ((List (Int × (Int × Int))) × Int)) × List Int × List Int) := ⟨fewestr_j1_at, fewestr_j1_st, fun p => fewestr_j1 N rec p.1.1 p.1.2.2.2.2.1 p.1.2.2.2.2.2.1 p.2.1.1.1.1 p.2.2.1.1 p.2.2.2.1.1⟩
theorem fewestr_j1_eq (N : Nat) (rec : (((List (Int × (Int × Bool))) × ((List (Int × (Int × Int))) × Int))) → Int → Int → (((List (Int × (Int × Bool))) × ((List (Int × (Int × Int))) × Int))) → (List Int) → (List Int) → Option (((List (Int × (Int × Bool))) × ((List (Int × (Int × Int))) × Int)) × Int × ((List (Int × (Int × Bool))) × ((List (Int × (Int × Int))) × Int)) × List Int × List Int)) (d : ((List (Int × (Int × Bool))) × ((List (Int × (Int × Int))) × Int))) (from_ : Int) (to : Int) (r : ((List (Int × (Int × Bool))) × ((List (Int × (Int × Int))) × Int))) (least : List Int) (next : List Int) : ev (Z := ((List (Int × (Int × Bool))) × ((List (Int × (Int × Int))) × Int)) × Int × ((List (Int × (Int × Bool))) × ((List (Int × (Int × Int))) × Int)) × List Int × List Int) Try.prog (fewestr_sp N) fewestr_B [] [fewestr_l2_h rec, fewestr_l2_e0] none 400 true fewestr_j1_at (stL fewestr_j1_st ((d, (), (), (), from_, to, ()), ((((r, ()), ()), ()), (least, ()), (next, ()), ()))) (stH fewestr_j1_st ((d, (), (), (), from_, to, ()), ((((r, ()), ()), ()), (least, ()), (next, ()), ()))) = fewestr_j1 N rec d from_ to r least next := by kernel_rfl
theorem fewestr_j1_lf (N : Nat) (rec : (((List (Int × (Int × Bool))) × ((List (Int × (Int × Int))) × Int))) → Int → Int → (((List (Int × (Int × Bool))) × ((List (Int × (Int × Int))) × Int))) → (List Int) → (List Int) → Option (((List (Int × (Int × Bool))) × ((List (Int × (Int × Int))) × Int)) × Int × ((List (Int × (Int × Bool))) × ((List (Int × (Int × Int))) × Int)) × List Int × List Int)) {z : ((List (Int × (Int × Bool))) × ((List (Int × (Int × Int))) × Int)) × Int × ((List (Int × (Int × Bool))) × ((List (Int × (Int × Int))) × Int)) × List Int × List Int} {top : Bool} {E : EE} {Xc : Ctx} (hE : EOK fewestr_B.m0 E) (hX : CxOK top Xc) (hrec : LeafOK Try.prog fewestr_B.c fewestr_B.n fewestr_B.m0 E Xc z (fewestr_l2_h rec)) (h0 : LeafOK Try.prog fewestr_B.c fewestr_B.n fewestr_B.m0 E Xc z fewestr_l2_e0) : LeafOK Try.prog fewestr_B.c fewestr_B.n fewestr_B.m0 E Xc z (fewestr_j1_k N rec) := leaf_of_ev (B := fewestr_B) (loops := []) (leaves := [fewestr_l2_h rec, fewestr_l2_e0]) (fewestr_all N) mixed trivial hE hX ⟨hrec, h0, trivial⟩ RetOK.no (fun p => fewestr_j1_eq N rec p.1.1 p.1.2.2.2.2.1 p.1.2.2.2.2.2.1 p.2.1.1.1.1 p.2.2.1.1 p.2.2.2.1.1)
noncomputable def fewestr_l2_L (N : Nat) : LoopS := { at_ := fewestr_l2_at, sta := fewestr_l2_st, exits := [([.c [1, 1, 0, 1, 0, 0, 1, 1], .l [1, 1, 0, 1, 0, 0], .b 0, .c [1, 1, 1]], ⟨[1, 2, 6, 7, 8], ⟨[.fe (.pair (.sl (.pair (.int .i64) (.pair (.int .i64) .bool))) (.pair (.sl (.pair (.int .i64) (.pair (.int .i64) (.int .i64)))) (.int .i64))), .own 0 0, .own 1 0, .own 2 0, .i .i64], [.segs [.fn 87 [.fe (.pair (.sl (.pair (.int .i64) (.pair (.int .i64) .bool))) (.pair (.sl (.pair (.int .i64) (.pair (.int .i64) (.int .i64)))) (.int .i64)))] []], .segs [.arr (.int .i64) 13], .segs [.arr (.int .i64) 13]]⟩⟩)], run := fun p k => (fewestr_l2 N N p.1.1 p.1.2.2.2.2.1 p.1.2.2.2.2.2.1 p.2.1.1.1.1 p.2.2.1.1 p.2.2.2.1.1).bind fun e => k (.inl ((e.1, (), (), (), e.2.1, ()), ((((e.2.2.1, ()), ()), ()), (e.2.2.2.1, ()), (e.2.2.2.2, ()), ()))) }
theorem fewestr_l2_eq (N n_ : Nat) (d : ((List (Int × (Int × Bool))) × ((List (Int × (Int × Int))) × Int))) (from_ : Int) (to : Int) (r : ((List (Int × (Int × Bool))) × ((List (Int × (Int × Int))) × Int))) (least : List Int) (next : List Int) : ev (Z := ((List (Int × (Int × Bool))) × ((List (Int × (Int × Int))) × Int)) × Int × ((List (Int × (Int × Bool))) × ((List (Int × (Int × Int))) × Int)) × List Int × List Int) Try.prog (fewestr_sp N) fewestr_B [] [fewestr_l2_h (fewestr_l2 N n_), fewestr_l2_e0, fewestr_j1_k N (fewestr_l2 N n_)] none 400 true fewestr_l2_at (stL fewestr_l2_st ((d, (), (), (), from_, to, ()), ((((r, ()), ()), ()), (least, ()), (next, ()), ()))) (stH fewestr_l2_st ((d, (), (), (), from_, to, ()), ((((r, ()), ()), ()), (least, ()), (next, ()), ()))) = fewestr_l2 N (n_ + 1) d from_ to r least next := by kernel_rfl
theorem fewestr_l2_ok (N : Nat) {top : Bool} : LoopOK Try.prog fewestr_B.c fewestr_B.n fewestr_B.m0 top (fewestr_l2_L N) := loop_of_ev (Z := ((List (Int × (Int × Bool))) × ((List (Int × (Int × Int))) × Int)) × Int × ((List (Int × (Int × Bool))) × ((List (Int × (Int × Int))) × Int)) × List Int × List Int) (N := N) (fun m p => fewestr_l2 N m p.1.1 p.1.2.2.2.2.1 p.1.2.2.2.2.2.1 p.2.1.1.1.1 p.2.2.1.1 p.2.2.2.1.1) (fun e => .inl ((e.1, (), (), (), e.2.1, ()), ((((e.2.2.1, ()), ()), ()), (e.2.2.2.1, ()), (e.2.2.2.2, ()), ()))) (fun _ _ _ => rfl) (fun _ => rfl) (fun m z E Xc hE hX hrec hx => leaf_of_ev (B := fewestr_B) (loops := []) (leaves := [fewestr_l2_h (fewestr_l2 N m), fewestr_l2_e0, fewestr_j1_k N (fewestr_l2 N m)]) (fewestr_all N) mixed trivial hE hX ⟨hrec, (fun p hp => by obtain rfl := Option.some.inj hp; exact hx), fewestr_j1_lf N _ hE hX hrec (fun p hp => by obtain rfl := Option.some.inj hp; exact hx), trivial⟩ RetOK.no (fun p => fewestr_l2_eq N m p.1.1 p.1.2.2.2.2.1 p.1.2.2.2.2.2.1 p.2.1.1.1.1 p.2.2.1.1 p.2.2.2.1.1))
abbrev fewestr_l1_at : List PI := [.c [1, 1, 0, 1, 0, 0, 0, 0], .c [1, 1, 0, 1, 0, 0, 0, 1], .c [1, 1, 0, 1, 0, 0, 1], .l [1, 1, 0, 1, 0, 0], .b 0, .c [1, 1, 1]]
abbrev fewestr_l1_st : Sta := ⟨[1, 2, 6, 7, 8], ⟨[.fe (.pair (.sl (.pair (.int .i64) (.pair (.int .i64) .bool))) (.pair (.sl (.pair (.int .i64) (.pair (.int .i64) (.int .i64)))) (.int .i64))), .own 0 0, .own 1 0, .own 2 0, .i .i64], [.segs [.fn 87 [.fe (.pair (.sl (.pair (.int .i64) (.pair (.int .i64) .bool))) (.pair (.sl (.pair (.int .i64) (.pair (.int .i64) (.int .i64)))) (.int .i64)))] []], .segs [.arr (.int .i64) 13], .segs [.arr (.int .i64) 13]]⟩⟩
abbrev fewestr_l1_h (rec : (((List (Int × (Int × Bool))) × ((List (Int × (Int × Int))) × Int))) → Int → (((List (Int × (Int × Bool))) × ((List (Int × (Int × Int))) × Int))) → (List Int) → (List Int) → Option (((List (Int × (Int × Bool))) × ((List (Int × (Int × Int))) × Int)) × List Int)) : Leaf (((List (Int × (Int × Bool))) × ((List (Int × (Int × Int))) × Int)) × List Int) := ⟨fewestr_l1_at, fewestr_l1_st, fun p => rec p.1.1 p.1.2.2.2.2.1 p.2.1.1.1.1 p.2.2.1.1 p.2.2.2.1.1⟩
abbrev fewestr_l1_e0 : Leaf (((List (Int × (Int × Bool))) × ((List (Int × (Int × Int))) × Int)) × List Int) := ⟨[.c [1, 1, 1, 0, 0], .c [1, 1, 1, 0, 1], .c [1, 1, 1, 1]], ⟨[1, 7], ⟨[.fe (.pair (.sl (.pair (.int .i64) (.pair (.int .i64) .bool))) (.pair (.sl (.pair (.int .i64) (.pair (.int .i64) (.int .i64)))) (.int .i64))), .own 0 0], [.segs [.arr (.int .i64) 13]]⟩⟩, fun p => some ((p.1.1, p.2.1.1))⟩
noncomputable def fewestr_l1_L (N : Nat) : LoopS := { at_ := fewestr_l1_at, sta := fewestr_l1_st, exits := [([.c [1, 1, 1, 0, 0], .c [1, 1, 1, 0, 1], .c [1, 1, 1, 1]], ⟨[1, 7], ⟨[.fe (.pair (.sl (.pair (.int .i64) (.pair (.int .i64) .bool))) (.pair (.sl (.pair (.int .i64) (.pair (.int .i64) (.int .i64)))) (.int .i64))), .own 0 0], [.segs [.arr (.int .i64) 13]]⟩⟩)], run := fun p k => (fewestr_l1 N N p.1.1 p.1.2.2.2.2.1 p.2.1.1.1.1 p.2.2.1.1 p.2.2.2.1.1).bind fun e => k (.inl ((e.1, (), ()), ((e.2, ()), ()))) }
theorem fewestr_l1_eq (N n_ : Nat) (d : ((List (Int × (Int × Bool))) × ((List (Int × (Int × Int))) × Int))) (from_ : Int) (r : ((List (Int × (Int × Bool))) × ((List (Int × (Int × Int))) × Int))) (least : List Int) (next : List Int) : ev (Z := ((List (Int × (Int × Bool))) × ((List (Int × (Int × Int))) × Int)) × List Int) Try.prog (fewestr_sp N) fewestr_B [fewestr_l2_L N] [fewestr_l1_h (fewestr_l1 N n_), fewestr_l1_e0] none 400 true fewestr_l1_at (stL fewestr_l1_st ((d, (), (), (), from_, ()), ((((r, ()), ()), ()), (least, ()), (next, ()), ()))) (stH fewestr_l1_st ((d, (), (), (), from_, ()), ((((r, ()), ()), ()), (least, ()), (next, ()), ()))) = fewestr_l1 N (n_ + 1) d from_ r least next := by kernel_rfl
theorem fewestr_l1_ok (N : Nat) {top : Bool} : LoopOK Try.prog fewestr_B.c fewestr_B.n fewestr_B.m0 top (fewestr_l1_L N) := loop_of_ev (Z := ((List (Int × (Int × Bool))) × ((List (Int × (Int × Int))) × Int)) × List Int) (N := N) (fun m p => fewestr_l1 N m p.1.1 p.1.2.2.2.2.1 p.2.1.1.1.1 p.2.2.1.1 p.2.2.2.1.1) (fun e => .inl ((e.1, (), ()), ((e.2, ()), ()))) (fun _ _ _ => rfl) (fun _ => rfl) (fun m z E Xc hE hX hrec hx => leaf_of_ev (B := fewestr_B) (loops := [fewestr_l2_L N]) (leaves := [fewestr_l1_h (fewestr_l1 N m), fewestr_l1_e0]) (fewestr_all N) mixed ⟨fewestr_l2_ok N, trivial⟩ hE hX ⟨hrec, (fun p hp => by obtain rfl := Option.some.inj hp; exact hx), trivial⟩ RetOK.no (fun p => fewestr_l1_eq N m p.1.1 p.1.2.2.2.2.1 p.2.1.1.1.1 p.2.2.1.1 p.2.2.2.1.1))
abbrev fewestr_l3_at : List PI := [.c [1, 1, 1, 1, 1, 0, 1, 0, 0, 0, 0], .c [1, 1, 1, 1, 1, 0, 1, 0, 0, 0, 1], .c [1, 1, 1, 1, 1, 0, 1, 0, 0, 1], .l [1, 1, 1, 1, 1, 0, 1, 0, 0], .b 4, .c [1, 1, 1, 1, 1, 1]]
abbrev fewestr_l3_st : Sta := ⟨[1, 7, 10, 11], ⟨[.fe (.pair (.sl (.pair (.int .i64) (.pair (.int .i64) .bool))) (.pair (.sl (.pair (.int .i64) (.pair (.int .i64) (.int .i64)))) (.int .i64))), .own 0 0, .ols 1, .i .i64], [.segs [.arr (.int .i64) 13], .lst (.int .i64)]⟩⟩
abbrev fewestr_l3_h (rec : (((List (Int × (Int × Bool))) × ((List (Int × (Int × Int))) × Int))) → Int → (List Int) → (List Int) → Option (List Int)) : Leaf (List Int) := ⟨fewestr_l3_at, fewestr_l3_st, fun p => rec p.1.1 p.1.2.2.2.1 p.2.1.1 p.2.2.1⟩
abbrev fewestr_l3_e0 : Leaf (List Int) := ⟨[.c [1, 1, 1, 1, 1, 1, 0], .c [1, 1, 1, 1, 1, 1, 1]], ⟨[10], ⟨[.ols 0], [.lst (.int .i64)]⟩⟩, fun p => some (p.2.1)⟩
noncomputable def fewestr_l3_L (N : Nat) : LoopS := { at_ := fewestr_l3_at, sta := fewestr_l3_st, exits := [([.c [1, 1, 1, 1, 1, 1, 0], .c [1, 1, 1, 1, 1, 1, 1]], ⟨[10], ⟨[.ols 0], [.lst (.int .i64)]⟩⟩)], run := fun p k => (fewestr_l3 N N p.1.1 p.1.2.2.2.1 p.2.1.1 p.2.2.1).bind fun e => k (.inl (((), ()), (e, ()))) }
theorem fewestr_l3_eq (N n_ : Nat) (d : ((List (Int × (Int × Bool))) × ((List (Int × (Int × Int))) × Int))) (at_ : Int) (next : List Int) (out : List Int) : ev (Z := List Int) Try.prog (fewestr_sp N) fewestr_B [fewestr_l2_L N, fewestr_l1_L N] [fewestr_l3_h (fewestr_l3 N n_), fewestr_l3_e0] none 400 true fewestr_l3_at (stL fewestr_l3_st ((d, (), (), at_, ()), ((next, ()), out, ()))) (stH fewestr_l3_st ((d, (), (), at_, ()), ((next, ()), out, ()))) = fewestr_l3 N (n_ + 1) d at_ next out := by kernel_rfl
theorem fewestr_l3_ok (N : Nat) {top : Bool} : LoopOK Try.prog fewestr_B.c fewestr_B.n fewestr_B.m0 top (fewestr_l3_L N) := loop_of_ev (Z := List Int) (N := N) (fun m p => fewestr_l3 N m p.1.1 p.1.2.2.2.1 p.2.1.1 p.2.2.1) (fun e => .inl (((), ()), (e, ()))) (fun _ _ _ => rfl) (fun _ => rfl) (fun m z E Xc hE hX hrec hx => leaf_of_ev (B := fewestr_B) (loops := [fewestr_l2_L N, fewestr_l1_L N]) (leaves := [fewestr_l3_h (fewestr_l3 N m), fewestr_l3_e0]) (fewestr_all N) mixed ⟨fewestr_l2_ok N, fewestr_l1_ok N, trivial⟩ hE hX ⟨hrec, (fun p hp => by obtain rfl := Option.some.inj hp; exact hx), trivial⟩ RetOK.no (fun p => fewestr_l3_eq N m p.1.1 p.1.2.2.2.1 p.2.1.1 p.2.2.1))
abbrev fewestr_st : Sta := ⟨[0, 1], ⟨[.agg [.fn 87 [.fe (.pair (.sl (.pair (.int .i64) (.pair (.int .i64) .bool))) (.pair (.sl (.pair (.int .i64) (.pair (.int .i64) (.int .i64)))) (.int .i64)))] []], .fe (.pair (.sl (.pair (.int .i64) (.pair (.int .i64) .bool))) (.pair (.sl (.pair (.int .i64) (.pair (.int .i64) (.int .i64)))) (.int .i64)))], []⟩⟩
theorem fewestr_eq (N : Nat) (r : ((List (Int × (Int × Bool))) × ((List (Int × (Int × Int))) × Int))) (d : ((List (Int × (Int × Bool))) × ((List (Int × (Int × Int))) × Int))) : ev (Z := List Int × Bool) Try.prog (fewestr_sp N) fewestr_B [fewestr_l2_L N, fewestr_l1_L N, fewestr_l3_L N] [] (some fewestr_rt) 400 false [.c [0], .c [1]] (stL fewestr_st (((((r, ()), ()), ()), d, ()), ())) (stH fewestr_st (((((r, ()), ()), ()), d, ()), ())) = fewestr_S N r d := by kernel_rfl
noncomputable def sp_fewestr (N : Nat) : Spec := { f := 88, ins := ⟨[.agg [.fn 87 [.fe (.pair (.sl (.pair (.int .i64) (.pair (.int .i64) .bool))) (.pair (.sl (.pair (.int .i64) (.pair (.int .i64) (.int .i64)))) (.int .i64)))] []], .fe (.pair (.sl (.pair (.int .i64) (.pair (.int .i64) .bool))) (.pair (.sl (.pair (.int .i64) (.pair (.int .i64) (.int .i64)))) (.int .i64)))], []⟩, outs := [⟨[.sl (.int .i64), .b], []⟩], run := fun p k => (fewestr_S N p.1.1.1.1.1 p.1.2.1).bind fun r => k ((r.1, r.2, ()), ()) }
theorem sp_fewestr_ok (N : Nat) : SpecOK Try.prog (sp_fewestr N) := fn_sound (B := fewestr_B) (loops := [fewestr_l2_L N, fewestr_l1_L N, fewestr_l3_L N]) (leaves := []) (fun p => fewestr_S N p.1.1.1.1.1 p.1.2.1) (fun r => ((r.1, r.2, ()), ())) fewestr_rt (fun _ _ _ => rfl) (fun r z h => by cases h; rfl) Try.func88 (by kernel_rfl) (by kernel_rfl) (by kernel_rfl) rfl rfl (by kernel_rfl) (fun args w => Sem.pv_run _ _ _ (by kernel_rfl) w) (fewestr_all N) mixed ⟨fewestr_l2_ok N, fewestr_l1_ok N, fewestr_l3_ok N, trivial⟩ (fun z E Xc hE hX hret => trivial) (fun p => fewestr_eq N p.1.1.1.1.1 p.1.2.1)

def fewest_S (N : Nat) (t : List (Int × (Int × Bool))) (t2 : List (Int × (Int × Int))) (t3 : Int) : Option (List Int × Int) :=
  ((opened_S N t t2 t3).bind fun e => match e with
  | .inl (x_1, y_2) =>
    (br (!decide (y_2 = 0))
      (some ([], y_2))
      ((fewestr_S N x_1 x_1).bind fun (x_3, y_4) =>
      br (!y_4)
        (some ([], 6))
        (some (x_3, 0))))
  | .inr x_5 =>
    (br (!decide (x_5 = 0))
      (some ([], x_5))
      (none)))
noncomputable def fewest_sp (N : Nat) : List Spec := [sp_opened N, sp_fewestr N]
theorem fewest_all (N : Nat) : AllP (SpecOK Try.prog) (fewest_sp N) := ⟨sp_opened_ok N, sp_fewestr_ok N, trivial⟩
noncomputable def fewest_c : Code := (Try.f22.body).getD .skip
noncomputable abbrev fewest_B : Body := { c := fewest_c, n := 27, res := [.tmp 2, .tmp 3], outs := [⟨[.sl (.int .i64), .i .i64], []⟩], m0 := 0 }
abbrev fewest_rt : altD fewest_B.outs → Option (List Int × Int) := fun r => some (r.1.1, r.1.2.1)
abbrev fewest_st : Sta := ⟨[0], ⟨[.agg [.sl (.pair (.int .i64) (.pair (.int .i64) .bool)), .sl (.pair (.int .i64) (.pair (.int .i64) (.int .i64))), .i .i64]], []⟩⟩
theorem fewest_eq (N : Nat) (t : List (Int × (Int × Bool))) (t2 : List (Int × (Int × Int))) (t3 : Int) : ev (Z := List Int × Int) Try.prog (fewest_sp N) fewest_B [] [] (some fewest_rt) 400 false [.c [0], .c [1]] (stL fewest_st (((t, t2, t3, ()), ()), ())) (stH fewest_st (((t, t2, t3, ()), ()), ())) = fewest_S N t t2 t3 := by kernel_rfl
noncomputable def sp_fewest (N : Nat) : Spec := { f := 22, ins := ⟨[.agg [.sl (.pair (.int .i64) (.pair (.int .i64) .bool)), .sl (.pair (.int .i64) (.pair (.int .i64) (.int .i64))), .i .i64]], []⟩, outs := [⟨[.sl (.int .i64), .i .i64], []⟩], run := fun p k => (fewest_S N p.1.1.1 p.1.1.2.1 p.1.1.2.2.1).bind fun r => k ((r.1, r.2, ()), ()) }
theorem sp_fewest_ok (N : Nat) : SpecOK Try.prog (sp_fewest N) := fn_sound (B := fewest_B) (loops := []) (leaves := []) (fun p => fewest_S N p.1.1.1 p.1.1.2.1 p.1.1.2.2.1) (fun r => ((r.1, r.2, ()), ())) fewest_rt (fun _ _ _ => rfl) (fun r z h => by cases h; rfl) Try.func22 (by kernel_rfl) (by kernel_rfl) (by kernel_rfl) rfl rfl (by kernel_rfl) (fun args w => Sem.pv_run _ _ _ (by kernel_rfl) w) (fewest_all N) mixed trivial (fun z E Xc hE hX hret => trivial) (fun p => fewest_eq N p.1.1.1 p.1.1.2.1 p.1.1.2.2.1)

end Go.Proofs.Ytfamlpbdhhikdaa

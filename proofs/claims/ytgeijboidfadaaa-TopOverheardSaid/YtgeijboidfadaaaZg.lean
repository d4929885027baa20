/-
  Parts of a proof, put together: PO1, PO2.
  Conditions: none.
-/
import Derived.Test.YtgeijboidfadaaaZe
import Derived.Test.YtgeijboidfadaaaZf
namespace Go.Proofs.Ytgeijboidfadaaa.Fe
set_option linter.all false
open Go

def in__S (N : Nat) (n : Int) (lo : Int) (hi : Int) : Option Bool :=
  br (decide (lo ≤ n))
    (some (decide (n ≤ hi)))
    (some false)
noncomputable def in__sp (N : Nat) : List Spec := []
theorem in__all (N : Nat) : AllP (SpecOK Try.prog) (in__sp N) := trivial
noncomputable def in__c : Code := (Try.f60.body).getD .skip
noncomputable abbrev in__B : Body := { c := in__c, n := 15, res := [.tmp 6], outs := [⟨[.b], []⟩], m0 := 0 }
abbrev in__rt : altD in__B.outs → Option Bool := fun r => some r.1.1
abbrev in__st : Sta := ⟨[0, 1, 2], ⟨[.i .i64, .i .i64, .i .i64], []⟩⟩
theorem in__eq (N : Nat) (n : Int) (lo : Int) (hi : Int) : ev (Z := Bool) Try.prog (in__sp N) in__B [] [] (some in__rt) 400 false [.c [0], .c [1]] (stL in__st ((n, lo, hi, ()), ())) (stH in__st ((n, lo, hi, ()), ())) = in__S N n lo hi := by kernel_rfl
noncomputable def sp_in_ (N : Nat) : Spec := { f := 60, ins := ⟨[.i .i64, .i .i64, .i .i64], []⟩, outs := [⟨[.b], []⟩], run := fun p k => (in__S N p.1.1 p.1.2.1 p.1.2.2.1).bind fun r => k ((r, ()), ()) }
theorem sp_in__ok (N : Nat) : SpecOK Try.prog (sp_in_ N) := fn_sound (B := in__B) (loops := []) (leaves := []) (fun p => in__S N p.1.1 p.1.2.1 p.1.2.2.1) (fun r => ((r, ()), ())) in__rt (fun _ _ _ => rfl) (fun r z h => by cases h; rfl) Try.func60 (by kernel_rfl) (by kernel_rfl) (by kernel_rfl) rfl rfl (by kernel_rfl) (fun args w => Sem.pv_run _ _ _ (by kernel_rfl) w) (in__all N) mixed trivial (fun z E Xc hE hX hret => trivial) (fun p => in__eq N p.1.1 p.1.2.1 p.1.2.2.1)

def crier_S (N : Nat) (b : Int) (b2 : Int) (b3 : Int) (b4 : Int) (b5 : List QK) (n : Int) : Option Bool :=
  chk (b - 1) <|
  (in__S N n 0 (b - 1)).bind fun x_1 =>
  some x_1
noncomputable def crier_sp (N : Nat) : List Spec := [sp_in_ N]
theorem crier_all (N : Nat) : AllP (SpecOK Try.prog) (crier_sp N) := ⟨sp_in__ok N, trivial⟩
noncomputable def crier_c : Code := (Try.f121.body).getD .skip
noncomputable abbrev crier_B : Body := { c := crier_c, n := 10, res := [.tmp 4], outs := [⟨[.b], []⟩], m0 := 0 }
abbrev crier_rt : altD crier_B.outs → Option Bool := fun r => some r.1.1
abbrev crier_st : Sta := ⟨[0, 1], ⟨[.agg [.i .i64, .i .i64, .i .i64, .i .i64, .sl Qk], .i .i64], []⟩⟩
theorem crier_eq (N : Nat) (b : Int) (b2 : Int) (b3 : Int) (b4 : Int) (b5 : List QK) (n : Int) : ev (Z := Bool) Try.prog (crier_sp N) crier_B [] [] (some crier_rt) 400 false [.c [0], .c [1]] (stL crier_st (((b, b2, b3, b4, b5, ()), n, ()), ())) (stH crier_st (((b, b2, b3, b4, b5, ()), n, ()), ())) = crier_S N b b2 b3 b4 b5 n := by kernel_rfl
noncomputable def sp_crier (N : Nat) : Spec := { f := 121, ins := ⟨[.agg [.i .i64, .i .i64, .i .i64, .i .i64, .sl Qk], .i .i64], []⟩, outs := [⟨[.b], []⟩], run := fun p k => (crier_S N p.1.1.1 p.1.1.2.1 p.1.1.2.2.1 p.1.1.2.2.2.1 p.1.1.2.2.2.2.1 p.1.2.1).bind fun r => k ((r, ()), ()) }
theorem sp_crier_ok (N : Nat) : SpecOK Try.prog (sp_crier N) := fn_sound (B := crier_B) (loops := []) (leaves := []) (fun p => crier_S N p.1.1.1 p.1.1.2.1 p.1.1.2.2.1 p.1.1.2.2.2.1 p.1.1.2.2.2.2.1 p.1.2.1) (fun r => ((r, ()), ())) crier_rt (fun _ _ _ => rfl) (fun r z h => by cases h; rfl) Try.func121 (by kernel_rfl) (by kernel_rfl) (by kernel_rfl) rfl rfl (by kernel_rfl) (fun args w => Sem.pv_run _ _ _ (by kernel_rfl) w) (crier_all N) mixed trivial (fun z E Xc hE hX hret => trivial) (fun p => crier_eq N p.1.1.1 p.1.1.2.1 p.1.1.2.2.1 p.1.1.2.2.2.1 p.1.1.2.2.2.2.1 p.1.2.1)

def check1_S (N : Nat) (r : Int) (r2 : Int) (r3 : List Int) : Option Bool :=
  (in__S N r 1 9).bind fun x_1 =>
  br x_1
    ((in__S N r2 1 5).bind fun x_2 =>
    some x_2)
    (some false)
noncomputable def check1_sp (N : Nat) : List Spec := [sp_in_ N]
theorem check1_all (N : Nat) : AllP (SpecOK Try.prog) (check1_sp N) := ⟨sp_in__ok N, trivial⟩
noncomputable def check1_c : Code := (Try.f120.body).getD .skip
noncomputable abbrev check1_B : Body := { c := check1_c, n := 11, res := [.tmp 2], outs := [⟨[.b], []⟩], m0 := 0 }
abbrev check1_rt : altD check1_B.outs → Option Bool := fun r => some r.1.1
abbrev check1_st : Sta := ⟨[0], ⟨[.agg [.i .i64, .i .i64, .sl (.int .i64)]], []⟩⟩
theorem check1_eq (N : Nat) (r : Int) (r2 : Int) (r3 : List Int) : ev (Z := Bool) Try.prog (check1_sp N) check1_B [] [] (some check1_rt) 400 false [.c [0], .c [1]] (stL check1_st (((r, r2, r3, ()), ()), ())) (stH check1_st (((r, r2, r3, ()), ()), ())) = check1_S N r r2 r3 := by kernel_rfl
noncomputable def sp_check1 (N : Nat) : Spec := { f := 120, ins := ⟨[.agg [.i .i64, .i .i64, .sl (.int .i64)]], []⟩, outs := [⟨[.b], []⟩], run := fun p k => (check1_S N p.1.1.1 p.1.1.2.1 p.1.1.2.2.1).bind fun r => k ((r, ()), ()) }
theorem sp_check1_ok (N : Nat) : SpecOK Try.prog (sp_check1 N) := fn_sound (B := check1_B) (loops := []) (leaves := []) (fun p => check1_S N p.1.1.1 p.1.1.2.1 p.1.1.2.2.1) (fun r => ((r, ()), ())) check1_rt (fun _ _ _ => rfl) (fun r z h => by cases h; rfl) Try.func120 (by kernel_rfl) (by kernel_rfl) (by kernel_rfl) rfl rfl (by kernel_rfl) (fun args w => Sem.pv_run _ _ _ (by kernel_rfl) w) (check1_all N) mixed trivial (fun z E Xc hE hX hret => trivial) (fun p => check1_eq N p.1.1.1 p.1.1.2.1 p.1.1.2.2.1)

def every1c_S (N : Nat) (x : Int) (g : Int) (g2 : Int) (g3 : Int) (g4 : Int) (g5 : List QK) : Option (Bool × Int × Int × Int × Int × Qj) :=
  (crier_S N g g2 g3 g4 g5 x).bind fun x_1 =>
  some ((!x_1), g, g2, g3, g4, g5)
noncomputable def every1c_sp (N : Nat) : List Spec := [sp_crier N]
theorem every1c_all (N : Nat) : AllP (SpecOK Try.prog) (every1c_sp N) := ⟨sp_crier_ok N, trivial⟩
noncomputable def every1c_c : Code := (Try.f94.body).getD .skip
noncomputable abbrev every1c_B : Body := { c := every1c_c, n := 8, res := [.tmp 3], outs := [⟨[.b], [.segs [.fn 121 [.agg [.i .i64, .i .i64, .i .i64, .i .i64, .sl Qk]] []]]⟩], m0 := 1 }
abbrev every1c_rt : altD every1c_B.outs → Option (Bool × Int × Int × Int × Int × Qj) := fun r => some (r.1.1, r.2.1.1.1.1.1, r.2.1.1.1.1.2.1, r.2.1.1.1.1.2.2.1, r.2.1.1.1.1.2.2.2.1, r.2.1.1.1.1.2.2.2.2.1)
abbrev every1c_st : Sta := ⟨[0, 1], ⟨[.i .i64, .own 0 0], [.segs [.fn 121 [.agg [.i .i64, .i .i64, .i .i64, .i .i64, .sl Qk]] []]]⟩⟩
theorem every1c_eq (N : Nat) (x : Int) (g : Int) (g2 : Int) (g3 : Int) (g4 : Int) (g5 : List QK) : ev (Z := Bool × Int × Int × Int × Int × Qj) Try.prog (every1c_sp N) every1c_B [] [] (some every1c_rt) 400 false [.c [0], .c [1]] (stL every1c_st ((x, (), ()), (((((g, g2, g3, g4, g5, ()), ()), ()), ()), ()))) (stH every1c_st ((x, (), ()), (((((g, g2, g3, g4, g5, ()), ()), ()), ()), ()))) = every1c_S N x g g2 g3 g4 g5 := by kernel_rfl
noncomputable def sp_every1c (N : Nat) : Spec := { f := 94, ins := ⟨[.i .i64, .own 0 0], [.segs [.fn 121 [.agg [.i .i64, .i .i64, .i .i64, .i .i64, .sl Qk]] []]]⟩, outs := [⟨[.b], [.segs [.fn 121 [.agg [.i .i64, .i .i64, .i .i64, .i .i64, .sl Qk]] []]]⟩], run := fun p k => (every1c_S N p.1.1 p.2.1.1.1.1.1 p.2.1.1.1.1.2.1 p.2.1.1.1.1.2.2.1 p.2.1.1.1.1.2.2.2.1 p.2.1.1.1.1.2.2.2.2.1).bind fun r => k ((r.1, ()), (((((r.2.1, r.2.2.1, r.2.2.2.1, r.2.2.2.2.1, r.2.2.2.2.2, ()), ()), ()), ()), ())) }
theorem sp_every1c_ok (N : Nat) : SpecOK Try.prog (sp_every1c N) := fn_sound (B := every1c_B) (loops := []) (leaves := []) (fun p => every1c_S N p.1.1 p.2.1.1.1.1.1 p.2.1.1.1.1.2.1 p.2.1.1.1.1.2.2.1 p.2.1.1.1.1.2.2.2.1 p.2.1.1.1.1.2.2.2.2.1) (fun r => ((r.1, ()), (((((r.2.1, r.2.2.1, r.2.2.2.1, r.2.2.2.2.1, r.2.2.2.2.2, ()), ()), ()), ()), ()))) every1c_rt (fun _ _ _ => rfl) (fun r z h => by cases h; rfl) Try.func94 (by kernel_rfl) (by kernel_rfl) (by kernel_rfl) rfl rfl (by kernel_rfl) (fun args w => Sem.pv_run _ _ _ (by kernel_rfl) w) (every1c_all N) mixed trivial (fun z E Xc hE hX hret => trivial) (fun p => every1c_eq N p.1.1 p.2.1.1.1.1.1 p.2.1.1.1.1.2.1 p.2.1.1.1.1.2.2.1 p.2.1.1.1.1.2.2.2.1 p.2.1.1.1.1.2.2.2.2.1)

def ixfc_l1 (N : Nat) : Nat → Qe → Int → Int → Int → Int → Int → Int → Qj → Option (QI ⊕ (Int × Int × Int × Int × Qj))
  | 0, _, _, _, _, _, _, _, _ => none
  | n_ + 1, s, u, u2, f, f2, f3, f4, f5 =>
    br (decide (u2 < u))
      (idx s u2 fun x_1 =>
      (every1c_S N x_1 f f2 f3 f4 f5).bind fun (x_2, y_3, y_4, y_5, y_6, y_7) =>
      br x_2
        (some (.inl (u2, y_3, y_4, y_5, y_6, y_7)))
        (chk (u2 + 1) <|
        ixfc_l1 N n_ s u (u2 + 1) y_3 y_4 y_5 y_6 y_7))
      (some (.inr (f, f2, f3, f4, f5)))
def ixfc_S (N : Nat) (s : List Int) (f : Int) (f2 : Int) (f3 : Int) (f4 : Int) (f5 : List QK) : Option QI :=
  (ixfc_l1 N N s (s.length : Int) 0 f f2 f3 f4 f5).bind fun e => match e with
  | .inl (i_8, g_9, g2_10, g3_11, g4_12, g5_13) =>
    some (i_8, g_9, g2_10, g3_11, g4_12, g5_13)
  | .inr (g_14, g2_15, g3_16, g4_17, g5_18) =>
    some (-1, g_14, g2_15, g3_16, g4_17, g5_18)
noncomputable def ixfc_sp (N : Nat) : List Spec := [sp_every1c N]
theorem ixfc_all (N : Nat) : AllP (SpecOK Try.prog) (ixfc_sp N) := ⟨sp_every1c_ok N, trivial⟩
noncomputable def ixfc_c : Code := (Try.f80.body).getD .skip
noncomputable abbrev ixfc_B : Body := { c := ixfc_c, n := 19, res := [.tmp 4], outs := [⟨[.i .i64], [.segs [.fn 121 [.agg [.i .i64, .i .i64, .i .i64, .i .i64, .sl Qk]] []]]⟩], m0 := 1 }
abbrev ixfc_rt : altD ixfc_B.outs → Option QI := fun r => some (r.1.1, r.2.1.1.1.1.1, r.2.1.1.1.1.2.1, r.2.1.1.1.1.2.2.1, r.2.1.1.1.1.2.2.2.1, r.2.1.1.1.1.2.2.2.2.1)
abbrev ixfc_l1_at : List PI := [.c [1, 0, 1, 0, 0, 0], .c [1, 0, 1, 0, 0, 1], .l [1, 0, 1, 0, 0], .b 0, .c [1, 1]]
abbrev ixfc_l1_st : Sta := ⟨[0, 1, 7, 8], ⟨[.sl (.int .i64), .fn 94 [] [.own 0 0], .i .i64, .i .i64], [.segs [.fn 121 [.agg [.i .i64, .i .i64, .i .i64, .i .i64, .sl Qk]] []]]⟩⟩
abbrev ixfc_l1_h (rec : Qe → Int → Int → Int → Int → Int → Int → Qj → Option (QI ⊕ (Int × Int × Int × Int × Qj))) : Leaf (QI ⊕ (Int × Int × Int × Int × Qj)) := ⟨ixfc_l1_at, ixfc_l1_st, fun p => rec p.1.1 p.1.2.2.1 p.1.2.2.2.1 p.2.1.1.1.1.1 p.2.1.1.1.1.2.1 p.2.1.1.1.1.2.2.1 p.2.1.1.1.1.2.2.2.1 p.2.1.1.1.1.2.2.2.2.1⟩
abbrev ixfc_l1_e0 : Leaf (QI ⊕ (Int × Int × Int × Int × Qj)) := ⟨[.c [1, 0, 1, 0, 0, 1, 1, 0, 0, 1, 1, 0, 0], .c [1, 0, 1, 0, 0, 1, 1, 0, 0, 1, 1, 0, 1], .b 1, .c [1, 0, 1, 0, 0, 1, 1, 1], .l [1, 0, 1, 0, 0], .b 0, .c [1, 1]], ⟨[5], ⟨[.i .i64], [.segs [.fn 121 [.agg [.i .i64, .i .i64, .i .i64, .i .i64, .sl Qk]] []]]⟩⟩, fun p => some (.inl (p.1.1, p.2.1.1.1.1.1, p.2.1.1.1.1.2.1, p.2.1.1.1.1.2.2.1, p.2.1.1.1.1.2.2.2.1, p.2.1.1.1.1.2.2.2.2.1))⟩
abbrev ixfc_l1_e1 : Leaf (QI ⊕ (Int × Int × Int × Int × Qj)) := ⟨[.c [1, 1, 0], .c [1, 1, 1]], ⟨[], ⟨[], [.segs [.fn 121 [.agg [.i .i64, .i .i64, .i .i64, .i .i64, .sl Qk]] []]]⟩⟩, fun p => some (.inr (p.2.1.1.1.1.1, p.2.1.1.1.1.2.1, p.2.1.1.1.1.2.2.1, p.2.1.1.1.1.2.2.2.1, p.2.1.1.1.1.2.2.2.2.1))⟩
noncomputable def ixfc_l1_L (N : Nat) : LoopS := { at_ := ixfc_l1_at, sta := ixfc_l1_st, exits := [([.c [1, 0, 1, 0, 0, 1, 1, 0, 0, 1, 1, 0, 0], .c [1, 0, 1, 0, 0, 1, 1, 0, 0, 1, 1, 0, 1], .b 1, .c [1, 0, 1, 0, 0, 1, 1, 1], .l [1, 0, 1, 0, 0], .b 0, .c [1, 1]], ⟨[5], ⟨[.i .i64], [.segs [.fn 121 [.agg [.i .i64, .i .i64, .i .i64, .i .i64, .sl Qk]] []]]⟩⟩), ([.c [1, 1, 0], .c [1, 1, 1]], ⟨[], ⟨[], [.segs [.fn 121 [.agg [.i .i64, .i .i64, .i .i64, .i .i64, .sl Qk]] []]]⟩⟩)], run := fun p k => (ixfc_l1 N N p.1.1 p.1.2.2.1 p.1.2.2.2.1 p.2.1.1.1.1.1 p.2.1.1.1.1.2.1 p.2.1.1.1.1.2.2.1 p.2.1.1.1.1.2.2.2.1 p.2.1.1.1.1.2.2.2.2.1).bind fun e => match e with | .inl x => k (.inl ((x.1, ()), (((((x.2.1, x.2.2.1, x.2.2.2.1, x.2.2.2.2.1, x.2.2.2.2.2, ()), ()), ()), ()), ()))) | .inr x => k (.inr (.inl ((), (((((x.1, x.2.1, x.2.2.1, x.2.2.2.1, x.2.2.2.2, ()), ()), ()), ()), ())))) }
theorem ixfc_l1_eq (N n_ : Nat) (s : List Int) (u : Int) (u2 : Int) (f : Int) (f2 : Int) (f3 : Int) (f4 : Int) (f5 : List QK) : ev (Z := QI ⊕ (Int × Int × Int × Int × Qj)) Try.prog (ixfc_sp N) ixfc_B [] [ixfc_l1_h (ixfc_l1 N n_), ixfc_l1_e0, ixfc_l1_e1] none 400 true ixfc_l1_at (stL ixfc_l1_st ((s, ((), ((), ())), u, u2, ()), (((((f, f2, f3, f4, f5, ()), ()), ()), ()), ()))) (stH ixfc_l1_st ((s, ((), ((), ())), u, u2, ()), (((((f, f2, f3, f4, f5, ()), ()), ()), ()), ()))) = ixfc_l1 N (n_ + 1) s u u2 f f2 f3 f4 f5 := by kernel_rfl
theorem ixfc_l1_ok (N : Nat) {top : Bool} : LoopOK Try.prog ixfc_B.c ixfc_B.n ixfc_B.m0 top (ixfc_l1_L N) := loop_of_ev (Z := QI ⊕ (Int × Int × Int × Int × Qj)) (N := N) (fun m p => ixfc_l1 N m p.1.1 p.1.2.2.1 p.1.2.2.2.1 p.2.1.1.1.1.1 p.2.1.1.1.1.2.1 p.2.1.1.1.1.2.2.1 p.2.1.1.1.1.2.2.2.1 p.2.1.1.1.1.2.2.2.2.1) (fun e => match e with | .inl x => .inl ((x.1, ()), (((((x.2.1, x.2.2.1, x.2.2.2.1, x.2.2.2.2.1, x.2.2.2.2.2, ()), ()), ()), ()), ())) | .inr x => .inr (.inl ((), (((((x.1, x.2.1, x.2.2.1, x.2.2.2.1, x.2.2.2.2, ()), ()), ()), ()), ())))) (fun _ p k => bind_congr_ (ixfc_l1 N N p.1.1 p.1.2.2.1 p.1.2.2.2.1 p.2.1.1.1.1.1 p.2.1.1.1.1.2.1 p.2.1.1.1.1.2.2.1 p.2.1.1.1.1.2.2.2.1 p.2.1.1.1.1.2.2.2.2.1) _ _ (fun e => by rcases e with x | x <;> rfl)) (fun _ => rfl) (fun m z E Xc hE hX hrec hx => leaf_of_ev (B := ixfc_B) (loops := []) (leaves := [ixfc_l1_h (ixfc_l1 N m), ixfc_l1_e0, ixfc_l1_e1]) (ixfc_all N) mixed trivial hE hX ⟨hrec, (fun p hp => by obtain rfl := Option.some.inj hp; exact hx), (fun p hp => by obtain rfl := Option.some.inj hp; exact hx), trivial⟩ RetOK.no (fun p => ixfc_l1_eq N m p.1.1 p.1.2.2.1 p.1.2.2.2.1 p.2.1.1.1.1.1 p.2.1.1.1.1.2.1 p.2.1.1.1.1.2.2.1 p.2.1.1.1.1.2.2.2.1 p.2.1.1.1.1.2.2.2.2.1))
abbrev ixfc_st : Sta := ⟨[0, 1], ⟨[.sl (.int .i64), .fn 94 [] [.own 0 0]], [.segs [.fn 121 [.agg [.i .i64, .i .i64, .i .i64, .i .i64, .sl Qk]] []]]⟩⟩
theorem ixfc_eq (N : Nat) (s : List Int) (f : Int) (f2 : Int) (f3 : Int) (f4 : Int) (f5 : List QK) : ev (Z := Int × Int × Int × Int × Int × Qj) Try.prog (ixfc_sp N) ixfc_B [ixfc_l1_L N] [] (some ixfc_rt) 400 false [.c [0], .c [1]] (stL ixfc_st ((s, ((), ((), ())), ()), (((((f, f2, f3, f4, f5, ()), ()), ()), ()), ()))) (stH ixfc_st ((s, ((), ((), ())), ()), (((((f, f2, f3, f4, f5, ()), ()), ()), ()), ()))) = ixfc_S N s f f2 f3 f4 f5 := by kernel_rfl
noncomputable def sp_ixfc (N : Nat) : Spec := { f := 80, ins := ⟨[.sl (.int .i64), .fn 94 [] [.own 0 0]], [.segs [.fn 121 [.agg [.i .i64, .i .i64, .i .i64, .i .i64, .sl Qk]] []]]⟩, outs := [⟨[.i .i64], [.segs [.fn 121 [.agg [.i .i64, .i .i64, .i .i64, .i .i64, .sl Qk]] []]]⟩], run := fun p k => (ixfc_S N p.1.1 p.2.1.1.1.1.1 p.2.1.1.1.1.2.1 p.2.1.1.1.1.2.2.1 p.2.1.1.1.1.2.2.2.1 p.2.1.1.1.1.2.2.2.2.1).bind fun r => k ((r.1, ()), (((((r.2.1, r.2.2.1, r.2.2.2.1, r.2.2.2.2.1, r.2.2.2.2.2, ()), ()), ()), ()), ())) }
theorem sp_ixfc_ok (N : Nat) : SpecOK Try.prog (sp_ixfc N) := fn_sound (B := ixfc_B) (loops := [ixfc_l1_L N]) (leaves := []) (fun p => ixfc_S N p.1.1 p.2.1.1.1.1.1 p.2.1.1.1.1.2.1 p.2.1.1.1.1.2.2.1 p.2.1.1.1.1.2.2.2.1 p.2.1.1.1.1.2.2.2.2.1) (fun r => ((r.1, ()), (((((r.2.1, r.2.2.1, r.2.2.2.1, r.2.2.2.2.1, r.2.2.2.2.2, ()), ()), ()), ()), ()))) ixfc_rt (fun _ _ _ => rfl) (fun r z h => by cases h; rfl) Try.func80 (by kernel_rfl) (by kernel_rfl) (by kernel_rfl) rfl rfl (by kernel_rfl) (fun args w => Sem.pv_run _ _ _ (by kernel_rfl) w) (ixfc_all N) mixed ⟨ixfc_l1_ok N, trivial⟩ (fun z E Xc hE hX hret => trivial) (fun p => ixfc_eq N p.1.1 p.2.1.1.1.1.1 p.2.1.1.1.1.2.1 p.2.1.1.1.1.2.2.1 p.2.1.1.1.1.2.2.2.1 p.2.1.1.1.1.2.2.2.2.1)

def cofc_S (N : Nat) (s : List Int) (f : Int) (f2 : Int) (f3 : Int) (f4 : Int) (f5 : List QK) : Option (Bool × Int × Int × Int × Int × Qj) :=
  (ixfc_S N s f f2 f3 f4 f5).bind fun (x_1, y_2, y_3, y_4, y_5, y_6) =>
  some ((decide (0 ≤ x_1)), y_2, y_3, y_4, y_5, y_6)
noncomputable def cofc_sp (N : Nat) : List Spec := [sp_ixfc N]
theorem cofc_all (N : Nat) : AllP (SpecOK Try.prog) (cofc_sp N) := ⟨sp_ixfc_ok N, trivial⟩
noncomputable def cofc_c : Code := (Try.f93.body).getD .skip
noncomputable abbrev cofc_B : Body := { c := cofc_c, n := 9, res := [.tmp 4], outs := [⟨[.b], [.segs [.fn 121 [.agg [.i .i64, .i .i64, .i .i64, .i .i64, .sl Qk]] []]]⟩], m0 := 1 }
abbrev cofc_rt : altD cofc_B.outs → Option (Bool × Int × Int × Int × Int × Qj) := fun r => some (r.1.1, r.2.1.1.1.1.1, r.2.1.1.1.1.2.1, r.2.1.1.1.1.2.2.1, r.2.1.1.1.1.2.2.2.1, r.2.1.1.1.1.2.2.2.2.1)
abbrev cofc_st : Sta := ⟨[0, 1], ⟨[.sl (.int .i64), .fn 94 [] [.own 0 0]], [.segs [.fn 121 [.agg [.i .i64, .i .i64, .i .i64, .i .i64, .sl Qk]] []]]⟩⟩
theorem cofc_eq (N : Nat) (s : List Int) (f : Int) (f2 : Int) (f3 : Int) (f4 : Int) (f5 : List QK) : ev (Z := Bool × Int × Int × Int × Int × Qj) Try.prog (cofc_sp N) cofc_B [] [] (some cofc_rt) 400 false [.c [0], .c [1]] (stL cofc_st ((s, ((), ((), ())), ()), (((((f, f2, f3, f4, f5, ()), ()), ()), ()), ()))) (stH cofc_st ((s, ((), ((), ())), ()), (((((f, f2, f3, f4, f5, ()), ()), ()), ()), ()))) = cofc_S N s f f2 f3 f4 f5 := by kernel_rfl
noncomputable def sp_cofc (N : Nat) : Spec := { f := 93, ins := ⟨[.sl (.int .i64), .fn 94 [] [.own 0 0]], [.segs [.fn 121 [.agg [.i .i64, .i .i64, .i .i64, .i .i64, .sl Qk]] []]]⟩, outs := [⟨[.b], [.segs [.fn 121 [.agg [.i .i64, .i .i64, .i .i64, .i .i64, .sl Qk]] []]]⟩], run := fun p k => (cofc_S N p.1.1 p.2.1.1.1.1.1 p.2.1.1.1.1.2.1 p.2.1.1.1.1.2.2.1 p.2.1.1.1.1.2.2.2.1 p.2.1.1.1.1.2.2.2.2.1).bind fun r => k ((r.1, ()), (((((r.2.1, r.2.2.1, r.2.2.2.1, r.2.2.2.2.1, r.2.2.2.2.2, ()), ()), ()), ()), ())) }
theorem sp_cofc_ok (N : Nat) : SpecOK Try.prog (sp_cofc N) := fn_sound (B := cofc_B) (loops := []) (leaves := []) (fun p => cofc_S N p.1.1 p.2.1.1.1.1.1 p.2.1.1.1.1.2.1 p.2.1.1.1.1.2.2.1 p.2.1.1.1.1.2.2.2.1 p.2.1.1.1.1.2.2.2.2.1) (fun r => ((r.1, ()), (((((r.2.1, r.2.2.1, r.2.2.2.1, r.2.2.2.2.1, r.2.2.2.2.2, ()), ()), ()), ()), ()))) cofc_rt (fun _ _ _ => rfl) (fun r z h => by cases h; rfl) Try.func93 (by kernel_rfl) (by kernel_rfl) (by kernel_rfl) rfl rfl (by kernel_rfl) (fun args w => Sem.pv_run _ _ _ (by kernel_rfl) w) (cofc_all N) mixed trivial (fun z E Xc hE hX hret => trivial) (fun p => cofc_eq N p.1.1 p.2.1.1.1.1.1 p.2.1.1.1.1.2.1 p.2.1.1.1.1.2.2.1 p.2.1.1.1.1.2.2.2.1 p.2.1.1.1.1.2.2.2.2.1)

def everyc_S (N : Nat) (l : List Int) (holds : Int) (holds2 : Int) (holds3 : Int) (holds4 : Int) (holds5 : List QK) : Option Bool :=
  (cofc_S N l holds holds2 holds3 holds4 holds5).bind fun (x_1, y_2, y_3, y_4, y_5, y_6) =>
  some (!x_1)
noncomputable def everyc_sp (N : Nat) : List Spec := [sp_cofc N]
theorem everyc_all (N : Nat) : AllP (SpecOK Try.prog) (everyc_sp N) := ⟨sp_cofc_ok N, trivial⟩
noncomputable def everyc_c : Code := (Try.f61.body).getD .skip
noncomputable abbrev everyc_B : Body := { c := everyc_c, n := 9, res := [.tmp 4], outs := [⟨[.b], []⟩], m0 := 0 }
abbrev everyc_rt : altD everyc_B.outs → Option Bool := fun r => some r.1.1
abbrev everyc_st : Sta := ⟨[0, 1], ⟨[.sl (.int .i64), .fn 121 [.agg [.i .i64, .i .i64, .i .i64, .i .i64, .sl Qk]] []], []⟩⟩
theorem everyc_eq (N : Nat) (l : List Int) (holds : Int) (holds2 : Int) (holds3 : Int) (holds4 : Int) (holds5 : List QK) : ev (Z := Bool) Try.prog (everyc_sp N) everyc_B [] [] (some everyc_rt) 400 false [.c [0], .c [1]] (stL everyc_st ((l, (((holds, holds2, holds3, holds4, holds5, ()), ()), ()), ()), ())) (stH everyc_st ((l, (((holds, holds2, holds3, holds4, holds5, ()), ()), ()), ()), ())) = everyc_S N l holds holds2 holds3 holds4 holds5 := by kernel_rfl
noncomputable def sp_everyc (N : Nat) : Spec := { f := 61, ins := ⟨[.sl (.int .i64), .fn 121 [.agg [.i .i64, .i .i64, .i .i64, .i .i64, .sl Qk]] []], []⟩, outs := [⟨[.b], []⟩], run := fun p k => (everyc_S N p.1.1 p.1.2.1.1.1.1 p.1.2.1.1.1.2.1 p.1.2.1.1.1.2.2.1 p.1.2.1.1.1.2.2.2.1 p.1.2.1.1.1.2.2.2.2.1).bind fun r => k ((r, ()), ()) }
theorem sp_everyc_ok (N : Nat) : SpecOK Try.prog (sp_everyc N) := fn_sound (B := everyc_B) (loops := []) (leaves := []) (fun p => everyc_S N p.1.1 p.1.2.1.1.1.1 p.1.2.1.1.1.2.1 p.1.2.1.1.1.2.2.1 p.1.2.1.1.1.2.2.2.1 p.1.2.1.1.1.2.2.2.2.1) (fun r => ((r, ()), ())) everyc_rt (fun _ _ _ => rfl) (fun r z h => by cases h; rfl) Try.func61 (by kernel_rfl) (by kernel_rfl) (by kernel_rfl) rfl rfl (by kernel_rfl) (fun args w => Sem.pv_run _ _ _ (by kernel_rfl) w) (everyc_all N) mixed trivial (fun z E Xc hE hX hret => trivial) (fun p => everyc_eq N p.1.1 p.1.2.1.1.1.1 p.1.2.1.1.1.2.1 p.1.2.1.1.1.2.2.1 p.1.2.1.1.1.2.2.2.1 p.1.2.1.1.1.2.2.2.2.1)

def every1r_S (N : Nat) (x : Int) (x2 : Int) (x3 : List Int) : Option Bool :=
  (check1_S N x x2 x3).bind fun x_1 =>
  some (!x_1)
noncomputable def every1r_sp (N : Nat) : List Spec := [sp_check1 N]
theorem every1r_all (N : Nat) : AllP (SpecOK Try.prog) (every1r_sp N) := ⟨sp_check1_ok N, trivial⟩
noncomputable def every1r_c : Code := (Try.f138.body).getD .skip
noncomputable abbrev every1r_B : Body := { c := every1r_c, n := 8, res := [.tmp 3], outs := [⟨[.b], [.segs [.fn 120 [] []]]⟩], m0 := 1 }
abbrev every1r_rt : altD every1r_B.outs → Option Bool := fun r => some r.1.1
abbrev every1r_st : Sta := ⟨[0, 1], ⟨[.agg [.i .i64, .i .i64, .sl (.int .i64)], .own 0 0], [.segs [.fn 120 [] []]]⟩⟩
theorem every1r_eq (N : Nat) (x : Int) (x2 : Int) (x3 : List Int) : ev (Z := Bool) Try.prog (every1r_sp N) every1r_B [] [] (some every1r_rt) 400 false [.c [0], .c [1]] (stL every1r_st (((x, x2, x3, ()), (), ()), ((((), ()), ()), ()))) (stH every1r_st (((x, x2, x3, ()), (), ()), ((((), ()), ()), ()))) = every1r_S N x x2 x3 := by kernel_rfl
noncomputable def sp_every1r (N : Nat) : Spec := { f := 138, ins := ⟨[.agg [.i .i64, .i .i64, .sl (.int .i64)], .own 0 0], [.segs [.fn 120 [] []]]⟩, outs := [⟨[.b], [.segs [.fn 120 [] []]]⟩], run := fun p k => (every1r_S N p.1.1.1 p.1.1.2.1 p.1.1.2.2.1).bind fun r => k ((r, ()), ((((), ()), ()), ())) }
theorem sp_every1r_ok (N : Nat) : SpecOK Try.prog (sp_every1r N) := fn_sound (B := every1r_B) (loops := []) (leaves := []) (fun p => every1r_S N p.1.1.1 p.1.1.2.1 p.1.1.2.2.1) (fun r => ((r, ()), ((((), ()), ()), ()))) every1r_rt (fun _ _ _ => rfl) (fun r z h => by cases h; rfl) Try.func138 (by kernel_rfl) (by kernel_rfl) (by kernel_rfl) rfl rfl (by kernel_rfl) (fun args w => Sem.pv_run _ _ _ (by kernel_rfl) w) (every1r_all N) mixed trivial (fun z E Xc hE hX hret => trivial) (fun p => every1r_eq N p.1.1.1 p.1.1.2.1 p.1.1.2.2.1)

def ixfr_l1 (N : Nat) : Nat → Qj → Int → Int → Option ((Int) ⊕ (Unit))
  | 0, _, _, _ => none
  | n_ + 1, s, u, u2 =>
    br (decide (u2 < u))
      (idx s u2 fun x_1 =>
      (every1r_S N x_1.1 x_1.2.1 x_1.2.2).bind fun x_2 =>
      br x_2
        (some (.inl u2))
        (chk (u2 + 1) <|
        ixfr_l1 N n_ s u (u2 + 1)))
      (some (.inr ()))
def ixfr_S (N : Nat) (s : List QK) : Option Int :=
  (ixfr_l1 N N s (s.length : Int) 0).bind fun e => match e with
  | .inl i_3 =>
    some i_3
  | .inr _ =>
    some (-1)
noncomputable def ixfr_sp (N : Nat) : List Spec := [sp_every1r N]
theorem ixfr_all (N : Nat) : AllP (SpecOK Try.prog) (ixfr_sp N) := ⟨sp_every1r_ok N, trivial⟩
noncomputable def ixfr_c : Code := (Try.f153.body).getD .skip
noncomputable abbrev ixfr_B : Body := { c := ixfr_c, n := 19, res := [.tmp 4], outs := [⟨[.i .i64], [.segs [.fn 120 [] []]]⟩], m0 := 1 }
abbrev ixfr_rt : altD ixfr_B.outs → Option Int := fun r => some r.1.1
abbrev ixfr_l1_at : List PI := [.c [1, 0, 1, 0, 0, 0], .c [1, 0, 1, 0, 0, 1], .l [1, 0, 1, 0, 0], .b 0, .c [1, 1]]
abbrev ixfr_l1_st : Sta := ⟨[0, 1, 7, 8], ⟨[.sl Qk, .fn 138 [] [.own 0 0], .i .i64, .i .i64], [.segs [.fn 120 [] []]]⟩⟩
abbrev ixfr_l1_h (rec : Qj → Int → Int → Option ((Int) ⊕ (Unit))) : Leaf ((Int) ⊕ (Unit)) := ⟨ixfr_l1_at, ixfr_l1_st, fun p => rec p.1.1 p.1.2.2.1 p.1.2.2.2.1⟩
abbrev ixfr_l1_e0 : Leaf ((Int) ⊕ (Unit)) := ⟨[.c [1, 0, 1, 0, 0, 1, 1, 0, 0, 1, 1, 0, 0], .c [1, 0, 1, 0, 0, 1, 1, 0, 0, 1, 1, 0, 1], .b 1, .c [1, 0, 1, 0, 0, 1, 1, 1], .l [1, 0, 1, 0, 0], .b 0, .c [1, 1]], ⟨[5], ⟨[.i .i64], [.segs [.fn 120 [] []]]⟩⟩, fun p => some (.inl p.1.1)⟩
abbrev ixfr_l1_e1 : Leaf ((Int) ⊕ (Unit)) := ⟨[.c [1, 1, 0], .c [1, 1, 1]], ⟨[], ⟨[], [.segs [.fn 120 [] []]]⟩⟩, fun p => some (.inr ())⟩
noncomputable def ixfr_l1_L (N : Nat) : LoopS := { at_ := ixfr_l1_at, sta := ixfr_l1_st, exits := [([.c [1, 0, 1, 0, 0, 1, 1, 0, 0, 1, 1, 0, 0], .c [1, 0, 1, 0, 0, 1, 1, 0, 0, 1, 1, 0, 1], .b 1, .c [1, 0, 1, 0, 0, 1, 1, 1], .l [1, 0, 1, 0, 0], .b 0, .c [1, 1]], ⟨[5], ⟨[.i .i64], [.segs [.fn 120 [] []]]⟩⟩), ([.c [1, 1, 0], .c [1, 1, 1]], ⟨[], ⟨[], [.segs [.fn 120 [] []]]⟩⟩)], run := fun p k => (ixfr_l1 N N p.1.1 p.1.2.2.1 p.1.2.2.2.1).bind fun e => match e with | .inl x => k (.inl ((x, ()), ((((), ()), ()), ()))) | .inr x => k (.inr (.inl ((), ((((), ()), ()), ())))) }
theorem ixfr_l1_eq (N n_ : Nat) (s : List QK) (u : Int) (u2 : Int) : ev (Z := (Int) ⊕ (Unit)) Try.prog (ixfr_sp N) ixfr_B [] [ixfr_l1_h (ixfr_l1 N n_), ixfr_l1_e0, ixfr_l1_e1] none 400 true ixfr_l1_at (stL ixfr_l1_st ((s, ((), ((), ())), u, u2, ()), ((((), ()), ()), ()))) (stH ixfr_l1_st ((s, ((), ((), ())), u, u2, ()), ((((), ()), ()), ()))) = ixfr_l1 N (n_ + 1) s u u2 := by kernel_rfl
theorem ixfr_l1_ok (N : Nat) {top : Bool} : LoopOK Try.prog ixfr_B.c ixfr_B.n ixfr_B.m0 top (ixfr_l1_L N) := loop_of_ev (Z := (Int) ⊕ (Unit)) (N := N) (fun m p => ixfr_l1 N m p.1.1 p.1.2.2.1 p.1.2.2.2.1) (fun e => match e with | .inl x => .inl ((x, ()), ((((), ()), ()), ())) | .inr x => .inr (.inl ((), ((((), ()), ()), ())))) (fun _ p k => bind_congr_ (ixfr_l1 N N p.1.1 p.1.2.2.1 p.1.2.2.2.1) _ _ (fun e => by rcases e with x | x <;> rfl)) (fun _ => rfl) (fun m z E Xc hE hX hrec hx => leaf_of_ev (B := ixfr_B) (loops := []) (leaves := [ixfr_l1_h (ixfr_l1 N m), ixfr_l1_e0, ixfr_l1_e1]) (ixfr_all N) mixed trivial hE hX ⟨hrec, (fun p hp => by obtain rfl := Option.some.inj hp; exact hx), (fun p hp => by obtain rfl := Option.some.inj hp; exact hx), trivial⟩ RetOK.no (fun p => ixfr_l1_eq N m p.1.1 p.1.2.2.1 p.1.2.2.2.1))
abbrev ixfr_st : Sta := ⟨[0, 1], ⟨[.sl Qk, .fn 138 [] [.own 0 0]], [.segs [.fn 120 [] []]]⟩⟩
theorem ixfr_eq (N : Nat) (s : List QK) : ev (Z := Int) Try.prog (ixfr_sp N) ixfr_B [ixfr_l1_L N] [] (some ixfr_rt) 400 false [.c [0], .c [1]] (stL ixfr_st ((s, ((), ((), ())), ()), ((((), ()), ()), ()))) (stH ixfr_st ((s, ((), ((), ())), ()), ((((), ()), ()), ()))) = ixfr_S N s := by kernel_rfl
noncomputable def sp_ixfr (N : Nat) : Spec := { f := 153, ins := ⟨[.sl Qk, .fn 138 [] [.own 0 0]], [.segs [.fn 120 [] []]]⟩, outs := [⟨[.i .i64], [.segs [.fn 120 [] []]]⟩], run := fun p k => (ixfr_S N p.1.1).bind fun r => k ((r, ()), ((((), ()), ()), ())) }
theorem sp_ixfr_ok (N : Nat) : SpecOK Try.prog (sp_ixfr N) := fn_sound (B := ixfr_B) (loops := [ixfr_l1_L N]) (leaves := []) (fun p => ixfr_S N p.1.1) (fun r => ((r, ()), ((((), ()), ()), ()))) ixfr_rt (fun _ _ _ => rfl) (fun r z h => by cases h; rfl) Try.func153 (by kernel_rfl) (by kernel_rfl) (by kernel_rfl) rfl rfl (by kernel_rfl) (fun args w => Sem.pv_run _ _ _ (by kernel_rfl) w) (ixfr_all N) mixed ⟨ixfr_l1_ok N, trivial⟩ (fun z E Xc hE hX hret => trivial) (fun p => ixfr_eq N p.1.1)

def cofr_S (N : Nat) (s : List QK) : Option Bool :=
  (ixfr_S N s).bind fun x_1 =>
  some (decide (0 ≤ x_1))
noncomputable def cofr_sp (N : Nat) : List Spec := [sp_ixfr N]
theorem cofr_all (N : Nat) : AllP (SpecOK Try.prog) (cofr_sp N) := ⟨sp_ixfr_ok N, trivial⟩
noncomputable def cofr_c : Code := (Try.f137.body).getD .skip
noncomputable abbrev cofr_B : Body := { c := cofr_c, n := 9, res := [.tmp 4], outs := [⟨[.b], [.segs [.fn 120 [] []]]⟩], m0 := 1 }
abbrev cofr_rt : altD cofr_B.outs → Option Bool := fun r => some r.1.1
abbrev cofr_st : Sta := ⟨[0, 1], ⟨[.sl Qk, .fn 138 [] [.own 0 0]], [.segs [.fn 120 [] []]]⟩⟩
theorem cofr_eq (N : Nat) (s : List QK) : ev (Z := Bool) Try.prog (cofr_sp N) cofr_B [] [] (some cofr_rt) 400 false [.c [0], .c [1]] (stL cofr_st ((s, ((), ((), ())), ()), ((((), ()), ()), ()))) (stH cofr_st ((s, ((), ((), ())), ()), ((((), ()), ()), ()))) = cofr_S N s := by kernel_rfl
noncomputable def sp_cofr (N : Nat) : Spec := { f := 137, ins := ⟨[.sl Qk, .fn 138 [] [.own 0 0]], [.segs [.fn 120 [] []]]⟩, outs := [⟨[.b], [.segs [.fn 120 [] []]]⟩], run := fun p k => (cofr_S N p.1.1).bind fun r => k ((r, ()), ((((), ()), ()), ())) }
theorem sp_cofr_ok (N : Nat) : SpecOK Try.prog (sp_cofr N) := fn_sound (B := cofr_B) (loops := []) (leaves := []) (fun p => cofr_S N p.1.1) (fun r => ((r, ()), ((((), ()), ()), ()))) cofr_rt (fun _ _ _ => rfl) (fun r z h => by cases h; rfl) Try.func137 (by kernel_rfl) (by kernel_rfl) (by kernel_rfl) rfl rfl (by kernel_rfl) (fun args w => Sem.pv_run _ _ _ (by kernel_rfl) w) (cofr_all N) mixed trivial (fun z E Xc hE hX hret => trivial) (fun p => cofr_eq N p.1.1)

def everyr_S (N : Nat) (l : List QK) : Option Bool :=
  (cofr_S N l).bind fun x_1 =>
  some (!x_1)
noncomputable def everyr_sp (N : Nat) : List Spec := [sp_cofr N]
theorem everyr_all (N : Nat) : AllP (SpecOK Try.prog) (everyr_sp N) := ⟨sp_cofr_ok N, trivial⟩
noncomputable def everyr_c : Code := (Try.f119.body).getD .skip
noncomputable abbrev everyr_B : Body := { c := everyr_c, n := 9, res := [.tmp 4], outs := [⟨[.b], []⟩], m0 := 0 }
abbrev everyr_rt : altD everyr_B.outs → Option Bool := fun r => some r.1.1
abbrev everyr_st : Sta := ⟨[0, 1], ⟨[.sl Qk, .fn 120 [] []], []⟩⟩
theorem everyr_eq (N : Nat) (l : List QK) : ev (Z := Bool) Try.prog (everyr_sp N) everyr_B [] [] (some everyr_rt) 400 false [.c [0], .c [1]] (stL everyr_st ((l, ((), ()), ()), ())) (stH everyr_st ((l, ((), ()), ()), ())) = everyr_S N l := by kernel_rfl
noncomputable def sp_everyr (N : Nat) : Spec := { f := 119, ins := ⟨[.sl Qk, .fn 120 [] []], []⟩, outs := [⟨[.b], []⟩], run := fun p k => (everyr_S N p.1.1).bind fun r => k ((r, ()), ()) }
theorem sp_everyr_ok (N : Nat) : SpecOK Try.prog (sp_everyr N) := fn_sound (B := everyr_B) (loops := []) (leaves := []) (fun p => everyr_S N p.1.1) (fun r => ((r, ()), ())) everyr_rt (fun _ _ _ => rfl) (fun r z h => by cases h; rfl) Try.func119 (by kernel_rfl) (by kernel_rfl) (by kernel_rfl) rfl rfl (by kernel_rfl) (fun args w => Sem.pv_run _ _ _ (by kernel_rfl) w) (everyr_all N) mixed trivial (fun z E Xc hE hX hret => trivial) (fun p => everyr_eq N p.1.1)

def check_l2 (N : Nat) : Nat → Qj → Int → Int → Int → Int → Int → Int → Int → Int → Qj → Int → Int → Qe → Option ((Unit) ⊕ QH)
  | 0, _, _, _, _, _, _, _, _, _, _, _, _, _ => none
  | n_ + 1, u, u2, u3, u4, u5, b, b2, b3, b4, b5, r, r2, r3 =>
    br (decide (u5 < u4))
      (idx r3 u5 fun x_8 =>
      chk (u5 + 1) <|
      idx r3 (u5 + 1) fun x_9 =>
      br (decide (x_9 ≤ x_8))
        (some (.inl ()))
        (chk (u5 + 1) <|
        check_l2 N n_ u u2 u3 u4 (u5 + 1) b b2 b3 b4 b5 r r2 r3))
      (some (.inr (u, u2, u3, b, b2, b3, b4, b5)))
def check_l1 (N : Nat) : Nat → Qj → Int → Int → Int → Int → Int → Int → Qj → Option ((Unit) ⊕ ((Unit) ⊕ ((Unit) ⊕ (Unit))))
  | 0, _, _, _, _, _, _, _, _ => none
  | n_ + 1, u, u2, u3, b, b2, b3, b4, b5 =>
    br (decide (u3 < u2))
      (idx u u3 fun x_6 =>
      br (decide ((x_6.2.2.length : Int) = 0))
        (some (.inl ()))
        ((everyc_S N x_6.2.2 b b2 b3 b4 b5).bind fun x_7 =>
        br (!x_7)
          (some (.inr (.inl ())))
          (grd (decide ((0 : Int) ≤ 1 ∧ 1 ≤ (x_6.2.2.length : Int))) <|
          (check_l2 N N u u2 u3 ((x_6.2.2.drop 1).length : Int) 0 b b2 b3 b4 b5 x_6.1 x_6.2.1 x_6.2.2).bind fun e => match e with
          | .inl _ =>
            some (.inr (.inr (.inl ())))
          | .inr (u_10, u2_11, u3_12, b_13, b2_14, b3_15, b4_16, b5_17) =>
            chk (u3_12 + 1) <|
            check_l1 N n_ u_10 u2_11 (u3_12 + 1) b_13 b2_14 b3_15 b4_16 b5_17)))
      (some (.inr (.inr (.inr ()))))
def check_S (N : Nat) (b : Int) (b2 : Int) (b3 : Int) (b4 : Int) (b5 : List QK) : Option Int :=
  (in__S N b 1 4).bind fun x_1 =>
  br (!x_1)
    (some 2)
    (br (decide (7 < (b5.length : Int)))
      (some 2)
      ((in__S N b2 0 20).bind fun x_2 =>
      br (!x_2)
        (some 3)
        ((in__S N b3 0 20).bind fun x_3 =>
        br (!x_3)
          (some 3)
          ((in__S N b4 0 20).bind fun x_4 =>
          br (!x_4)
            (some 3)
            ((everyr_S N b5).bind fun x_5 =>
            br (!x_5)
              (some 3)
              ((check_l1 N N b5 (b5.length : Int) 0 b b2 b3 b4 b5).bind fun e => match e with
              | .inl _ =>
                some 6
              | .inr (.inl _) =>
                some 1
              | .inr (.inr (.inl _)) =>
                some 4
              | .inr (.inr (.inr _)) =>
                some 0))))))
noncomputable def check_sp (N : Nat) : List Spec := [sp_in_ N, sp_everyc N, sp_everyr N]
theorem check_all (N : Nat) : AllP (SpecOK Try.prog) (check_sp N) := ⟨sp_in__ok N, sp_everyc_ok N, sp_everyr_ok N, trivial⟩
noncomputable def check_c : Code := (Try.f77.body).getD .skip
noncomputable abbrev check_B : Body := { c := check_c, n := 79, res := [.tmp 2], outs := [⟨[.i .i64], []⟩], m0 := 0 }
abbrev check_rt : altD check_B.outs → Option Int := fun r => some r.1.1
abbrev check_l2_at : List PI := [.c [1, 1, 0, 1, 0, 0, 1, 1, 0, 0, 1, 1, 1, 0, 0, 0], .c [1, 1, 0, 1, 0, 0, 1, 1, 0, 0, 1, 1, 1, 0, 0, 1], .l [1, 1, 0, 1, 0, 0, 1, 1, 0, 0, 1, 1, 1, 0, 0], .b 4, .b 2, .c [1, 1, 0, 1, 0, 0, 1, 1, 1], .l [1, 1, 0, 1, 0, 0], .b 1, .c [1, 1, 1]]
abbrev check_l2_st : Sta := ⟨[1, 4, 40, 41, 42, 61, 62], ⟨[.own 0 0, .own 1 0, .sl Qk, .i .i64, .i .i64, .i .i64, .i .i64], [.segs [.i .i64, .i .i64, .i .i64, .i .i64, .sl Qk], .segs [.i .i64, .i .i64, .sl (.int .i64)]]⟩⟩
abbrev check_l2_h (rec : Qj → Int → Int → Int → Int → Int → Int → Int → Int → Qj → Int → Int → Qe → Option ((Unit) ⊕ QH)) : Leaf ((Unit) ⊕ QH) := ⟨check_l2_at, check_l2_st, fun p => rec p.1.2.2.1 p.1.2.2.2.1 p.1.2.2.2.2.1 p.1.2.2.2.2.2.1 p.1.2.2.2.2.2.2.1 p.2.1.1 p.2.1.2.1 p.2.1.2.2.1 p.2.1.2.2.2.1 p.2.1.2.2.2.2.1 p.2.2.1.1 p.2.2.1.2.1 p.2.2.1.2.2.1⟩
abbrev check_l2_e0 : Leaf ((Unit) ⊕ QH) := ⟨[.c [1, 1, 0, 1, 0, 0, 1, 1, 0, 0, 1, 1, 1, 0, 0, 1, 1, 0, 0, 1, 1, 0, 0], .c [1, 1, 0, 1, 0, 0, 1, 1, 0, 0, 1, 1, 1, 0, 0, 1, 1, 0, 0, 1, 1, 0, 1], .b 5, .c [1, 1, 0, 1, 0, 0, 1, 1, 0, 0, 1, 1, 1, 0, 0, 1, 1, 1], .l [1, 1, 0, 1, 0, 0, 1, 1, 0, 0, 1, 1, 1, 0, 0], .b 4, .b 2, .c [1, 1, 0, 1, 0, 0, 1, 1, 1], .l [1, 1, 0, 1, 0, 0], .b 1, .c [1, 1, 1]], ⟨[], ⟨[], []⟩⟩, fun p => some (.inl ())⟩
abbrev check_l2_e1 : Leaf ((Unit) ⊕ QH) := ⟨[.c [1, 1, 0, 1, 0, 0, 1, 1, 1], .l [1, 1, 0, 1, 0, 0], .b 1, .c [1, 1, 1]], ⟨[1, 40, 41, 42], ⟨[.own 0 0, .sl Qk, .i .i64, .i .i64], [.segs [.i .i64, .i .i64, .i .i64, .i .i64, .sl Qk]]⟩⟩, fun p => some (.inr (p.1.2.1, p.1.2.2.1, p.1.2.2.2.1, p.2.1.1, p.2.1.2.1, p.2.1.2.2.1, p.2.1.2.2.2.1, p.2.1.2.2.2.2.1))⟩
noncomputable def check_l2_L (N : Nat) : LoopS := { at_ := check_l2_at, sta := check_l2_st, exits := [([.c [1, 1, 0, 1, 0, 0, 1, 1, 0, 0, 1, 1, 1, 0, 0, 1, 1, 0, 0, 1, 1, 0, 0], .c [1, 1, 0, 1, 0, 0, 1, 1, 0, 0, 1, 1, 1, 0, 0, 1, 1, 0, 0, 1, 1, 0, 1], .b 5, .c [1, 1, 0, 1, 0, 0, 1, 1, 0, 0, 1, 1, 1, 0, 0, 1, 1, 1], .l [1, 1, 0, 1, 0, 0, 1, 1, 0, 0, 1, 1, 1, 0, 0], .b 4, .b 2, .c [1, 1, 0, 1, 0, 0, 1, 1, 1], .l [1, 1, 0, 1, 0, 0], .b 1, .c [1, 1, 1]], ⟨[], ⟨[], []⟩⟩), ([.c [1, 1, 0, 1, 0, 0, 1, 1, 1], .l [1, 1, 0, 1, 0, 0], .b 1, .c [1, 1, 1]], ⟨[1, 40, 41, 42], ⟨[.own 0 0, .sl Qk, .i .i64, .i .i64], [.segs [.i .i64, .i .i64, .i .i64, .i .i64, .sl Qk]]⟩⟩)], run := fun p k => (check_l2 N N p.1.2.2.1 p.1.2.2.2.1 p.1.2.2.2.2.1 p.1.2.2.2.2.2.1 p.1.2.2.2.2.2.2.1 p.2.1.1 p.2.1.2.1 p.2.1.2.2.1 p.2.1.2.2.2.1 p.2.1.2.2.2.2.1 p.2.2.1.1 p.2.2.1.2.1 p.2.2.1.2.2.1).bind fun e => match e with | .inl x => k (.inl ((), ())) | .inr x => k (.inr (.inl (((), x.1, x.2.1, x.2.2.1, ()), ((x.2.2.2.1, x.2.2.2.2.1, x.2.2.2.2.2.1, x.2.2.2.2.2.2.1, x.2.2.2.2.2.2.2, ()), ())))) }
theorem check_l2_eq (N n_ : Nat) (u : List QK) (u2 : Int) (u3 : Int) (u4 : Int) (u5 : Int) (b : Int) (b2 : Int) (b3 : Int) (b4 : Int) (b5 : List QK) (r : Int) (r2 : Int) (r3 : List Int) : ev (Z := (Unit) ⊕ QH) Try.prog (check_sp N) check_B [] [check_l2_h (check_l2 N n_), check_l2_e0, check_l2_e1] none 400 true check_l2_at (stL check_l2_st (((), (), u, u2, u3, u4, u5, ()), ((b, b2, b3, b4, b5, ()), (r, r2, r3, ()), ()))) (stH check_l2_st (((), (), u, u2, u3, u4, u5, ()), ((b, b2, b3, b4, b5, ()), (r, r2, r3, ()), ()))) = check_l2 N (n_ + 1) u u2 u3 u4 u5 b b2 b3 b4 b5 r r2 r3 := by kernel_rfl
theorem check_l2_ok (N : Nat) {top : Bool} : LoopOK Try.prog check_B.c check_B.n check_B.m0 top (check_l2_L N) := loop_of_ev (Z := (Unit) ⊕ QH) (N := N) (fun m p => check_l2 N m p.1.2.2.1 p.1.2.2.2.1 p.1.2.2.2.2.1 p.1.2.2.2.2.2.1 p.1.2.2.2.2.2.2.1 p.2.1.1 p.2.1.2.1 p.2.1.2.2.1 p.2.1.2.2.2.1 p.2.1.2.2.2.2.1 p.2.2.1.1 p.2.2.1.2.1 p.2.2.1.2.2.1) (fun e => match e with | .inl x => .inl ((), ()) | .inr x => .inr (.inl (((), x.1, x.2.1, x.2.2.1, ()), ((x.2.2.2.1, x.2.2.2.2.1, x.2.2.2.2.2.1, x.2.2.2.2.2.2.1, x.2.2.2.2.2.2.2, ()), ())))) (fun _ p k => bind_congr_ (check_l2 N N p.1.2.2.1 p.1.2.2.2.1 p.1.2.2.2.2.1 p.1.2.2.2.2.2.1 p.1.2.2.2.2.2.2.1 p.2.1.1 p.2.1.2.1 p.2.1.2.2.1 p.2.1.2.2.2.1 p.2.1.2.2.2.2.1 p.2.2.1.1 p.2.2.1.2.1 p.2.2.1.2.2.1) _ _ (fun e => by rcases e with x | x <;> rfl)) (fun _ => rfl) (fun m z E Xc hE hX hrec hx => leaf_of_ev (B := check_B) (loops := []) (leaves := [check_l2_h (check_l2 N m), check_l2_e0, check_l2_e1]) (check_all N) mixed trivial hE hX ⟨hrec, (fun p hp => by obtain rfl := Option.some.inj hp; exact hx), (fun p hp => by obtain rfl := Option.some.inj hp; exact hx), trivial⟩ RetOK.no (fun p => check_l2_eq N m p.1.2.2.1 p.1.2.2.2.1 p.1.2.2.2.2.1 p.1.2.2.2.2.2.1 p.1.2.2.2.2.2.2.1 p.2.1.1 p.2.1.2.1 p.2.1.2.2.1 p.2.1.2.2.2.1 p.2.1.2.2.2.2.1 p.2.2.1.1 p.2.2.1.2.1 p.2.2.1.2.2.1))
abbrev check_l1_at : List PI := [.c [1, 1, 0, 1, 0, 0, 0], .c [1, 1, 0, 1, 0, 0, 1], .l [1, 1, 0, 1, 0, 0], .b 1, .c [1, 1, 1]]
abbrev check_l1_st : Sta := ⟨[1, 40, 41, 42], ⟨[.own 0 0, .sl Qk, .i .i64, .i .i64], [.segs [.i .i64, .i .i64, .i .i64, .i .i64, .sl Qk]]⟩⟩
abbrev check_l1_h (rec : Qj → Int → Int → Int → Int → Int → Int → Qj → Option ((Unit) ⊕ ((Unit) ⊕ ((Unit) ⊕ (Unit))))) : Leaf ((Unit) ⊕ ((Unit) ⊕ ((Unit) ⊕ (Unit)))) := ⟨check_l1_at, check_l1_st, fun p => rec p.1.2.1 p.1.2.2.1 p.1.2.2.2.1 p.2.1.1 p.2.1.2.1 p.2.1.2.2.1 p.2.1.2.2.2.1 p.2.1.2.2.2.2.1⟩
abbrev check_l1_e0 : Leaf ((Unit) ⊕ ((Unit) ⊕ ((Unit) ⊕ (Unit)))) := ⟨[.c [1, 1, 0, 1, 0, 0, 1, 1, 0, 0, 1, 0, 0, 1, 0, 0], .c [1, 1, 0, 1, 0, 0, 1, 1, 0, 0, 1, 0, 0, 1, 0, 1], .b 3, .c [1, 1, 0, 1, 0, 0, 1, 1, 0, 0, 1, 1], .b 2, .c [1, 1, 0, 1, 0, 0, 1, 1, 1], .l [1, 1, 0, 1, 0, 0], .b 1, .c [1, 1, 1]], ⟨[], ⟨[], []⟩⟩, fun p => some (.inl ())⟩
abbrev check_l1_e1 : Leaf ((Unit) ⊕ ((Unit) ⊕ ((Unit) ⊕ (Unit)))) := ⟨[.c [1, 1, 0, 1, 0, 0, 1, 1, 0, 0, 1, 0, 0, 1, 1, 1, 0, 0], .c [1, 1, 0, 1, 0, 0, 1, 1, 0, 0, 1, 0, 0, 1, 1, 1, 0, 1], .b 3, .c [1, 1, 0, 1, 0, 0, 1, 1, 0, 0, 1, 1], .b 2, .c [1, 1, 0, 1, 0, 0, 1, 1, 1], .l [1, 1, 0, 1, 0, 0], .b 1, .c [1, 1, 1]], ⟨[], ⟨[], []⟩⟩, fun p => some (.inr (.inl ()))⟩
abbrev check_l1_e2 : Leaf ((Unit) ⊕ ((Unit) ⊕ ((Unit) ⊕ (Unit)))) := ⟨[.c [1, 1, 0, 1, 0, 0, 1, 1, 0, 0, 1, 1, 1, 0, 0, 1, 1, 0, 0, 1, 1, 0, 0], .c [1, 1, 0, 1, 0, 0, 1, 1, 0, 0, 1, 1, 1, 0, 0, 1, 1, 0, 0, 1, 1, 0, 1], .b 5, .c [1, 1, 0, 1, 0, 0, 1, 1, 0, 0, 1, 1, 1, 0, 0, 1, 1, 1], .l [1, 1, 0, 1, 0, 0, 1, 1, 0, 0, 1, 1, 1, 0, 0], .b 4, .b 2, .c [1, 1, 0, 1, 0, 0, 1, 1, 1], .l [1, 1, 0, 1, 0, 0], .b 1, .c [1, 1, 1]], ⟨[], ⟨[], []⟩⟩, fun p => some (.inr (.inr (.inl ())))⟩
abbrev check_l1_e3 : Leaf ((Unit) ⊕ ((Unit) ⊕ ((Unit) ⊕ (Unit)))) := ⟨[.c [1, 1, 1, 0], .c [1, 1, 1, 1]], ⟨[], ⟨[], []⟩⟩, fun p => some (.inr (.inr (.inr ())))⟩
noncomputable def check_l1_L (N : Nat) : LoopS := { at_ := check_l1_at, sta := check_l1_st, exits := [([.c [1, 1, 0, 1, 0, 0, 1, 1, 0, 0, 1, 0, 0, 1, 0, 0], .c [1, 1, 0, 1, 0, 0, 1, 1, 0, 0, 1, 0, 0, 1, 0, 1], .b 3, .c [1, 1, 0, 1, 0, 0, 1, 1, 0, 0, 1, 1], .b 2, .c [1, 1, 0, 1, 0, 0, 1, 1, 1], .l [1, 1, 0, 1, 0, 0], .b 1, .c [1, 1, 1]], ⟨[], ⟨[], []⟩⟩), ([.c [1, 1, 0, 1, 0, 0, 1, 1, 0, 0, 1, 0, 0, 1, 1, 1, 0, 0], .c [1, 1, 0, 1, 0, 0, 1, 1, 0, 0, 1, 0, 0, 1, 1, 1, 0, 1], .b 3, .c [1, 1, 0, 1, 0, 0, 1, 1, 0, 0, 1, 1], .b 2, .c [1, 1, 0, 1, 0, 0, 1, 1, 1], .l [1, 1, 0, 1, 0, 0], .b 1, .c [1, 1, 1]], ⟨[], ⟨[], []⟩⟩), ([.c [1, 1, 0, 1, 0, 0, 1, 1, 0, 0, 1, 1, 1, 0, 0, 1, 1, 0, 0, 1, 1, 0, 0], .c [1, 1, 0, 1, 0, 0, 1, 1, 0, 0, 1, 1, 1, 0, 0, 1, 1, 0, 0, 1, 1, 0, 1], .b 5, .c [1, 1, 0, 1, 0, 0, 1, 1, 0, 0, 1, 1, 1, 0, 0, 1, 1, 1], .l [1, 1, 0, 1, 0, 0, 1, 1, 0, 0, 1, 1, 1, 0, 0], .b 4, .b 2, .c [1, 1, 0, 1, 0, 0, 1, 1, 1], .l [1, 1, 0, 1, 0, 0], .b 1, .c [1, 1, 1]], ⟨[], ⟨[], []⟩⟩), ([.c [1, 1, 1, 0], .c [1, 1, 1, 1]], ⟨[], ⟨[], []⟩⟩)], run := fun p k => (check_l1 N N p.1.2.1 p.1.2.2.1 p.1.2.2.2.1 p.2.1.1 p.2.1.2.1 p.2.1.2.2.1 p.2.1.2.2.2.1 p.2.1.2.2.2.2.1).bind fun e => match e with | .inl x => k (.inl ((), ())) | .inr (.inl x) => k (.inr (.inl ((), ()))) | .inr (.inr (.inl x)) => k (.inr (.inr (.inl ((), ())))) | .inr (.inr (.inr x)) => k (.inr (.inr (.inr (.inl ((), ()))))) }
theorem check_l1_eq (N n_ : Nat) (u : List QK) (u2 : Int) (u3 : Int) (b : Int) (b2 : Int) (b3 : Int) (b4 : Int) (b5 : List QK) : ev (Z := (Unit) ⊕ ((Unit) ⊕ ((Unit) ⊕ (Unit)))) Try.prog (check_sp N) check_B [check_l2_L N] [check_l1_h (check_l1 N n_), check_l1_e0, check_l1_e1, check_l1_e2, check_l1_e3] none 400 true check_l1_at (stL check_l1_st (((), u, u2, u3, ()), ((b, b2, b3, b4, b5, ()), ()))) (stH check_l1_st (((), u, u2, u3, ()), ((b, b2, b3, b4, b5, ()), ()))) = check_l1 N (n_ + 1) u u2 u3 b b2 b3 b4 b5 := by kernel_rfl
theorem check_l1_ok (N : Nat) {top : Bool} : LoopOK Try.prog check_B.c check_B.n check_B.m0 top (check_l1_L N) := loop_of_ev (Z := (Unit) ⊕ ((Unit) ⊕ ((Unit) ⊕ (Unit)))) (N := N) (fun m p => check_l1 N m p.1.2.1 p.1.2.2.1 p.1.2.2.2.1 p.2.1.1 p.2.1.2.1 p.2.1.2.2.1 p.2.1.2.2.2.1 p.2.1.2.2.2.2.1) (fun e => match e with | .inl x => .inl ((), ()) | .inr (.inl x) => .inr (.inl ((), ())) | .inr (.inr (.inl x)) => .inr (.inr (.inl ((), ()))) | .inr (.inr (.inr x)) => .inr (.inr (.inr (.inl ((), ()))))) (fun _ p k => bind_congr_ (check_l1 N N p.1.2.1 p.1.2.2.1 p.1.2.2.2.1 p.2.1.1 p.2.1.2.1 p.2.1.2.2.1 p.2.1.2.2.2.1 p.2.1.2.2.2.2.1) _ _ (fun e => by rcases e with x | x | x | x <;> rfl)) (fun _ => rfl) (fun m z E Xc hE hX hrec hx => leaf_of_ev (B := check_B) (loops := [check_l2_L N]) (leaves := [check_l1_h (check_l1 N m), check_l1_e0, check_l1_e1, check_l1_e2, check_l1_e3]) (check_all N) mixed ⟨check_l2_ok N, trivial⟩ hE hX ⟨hrec, (fun p hp => by obtain rfl := Option.some.inj hp; exact hx), (fun p hp => by obtain rfl := Option.some.inj hp; exact hx), (fun p hp => by obtain rfl := Option.some.inj hp; exact hx), (fun p hp => by obtain rfl := Option.some.inj hp; exact hx), trivial⟩ RetOK.no (fun p => check_l1_eq N m p.1.2.1 p.1.2.2.1 p.1.2.2.2.1 p.2.1.1 p.2.1.2.1 p.2.1.2.2.1 p.2.1.2.2.2.1 p.2.1.2.2.2.2.1))
abbrev check_st : Sta := ⟨[0], ⟨[.agg [.i .i64, .i .i64, .i .i64, .i .i64, .sl Qk]], []⟩⟩
theorem check_eq (N : Nat) (b : Int) (b2 : Int) (b3 : Int) (b4 : Int) (b5 : List QK) : ev (Z := Int) Try.prog (check_sp N) check_B [check_l2_L N, check_l1_L N] [] (some check_rt) 400 false [.c [0], .c [1]] (stL check_st (((b, b2, b3, b4, b5, ()), ()), ())) (stH check_st (((b, b2, b3, b4, b5, ()), ()), ())) = check_S N b b2 b3 b4 b5 := by kernel_rfl
noncomputable def sp_check (N : Nat) : Spec := { f := 77, ins := ⟨[.agg [.i .i64, .i .i64, .i .i64, .i .i64, .sl Qk]], []⟩, outs := [⟨[.i .i64], []⟩], run := fun p k => (check_S N p.1.1.1 p.1.1.2.1 p.1.1.2.2.1 p.1.1.2.2.2.1 p.1.1.2.2.2.2.1).bind fun r => k ((r, ()), ()) }
theorem sp_check_ok (N : Nat) : SpecOK Try.prog (sp_check N) := fn_sound (B := check_B) (loops := [check_l2_L N, check_l1_L N]) (leaves := []) (fun p => check_S N p.1.1.1 p.1.1.2.1 p.1.1.2.2.1 p.1.1.2.2.2.1 p.1.1.2.2.2.2.1) (fun r => ((r, ()), ())) check_rt (fun _ _ _ => rfl) (fun r z h => by cases h; rfl) Try.func77 (by kernel_rfl) (by kernel_rfl) (by kernel_rfl) rfl rfl (by kernel_rfl) (fun args w => Sem.pv_run _ _ _ (by kernel_rfl) w) (check_all N) mixed ⟨check_l2_ok N, check_l1_ok N, trivial⟩ (fun z E Xc hE hX hret => trivial) (fun p => check_eq N p.1.1.1 p.1.1.2.1 p.1.1.2.2.1 p.1.1.2.2.2.1 p.1.1.2.2.2.2.1)

def opened_l1 (N : Nat) : Nat → Qj → Int → Int → Int → Int → Int → Int → Qj → Int → Int → Int → Int → Qj → Qe → Option (Int × Int × Int × Int × Qj × List Int)
  | 0, _, _, _, _, _, _, _, _, _, _, _, _, _, _ => none
  | n_ + 1, u, u2, u3, b, b2, b3, b4, b5, d, d2, d3, d4, d5, d6 =>
    br (decide (u3 < u2))
      (idx u u3 fun x_2 =>
      chk (x_2.1 * b2) <|
      chk (b3 + (x_2.1 * b2)) <|
      chk (x_2.2.1 * (b3 + (x_2.1 * b2))) <|
      lim (d6.length + [(x_2.2.1 * (b3 + (x_2.1 * b2)))].length) <|
      chk (u3 + 1) <|
      opened_l1 N n_ u u2 (u3 + 1) b b2 b3 b4 b5 d d2 d3 d4 d5 (d6 ++ [(x_2.2.1 * (b3 + (x_2.1 * b2)))]))
      (some ((d, d2, d3, d4, d5, d6)))
def opened_S (N : Nat) (b : Int) (b2 : Int) (b3 : Int) (b4 : Int) (b5 : List QK) : Option ((Qa × Int) ⊕ (Int)) :=
  (check_S N b b2 b3 b4 b5).bind fun x_1 =>
  br (!decide (x_1 = 0))
    (some (.inr x_1))
    ((opened_l1 N N b5 (b5.length : Int) 0 b b2 b3 b4 b5 b b2 b3 b4 b5 []).bind fun (d_3, d2_4, d3_5, d4_6, d5_7, d6_8) =>
    some (.inl ((d_3, d2_4, d3_5, d4_6, d5_7, d6_8), 0)))
noncomputable def opened_sp (N : Nat) : List Spec := [sp_check N]
theorem opened_all (N : Nat) : AllP (SpecOK Try.prog) (opened_sp N) := ⟨sp_check_ok N, trivial⟩
noncomputable def opened_c : Code := (Try.f46.body).getD .skip
noncomputable abbrev opened_B : Body := { c := opened_c, n := 45, res := [.tmp 2, .tmp 3], outs := [⟨[.fe Qc, .i .i64], []⟩, ⟨[.nilp, .i .i64], []⟩], m0 := 0 }
abbrev opened_rt : altD opened_B.outs → Option ((Qa × Int) ⊕ (Int)) := fun r => match r with | .inl r => some (.inl (r.1.1, r.1.2.1)) | .inr r => some (.inr r.1.2.1)
abbrev opened_l1_at : List PI := [.c [1, 1, 1, 0, 1, 0, 0, 0], .c [1, 1, 1, 0, 1, 0, 0, 1], .l [1, 1, 1, 0, 1, 0, 0], .b 0, .c [1, 1, 1, 1]]
abbrev opened_l1_st : Sta := ⟨[1, 5, 17, 18, 19], ⟨[.own 0 0, .own 1 0, .sl Qk, .i .i64, .i .i64], [.segs [.i .i64, .i .i64, .i .i64, .i .i64, .sl Qk], .segs [.i .i64, .i .i64, .i .i64, .i .i64, .sl Qk, .ols 2], .lst (.int .i64)]⟩⟩
abbrev opened_l1_h (rec : Qj → Int → Int → Int → Int → Int → Int → Qj → Int → Int → Int → Int → Qj → Qe → Option (Int × Int × Int × Int × Qj × List Int)) : Leaf (Int × Int × Int × Int × Qj × List Int) := ⟨opened_l1_at, opened_l1_st, fun p => rec p.1.2.2.1 p.1.2.2.2.1 p.1.2.2.2.2.1 p.2.1.1 p.2.1.2.1 p.2.1.2.2.1 p.2.1.2.2.2.1 p.2.1.2.2.2.2.1 p.2.2.1.1 p.2.2.1.2.1 p.2.2.1.2.2.1 p.2.2.1.2.2.2.1 p.2.2.1.2.2.2.2.1 p.2.2.2.1⟩
abbrev opened_l1_e0 : Leaf (Int × Int × Int × Int × Qj × List Int) := ⟨[.c [1, 1, 1, 1, 0], .c [1, 1, 1, 1, 1]], ⟨[5], ⟨[.own 0 0], [.segs [.i .i64, .i .i64, .i .i64, .i .i64, .sl Qk, .ols 1], .lst (.int .i64)]⟩⟩, fun p => some ((p.2.1.1, p.2.1.2.1, p.2.1.2.2.1, p.2.1.2.2.2.1, p.2.1.2.2.2.2.1, p.2.2.1))⟩
noncomputable def opened_l1_L (N : Nat) : LoopS := { at_ := opened_l1_at, sta := opened_l1_st, exits := [([.c [1, 1, 1, 1, 0], .c [1, 1, 1, 1, 1]], ⟨[5], ⟨[.own 0 0], [.segs [.i .i64, .i .i64, .i .i64, .i .i64, .sl Qk, .ols 1], .lst (.int .i64)]⟩⟩)], run := fun p k => (opened_l1 N N p.1.2.2.1 p.1.2.2.2.1 p.1.2.2.2.2.1 p.2.1.1 p.2.1.2.1 p.2.1.2.2.1 p.2.1.2.2.2.1 p.2.1.2.2.2.2.1 p.2.2.1.1 p.2.2.1.2.1 p.2.2.1.2.2.1 p.2.2.1.2.2.2.1 p.2.2.1.2.2.2.2.1 p.2.2.2.1).bind fun e => k (.inl (((), ()), ((e.1, e.2.1, e.2.2.1, e.2.2.2.1, e.2.2.2.2.1, (), ()), e.2.2.2.2.2, ()))) }
theorem opened_l1_eq (N n_ : Nat) (u : List QK) (u2 : Int) (u3 : Int) (b : Int) (b2 : Int) (b3 : Int) (b4 : Int) (b5 : List QK) (d : Int) (d2 : Int) (d3 : Int) (d4 : Int) (d5 : List QK) (d6 : List Int) : ev (Z := Int × Int × Int × Int × Qj × List Int) Try.prog (opened_sp N) opened_B [] [opened_l1_h (opened_l1 N n_), opened_l1_e0] none 400 true opened_l1_at (stL opened_l1_st (((), (), u, u2, u3, ()), ((b, b2, b3, b4, b5, ()), (d, d2, d3, d4, d5, (), ()), d6, ()))) (stH opened_l1_st (((), (), u, u2, u3, ()), ((b, b2, b3, b4, b5, ()), (d, d2, d3, d4, d5, (), ()), d6, ()))) = opened_l1 N (n_ + 1) u u2 u3 b b2 b3 b4 b5 d d2 d3 d4 d5 d6 := by kernel_rfl
theorem opened_l1_ok (N : Nat) {top : Bool} : LoopOK Try.prog opened_B.c opened_B.n opened_B.m0 top (opened_l1_L N) := loop_of_ev (Z := Int × Int × Int × Int × Qj × List Int) (N := N) (fun m p => opened_l1 N m p.1.2.2.1 p.1.2.2.2.1 p.1.2.2.2.2.1 p.2.1.1 p.2.1.2.1 p.2.1.2.2.1 p.2.1.2.2.2.1 p.2.1.2.2.2.2.1 p.2.2.1.1 p.2.2.1.2.1 p.2.2.1.2.2.1 p.2.2.1.2.2.2.1 p.2.2.1.2.2.2.2.1 p.2.2.2.1) (fun e => .inl (((), ()), ((e.1, e.2.1, e.2.2.1, e.2.2.2.1, e.2.2.2.2.1, (), ()), e.2.2.2.2.2, ()))) (fun _ _ _ => rfl) (fun _ => rfl) (fun m z E Xc hE hX hrec hx => leaf_of_ev (B := opened_B) (loops := []) (leaves := [opened_l1_h (opened_l1 N m), opened_l1_e0]) (opened_all N) mixed trivial hE hX ⟨hrec, (fun p hp => by obtain rfl := Option.some.inj hp; exact hx), trivial⟩ RetOK.no (fun p => opened_l1_eq N m p.1.2.2.1 p.1.2.2.2.1 p.1.2.2.2.2.1 p.2.1.1 p.2.1.2.1 p.2.1.2.2.1 p.2.1.2.2.2.1 p.2.1.2.2.2.2.1 p.2.2.1.1 p.2.2.1.2.1 p.2.2.1.2.2.1 p.2.2.1.2.2.2.1 p.2.2.1.2.2.2.2.1 p.2.2.2.1))
abbrev opened_st : Sta := ⟨[0], ⟨[.agg [.i .i64, .i .i64, .i .i64, .i .i64, .sl Qk]], []⟩⟩
theorem opened_eq (N : Nat) (b : Int) (b2 : Int) (b3 : Int) (b4 : Int) (b5 : List QK) : ev (Z := (Qa × Int) ⊕ (Int)) Try.prog (opened_sp N) opened_B [opened_l1_L N] [] (some opened_rt) 400 false [.c [0], .c [1]] (stL opened_st (((b, b2, b3, b4, b5, ()), ()), ())) (stH opened_st (((b, b2, b3, b4, b5, ()), ()), ())) = opened_S N b b2 b3 b4 b5 := by kernel_rfl
noncomputable def sp_opened (N : Nat) : Spec := { f := 46, ins := ⟨[.agg [.i .i64, .i .i64, .i .i64, .i .i64, .sl Qk]], []⟩, outs := [⟨[.fe Qc, .i .i64], []⟩, ⟨[.nilp, .i .i64], []⟩], run := fun p k => (opened_S N p.1.1.1 p.1.1.2.1 p.1.1.2.2.1 p.1.1.2.2.2.1 p.1.1.2.2.2.2.1).bind fun r => match r with | .inl r => k (.inl ((r.1, r.2, ()), ())) | .inr r => k (.inr (((), r, ()), ())) }
theorem sp_opened_ok (N : Nat) : SpecOK Try.prog (sp_opened N) := fn_sound (B := opened_B) (loops := [opened_l1_L N]) (leaves := []) (fun p => opened_S N p.1.1.1 p.1.1.2.1 p.1.1.2.2.1 p.1.1.2.2.2.1 p.1.1.2.2.2.2.1) (fun r => match r with | .inl r => (.inl ((r.1, r.2, ()), ())) | .inr r => (.inr (((), r, ()), ()))) opened_rt (fun _ p k => bind_congr_ (opened_S N p.1.1.1 p.1.1.2.1 p.1.1.2.2.1 p.1.1.2.2.2.1 p.1.1.2.2.2.2.1) _ _ (fun e => by rcases e with x | x <;> rfl)) (fun r z h => by rcases r with x | x <;> (cases h; rfl)) Try.func46 (by kernel_rfl) (by kernel_rfl) (by kernel_rfl) rfl rfl (by kernel_rfl) (fun args w => Sem.pv_run _ _ _ (by kernel_rfl) w) (opened_all N) mixed ⟨opened_l1_ok N, trivial⟩ (fun z E Xc hE hX hret => trivial) (fun p => opened_eq N p.1.1.1 p.1.1.2.1 p.1.1.2.2.1 p.1.1.2.2.2.1 p.1.1.2.2.2.2.1)

def max__l1 (N : Nat) : Nat → Qe → Int → Int → Option Int
  | 0, _, _, _ => none
  | n_ + 1, x, m, i =>
    br (decide (i < (x.length : Int)))
      (idx x i fun x_2 =>
      chk (i + 1) <|
      max__l1 N n_ x (max m x_2) (i + 1))
      (some (m))
def max__j1 (N : Nat) (x : List Int) : Option Int :=
  idx x 0 fun x_1 =>
  (max__l1 N N x x_1 1).bind fun m_3 =>
  some m_3
def max__S (N : Nat) (x : List Int) : Option Int :=
  br (decide ((x.length : Int) < 1))
    (none)
    (max__j1 N x)
noncomputable def max__sp (N : Nat) : List Spec := []
theorem max__all (N : Nat) : AllP (SpecOK Try.prog) (max__sp N) := trivial
noncomputable def max__c : Code := (Try.f82.body).getD .skip
noncomputable abbrev max__B : Body := { c := max__c, n := 25, res := [.tmp 2], outs := [⟨[.i .i64], []⟩], m0 := 0 }
abbrev max__rt : altD max__B.outs → Option Int := fun r => some r.1.1
abbrev max__l1_at : List PI := [.c [1, 1, 1, 0, 1, 0, 0, 0, 0], .c [1, 1, 1, 0, 1, 0, 0, 0, 1], .c [1, 1, 1, 0, 1, 0, 0, 1], .l [1, 1, 1, 0, 1, 0, 0], .b 0, .c [1, 1, 1, 1]]
abbrev max__l1_st : Sta := ⟨[0, 3, 4], ⟨[.sl (.int .i64), .i .i64, .i .i64], []⟩⟩
abbrev max__l1_h (rec : Qe → Int → Int → Option Int) : Leaf Int := ⟨max__l1_at, max__l1_st, fun p => rec p.1.1 p.1.2.1 p.1.2.2.1⟩
abbrev max__l1_e0 : Leaf Int := ⟨[.c [1, 1, 1, 1, 0], .c [1, 1, 1, 1, 1]], ⟨[3], ⟨[.i .i64], []⟩⟩, fun p => some (p.1.1)⟩
noncomputable def max__l1_L (N : Nat) : LoopS := { at_ := max__l1_at, sta := max__l1_st, exits := [([.c [1, 1, 1, 1, 0], .c [1, 1, 1, 1, 1]], ⟨[3], ⟨[.i .i64], []⟩⟩)], run := fun p k => (max__l1 N N p.1.1 p.1.2.1 p.1.2.2.1).bind fun e => k (.inl ((e, ()), ())) }
theorem max__l1_eq (N n_ : Nat) (x : List Int) (m : Int) (i : Int) : ev (Z := Int) Try.prog (max__sp N) max__B [] [max__l1_h (max__l1 N n_), max__l1_e0] none 400 true max__l1_at (stL max__l1_st ((x, m, i, ()), ())) (stH max__l1_st ((x, m, i, ()), ())) = max__l1 N (n_ + 1) x m i := by kernel_rfl
theorem max__l1_ok (N : Nat) {top : Bool} : LoopOK Try.prog max__B.c max__B.n max__B.m0 top (max__l1_L N) := loop_of_ev (Z := Int) (N := N) (fun m p => max__l1 N m p.1.1 p.1.2.1 p.1.2.2.1) (fun e => .inl ((e, ()), ())) (fun _ _ _ => rfl) (fun _ => rfl) (fun m z E Xc hE hX hrec hx => leaf_of_ev (B := max__B) (loops := []) (leaves := [max__l1_h (max__l1 N m), max__l1_e0]) (max__all N) mixed trivial hE hX ⟨hrec, (fun p hp => by obtain rfl := Option.some.inj hp; exact hx), trivial⟩ RetOK.no (fun p => max__l1_eq N m p.1.1 p.1.2.1 p.1.2.2.1))
abbrev max__j1_at : List PI := [.c [1, 1, 0], .c [1, 1, 1]]
abbrev max__j1_st : Sta := ⟨[0], ⟨[.sl (.int .i64)], []⟩⟩
abbrev max__j1_k (N : Nat) : Leaf Int := ⟨max__j1_at, max__j1_st, fun p => max__j1 N p.1.1⟩
theorem max__j1_eq (N : Nat) (x : List Int) : ev (Z := Int) Try.prog (max__sp N) max__B [max__l1_L N] [] (some max__rt) 400 true max__j1_at (stL max__j1_st ((x, ()), ())) (stH max__j1_st ((x, ()), ())) = max__j1 N x := by kernel_rfl
theorem max__j1_lf (N : Nat) {z : Int} {E : EE} {Xc : Ctx} (hE : EOK max__B.m0 E) (hX : CxOK true Xc) (hret : RetOK Try.prog max__B E Xc z (some max__rt)) : LeafOK Try.prog max__B.c max__B.n max__B.m0 E Xc z (max__j1_k N) := leaf_of_ev (B := max__B) (loops := [max__l1_L N]) (leaves := []) (max__all N) mixed ⟨max__l1_ok N, trivial⟩ hE hX trivial hret (fun p => max__j1_eq N p.1.1)
abbrev max__st : Sta := ⟨[0], ⟨[.sl (.int .i64)], []⟩⟩
theorem max__eq (N : Nat) (x : List Int) : ev (Z := Int) Try.prog (max__sp N) max__B [max__l1_L N] [max__j1_k N] (some max__rt) 400 false [.c [0], .c [1]] (stL max__st ((x, ()), ())) (stH max__st ((x, ()), ())) = max__S N x := by kernel_rfl
noncomputable def sp_max_ (N : Nat) : Spec := { f := 82, ins := ⟨[.sl (.int .i64)], []⟩, outs := [⟨[.i .i64], []⟩], run := fun p k => (max__S N p.1.1).bind fun r => k ((r, ()), ()) }
theorem sp_max__ok (N : Nat) : SpecOK Try.prog (sp_max_ N) := fn_sound (B := max__B) (loops := [max__l1_L N]) (leaves := [max__j1_k N]) (fun p => max__S N p.1.1) (fun r => ((r, ()), ())) max__rt (fun _ _ _ => rfl) (fun r z h => by cases h; rfl) Try.func82 (by kernel_rfl) (by kernel_rfl) (by kernel_rfl) rfl rfl (by kernel_rfl) (fun args w => Sem.pv_run _ _ _ (by kernel_rfl) w) (max__all N) mixed ⟨max__l1_ok N, trivial⟩ (fun z E Xc hE hX hret => ⟨max__j1_lf N hE hX hret, trivial⟩) (fun p => max__eq N p.1.1)

def most_S (N : Nat) (d : Qa) (f : List Int) : Option Int :=
  grd (decide ((0 : Int) ≤ d.1 ∧ d.1 ≤ (4 : Int))) <|
  (max__S N (f.take d.1.toNat)).bind fun x_1 =>
  some x_1
noncomputable def most_sp (N : Nat) : List Spec := [sp_max_ N]
theorem most_all (N : Nat) : AllP (SpecOK Try.prog) (most_sp N) := ⟨sp_max__ok N, trivial⟩
noncomputable def most_c : Code := (Try.f48.body).getD .skip
noncomputable abbrev most_B : Body := { c := most_c, n := 12, res := [.tmp 4], outs := [⟨[.i .i64], []⟩], m0 := 0 }
abbrev most_rt : altD most_B.outs → Option Int := fun r => some r.1.1
abbrev most_st : Sta := ⟨[0, 1], ⟨[.fe Qc, .arr (.int .i64) 4], []⟩⟩
theorem most_eq (N : Nat) (d : Qa) (f : List Int) : ev (Z := Int) Try.prog (most_sp N) most_B [] [] (some most_rt) 400 false [.c [0], .c [1]] (stL most_st ((d, f, ()), ())) (stH most_st ((d, f, ()), ())) = most_S N d f := by kernel_rfl
noncomputable def sp_most (N : Nat) : Spec := { f := 48, ins := ⟨[.fe Qc, .arr (.int .i64) 4], []⟩, outs := [⟨[.i .i64], []⟩], run := fun p k => (most_S N p.1.1 p.1.2.1).bind fun r => k ((r, ()), ()) }
theorem sp_most_ok (N : Nat) : SpecOK Try.prog (sp_most N) := fn_sound (B := most_B) (loops := []) (leaves := []) (fun p => most_S N p.1.1 p.1.2.1) (fun r => ((r, ()), ())) most_rt (fun _ _ _ => rfl) (fun r z h => by cases h; rfl) Try.func48 (by kernel_rfl) (by kernel_rfl) (by kernel_rfl) rfl rfl (by kernel_rfl) (fun args w => Sem.pv_run _ _ _ (by kernel_rfl) w) (most_all N) mixed trivial (fun z E Xc hE hX hret => trivial) (fun p => most_eq N p.1.1 p.1.2.1)

def given_S (N : Nat) (d : Qa) (s : Int) (s2 : List Int) (crier : Int) : Option (Int × List Int) :=
  rng crier 4 <|
  get s2 crier.toNat fun x_1 =>
  idx d.2.2.2.2.2 s fun x_2 =>
  chk (x_1 + x_2) <|
  rng crier 4 <|
  get s2 crier.toNat fun _ =>
  chk (s + 1) <|
  some ((s + 1), (s2.set crier.toNat (x_1 + x_2)))
noncomputable def given_sp (N : Nat) : List Spec := []
theorem given_all (N : Nat) : AllP (SpecOK Try.prog) (given_sp N) := trivial
noncomputable def given_c : Code := (Try.f79.body).getD .skip
noncomputable abbrev given_B : Body := { c := given_c, n := 27, res := [.cell 6 159], outs := [⟨[.agg [.i .i64, .arr (.int .i64) 4]], []⟩], m0 := 0 }
abbrev given_rt : altD given_B.outs → Option (Int × List Int) := fun r => some (r.1.1.1, r.1.1.2.1)
abbrev given_st : Sta := ⟨[0, 1, 2], ⟨[.fe Qc, .agg [.i .i64, .arr (.int .i64) 4], .i .i64], []⟩⟩
theorem given_eq (N : Nat) (d : Qa) (s : Int) (s2 : List Int) (crier : Int) : ev (Z := Int × List Int) Try.prog (given_sp N) given_B [] [] (some given_rt) 400 false [.c [0], .c [1]] (stL given_st ((d, (s, s2, ()), crier, ()), ())) (stH given_st ((d, (s, s2, ()), crier, ()), ())) = given_S N d s s2 crier := by kernel_rfl
noncomputable def sp_given (N : Nat) : Spec := { f := 79, ins := ⟨[.fe Qc, .agg [.i .i64, .arr (.int .i64) 4], .i .i64], []⟩, outs := [⟨[.agg [.i .i64, .arr (.int .i64) 4]], []⟩], run := fun p k => (given_S N p.1.1 p.1.2.1.1 p.1.2.1.2.1 p.1.2.2.1).bind fun r => k (((r.1, r.2, ()), ()), ()) }
theorem sp_given_ok (N : Nat) : SpecOK Try.prog (sp_given N) := fn_sound (B := given_B) (loops := []) (leaves := []) (fun p => given_S N p.1.1 p.1.2.1.1 p.1.2.1.2.1 p.1.2.2.1) (fun r => (((r.1, r.2, ()), ()), ())) given_rt (fun _ _ _ => rfl) (fun r z h => by cases h; rfl) Try.func79 (by kernel_rfl) (by kernel_rfl) (by kernel_rfl) rfl rfl (by kernel_rfl) (fun args w => Sem.pv_run _ _ _ (by kernel_rfl) w) (given_all N) mixed trivial (fun z E Xc hE hX hret => trivial) (fun p => given_eq N p.1.1 p.1.2.1.1 p.1.2.1.2.1 p.1.2.2.1)

noncomputable abbrev rest_self (self : Int → Qe → (Qa) → (Qa) → (Qa) → (Qa) → Qx → Option QE) : Spec := { f := 78, ins := ⟨[.agg [.i .i64, .arr (.int .i64) 4], .fz [.fe Qc], .fz [.fn 48 [.fe Qc] []], .fz [.mp 1], .own 0 0], [.segs [.fn 78 [] [.fz [.fe Qc], .fz [.fn 48 [.fe Qc] []], .fz [.mp 1], .own 0 0]], .map Qp (.int .i64)]⟩, outs := [⟨[.i .i64], [.segs [.fn 78 [] [.fz [.fe Qc], .fz [.fn 48 [.fe Qc] []], .fz [.mp 1], .own 0 0]], .map Qp (.int .i64)]⟩], run := fun p k => (self p.1.1.1 p.1.1.2.1 p.1.2.1.1 p.1.2.2.1.1.1.1 p.2.1.1.2.1.1 p.2.1.1.2.2.1.1.1.1 p.2.2.1).bind fun r => k ((r.1, ()), ((((), ((r.2.1, ()), (((r.2.2.1, ()), ()), ()), ((), ()), (), ())), ()), r.2.2.2, ())) }
def rest_j1 (N : Nat) (self : Int → Qe → (Qa) → (Qa) → (Qa) → (Qa) → Qx → Option QE) (rec : (Qa) → Int → Qe → Int → Int → (Qa) → (Qa) → Qx → Int → Qe → Option QB) (u : Qa) (best : Int) (u2 : List Int) (u3 : Int) (u4 : Int) (g : Qa) (g2 : Qa) (g3 : List Qg) (s : Int) (s2 : List Int) : Option QB :=
  chk (u4 + 1) <|
  rec u best u2 u3 (u4 + 1) g g2 g3 s s2
def rest_l1 (N : Nat) (self : Int → Qe → (Qa) → (Qa) → (Qa) → (Qa) → Qx → Option QE) : Nat → (Qa) → Int → Qe → Int → Int → (Qa) → (Qa) → Qx → Int → Qe → Option QB
  | 0, _, _, _, _, _, _, _, _, _, _ => none
  | n_ + 1, u, best, u2, u3, u4, g, g2, g3, s, s2 =>
    br (decide (u4 < u3))
      (idx u2 u4 fun x_3 =>
      (given_S N u s s2 x_3).bind fun (x_4, y_5) =>
      (self x_4 y_5 g g2 g g2 g3).bind fun (x_6, y_7, y_8, y_9) =>
      br (decide (best < 0))
        (rest_j1 N self (rest_l1 N self n_) u x_6 u2 u3 u4 y_7 y_8 y_9 s s2)
        (br (decide (x_6 < best))
          (rest_j1 N self (rest_l1 N self n_) u x_6 u2 u3 u4 y_7 y_8 y_9 s s2)
          (rest_j1 N self (rest_l1 N self n_) u best u2 u3 u4 y_7 y_8 y_9 s s2)))
      (some ((best, g, g2, g3, s, s2)))
def rest_S (N : Nat) (self : Int → Qe → (Qa) → (Qa) → (Qa) → (Qa) → Qx → Option QE) (s : Int) (s2 : List Int) (u : Qa) (u2 : Qa) (g : Qa) (g2 : Qa) (g3 : List Qg) : Option QE :=
  br (decide (s = (u.2.2.2.2.1.length : Int)))
    ((most_S N u2 s2).bind fun x_1 =>
    some (x_1, g, g2, g3))
    (br ((g3.find? fun (y : (Int × (Int × Qu)) × Int) => Ty.beq Qp y.1 (s, s2.getD 0 (0 : Int), s2.getD 1 (0 : Int), s2.getD 2 (0 : Int), s2.getD 3 (0 : Int))).isSome)
      (some ((((g3.find? fun (y : (Int × (Int × Qu)) × Int) => Ty.beq Qp y.1 (s, s2.getD 0 (0 : Int), s2.getD 1 (0 : Int), s2.getD 2 (0 : Int), s2.getD 3 (0 : Int))).map (·.2)).getD (Ty.dflt (.int .i64))), g, g2, g3))
      (idx u.2.2.2.2.1 s fun x_2 =>
      (rest_l1 N self N u (-1) x_2.2.2 (x_2.2.2.length : Int) 0 g g2 g3 s s2).bind fun (best_10, g_11, g2_12, g3_13, s_14, s2_15) =>
      some (best_10, g_11, g2_12, (((s_14, s2_15.getD 0 (0 : Int), s2_15.getD 1 (0 : Int), s2_15.getD 2 (0 : Int), s2_15.getD 3 (0 : Int)), best_10) :: g3_13))))
noncomputable def rest_sp (N : Nat) (self : Int → Qe → (Qa) → (Qa) → (Qa) → (Qa) → Qx → Option QE) : List Spec := [sp_most N, sp_given N, rest_self self]
theorem rest_all (N : Nat) (self : Int → Qe → (Qa) → (Qa) → (Qa) → (Qa) → Qx → Option QE) (hself : SpecOK Try.prog (rest_self self)) : AllP (SpecOK Try.prog) (rest_sp N self) := ⟨sp_most_ok N, sp_given_ok N, hself, trivial⟩
noncomputable def rest_c : Code := (Try.f78.body).getD .skip
noncomputable abbrev rest_B : Body := { c := rest_c, n := 69, res := [.tmp 6], outs := [⟨[.i .i64], [.segs [.fn 78 [] [.fz [.fe Qc], .fz [.fn 48 [.fe Qc] []], .fz [.mp 1], .own 0 0]], .map Qp (.int .i64)]⟩], m0 := 2 }
abbrev rest_rt : altD rest_B.outs → Option QE := fun r => some (r.1.1, r.2.1.1.2.1.1, r.2.1.1.2.2.1.1.1.1, r.2.2.1)
abbrev rest_l1_at : List PI := [.c [1, 1, 1, 1, 0, 1, 0, 0, 0], .c [1, 1, 1, 1, 0, 1, 0, 0, 1], .l [1, 1, 1, 1, 0, 1, 0, 0], .b 0, .c [1, 1, 1, 1, 1]]
abbrev rest_l1_st : Sta := ⟨[1, 3, 4, 5, 9, 44, 45, 46], ⟨[.fz [.fe Qc], .fz [.mp 1], .own 0 0, .own 2 0, .i .i64, .sl (.int .i64), .i .i64, .i .i64], [.segs [.fn 78 [] [.fz [.fe Qc], .fz [.fn 48 [.fe Qc] []], .fz [.mp 1], .own 0 0]], .map Qp (.int .i64), .segs [.i .i64, .arr (.int .i64) 4]]⟩⟩
abbrev rest_l1_h (rec : (Qa) → Int → Qe → Int → Int → (Qa) → (Qa) → Qx → Int → Qe → Option QB) : Leaf QB := ⟨rest_l1_at, rest_l1_st, fun p => rec p.1.1.1 p.1.2.2.2.2.1 p.1.2.2.2.2.2.1 p.1.2.2.2.2.2.2.1 p.1.2.2.2.2.2.2.2.1 p.2.1.1.2.1.1 p.2.1.1.2.2.1.1.1.1 p.2.2.1 p.2.2.2.1.1 p.2.2.2.1.2.1⟩
abbrev rest_l1_e0 : Leaf QB := ⟨[.c [1, 1, 1, 1, 1, 0], .c [1, 1, 1, 1, 1, 1]], ⟨[3, 5, 9], ⟨[.fz [.mp 1], .own 2 0, .i .i64], [.segs [.fn 78 [] [.fz [.fe Qc], .fz [.fn 48 [.fe Qc] []], .fz [.mp 1], .own 0 0]], .map Qp (.int .i64), .segs [.i .i64, .arr (.int .i64) 4]]⟩⟩, fun p => some ((p.1.2.2.1, p.2.1.1.2.1.1, p.2.1.1.2.2.1.1.1.1, p.2.2.1, p.2.2.2.1.1, p.2.2.2.1.2.1))⟩
abbrev rest_j1_at : List PI := [.c [1, 1, 1, 1, 0, 1, 0, 0, 1, 1, 1], .l [1, 1, 1, 1, 0, 1, 0, 0], .b 0, .c [1, 1, 1, 1, 1]]
abbrev rest_j1_st : Sta := ⟨[1, 3, 4, 5, 9, 44, 45, 46], ⟨[.fz [.fe Qc], .fz [.mp 1], .own 0 0, .own 2 0, .i .i64, .sl (.int .i64), .i .i64, .i .i64], [.segs [.fn 78 [] [.fz [.fe Qc], .fz [.fn 48 [.fe Qc] []], .fz [.mp 1], .own 0 0]], .map Qp (.int .i64), .segs [.i .i64, .arr (.int .i64) 4]]⟩⟩
abbrev rest_j1_k (N : Nat) (self : Int → Qe → (Qa) → (Qa) → (Qa) → (Qa) → Qx → Option QE) (rec : (Qa) → Int → Qe → Int → Int → (Qa) → (Qa) → Qx → Int → Qe → Option QB) : Leaf QB := ⟨rest_j1_at, rest_j1_st, fun p => rest_j1 N self rec p.1.1.1 p.1.2.2.2.2.1 p.1.2.2.2.2.2.1 p.1.2.2.2.2.2.2.1 p.1.2.2.2.2.2.2.2.1 p.2.1.1.2.1.1 p.2.1.1.2.2.1.1.1.1 p.2.2.1 p.2.2.2.1.1 p.2.2.2.1.2.1⟩
theorem rest_j1_eq (N : Nat) (self : Int → Qe → (Qa) → (Qa) → (Qa) → (Qa) → Qx → Option QE) (rec : (Qa) → Int → Qe → Int → Int → (Qa) → (Qa) → Qx → Int → Qe → Option QB) (u : Qa) (best : Int) (u2 : List Int) (u3 : Int) (u4 : Int) (g : Qa) (g2 : Qa) (g3 : List Qg) (s : Int) (s2 : List Int) : ev (Z := Int × Qa × Qa × Qx × Int × List Int) Try.prog (rest_sp N self) rest_B [] [rest_l1_h rec, rest_l1_e0] none 400 true rest_j1_at (stL rest_j1_st (((u, ()), ((), ()), (), (), best, u2, u3, u4, ()), ((((), ((g, ()), (((g2, ()), ()), ()), ((), ()), (), ())), ()), g3, (s, s2, ()), ()))) (stH rest_j1_st (((u, ()), ((), ()), (), (), best, u2, u3, u4, ()), ((((), ((g, ()), (((g2, ()), ()), ()), ((), ()), (), ())), ()), g3, (s, s2, ()), ()))) = rest_j1 N self rec u best u2 u3 u4 g g2 g3 s s2 := by kernel_rfl
theorem rest_j1_lf (N : Nat) (self : Int → Qe → (Qa) → (Qa) → (Qa) → (Qa) → Qx → Option QE) (hself : SpecOK Try.prog (rest_self self)) (rec : (Qa) → Int → Qe → Int → Int → (Qa) → (Qa) → Qx → Int → Qe → Option QB) {z : Int × Qa × Qa × Qx × Int × List Int} {top : Bool} {E : EE} {Xc : Ctx} (hE : EOK rest_B.m0 E) (hX : CxOK top Xc) (hrec : LeafOK Try.prog rest_B.c rest_B.n rest_B.m0 E Xc z (rest_l1_h rec)) (h0 : LeafOK Try.prog rest_B.c rest_B.n rest_B.m0 E Xc z rest_l1_e0) : LeafOK Try.prog rest_B.c rest_B.n rest_B.m0 E Xc z (rest_j1_k N self rec) := leaf_of_ev (B := rest_B) (loops := []) (leaves := [rest_l1_h rec, rest_l1_e0]) (rest_all N self hself) mixed trivial hE hX ⟨hrec, h0, trivial⟩ RetOK.no (fun p => rest_j1_eq N self rec p.1.1.1 p.1.2.2.2.2.1 p.1.2.2.2.2.2.1 p.1.2.2.2.2.2.2.1 p.1.2.2.2.2.2.2.2.1 p.2.1.1.2.1.1 p.2.1.1.2.2.1.1.1.1 p.2.2.1 p.2.2.2.1.1 p.2.2.2.1.2.1)
noncomputable def rest_l1_L (N : Nat) (self : Int → Qe → (Qa) → (Qa) → (Qa) → (Qa) → Qx → Option QE) : LoopS := { at_ := rest_l1_at, sta := rest_l1_st, exits := [([.c [1, 1, 1, 1, 1, 0], .c [1, 1, 1, 1, 1, 1]], ⟨[3, 5, 9], ⟨[.fz [.mp 1], .own 2 0, .i .i64], [.segs [.fn 78 [] [.fz [.fe Qc], .fz [.fn 48 [.fe Qc] []], .fz [.mp 1], .own 0 0]], .map Qp (.int .i64), .segs [.i .i64, .arr (.int .i64) 4]]⟩⟩)], run := fun p k => (rest_l1 N self N p.1.1.1 p.1.2.2.2.2.1 p.1.2.2.2.2.2.1 p.1.2.2.2.2.2.2.1 p.1.2.2.2.2.2.2.2.1 p.2.1.1.2.1.1 p.2.1.1.2.2.1.1.1.1 p.2.2.1 p.2.2.2.1.1 p.2.2.2.1.2.1).bind fun e => k (.inl ((((), ()), (), e.1, ()), ((((), ((e.2.1, ()), (((e.2.2.1, ()), ()), ()), ((), ()), (), ())), ()), e.2.2.2.1, (e.2.2.2.2.1, e.2.2.2.2.2, ()), ()))) }
theorem rest_l1_eq (N : Nat) (self : Int → Qe → (Qa) → (Qa) → (Qa) → (Qa) → Qx → Option QE) (n_ : Nat) (u : Qa) (best : Int) (u2 : List Int) (u3 : Int) (u4 : Int) (g : Qa) (g2 : Qa) (g3 : List Qg) (s : Int) (s2 : List Int) : ev (Z := Int × Qa × Qa × Qx × Int × List Int) Try.prog (rest_sp N self) rest_B [] [rest_l1_h (rest_l1 N self n_), rest_l1_e0, rest_j1_k N self (rest_l1 N self n_)] none 400 true rest_l1_at (stL rest_l1_st (((u, ()), ((), ()), (), (), best, u2, u3, u4, ()), ((((), ((g, ()), (((g2, ()), ()), ()), ((), ()), (), ())), ()), g3, (s, s2, ()), ()))) (stH rest_l1_st (((u, ()), ((), ()), (), (), best, u2, u3, u4, ()), ((((), ((g, ()), (((g2, ()), ()), ()), ((), ()), (), ())), ()), g3, (s, s2, ()), ()))) = rest_l1 N self (n_ + 1) u best u2 u3 u4 g g2 g3 s s2 := by kernel_rfl
theorem rest_l1_ok (N : Nat) (self : Int → Qe → (Qa) → (Qa) → (Qa) → (Qa) → Qx → Option QE) (hself : SpecOK Try.prog (rest_self self)) {top : Bool} : LoopOK Try.prog rest_B.c rest_B.n rest_B.m0 top (rest_l1_L N self) := loop_of_ev (Z := Int × Qa × Qa × Qx × Int × List Int) (N := N) (fun m p => rest_l1 N self m p.1.1.1 p.1.2.2.2.2.1 p.1.2.2.2.2.2.1 p.1.2.2.2.2.2.2.1 p.1.2.2.2.2.2.2.2.1 p.2.1.1.2.1.1 p.2.1.1.2.2.1.1.1.1 p.2.2.1 p.2.2.2.1.1 p.2.2.2.1.2.1) (fun e => .inl ((((), ()), (), e.1, ()), ((((), ((e.2.1, ()), (((e.2.2.1, ()), ()), ()), ((), ()), (), ())), ()), e.2.2.2.1, (e.2.2.2.2.1, e.2.2.2.2.2, ()), ()))) (fun _ _ _ => rfl) (fun _ => rfl) (fun m z E Xc hE hX hrec hx => leaf_of_ev (B := rest_B) (loops := []) (leaves := [rest_l1_h (rest_l1 N self m), rest_l1_e0, rest_j1_k N self (rest_l1 N self m)]) (rest_all N self hself) mixed trivial hE hX ⟨hrec, (fun p hp => by obtain rfl := Option.some.inj hp; exact hx), rest_j1_lf N self hself _ hE hX hrec (fun p hp => by obtain rfl := Option.some.inj hp; exact hx), trivial⟩ RetOK.no (fun p => rest_l1_eq N self m p.1.1.1 p.1.2.2.2.2.1 p.1.2.2.2.2.2.1 p.1.2.2.2.2.2.2.1 p.1.2.2.2.2.2.2.2.1 p.2.1.1.2.1.1 p.2.1.1.2.2.1.1.1.1 p.2.2.1 p.2.2.2.1.1 p.2.2.2.1.2.1))
abbrev rest_st : Sta := ⟨[0, 1, 2, 3, 4], ⟨[.agg [.i .i64, .arr (.int .i64) 4], .fz [.fe Qc], .fz [.fn 48 [.fe Qc] []], .fz [.mp 1], .own 0 0], [.segs [.fn 78 [] [.fz [.fe Qc], .fz [.fn 48 [.fe Qc] []], .fz [.mp 1], .own 0 0]], .map Qp (.int .i64)]⟩⟩
theorem rest_eq (N : Nat) (self : Int → Qe → (Qa) → (Qa) → (Qa) → (Qa) → Qx → Option QE) (s : Int) (s2 : List Int) (u : Qa) (u2 : Qa) (g : Qa) (g2 : Qa) (g3 : List Qg) : ev (Z := Int × Qa × Qa × Qx) Try.prog (rest_sp N self) rest_B [rest_l1_L N self] [] (some rest_rt) 400 false [.c [0], .c [1]] (stL rest_st (((s, s2, ()), (u, ()), (((u2, ()), ()), ()), ((), ()), (), ()), ((((), ((g, ()), (((g2, ()), ()), ()), ((), ()), (), ())), ()), g3, ()))) (stH rest_st (((s, s2, ()), (u, ()), (((u2, ()), ()), ()), ((), ()), (), ()), ((((), ((g, ()), (((g2, ()), ()), ()), ((), ()), (), ())), ()), g3, ()))) = rest_S N self s s2 u u2 g g2 g3 := by kernel_rfl
theorem rest_self_ok (N : Nat) (self : Int → Qe → (Qa) → (Qa) → (Qa) → (Qa) → Qx → Option QE) (hself : SpecOK Try.prog (rest_self self)) : SpecOK Try.prog (rest_self (rest_S N self)) := fn_sound (B := rest_B) (loops := [rest_l1_L N self]) (leaves := []) (fun p => rest_S N self p.1.1.1 p.1.1.2.1 p.1.2.1.1 p.1.2.2.1.1.1.1 p.2.1.1.2.1.1 p.2.1.1.2.2.1.1.1.1 p.2.2.1) (fun r => ((r.1, ()), ((((), ((r.2.1, ()), (((r.2.2.1, ()), ()), ()), ((), ()), (), ())), ()), r.2.2.2, ()))) rest_rt (fun _ _ _ => rfl) (fun r z h => by cases h; rfl) Try.func78 (by kernel_rfl) (by kernel_rfl) (by kernel_rfl) rfl rfl (by kernel_rfl) (fun args w => Sem.pv_run _ _ _ (by kernel_rfl) w) (rest_all N self hself) mixed ⟨rest_l1_ok N self hself, trivial⟩ (fun z E Xc hE hX hret => trivial) (fun p => rest_eq N self p.1.1.1 p.1.1.2.1 p.1.2.1.1 p.1.2.2.1.1.1.1 p.2.1.1.2.1.1 p.2.1.1.2.2.1.1.1.1 p.2.2.1)
def rest_R (N : Nat) : Nat → Int → Qe → (Qa) → (Qa) → (Qa) → (Qa) → Qx → Option QE
  | 0 => fun _ _ _ _ _ _ _ => none
  | n + 1 => rest_S N (rest_R N n)
theorem rest_R_ok (N : Nat) : ∀ n, SpecOK Try.prog (rest_self (rest_R N n))
  | 0 => SpecOK.none (fun _ _ _ => rfl) (fun args w => Sem.pv_run _ _ _ (by kernel_rfl) w)
  | n + 1 => rest_self_ok N (rest_R N n) (rest_R_ok N n)
noncomputable abbrev sp_rest (N : Nat) : Spec := rest_self (rest_R N N)
theorem sp_rest_ok (N : Nat) : SpecOK Try.prog (sp_rest N) := rest_R_ok N N

def pred_S (N : Nat) (c : Int) (u : Qa) (g : Qa) (g2 : Qa) (g3 : List Qg) (g4 : Int) (g5 : List Int) (g6 : Int) : Option (Bool × Qa × Qa × Qx × Int × List Int × Int) :=
  (given_S N u g4 g5 c).bind fun (x_1, y_2) =>
  (rest_R N N x_1 y_2 g g2 g g2 g3).bind fun (x_3, y_4, y_5, y_6) =>
  some ((decide (x_3 = g6)), y_4, y_5, y_6, g4, g5, g6)
noncomputable def pred_sp (N : Nat) : List Spec := [sp_given N, sp_rest N]
theorem pred_all (N : Nat) : AllP (SpecOK Try.prog) (pred_sp N) := ⟨sp_given_ok N, sp_rest_ok N, trivial⟩
noncomputable def pred_c : Code := (Try.f81.body).getD .skip
noncomputable abbrev pred_B : Body := { c := pred_c, n := 15, res := [.tmp 6], outs := [⟨[.b], [.segs [.fn 78 [] [.fz [.fe Qc], .fz [.fn 48 [.fe Qc] []], .fz [.mp 1], .own 0 0]], .map Qp (.int .i64), .segs [.i .i64, .arr (.int .i64) 4], .segs [.i .i64]]⟩], m0 := 4 }
abbrev pred_rt : altD pred_B.outs → Option (Bool × Qa × Qa × Qx × Int × List Int × Int) := fun r => some (r.1.1, r.2.1.1.2.1.1, r.2.1.1.2.2.1.1.1.1, r.2.2.1, r.2.2.2.1.1, r.2.2.2.1.2.1, r.2.2.2.2.1.1)
abbrev pred_st : Sta := ⟨[0, 1, 2, 3, 4], ⟨[.i .i64, .own 0 0, .fz [.fe Qc], .own 2 0, .own 3 0], [.segs [.fn 78 [] [.fz [.fe Qc], .fz [.fn 48 [.fe Qc] []], .fz [.mp 1], .own 0 0]], .map Qp (.int .i64), .segs [.i .i64, .arr (.int .i64) 4], .segs [.i .i64]]⟩⟩
theorem pred_eq (N : Nat) (c : Int) (u : Qa) (g : Qa) (g2 : Qa) (g3 : List Qg) (g4 : Int) (g5 : List Int) (g6 : Int) : ev (Z := Bool × Qa × Qa × Qx × Int × List Int × Int) Try.prog (pred_sp N) pred_B [] [] (some pred_rt) 400 false [.c [0], .c [1]] (stL pred_st ((c, (), (u, ()), (), (), ()), ((((), ((g, ()), (((g2, ()), ()), ()), ((), ()), (), ())), ()), g3, (g4, g5, ()), (g6, ()), ()))) (stH pred_st ((c, (), (u, ()), (), (), ()), ((((), ((g, ()), (((g2, ()), ()), ()), ((), ()), (), ())), ()), g3, (g4, g5, ()), (g6, ()), ()))) = pred_S N c u g g2 g3 g4 g5 g6 := by kernel_rfl
noncomputable def sp_pred (N : Nat) : Spec := { f := 81, ins := ⟨[.i .i64, .own 0 0, .fz [.fe Qc], .own 2 0, .own 3 0], [.segs [.fn 78 [] [.fz [.fe Qc], .fz [.fn 48 [.fe Qc] []], .fz [.mp 1], .own 0 0]], .map Qp (.int .i64), .segs [.i .i64, .arr (.int .i64) 4], .segs [.i .i64]]⟩, outs := [⟨[.b], [.segs [.fn 78 [] [.fz [.fe Qc], .fz [.fn 48 [.fe Qc] []], .fz [.mp 1], .own 0 0]], .map Qp (.int .i64), .segs [.i .i64, .arr (.int .i64) 4], .segs [.i .i64]]⟩], run := fun p k => (pred_S N p.1.1 p.1.2.2.1.1 p.2.1.1.2.1.1 p.2.1.1.2.2.1.1.1.1 p.2.2.1 p.2.2.2.1.1 p.2.2.2.1.2.1 p.2.2.2.2.1.1).bind fun r => k ((r.1, ()), ((((), ((r.2.1, ()), (((r.2.2.1, ()), ()), ()), ((), ()), (), ())), ()), r.2.2.2.1, (r.2.2.2.2.1, r.2.2.2.2.2.1, ()), (r.2.2.2.2.2.2, ()), ())) }
theorem sp_pred_ok (N : Nat) : SpecOK Try.prog (sp_pred N) := fn_sound (B := pred_B) (loops := []) (leaves := []) (fun p => pred_S N p.1.1 p.1.2.2.1.1 p.2.1.1.2.1.1 p.2.1.1.2.2.1.1.1.1 p.2.2.1 p.2.2.2.1.1 p.2.2.2.1.2.1 p.2.2.2.2.1.1) (fun r => ((r.1, ()), ((((), ((r.2.1, ()), (((r.2.2.1, ()), ()), ()), ((), ()), (), ())), ()), r.2.2.2.1, (r.2.2.2.2.1, r.2.2.2.2.2.1, ()), (r.2.2.2.2.2.2, ()), ()))) pred_rt (fun _ _ _ => rfl) (fun r z h => by cases h; rfl) Try.func81 (by kernel_rfl) (by kernel_rfl) (by kernel_rfl) rfl rfl (by kernel_rfl) (fun args w => Sem.pv_run _ _ _ (by kernel_rfl) w) (pred_all N) mixed trivial (fun z E Xc hE hX hret => trivial) (fun p => pred_eq N p.1.1 p.1.2.2.1.1 p.2.1.1.2.1.1 p.2.1.1.2.2.1.1.1.1 p.2.2.1 p.2.2.2.1.1 p.2.2.2.1.2.1 p.2.2.2.2.1.1)

def ixfp_l1 (N : Nat) : Nat → Qe → (Qa) → Int → Int → (Qa) → (Qa) → Qx → Int → Qe → Int → Option (QA ⊕ (Qa × Qa × Qx × Int × List Int × Int))
  | 0, _, _, _, _, _, _, _, _, _, _ => none
  | n_ + 1, s, f, u, u2, f2, f3, g, f4, f5, f6 =>
    br (decide (u2 < u))
      (idx s u2 fun x_1 =>
      (pred_S N x_1 f f2 f3 g f4 f5 f6).bind fun (x_2, y_3, y_4, y_5, y_6, y_7, y_8) =>
      br x_2
        (some (.inl (u2, y_3, y_4, y_5, y_6, y_7, y_8)))
        (chk (u2 + 1) <|
        ixfp_l1 N n_ s f u (u2 + 1) y_3 y_4 y_5 y_6 y_7 y_8))
      (some (.inr (f2, f3, g, f4, f5, f6)))
def ixfp_S (N : Nat) (s : List Int) (f : Qa) (f2 : Qa) (f3 : Qa) (g : List Qg) (f4 : Int) (f5 : List Int) (f6 : Int) : Option QA :=
  (ixfp_l1 N N s f (s.length : Int) 0 f2 f3 g f4 f5 f6).bind fun e => match e with
  | .inl (i_9, g_10, g2_11, g3_12, g4_13, g5_14, g6_15) =>
    some (i_9, g_10, g2_11, g3_12, g4_13, g5_14, g6_15)
  | .inr (g_16, g2_17, g3_18, g4_19, g5_20, g6_21) =>
    some (-1, g_16, g2_17, g3_18, g4_19, g5_20, g6_21)
noncomputable def ixfp_sp (N : Nat) : List Spec := [sp_pred N]
theorem ixfp_all (N : Nat) : AllP (SpecOK Try.prog) (ixfp_sp N) := ⟨sp_pred_ok N, trivial⟩
noncomputable def ixfp_c : Code := (Try.f80.body).getD .skip
noncomputable abbrev ixfp_B : Body := { c := ixfp_c, n := 19, res := [.tmp 4], outs := [⟨[.i .i64], [.segs [.fn 78 [] [.fz [.fe Qc], .fz [.fn 48 [.fe Qc] []], .fz [.mp 1], .own 0 0]], .map Qp (.int .i64), .segs [.i .i64, .arr (.int .i64) 4], .segs [.i .i64]]⟩], m0 := 4 }
abbrev ixfp_rt : altD ixfp_B.outs → Option QA := fun r => some (r.1.1, r.2.1.1.2.1.1, r.2.1.1.2.2.1.1.1.1, r.2.2.1, r.2.2.2.1.1, r.2.2.2.1.2.1, r.2.2.2.2.1.1)
abbrev ixfp_l1_at : List PI := [.c [1, 0, 1, 0, 0, 0], .c [1, 0, 1, 0, 0, 1], .l [1, 0, 1, 0, 0], .b 0, .c [1, 1]]
abbrev ixfp_l1_st : Sta := ⟨[0, 1, 7, 8], ⟨[.sl (.int .i64), .fn 81 [] [.own 0 0, .fz [.fe Qc], .own 2 0, .own 3 0], .i .i64, .i .i64], [.segs [.fn 78 [] [.fz [.fe Qc], .fz [.fn 48 [.fe Qc] []], .fz [.mp 1], .own 0 0]], .map Qp (.int .i64), .segs [.i .i64, .arr (.int .i64) 4], .segs [.i .i64]]⟩⟩
abbrev ixfp_l1_h (rec : Qe → (Qa) → Int → Int → (Qa) → (Qa) → Qx → Int → Qe → Int → Option (QA ⊕ (Qa × Qa × Qx × Int × List Int × Int))) : Leaf (QA ⊕ (Qa × Qa × Qx × Int × List Int × Int)) := ⟨ixfp_l1_at, ixfp_l1_st, fun p => rec p.1.1 p.1.2.1.2.2.1.1 p.1.2.2.1 p.1.2.2.2.1 p.2.1.1.2.1.1 p.2.1.1.2.2.1.1.1.1 p.2.2.1 p.2.2.2.1.1 p.2.2.2.1.2.1 p.2.2.2.2.1.1⟩
abbrev ixfp_l1_e0 : Leaf (QA ⊕ (Qa × Qa × Qx × Int × List Int × Int)) := ⟨[.c [1, 0, 1, 0, 0, 1, 1, 0, 0, 1, 1, 0, 0], .c [1, 0, 1, 0, 0, 1, 1, 0, 0, 1, 1, 0, 1], .b 1, .c [1, 0, 1, 0, 0, 1, 1, 1], .l [1, 0, 1, 0, 0], .b 0, .c [1, 1]], ⟨[5], ⟨[.i .i64], [.segs [.fn 78 [] [.fz [.fe Qc], .fz [.fn 48 [.fe Qc] []], .fz [.mp 1], .own 0 0]], .map Qp (.int .i64), .segs [.i .i64, .arr (.int .i64) 4], .segs [.i .i64]]⟩⟩, fun p => some (.inl (p.1.1, p.2.1.1.2.1.1, p.2.1.1.2.2.1.1.1.1, p.2.2.1, p.2.2.2.1.1, p.2.2.2.1.2.1, p.2.2.2.2.1.1))⟩
abbrev ixfp_l1_e1 : Leaf (QA ⊕ (Qa × Qa × Qx × Int × List Int × Int)) := ⟨[.c [1, 1, 0], .c [1, 1, 1]], ⟨[], ⟨[], [.segs [.fn 78 [] [.fz [.fe Qc], .fz [.fn 48 [.fe Qc] []], .fz [.mp 1], .own 0 0]], .map Qp (.int .i64), .segs [.i .i64, .arr (.int .i64) 4], .segs [.i .i64]]⟩⟩, fun p => some (.inr (p.2.1.1.2.1.1, p.2.1.1.2.2.1.1.1.1, p.2.2.1, p.2.2.2.1.1, p.2.2.2.1.2.1, p.2.2.2.2.1.1))⟩
noncomputable def ixfp_l1_L (N : Nat) : LoopS := { at_ := ixfp_l1_at, sta := ixfp_l1_st, exits := [([.c [1, 0, 1, 0, 0, 1, 1, 0, 0, 1, 1, 0, 0], .c [1, 0, 1, 0, 0, 1, 1, 0, 0, 1, 1, 0, 1], .b 1, .c [1, 0, 1, 0, 0, 1, 1, 1], .l [1, 0, 1, 0, 0], .b 0, .c [1, 1]], ⟨[5], ⟨[.i .i64], [.segs [.fn 78 [] [.fz [.fe Qc], .fz [.fn 48 [.fe Qc] []], .fz [.mp 1], .own 0 0]], .map Qp (.int .i64), .segs [.i .i64, .arr (.int .i64) 4], .segs [.i .i64]]⟩⟩), ([.c [1, 1, 0], .c [1, 1, 1]], ⟨[], ⟨[], [.segs [.fn 78 [] [.fz [.fe Qc], .fz [.fn 48 [.fe Qc] []], .fz [.mp 1], .own 0 0]], .map Qp (.int .i64), .segs [.i .i64, .arr (.int .i64) 4], .segs [.i .i64]]⟩⟩)], run := fun p k => (ixfp_l1 N N p.1.1 p.1.2.1.2.2.1.1 p.1.2.2.1 p.1.2.2.2.1 p.2.1.1.2.1.1 p.2.1.1.2.2.1.1.1.1 p.2.2.1 p.2.2.2.1.1 p.2.2.2.1.2.1 p.2.2.2.2.1.1).bind fun e => match e with | .inl x => k (.inl ((x.1, ()), ((((), ((x.2.1, ()), (((x.2.2.1, ()), ()), ()), ((), ()), (), ())), ()), x.2.2.2.1, (x.2.2.2.2.1, x.2.2.2.2.2.1, ()), (x.2.2.2.2.2.2, ()), ()))) | .inr x => k (.inr (.inl ((), ((((), ((x.1, ()), (((x.2.1, ()), ()), ()), ((), ()), (), ())), ()), x.2.2.1, (x.2.2.2.1, x.2.2.2.2.1, ()), (x.2.2.2.2.2, ()), ())))) }
theorem ixfp_l1_eq (N n_ : Nat) (s : List Int) (f : Qa) (u : Int) (u2 : Int) (f2 : Qa) (f3 : Qa) (g : List Qg) (f4 : Int) (f5 : List Int) (f6 : Int) : ev (Z := QA ⊕ (Qa × Qa × Qx × Int × List Int × Int)) Try.prog (ixfp_sp N) ixfp_B [] [ixfp_l1_h (ixfp_l1 N n_), ixfp_l1_e0, ixfp_l1_e1] none 400 true ixfp_l1_at (stL ixfp_l1_st ((s, ((), ((), (f, ()), (), (), ())), u, u2, ()), ((((), ((f2, ()), (((f3, ()), ()), ()), ((), ()), (), ())), ()), g, (f4, f5, ()), (f6, ()), ()))) (stH ixfp_l1_st ((s, ((), ((), (f, ()), (), (), ())), u, u2, ()), ((((), ((f2, ()), (((f3, ()), ()), ()), ((), ()), (), ())), ()), g, (f4, f5, ()), (f6, ()), ()))) = ixfp_l1 N (n_ + 1) s f u u2 f2 f3 g f4 f5 f6 := by kernel_rfl
theorem ixfp_l1_ok (N : Nat) {top : Bool} : LoopOK Try.prog ixfp_B.c ixfp_B.n ixfp_B.m0 top (ixfp_l1_L N) := loop_of_ev (Z := QA ⊕ (Qa × Qa × Qx × Int × List Int × Int)) (N := N) (fun m p => ixfp_l1 N m p.1.1 p.1.2.1.2.2.1.1 p.1.2.2.1 p.1.2.2.2.1 p.2.1.1.2.1.1 p.2.1.1.2.2.1.1.1.1 p.2.2.1 p.2.2.2.1.1 p.2.2.2.1.2.1 p.2.2.2.2.1.1) (fun e => match e with | .inl x => .inl ((x.1, ()), ((((), ((x.2.1, ()), (((x.2.2.1, ()), ()), ()), ((), ()), (), ())), ()), x.2.2.2.1, (x.2.2.2.2.1, x.2.2.2.2.2.1, ()), (x.2.2.2.2.2.2, ()), ())) | .inr x => .inr (.inl ((), ((((), ((x.1, ()), (((x.2.1, ()), ()), ()), ((), ()), (), ())), ()), x.2.2.1, (x.2.2.2.1, x.2.2.2.2.1, ()), (x.2.2.2.2.2, ()), ())))) (fun _ p k => bind_congr_ (ixfp_l1 N N p.1.1 p.1.2.1.2.2.1.1 p.1.2.2.1 p.1.2.2.2.1 p.2.1.1.2.1.1 p.2.1.1.2.2.1.1.1.1 p.2.2.1 p.2.2.2.1.1 p.2.2.2.1.2.1 p.2.2.2.2.1.1) _ _ (fun e => by rcases e with x | x <;> rfl)) (fun _ => rfl) (fun m z E Xc hE hX hrec hx => leaf_of_ev (B := ixfp_B) (loops := []) (leaves := [ixfp_l1_h (ixfp_l1 N m), ixfp_l1_e0, ixfp_l1_e1]) (ixfp_all N) mixed trivial hE hX ⟨hrec, (fun p hp => by obtain rfl := Option.some.inj hp; exact hx), (fun p hp => by obtain rfl := Option.some.inj hp; exact hx), trivial⟩ RetOK.no (fun p => ixfp_l1_eq N m p.1.1 p.1.2.1.2.2.1.1 p.1.2.2.1 p.1.2.2.2.1 p.2.1.1.2.1.1 p.2.1.1.2.2.1.1.1.1 p.2.2.1 p.2.2.2.1.1 p.2.2.2.1.2.1 p.2.2.2.2.1.1))
abbrev ixfp_st : Sta := ⟨[0, 1], ⟨[.sl (.int .i64), .fn 81 [] [.own 0 0, .fz [.fe Qc], .own 2 0, .own 3 0]], [.segs [.fn 78 [] [.fz [.fe Qc], .fz [.fn 48 [.fe Qc] []], .fz [.mp 1], .own 0 0]], .map Qp (.int .i64), .segs [.i .i64, .arr (.int .i64) 4], .segs [.i .i64]]⟩⟩
theorem ixfp_eq (N : Nat) (s : List Int) (f : Qa) (f2 : Qa) (f3 : Qa) (g : List Qg) (f4 : Int) (f5 : List Int) (f6 : Int) : ev (Z := Int × Qa × Qa × Qx × Int × List Int × Int) Try.prog (ixfp_sp N) ixfp_B [ixfp_l1_L N] [] (some ixfp_rt) 400 false [.c [0], .c [1]] (stL ixfp_st ((s, ((), ((), (f, ()), (), (), ())), ()), ((((), ((f2, ()), (((f3, ()), ()), ()), ((), ()), (), ())), ()), g, (f4, f5, ()), (f6, ()), ()))) (stH ixfp_st ((s, ((), ((), (f, ()), (), (), ())), ()), ((((), ((f2, ()), (((f3, ()), ()), ()), ((), ()), (), ())), ()), g, (f4, f5, ()), (f6, ()), ()))) = ixfp_S N s f f2 f3 g f4 f5 f6 := by kernel_rfl
noncomputable def sp_ixfp (N : Nat) : Spec := { f := 80, ins := ⟨[.sl (.int .i64), .fn 81 [] [.own 0 0, .fz [.fe Qc], .own 2 0, .own 3 0]], [.segs [.fn 78 [] [.fz [.fe Qc], .fz [.fn 48 [.fe Qc] []], .fz [.mp 1], .own 0 0]], .map Qp (.int .i64), .segs [.i .i64, .arr (.int .i64) 4], .segs [.i .i64]]⟩, outs := [⟨[.i .i64], [.segs [.fn 78 [] [.fz [.fe Qc], .fz [.fn 48 [.fe Qc] []], .fz [.mp 1], .own 0 0]], .map Qp (.int .i64), .segs [.i .i64, .arr (.int .i64) 4], .segs [.i .i64]]⟩], run := fun p k => (ixfp_S N p.1.1 p.1.2.1.2.2.1.1 p.2.1.1.2.1.1 p.2.1.1.2.2.1.1.1.1 p.2.2.1 p.2.2.2.1.1 p.2.2.2.1.2.1 p.2.2.2.2.1.1).bind fun r => k ((r.1, ()), ((((), ((r.2.1, ()), (((r.2.2.1, ()), ()), ()), ((), ()), (), ())), ()), r.2.2.2.1, (r.2.2.2.2.1, r.2.2.2.2.2.1, ()), (r.2.2.2.2.2.2, ()), ())) }
theorem sp_ixfp_ok (N : Nat) : SpecOK Try.prog (sp_ixfp N) := fn_sound (B := ixfp_B) (loops := [ixfp_l1_L N]) (leaves := []) (fun p => ixfp_S N p.1.1 p.1.2.1.2.2.1.1 p.2.1.1.2.1.1 p.2.1.1.2.2.1.1.1.1 p.2.2.1 p.2.2.2.1.1 p.2.2.2.1.2.1 p.2.2.2.2.1.1) (fun r => ((r.1, ()), ((((), ((r.2.1, ()), (((r.2.2.1, ()), ()), ()), ((), ()), (), ())), ()), r.2.2.2.1, (r.2.2.2.2.1, r.2.2.2.2.2.1, ()), (r.2.2.2.2.2.2, ()), ()))) ixfp_rt (fun _ _ _ => rfl) (fun r z h => by cases h; rfl) Try.func80 (by kernel_rfl) (by kernel_rfl) (by kernel_rfl) rfl rfl (by kernel_rfl) (fun args w => Sem.pv_run _ _ _ (by kernel_rfl) w) (ixfp_all N) mixed ⟨ixfp_l1_ok N, trivial⟩ (fun z E Xc hE hX hret => trivial) (fun p => ixfp_eq N p.1.1 p.1.2.1.2.2.1.1 p.2.1.1.2.1.1 p.2.1.1.2.2.1.1.1.1 p.2.2.1 p.2.2.2.1.1 p.2.2.2.1.2.1 p.2.2.2.2.1.1)

def least_l1 (N : Nat) : Nat → (Qa) → (Qa) → (Qa) → Qe → Int → Qe → Int → Qx → Option (List Int × Int)
  | 0, _, _, _, _, _, _, _, _ => none
  | n_ + 1, d, rest, rest2, out, s, s2, bad, g =>
    br (decide (s < (d.2.2.2.2.1.length : Int)))
      (idx d.2.2.2.2.1 s fun x_5 =>
      (ixfp_S N x_5.2.2 d rest rest2 g s s2 bad).bind fun (x_6, y_7, y_8, y_9, y_10, y_11, y_12) =>
      idx x_5.2.2 x_6 fun x_13 =>
      lim (out.length + [x_13].length) <|
      (given_S N d y_10 y_11 x_13).bind fun (x_14, y_15) =>
      least_l1 N n_ d y_7 y_8 (out ++ [x_13]) x_14 y_15 y_12 y_9)
      (some ((out, bad)))
def least_j1 (N : Nat) (d : Qa) (rest : Qa) (rest2 : Qa) (g : List Qg) (s : Int) (s2 : List Int) : Option (List Int × Int) :=
  (rest_R N N s s2 rest rest2 rest rest2 g).bind fun (x_1, y_2, y_3, y_4) =>
  (least_l1 N N d y_2 y_3 [] s s2 x_1 y_4).bind fun (out_16, bad_17) =>
  some (out_16, bad_17)
def least_S (N : Nat) (d : Qa) (t : Qa) : Option (List Int × Int) :=
  least_j1 N d d t [] 0 (List.replicate 4 (0 : Int))
noncomputable def least_sp (N : Nat) : List Spec := [sp_given N, sp_rest N, sp_ixfp N]
theorem least_all (N : Nat) : AllP (SpecOK Try.prog) (least_sp N) := ⟨sp_given_ok N, sp_rest_ok N, sp_ixfp_ok N, trivial⟩
noncomputable def least_c : Code := (Try.f47.body).getD .skip
noncomputable abbrev least_B : Body := { c := least_c, n := 53, res := [.tmp 4, .tmp 5], outs := [⟨[.sl (.int .i64), .i .i64], []⟩], m0 := 0 }
abbrev least_rt : altD least_B.outs → Option (List Int × Int) := fun r => some (r.1.1, r.1.2.1)
abbrev least_l1_at : List PI := [.c [1, 1, 1, 1, 1, 1, 1, 0, 0, 0, 0, 0], .c [1, 1, 1, 1, 1, 1, 1, 0, 0, 0, 0, 1], .c [1, 1, 1, 1, 1, 1, 1, 0, 0, 0, 1], .l [1, 1, 1, 1, 1, 1, 1, 0, 0, 0], .b 0, .c [1, 1, 1, 1, 1, 1, 1, 1]]
abbrev least_l1_st : Sta := ⟨[2, 7, 8, 9, 10], ⟨[.fz [.fe Qc], .own 0 0, .ols 1, .own 2 0, .own 3 0], [.segs [.fn 78 [] [.fz [.fe Qc], .fz [.fn 48 [.fe Qc] []], .fz [.mp 4], .own 0 0]], .lst (.int .i64), .segs [.i .i64, .arr (.int .i64) 4], .segs [.i .i64], .map Qp (.int .i64)]⟩⟩
abbrev least_l1_h (rec : (Qa) → (Qa) → (Qa) → Qe → Int → Qe → Int → Qx → Option (List Int × Int)) : Leaf (List Int × Int) := ⟨least_l1_at, least_l1_st, fun p => rec p.1.1.1 p.2.1.1.2.1.1 p.2.1.1.2.2.1.1.1.1 p.2.2.1 p.2.2.2.1.1 p.2.2.2.1.2.1 p.2.2.2.2.1.1 p.2.2.2.2.2.1⟩
abbrev least_l1_e0 : Leaf (List Int × Int) := ⟨[.c [1, 1, 1, 1, 1, 1, 1, 1, 0], .c [1, 1, 1, 1, 1, 1, 1, 1, 1]], ⟨[8, 10], ⟨[.ols 0, .own 1 0], [.lst (.int .i64), .segs [.i .i64]]⟩⟩, fun p => some ((p.2.1, p.2.2.1.1))⟩
noncomputable def least_l1_L (N : Nat) : LoopS := { at_ := least_l1_at, sta := least_l1_st, exits := [([.c [1, 1, 1, 1, 1, 1, 1, 1, 0], .c [1, 1, 1, 1, 1, 1, 1, 1, 1]], ⟨[8, 10], ⟨[.ols 0, .own 1 0], [.lst (.int .i64), .segs [.i .i64]]⟩⟩)], run := fun p k => (least_l1 N N p.1.1.1 p.2.1.1.2.1.1 p.2.1.1.2.2.1.1.1.1 p.2.2.1 p.2.2.2.1.1 p.2.2.2.1.2.1 p.2.2.2.2.1.1 p.2.2.2.2.2.1).bind fun e => k (.inl (((), (), ()), (e.1, (e.2, ()), ()))) }
theorem least_l1_eq (N n_ : Nat) (d : Qa) (rest : Qa) (rest2 : Qa) (out : List Int) (s : Int) (s2 : List Int) (bad : Int) (g : List Qg) : ev (Z := List Int × Int) Try.prog (least_sp N) least_B [] [least_l1_h (least_l1 N n_), least_l1_e0] none 400 true least_l1_at (stL least_l1_st (((d, ()), (), (), (), (), ()), ((((), ((rest, ()), (((rest2, ()), ()), ()), ((), ()), (), ())), ()), out, (s, s2, ()), (bad, ()), g, ()))) (stH least_l1_st (((d, ()), (), (), (), (), ()), ((((), ((rest, ()), (((rest2, ()), ()), ()), ((), ()), (), ())), ()), out, (s, s2, ()), (bad, ()), g, ()))) = least_l1 N (n_ + 1) d rest rest2 out s s2 bad g := by kernel_rfl
theorem least_l1_ok (N : Nat) {top : Bool} : LoopOK Try.prog least_B.c least_B.n least_B.m0 top (least_l1_L N) := loop_of_ev (Z := List Int × Int) (N := N) (fun m p => least_l1 N m p.1.1.1 p.2.1.1.2.1.1 p.2.1.1.2.2.1.1.1.1 p.2.2.1 p.2.2.2.1.1 p.2.2.2.1.2.1 p.2.2.2.2.1.1 p.2.2.2.2.2.1) (fun e => .inl (((), (), ()), (e.1, (e.2, ()), ()))) (fun _ _ _ => rfl) (fun _ => rfl) (fun m z E Xc hE hX hrec hx => leaf_of_ev (B := least_B) (loops := []) (leaves := [least_l1_h (least_l1 N m), least_l1_e0]) (least_all N) mixed trivial hE hX ⟨hrec, (fun p hp => by obtain rfl := Option.some.inj hp; exact hx), trivial⟩ RetOK.no (fun p => least_l1_eq N m p.1.1.1 p.2.1.1.2.1.1 p.2.1.1.2.2.1.1.1.1 p.2.2.1 p.2.2.2.1.1 p.2.2.2.1.2.1 p.2.2.2.2.1.1 p.2.2.2.2.2.1))
abbrev least_j1_at : List PI := [.c [1, 1, 1, 1, 1, 1, 0], .c [1, 1, 1, 1, 1, 1, 1]]
abbrev least_j1_st : Sta := ⟨[2, 7, 8, 9], ⟨[.fz [.fe Qc], .own 0 0, .nils, .own 2 0], [.segs [.fn 78 [] [.fz [.fe Qc], .fz [.fn 48 [.fe Qc] []], .fz [.mp 1], .own 0 0]], .map Qp (.int .i64), .segs [.i .i64, .arr (.int .i64) 4]]⟩⟩
abbrev least_j1_k (N : Nat) : Leaf (List Int × Int) := ⟨least_j1_at, least_j1_st, fun p => least_j1 N p.1.1.1 p.2.1.1.2.1.1 p.2.1.1.2.2.1.1.1.1 p.2.2.1 p.2.2.2.1.1 p.2.2.2.1.2.1⟩
theorem least_j1_eq (N : Nat) (d : Qa) (rest : Qa) (rest2 : Qa) (g : List Qg) (s : Int) (s2 : List Int) : ev (Z := List Int × Int) Try.prog (least_sp N) least_B [least_l1_L N] [] (some least_rt) 400 true least_j1_at (stL least_j1_st (((d, ()), (), (), (), ()), ((((), ((rest, ()), (((rest2, ()), ()), ()), ((), ()), (), ())), ()), g, (s, s2, ()), ()))) (stH least_j1_st (((d, ()), (), (), (), ()), ((((), ((rest, ()), (((rest2, ()), ()), ()), ((), ()), (), ())), ()), g, (s, s2, ()), ()))) = least_j1 N d rest rest2 g s s2 := by kernel_rfl
theorem least_j1_lf (N : Nat) {z : List Int × Int} {E : EE} {Xc : Ctx} (hE : EOK least_B.m0 E) (hX : CxOK true Xc) (hret : RetOK Try.prog least_B E Xc z (some least_rt)) : LeafOK Try.prog least_B.c least_B.n least_B.m0 E Xc z (least_j1_k N) := leaf_of_ev (B := least_B) (loops := [least_l1_L N]) (leaves := []) (least_all N) mixed ⟨least_l1_ok N, trivial⟩ hE hX trivial hret (fun p => least_j1_eq N p.1.1.1 p.2.1.1.2.1.1 p.2.1.1.2.2.1.1.1.1 p.2.2.1 p.2.2.2.1.1 p.2.2.2.1.2.1)
abbrev least_st : Sta := ⟨[0, 1], ⟨[.fe Qc, .agg [.fn 48 [.fe Qc] []]], []⟩⟩
theorem least_eq (N : Nat) (d : Qa) (t : Qa) : ev (Z := List Int × Int) Try.prog (least_sp N) least_B [least_l1_L N] [least_j1_k N] (some least_rt) 400 false [.c [0], .c [1]] (stL least_st ((d, (((t, ()), ()), ()), ()), ())) (stH least_st ((d, (((t, ()), ()), ()), ()), ())) = least_S N d t := by kernel_rfl
noncomputable def sp_least (N : Nat) : Spec := { f := 47, ins := ⟨[.fe Qc, .agg [.fn 48 [.fe Qc] []]], []⟩, outs := [⟨[.sl (.int .i64), .i .i64], []⟩], run := fun p k => (least_S N p.1.1 p.1.2.1.1.1.1).bind fun r => k ((r.1, r.2, ()), ()) }
theorem sp_least_ok (N : Nat) : SpecOK Try.prog (sp_least N) := fn_sound (B := least_B) (loops := [least_l1_L N]) (leaves := [least_j1_k N]) (fun p => least_S N p.1.1 p.1.2.1.1.1.1) (fun r => ((r.1, r.2, ()), ())) least_rt (fun _ _ _ => rfl) (fun r z h => by cases h; rfl) Try.func47 (by kernel_rfl) (by kernel_rfl) (by kernel_rfl) rfl rfl (by kernel_rfl) (fun args w => Sem.pv_run _ _ _ (by kernel_rfl) w) (least_all N) mixed ⟨least_l1_ok N, trivial⟩ (fun z E Xc hE hX hret => ⟨least_j1_lf N hE hX hret, trivial⟩) (fun p => least_eq N p.1.1 p.1.2.1.1.1.1)

def best_S (N : Nat) (b : Int) (b2 : Int) (b3 : Int) (b4 : Int) (b5 : List QK) : Option (List Int × Int × Int) :=
  ((opened_S N b b2 b3 b4 b5).bind fun e => match e with
  | .inl (x_1, y_2) =>
    (br (!decide (y_2 = 0))
      (some ([], 0, y_2))
      ((least_S N x_1 x_1).bind fun (x_3, y_4) =>
      some (x_3, y_4, 0)))
  | .inr x_5 =>
    (br (!decide (x_5 = 0))
      (some ([], 0, x_5))
      (none)))
noncomputable def best_sp (N : Nat) : List Spec := [sp_opened N, sp_least N]
theorem best_all (N : Nat) : AllP (SpecOK Try.prog) (best_sp N) := ⟨sp_opened_ok N, sp_least_ok N, trivial⟩
noncomputable def best_c : Code := (Try.f17.body).getD .skip
noncomputable abbrev best_B : Body := { c := best_c, n := 27, res := [.tmp 2, .tmp 3, .tmp 4], outs := [⟨[.sl (.int .i64), .i .i64, .i .i64], []⟩], m0 := 0 }
abbrev best_rt : altD best_B.outs → Option (List Int × Int × Int) := fun r => some (r.1.1, r.1.2.1, r.1.2.2.1)
abbrev best_st : Sta := ⟨[0], ⟨[.agg [.i .i64, .i .i64, .i .i64, .i .i64, .sl Qk]], []⟩⟩
theorem best_eq (N : Nat) (b : Int) (b2 : Int) (b3 : Int) (b4 : Int) (b5 : List QK) : ev (Z := List Int × Int × Int) Try.prog (best_sp N) best_B [] [] (some best_rt) 400 false [.c [0], .c [1]] (stL best_st (((b, b2, b3, b4, b5, ()), ()), ())) (stH best_st (((b, b2, b3, b4, b5, ()), ()), ())) = best_S N b b2 b3 b4 b5 := by kernel_rfl
noncomputable def sp_best (N : Nat) : Spec := { f := 17, ins := ⟨[.agg [.i .i64, .i .i64, .i .i64, .i .i64, .sl Qk]], []⟩, outs := [⟨[.sl (.int .i64), .i .i64, .i .i64], []⟩], run := fun p k => (best_S N p.1.1.1 p.1.1.2.1 p.1.1.2.2.1 p.1.1.2.2.2.1 p.1.1.2.2.2.2.1).bind fun r => k ((r.1, r.2.1, r.2.2, ()), ()) }
theorem sp_best_ok (N : Nat) : SpecOK Try.prog (sp_best N) := fn_sound (B := best_B) (loops := []) (leaves := []) (fun p => best_S N p.1.1.1 p.1.1.2.1 p.1.1.2.2.1 p.1.1.2.2.2.1 p.1.1.2.2.2.2.1) (fun r => ((r.1, r.2.1, r.2.2, ()), ())) best_rt (fun _ _ _ => rfl) (fun r z h => by cases h; rfl) Try.func17 (by kernel_rfl) (by kernel_rfl) (by kernel_rfl) rfl rfl (by kernel_rfl) (fun args w => Sem.pv_run _ _ _ (by kernel_rfl) w) (best_all N) mixed trivial (fun z E Xc hE hX hret => trivial) (fun p => best_eq N p.1.1.1 p.1.1.2.1 p.1.1.2.2.1 p.1.1.2.2.2.1 p.1.1.2.2.2.2.1)

def made_j1 (N : Nat) (rec : Int → Int → Int → Int → Int → Qe → Int → Int → Int → Int → Int → Int → Int → Int → Int → Int → Int → Int → Qj → Qe → Option Qo) (sure : Int) (u : Int) (u2 : Int) (u3 : Int) (u4 : Int) (b : List Int) (b2 : Int) (b3 : Int) (g : Int) (g2 : Int) (g3 : Int) (g4 : Int) (x : Int) (x2 : Int) (x3 : Int) (x4 : Int) (r : Int) (r2 : Int) (x5 : List QK) (r3 : List Int) : Option Qo :=
  chk (u4 + 1) <|
  rec sure u u2 u3 (u4 + 1) b b2 b3 g g2 g3 g4 x x2 x3 x4 r r2 x5 r3
def made_l2 (N : Nat) : Nat → Int → Int → Int → Int → Int → Qe → Int → Int → Int → Int → Int → Int → Int → Int → Int → Int → Int → Int → Qj → Qe → Option Qo
  | 0, _, _, _, _, _, _, _, _, _, _, _, _, _, _, _, _, _, _, _, _ => none
  | n_ + 1, sure, u, u2, u3, u4, b, b2, b3, g, g2, g3, g4, x, x2, x3, x4, r, r2, x5, r3 =>
    br (decide (u4 < u3))
      (br (decide (u4 = sure))
        (lim (r3.length + [u4].length) <|
        made_j1 N (made_l2 N n_) sure u u2 u3 u4 b b2 b3 g g2 g3 g4 x x2 x3 x4 r r2 x5 (r3 ++ [u4]))
        ((seldom_S N 3 b b2 b3).bind fun (x_33, y_34, y_35, y_36) =>
        br (!x_33)
          (lim (r3.length + [u4].length) <|
          made_j1 N (made_l2 N n_) sure u u2 u3 u4 y_34 y_35 y_36 g g2 g3 g4 x x2 x3 x4 r r2 x5 (r3 ++ [u4]))
          (made_j1 N (made_l2 N n_) sure u u2 u3 u4 y_34 y_35 y_36 g g2 g3 g4 x x2 x3 x4 r r2 x5 r3)))
      (some ((u, u2, b, b2, b3, g, g2, g3, g4, x, x2, x3, x4, r, r2, x5, r3)))
def made_l1 (N : Nat) : Nat → Int → Int → Qe → Int → Int → Int → Int → Int → Int → Int → Int → Int → Int → Qj → Option (List Int × Int × Int × Int × Int × Int × Int × Int × Int × Int × Int × Qj)
  | 0, _, _, _, _, _, _, _, _, _, _, _, _, _, _ => none
  | n_ + 1, u, u2, b, b2, b3, g, g2, g3, g4, x, x2, x3, x4, x5 =>
    br (decide (u2 < u))
      ((strike_S N 1 9 b b2 b3).bind fun (x_21, y_22, y_23, y_24) =>
      (strike_S N 1 5 y_22 y_23 y_24).bind fun (x_25, y_26, y_27, y_28) =>
      chk (x - 1) <|
      (stroke_S N (x - 1) y_26 y_27 y_28).bind fun (x_29, y_30, y_31, y_32) =>
      (made_l2 N N x_29 u u2 x 0 y_30 y_31 y_32 g g2 g3 g4 x x2 x3 x4 x_21 x_25 x5 []).bind fun (u_37, u2_38, b_39, b2_40, b3_41, g_42, g2_43, g3_44, g4_45, x_46, x2_47, x3_48, x4_49, r_50, r2_51, x5_52, r3_53) =>
      lim (x5_52.length + [(r_50, r2_51, r3_53)].length) <|
      chk (u2_38 + 1) <|
      made_l1 N n_ u_37 (u2_38 + 1) b_39 b2_40 b3_41 g_42 g2_43 g3_44 g4_45 x_46 x2_47 x3_48 x4_49 (x5_52 ++ [(r_50, r2_51, r3_53)]))
      (some ((b, b2, b3, g, g2, g3, g4, x, x2, x3, x4, x5)))
def made_S (N : Nat) (rounds : Int) (b : List Int) (b2 : Int) (b3 : Int) : Option (Int × Int × Int × Int × List Int × Int × Int × Qj) :=
  (strike_S N 1 4 b b2 b3).bind fun (x_1, y_2, y_3, y_4) =>
  (stroke_S N 4 y_2 y_3 y_4).bind fun (x_5, y_6, y_7, y_8) =>
  (stroke_S N 6 y_6 y_7 y_8).bind fun (x_9, y_10, y_11, y_12) =>
  (stroke_S N 3 y_10 y_11 y_12).bind fun (x_13, y_14, y_15, y_16) =>
  (stroke_S N rounds y_14 y_15 y_16).bind fun (x_17, y_18, y_19, y_20) =>
  (made_l1 N N x_17 0 y_18 y_19 y_20 0 0 0 0 x_1 x_5 x_9 x_13 []).bind fun (g_54, g2_55, g3_56, g4_57, g5_58, g6_59, g7_60, x_61, x2_62, x3_63, x4_64, x5_65) =>
  some (x_61, x2_62, x3_63, x4_64, g_54, g2_55, g3_56, x5_65)
noncomputable def made_sp (N : Nat) : List Spec := [sp_stroke N, sp_strike N, sp_seldom N]
theorem made_all (N : Nat) : AllP (SpecOK Try.prog) (made_sp N) := ⟨sp_stroke_ok N, sp_strike_ok N, sp_seldom_ok N, trivial⟩
noncomputable def made_c : Code := (Try.f16.body).getD .skip
noncomputable abbrev made_B : Body := { c := made_c, n := 61, res := [.cell 4 48], outs := [⟨[.agg [.i .i64, .i .i64, .i .i64, .i .i64, .ols 1]], [.segs [.sl (.int .u8), .i .i64, .i .u32], .lst Qk]⟩], m0 := 1 }
abbrev made_rt : altD made_B.outs → Option (Int × Int × Int × Int × List Int × Int × Int × Qj) := fun r => some (r.1.1.1, r.1.1.2.1, r.1.1.2.2.1, r.1.1.2.2.2.1, r.2.1.1, r.2.1.2.1, r.2.1.2.2.1, r.2.2.1)
abbrev made_l2_at : List PI := [.c [1, 1, 0, 1, 0, 0, 1, 1, 0, 0, 1, 1, 0, 1, 0, 0, 0], .c [1, 1, 0, 1, 0, 0, 1, 1, 0, 0, 1, 1, 0, 1, 0, 0, 1], .l [1, 1, 0, 1, 0, 0, 1, 1, 0, 0, 1, 1, 0, 1, 0, 0], .b 2, .c [1, 1, 0, 1, 0, 0, 1, 1, 0, 0, 1, 1, 1], .b 1, .c [1, 1, 0, 1, 0, 0, 1, 1, 1], .l [1, 1, 0, 1, 0, 0], .b 0, .c [1, 1, 1]]
abbrev made_l2_st : Sta := ⟨[0, 4, 5, 6, 7, 20, 21, 34, 35], ⟨[.own 0 0, .own 1 0, .own 2 0, .own 3 0, .i .i64, .i .i64, .i .i64, .i .i64, .i .i64], [.segs [.sl (.int .u8), .i .i64, .i .u32], .segs [.i .i64, .i .i64, .i .i64, .i .i64, .nils], .segs [.i .i64, .i .i64, .i .i64, .i .i64, .ols 4], .segs [.i .i64, .i .i64, .ols 5], .lst Qk, .lst (.int .i64)]⟩⟩
abbrev made_l2_h (rec : Int → Int → Int → Int → Int → Qe → Int → Int → Int → Int → Int → Int → Int → Int → Int → Int → Int → Int → Qj → Qe → Option Qo) : Leaf Qo := ⟨made_l2_at, made_l2_st, fun p => rec p.1.2.2.2.2.1 p.1.2.2.2.2.2.1 p.1.2.2.2.2.2.2.1 p.1.2.2.2.2.2.2.2.1 p.1.2.2.2.2.2.2.2.2.1 p.2.1.1 p.2.1.2.1 p.2.1.2.2.1 p.2.2.1.1 p.2.2.1.2.1 p.2.2.1.2.2.1 p.2.2.1.2.2.2.1 p.2.2.2.1.1 p.2.2.2.1.2.1 p.2.2.2.1.2.2.1 p.2.2.2.1.2.2.2.1 p.2.2.2.2.1.1 p.2.2.2.2.1.2.1 p.2.2.2.2.2.1 p.2.2.2.2.2.2.1⟩
abbrev made_l2_e0 : Leaf Qo := ⟨[.c [1, 1, 0, 1, 0, 0, 1, 1, 0, 0, 1, 1, 1], .b 1, .c [1, 1, 0, 1, 0, 0, 1, 1, 1], .l [1, 1, 0, 1, 0, 0], .b 0, .c [1, 1, 1]], ⟨[0, 4, 5, 6, 20, 21], ⟨[.own 0 0, .own 1 0, .own 2 0, .own 3 0, .i .i64, .i .i64], [.segs [.sl (.int .u8), .i .i64, .i .u32], .segs [.i .i64, .i .i64, .i .i64, .i .i64, .nils], .segs [.i .i64, .i .i64, .i .i64, .i .i64, .ols 4], .segs [.i .i64, .i .i64, .ols 5], .lst Qk, .lst (.int .i64)]⟩⟩, fun p => some ((p.1.2.2.2.2.1, p.1.2.2.2.2.2.1, p.2.1.1, p.2.1.2.1, p.2.1.2.2.1, p.2.2.1.1, p.2.2.1.2.1, p.2.2.1.2.2.1, p.2.2.1.2.2.2.1, p.2.2.2.1.1, p.2.2.2.1.2.1, p.2.2.2.1.2.2.1, p.2.2.2.1.2.2.2.1, p.2.2.2.2.1.1, p.2.2.2.2.1.2.1, p.2.2.2.2.2.1, p.2.2.2.2.2.2.1))⟩
abbrev made_j1_at : List PI := [.c [1, 1, 0, 1, 0, 0, 1, 1, 0, 0, 1, 1, 0, 1, 0, 0, 1, 1, 1], .l [1, 1, 0, 1, 0, 0, 1, 1, 0, 0, 1, 1, 0, 1, 0, 0], .b 2, .c [1, 1, 0, 1, 0, 0, 1, 1, 0, 0, 1, 1, 1], .b 1, .c [1, 1, 0, 1, 0, 0, 1, 1, 1], .l [1, 1, 0, 1, 0, 0], .b 0, .c [1, 1, 1]]
abbrev made_j1_st : Sta := ⟨[0, 4, 5, 6, 7, 20, 21, 34, 35], ⟨[.own 0 0, .own 1 0, .own 2 0, .own 3 0, .i .i64, .i .i64, .i .i64, .i .i64, .i .i64], [.segs [.sl (.int .u8), .i .i64, .i .u32], .segs [.i .i64, .i .i64, .i .i64, .i .i64, .nils], .segs [.i .i64, .i .i64, .i .i64, .i .i64, .ols 4], .segs [.i .i64, .i .i64, .ols 5], .lst Qk, .lst (.int .i64)]⟩⟩
abbrev made_j1_k (N : Nat) (rec : Int → Int → Int → Int → Int → Qe → Int → Int → Int → Int → Int → Int → Int → Int → Int → Int → Int → Int → Qj → Qe → Option Qo) : Leaf Qo := ⟨made_j1_at, made_j1_st, fun p => made_j1 N rec p.1.2.2.2.2.1 p.1.2.2.2.2.2.1 p.1.2.2.2.2.2.2.1 p.1.2.2.2.2.2.2.2.1 p.1.2.2.2.2.2.2.2.2.1 p.2.1.1 p.2.1.2.1 p.2.1.2.2.1 p.2.2.1.1 p.2.2.1.2.1 p.2.2.1.2.2.1 p.2.2.1.2.2.2.1 p.2.2.2.1.1 p.2.2.2.1.2.1 p.2.2.2.1.2.2.1 p.2.2.2.1.2.2.2.1 p.2.2.2.2.1.1 p.2.2.2.2.1.2.1 p.2.2.2.2.2.1 p.2.2.2.2.2.2.1⟩
theorem made_j1_eq (N : Nat) (rec : Int → Int → Int → Int → Int → Qe → Int → Int → Int → Int → Int → Int → Int → Int → Int → Int → Int → Int → Qj → Qe → Option Qo) (sure : Int) (u : Int) (u2 : Int) (u3 : Int) (u4 : Int) (b : List Int) (b2 : Int) (b3 : Int) (g : Int) (g2 : Int) (g3 : Int) (g4 : Int) (x : Int) (x2 : Int) (x3 : Int) (x4 : Int) (r : Int) (r2 : Int) (x5 : List QK) (r3 : List Int) : ev (Z := Int × Int × List Int × Int × Int × Int × Int × Int × Int × Int × Int × Int × Int × Int × Int × Qj × List Int) Try.prog (made_sp N) made_B [] [made_l2_h rec, made_l2_e0] none 400 true made_j1_at (stL made_j1_st (((), (), (), (), sure, u, u2, u3, u4, ()), ((b, b2, b3, ()), (g, g2, g3, g4, (), ()), (x, x2, x3, x4, (), ()), (r, r2, (), ()), x5, r3, ()))) (stH made_j1_st (((), (), (), (), sure, u, u2, u3, u4, ()), ((b, b2, b3, ()), (g, g2, g3, g4, (), ()), (x, x2, x3, x4, (), ()), (r, r2, (), ()), x5, r3, ()))) = made_j1 N rec sure u u2 u3 u4 b b2 b3 g g2 g3 g4 x x2 x3 x4 r r2 x5 r3 := by kernel_rfl
theorem made_j1_lf (N : Nat) (rec : Int → Int → Int → Int → Int → Qe → Int → Int → Int → Int → Int → Int → Int → Int → Int → Int → Int → Int → Qj → Qe → Option Qo) {z : Int × Int × List Int × Int × Int × Int × Int × Int × Int × Int × Int × Int × Int × Int × Int × Qj × List Int} {top : Bool} {E : EE} {Xc : Ctx} (hE : EOK made_B.m0 E) (hX : CxOK top Xc) (hrec : LeafOK Try.prog made_B.c made_B.n made_B.m0 E Xc z (made_l2_h rec)) (h0 : LeafOK Try.prog made_B.c made_B.n made_B.m0 E Xc z made_l2_e0) : LeafOK Try.prog made_B.c made_B.n made_B.m0 E Xc z (made_j1_k N rec) := leaf_of_ev (B := made_B) (loops := []) (leaves := [made_l2_h rec, made_l2_e0]) (made_all N) mixed trivial hE hX ⟨hrec, h0, trivial⟩ RetOK.no (fun p => made_j1_eq N rec p.1.2.2.2.2.1 p.1.2.2.2.2.2.1 p.1.2.2.2.2.2.2.1 p.1.2.2.2.2.2.2.2.1 p.1.2.2.2.2.2.2.2.2.1 p.2.1.1 p.2.1.2.1 p.2.1.2.2.1 p.2.2.1.1 p.2.2.1.2.1 p.2.2.1.2.2.1 p.2.2.1.2.2.2.1 p.2.2.2.1.1 p.2.2.2.1.2.1 p.2.2.2.1.2.2.1 p.2.2.2.1.2.2.2.1 p.2.2.2.2.1.1 p.2.2.2.2.1.2.1 p.2.2.2.2.2.1 p.2.2.2.2.2.2.1)
noncomputable def made_l2_L (N : Nat) : LoopS := { at_ := made_l2_at, sta := made_l2_st, exits := [([.c [1, 1, 0, 1, 0, 0, 1, 1, 0, 0, 1, 1, 1], .b 1, .c [1, 1, 0, 1, 0, 0, 1, 1, 1], .l [1, 1, 0, 1, 0, 0], .b 0, .c [1, 1, 1]], ⟨[0, 4, 5, 6, 20, 21], ⟨[.own 0 0, .own 1 0, .own 2 0, .own 3 0, .i .i64, .i .i64], [.segs [.sl (.int .u8), .i .i64, .i .u32], .segs [.i .i64, .i .i64, .i .i64, .i .i64, .nils], .segs [.i .i64, .i .i64, .i .i64, .i .i64, .ols 4], .segs [.i .i64, .i .i64, .ols 5], .lst Qk, .lst (.int .i64)]⟩⟩)], run := fun p k => (made_l2 N N p.1.2.2.2.2.1 p.1.2.2.2.2.2.1 p.1.2.2.2.2.2.2.1 p.1.2.2.2.2.2.2.2.1 p.1.2.2.2.2.2.2.2.2.1 p.2.1.1 p.2.1.2.1 p.2.1.2.2.1 p.2.2.1.1 p.2.2.1.2.1 p.2.2.1.2.2.1 p.2.2.1.2.2.2.1 p.2.2.2.1.1 p.2.2.2.1.2.1 p.2.2.2.1.2.2.1 p.2.2.2.1.2.2.2.1 p.2.2.2.2.1.1 p.2.2.2.2.1.2.1 p.2.2.2.2.2.1 p.2.2.2.2.2.2.1).bind fun e => k (.inl (((), (), (), (), e.1, e.2.1, ()), ((e.2.2.1, e.2.2.2.1, e.2.2.2.2.1, ()), (e.2.2.2.2.2.1, e.2.2.2.2.2.2.1, e.2.2.2.2.2.2.2.1, e.2.2.2.2.2.2.2.2.1, (), ()), (e.2.2.2.2.2.2.2.2.2.1, e.2.2.2.2.2.2.2.2.2.2.1, e.2.2.2.2.2.2.2.2.2.2.2.1, e.2.2.2.2.2.2.2.2.2.2.2.2.1, (), ()), (e.2.2.2.2.2.2.2.2.2.2.2.2.2.1, e.2.2.2.2.2.2.2.2.2.2.2.2.2.2.1, (), ()), e.2.2.2.2.2.2.2.2.2.2.2.2.2.2.2.1, e.2.2.2.2.2.2.2.2.2.2.2.2.2.2.2.2, ()))) }
theorem made_l2_eq (N n_ : Nat) (sure : Int) (u : Int) (u2 : Int) (u3 : Int) (u4 : Int) (b : List Int) (b2 : Int) (b3 : Int) (g : Int) (g2 : Int) (g3 : Int) (g4 : Int) (x : Int) (x2 : Int) (x3 : Int) (x4 : Int) (r : Int) (r2 : Int) (x5 : List QK) (r3 : List Int) : ev (Z := Int × Int × List Int × Int × Int × Int × Int × Int × Int × Int × Int × Int × Int × Int × Int × Qj × List Int) Try.prog (made_sp N) made_B [] [made_l2_h (made_l2 N n_), made_l2_e0, made_j1_k N (made_l2 N n_)] none 400 true made_l2_at (stL made_l2_st (((), (), (), (), sure, u, u2, u3, u4, ()), ((b, b2, b3, ()), (g, g2, g3, g4, (), ()), (x, x2, x3, x4, (), ()), (r, r2, (), ()), x5, r3, ()))) (stH made_l2_st (((), (), (), (), sure, u, u2, u3, u4, ()), ((b, b2, b3, ()), (g, g2, g3, g4, (), ()), (x, x2, x3, x4, (), ()), (r, r2, (), ()), x5, r3, ()))) = made_l2 N (n_ + 1) sure u u2 u3 u4 b b2 b3 g g2 g3 g4 x x2 x3 x4 r r2 x5 r3 := by kernel_rfl
theorem made_l2_ok (N : Nat) {top : Bool} : LoopOK Try.prog made_B.c made_B.n made_B.m0 top (made_l2_L N) := loop_of_ev (Z := Int × Int × List Int × Int × Int × Int × Int × Int × Int × Int × Int × Int × Int × Int × Int × Qj × List Int) (N := N) (fun m p => made_l2 N m p.1.2.2.2.2.1 p.1.2.2.2.2.2.1 p.1.2.2.2.2.2.2.1 p.1.2.2.2.2.2.2.2.1 p.1.2.2.2.2.2.2.2.2.1 p.2.1.1 p.2.1.2.1 p.2.1.2.2.1 p.2.2.1.1 p.2.2.1.2.1 p.2.2.1.2.2.1 p.2.2.1.2.2.2.1 p.2.2.2.1.1 p.2.2.2.1.2.1 p.2.2.2.1.2.2.1 p.2.2.2.1.2.2.2.1 p.2.2.2.2.1.1 p.2.2.2.2.1.2.1 p.2.2.2.2.2.1 p.2.2.2.2.2.2.1) (fun e => .inl (((), (), (), (), e.1, e.2.1, ()), ((e.2.2.1, e.2.2.2.1, e.2.2.2.2.1, ()), (e.2.2.2.2.2.1, e.2.2.2.2.2.2.1, e.2.2.2.2.2.2.2.1, e.2.2.2.2.2.2.2.2.1, (), ()), (e.2.2.2.2.2.2.2.2.2.1, e.2.2.2.2.2.2.2.2.2.2.1, e.2.2.2.2.2.2.2.2.2.2.2.1, e.2.2.2.2.2.2.2.2.2.2.2.2.1, (), ()), (e.2.2.2.2.2.2.2.2.2.2.2.2.2.1, e.2.2.2.2.2.2.2.2.2.2.2.2.2.2.1, (), ()), e.2.2.2.2.2.2.2.2.2.2.2.2.2.2.2.1, e.2.2.2.2.2.2.2.2.2.2.2.2.2.2.2.2, ()))) (fun _ _ _ => rfl) (fun _ => rfl) (fun m z E Xc hE hX hrec hx => leaf_of_ev (B := made_B) (loops := []) (leaves := [made_l2_h (made_l2 N m), made_l2_e0, made_j1_k N (made_l2 N m)]) (made_all N) mixed trivial hE hX ⟨hrec, (fun p hp => by obtain rfl := Option.some.inj hp; exact hx), made_j1_lf N _ hE hX hrec (fun p hp => by obtain rfl := Option.some.inj hp; exact hx), trivial⟩ RetOK.no (fun p => made_l2_eq N m p.1.2.2.2.2.1 p.1.2.2.2.2.2.1 p.1.2.2.2.2.2.2.1 p.1.2.2.2.2.2.2.2.1 p.1.2.2.2.2.2.2.2.2.1 p.2.1.1 p.2.1.2.1 p.2.1.2.2.1 p.2.2.1.1 p.2.2.1.2.1 p.2.2.1.2.2.1 p.2.2.1.2.2.2.1 p.2.2.2.1.1 p.2.2.2.1.2.1 p.2.2.2.1.2.2.1 p.2.2.2.1.2.2.2.1 p.2.2.2.2.1.1 p.2.2.2.2.1.2.1 p.2.2.2.2.2.1 p.2.2.2.2.2.2.1))
abbrev made_l1_at : List PI := [.c [1, 1, 0, 1, 0, 0, 0], .c [1, 1, 0, 1, 0, 0, 1], .l [1, 1, 0, 1, 0, 0], .b 0, .c [1, 1, 1]]
abbrev made_l1_st : Sta := ⟨[0, 4, 5, 20, 21], ⟨[.own 0 0, .own 1 0, .own 2 0, .i .i64, .i .i64], [.segs [.sl (.int .u8), .i .i64, .i .u32], .segs [.i .i64, .i .i64, .i .i64, .i .i64, .nils], .segs [.i .i64, .i .i64, .i .i64, .i .i64, .ols 3], .lst Qk]⟩⟩
abbrev made_l1_h (rec : Int → Int → Qe → Int → Int → Int → Int → Int → Int → Int → Int → Int → Int → Qj → Option (List Int × Int × Int × Int × Int × Int × Int × Int × Int × Int × Int × Qj)) : Leaf (List Int × Int × Int × Int × Int × Int × Int × Int × Int × Int × Int × Qj) := ⟨made_l1_at, made_l1_st, fun p => rec p.1.2.2.2.1 p.1.2.2.2.2.1 p.2.1.1 p.2.1.2.1 p.2.1.2.2.1 p.2.2.1.1 p.2.2.1.2.1 p.2.2.1.2.2.1 p.2.2.1.2.2.2.1 p.2.2.2.1.1 p.2.2.2.1.2.1 p.2.2.2.1.2.2.1 p.2.2.2.1.2.2.2.1 p.2.2.2.2.1⟩
abbrev made_l1_e0 : Leaf (List Int × Int × Int × Int × Int × Int × Int × Int × Int × Int × Int × Qj) := ⟨[.c [1, 1, 1, 0], .c [1, 1, 1, 1]], ⟨[4, 5], ⟨[.own 1 0, .own 2 0], [.segs [.sl (.int .u8), .i .i64, .i .u32], .segs [.i .i64, .i .i64, .i .i64, .i .i64, .nils], .segs [.i .i64, .i .i64, .i .i64, .i .i64, .ols 3], .lst Qk]⟩⟩, fun p => some ((p.2.1.1, p.2.1.2.1, p.2.1.2.2.1, p.2.2.1.1, p.2.2.1.2.1, p.2.2.1.2.2.1, p.2.2.1.2.2.2.1, p.2.2.2.1.1, p.2.2.2.1.2.1, p.2.2.2.1.2.2.1, p.2.2.2.1.2.2.2.1, p.2.2.2.2.1))⟩
noncomputable def made_l1_L (N : Nat) : LoopS := { at_ := made_l1_at, sta := made_l1_st, exits := [([.c [1, 1, 1, 0], .c [1, 1, 1, 1]], ⟨[4, 5], ⟨[.own 1 0, .own 2 0], [.segs [.sl (.int .u8), .i .i64, .i .u32], .segs [.i .i64, .i .i64, .i .i64, .i .i64, .nils], .segs [.i .i64, .i .i64, .i .i64, .i .i64, .ols 3], .lst Qk]⟩⟩)], run := fun p k => (made_l1 N N p.1.2.2.2.1 p.1.2.2.2.2.1 p.2.1.1 p.2.1.2.1 p.2.1.2.2.1 p.2.2.1.1 p.2.2.1.2.1 p.2.2.1.2.2.1 p.2.2.1.2.2.2.1 p.2.2.2.1.1 p.2.2.2.1.2.1 p.2.2.2.1.2.2.1 p.2.2.2.1.2.2.2.1 p.2.2.2.2.1).bind fun e => k (.inl (((), (), ()), ((e.1, e.2.1, e.2.2.1, ()), (e.2.2.2.1, e.2.2.2.2.1, e.2.2.2.2.2.1, e.2.2.2.2.2.2.1, (), ()), (e.2.2.2.2.2.2.2.1, e.2.2.2.2.2.2.2.2.1, e.2.2.2.2.2.2.2.2.2.1, e.2.2.2.2.2.2.2.2.2.2.1, (), ()), e.2.2.2.2.2.2.2.2.2.2.2, ()))) }
theorem made_l1_eq (N n_ : Nat) (u : Int) (u2 : Int) (b : List Int) (b2 : Int) (b3 : Int) (g : Int) (g2 : Int) (g3 : Int) (g4 : Int) (x : Int) (x2 : Int) (x3 : Int) (x4 : Int) (x5 : List QK) : ev (Z := List Int × Int × Int × Int × Int × Int × Int × Int × Int × Int × Int × Qj) Try.prog (made_sp N) made_B [made_l2_L N] [made_l1_h (made_l1 N n_), made_l1_e0] none 400 true made_l1_at (stL made_l1_st (((), (), (), u, u2, ()), ((b, b2, b3, ()), (g, g2, g3, g4, (), ()), (x, x2, x3, x4, (), ()), x5, ()))) (stH made_l1_st (((), (), (), u, u2, ()), ((b, b2, b3, ()), (g, g2, g3, g4, (), ()), (x, x2, x3, x4, (), ()), x5, ()))) = made_l1 N (n_ + 1) u u2 b b2 b3 g g2 g3 g4 x x2 x3 x4 x5 := by kernel_rfl
theorem made_l1_ok (N : Nat) {top : Bool} : LoopOK Try.prog made_B.c made_B.n made_B.m0 top (made_l1_L N) := loop_of_ev (Z := List Int × Int × Int × Int × Int × Int × Int × Int × Int × Int × Int × Qj) (N := N) (fun m p => made_l1 N m p.1.2.2.2.1 p.1.2.2.2.2.1 p.2.1.1 p.2.1.2.1 p.2.1.2.2.1 p.2.2.1.1 p.2.2.1.2.1 p.2.2.1.2.2.1 p.2.2.1.2.2.2.1 p.2.2.2.1.1 p.2.2.2.1.2.1 p.2.2.2.1.2.2.1 p.2.2.2.1.2.2.2.1 p.2.2.2.2.1) (fun e => .inl (((), (), ()), ((e.1, e.2.1, e.2.2.1, ()), (e.2.2.2.1, e.2.2.2.2.1, e.2.2.2.2.2.1, e.2.2.2.2.2.2.1, (), ()), (e.2.2.2.2.2.2.2.1, e.2.2.2.2.2.2.2.2.1, e.2.2.2.2.2.2.2.2.2.1, e.2.2.2.2.2.2.2.2.2.2.1, (), ()), e.2.2.2.2.2.2.2.2.2.2.2, ()))) (fun _ _ _ => rfl) (fun _ => rfl) (fun m z E Xc hE hX hrec hx => leaf_of_ev (B := made_B) (loops := [made_l2_L N]) (leaves := [made_l1_h (made_l1 N m), made_l1_e0]) (made_all N) mixed ⟨made_l2_ok N, trivial⟩ hE hX ⟨hrec, (fun p hp => by obtain rfl := Option.some.inj hp; exact hx), trivial⟩ RetOK.no (fun p => made_l1_eq N m p.1.2.2.2.1 p.1.2.2.2.2.1 p.2.1.1 p.2.1.2.1 p.2.1.2.2.1 p.2.2.1.1 p.2.2.1.2.1 p.2.2.1.2.2.1 p.2.2.1.2.2.2.1 p.2.2.2.1.1 p.2.2.2.1.2.1 p.2.2.2.1.2.2.1 p.2.2.2.1.2.2.2.1 p.2.2.2.2.1))
abbrev made_st : Sta := ⟨[0, 1], ⟨[.own 0 0, .i .i64], [.segs [.sl (.int .u8), .i .i64, .i .u32]]⟩⟩
theorem made_eq (N : Nat) (rounds : Int) (b : List Int) (b2 : Int) (b3 : Int) : ev (Z := Int × Int × Int × Int × List Int × Int × Int × Qj) Try.prog (made_sp N) made_B [made_l2_L N, made_l1_L N] [] (some made_rt) 400 false [.c [0], .c [1]] (stL made_st (((), rounds, ()), ((b, b2, b3, ()), ()))) (stH made_st (((), rounds, ()), ((b, b2, b3, ()), ()))) = made_S N rounds b b2 b3 := by kernel_rfl
noncomputable def sp_made (N : Nat) : Spec := { f := 16, ins := ⟨[.own 0 0, .i .i64], [.segs [.sl (.int .u8), .i .i64, .i .u32]]⟩, outs := [⟨[.agg [.i .i64, .i .i64, .i .i64, .i .i64, .ols 1]], [.segs [.sl (.int .u8), .i .i64, .i .u32], .lst Qk]⟩], run := fun p k => (made_S N p.1.2.1 p.2.1.1 p.2.1.2.1 p.2.1.2.2.1).bind fun r => k (((r.1, r.2.1, r.2.2.1, r.2.2.2.1, (), ()), ()), ((r.2.2.2.2.1, r.2.2.2.2.2.1, r.2.2.2.2.2.2.1, ()), r.2.2.2.2.2.2.2, ())) }
theorem sp_made_ok (N : Nat) : SpecOK Try.prog (sp_made N) := fn_sound (B := made_B) (loops := [made_l2_L N, made_l1_L N]) (leaves := []) (fun p => made_S N p.1.2.1 p.2.1.1 p.2.1.2.1 p.2.1.2.2.1) (fun r => (((r.1, r.2.1, r.2.2.1, r.2.2.2.1, (), ()), ()), ((r.2.2.2.2.1, r.2.2.2.2.2.1, r.2.2.2.2.2.2.1, ()), r.2.2.2.2.2.2.2, ()))) made_rt (fun _ _ _ => rfl) (fun r z h => by cases h; rfl) Try.func16 (by kernel_rfl) (by kernel_rfl) (by kernel_rfl) rfl rfl (by kernel_rfl) (fun args w => Sem.pv_run _ _ _ (by kernel_rfl) w) (made_all N) mixed ⟨made_l2_ok N, made_l1_ok N, trivial⟩ (fun z E Xc hE hX hret => trivial) (fun p => made_eq N p.1.2.1 p.2.1.1 p.2.1.2.1 p.2.1.2.2.1)

end Go.Proofs.Ytgeijboidfadaaa.Fe

namespace Go.Proofs.Ytgeijboidfadaaa
set_option linter.all false
open Go

noncomputable abbrev sp_fe_best := Fe.sp_best
theorem sp_fe_best_ok (N : Nat) : SpecOK Try.prog (sp_fe_best N) := Fe.sp_best_ok N
abbrev fe_best_S := Fe.best_S
noncomputable abbrev sp_fe_made := Fe.sp_made
theorem sp_fe_made_ok (N : Nat) : SpecOK Try.prog (sp_fe_made N) := Fe.sp_made_ok N
abbrev fe_made_S := Fe.made_S
def toverheard_l1 (N : Nat) : Nat → Qe → Int → Int → Int → Int → Int → Int → Qj → Option (List Int × Int × Int × Int × Int × Qj)
  | 0, _, _, _, _, _, _, _, _ => none
  | n_ + 1, lost, u, u2, b, b2, b3, b4, b5 =>
    br (decide (u2 < u))
      (rng u2 b5.length <|
      get b5 u2.toNat fun x_12 =>
      chk (u2 + x_12.1) <|
      rng (Int.tmod (u2 + x_12.1) 3) ([[0], [1], [0, 1]]).length <|
      get ([[0], [1], [0, 1]]) ((Int.tmod (u2 + x_12.1) 3).toNat) fun x_13 =>
      rng u2 b5.length <|
      get b5 u2.toNat fun z_14 =>
      chk (u2 + 1) <|
      toverheard_l1 N n_ lost u (u2 + 1) b b2 b3 b4 (b5.set u2.toNat (z_14.1, z_14.2.1, x_13)))
      (some ((lost, b, b2, b3, b4, b5)))
def toverheard_j1 (N : Nat) (rec : Qe → Qe → Int → Int → Qe → Int → Int → Int → Qe → Qe → Qe → Qe → Option ((Unit) ⊕ Qr)) (share : List Int) (u : List Int) (u2 : Int) (u3 : Int) (q : List Int) (q2 : Int) (q3 : Int) (x : Int) (want : List Int) (x2 : List Int) (x3 : List Int) (x4 : List Int) : Option ((Unit) ⊕ Qr) :=
  chk (u3 + 1) <|
  rec share u u2 (u3 + 1) q q2 q3 x want x2 x3 x4
def toverheard_l2 (N : Nat) : Nat → Qe → Qe → Int → Int → Qe → Int → Int → Int → Qe → Qe → Qe → Qe → Option ((Unit) ⊕ Qr)
  | 0, _, _, _, _, _, _, _, _, _, _, _, _ => none
  | n_ + 1, share, u, u2, u3, q, q2, q3, x, want, x2, x3, x4 =>
    br (decide (u3 < u2))
      (idx u u3 fun x_27 =>
      br (!decide (x_27 = 0))
        (br (!decide (x_27 = 1))
          (some (.inl ()))
          (br (decide (x_27 = (0 : Int)))
            (lim (x3.length + [u3].length) <|
            br (decide (x_27 = (0 : Int)))
              ((seldom_S N 3 q q2 q3).bind fun (x_28, y_29, y_30, y_31) =>
              br (!x_28)
                (lim (x2.length + [u3].length) <|
                chk (1 + x_27) <|
                lim (want.length + [(1 + x_27)].length) <|
                toverheard_j1 N (toverheard_l2 N n_) share u u2 u3 y_29 y_30 y_31 x (want ++ [(1 + x_27)]) (x2 ++ [u3]) (x3 ++ [u3]) x4)
                (toverheard_j1 N (toverheard_l2 N n_) share u u2 u3 y_29 y_30 y_31 x want x2 (x3 ++ [u3]) x4))
              (br (decide (x_27 = (1 : Int)))
                ((seldom_S N 3 q q2 q3).bind fun (x_32, y_33, y_34, y_35) =>
                br (!x_32)
                  (lim (x2.length + [u3].length) <|
                  chk (1 + x_27) <|
                  lim (want.length + [(1 + x_27)].length) <|
                  none)
                  (none))
                (none)))
            (br (decide (x_27 = (1 : Int)))
              (lim (x4.length + [u3].length) <|
              br (decide (x_27 = (0 : Int)))
                ((seldom_S N 3 q q2 q3).bind fun (x_36, y_37, y_38, y_39) =>
                br (!x_36)
                  (lim (x2.length + [u3].length) <|
                  chk (1 + x_27) <|
                  lim (want.length + [(1 + x_27)].length) <|
                  none)
                  (none))
                (br (decide (x_27 = (1 : Int)))
                  ((seldom_S N 3 q q2 q3).bind fun (x_40, y_41, y_42, y_43) =>
                  br (!x_40)
                    (lim (x2.length + [u3].length) <|
                    chk (1 + x_27) <|
                    lim (want.length + [(1 + x_27)].length) <|
                    toverheard_j1 N (toverheard_l2 N n_) share u u2 u3 y_41 y_42 y_43 x (want ++ [(1 + x_27)]) (x2 ++ [u3]) x3 (x4 ++ [u3]))
                    (toverheard_j1 N (toverheard_l2 N n_) share u u2 u3 y_41 y_42 y_43 x want x2 x3 (x4 ++ [u3])))
                  (none)))
              (none))))
        (br (decide (x_27 = (0 : Int)))
          (lim (x3.length + [u3].length) <|
          br (decide (x_27 = (0 : Int)))
            ((seldom_S N 3 q q2 q3).bind fun (x_44, y_45, y_46, y_47) =>
            br (!x_44)
              (lim (x2.length + [u3].length) <|
              chk (1 + x_27) <|
              lim (want.length + [(1 + x_27)].length) <|
              toverheard_j1 N (toverheard_l2 N n_) share u u2 u3 y_45 y_46 y_47 x (want ++ [(1 + x_27)]) (x2 ++ [u3]) (x3 ++ [u3]) x4)
              (toverheard_j1 N (toverheard_l2 N n_) share u u2 u3 y_45 y_46 y_47 x want x2 (x3 ++ [u3]) x4))
            (br (decide (x_27 = (1 : Int)))
              ((seldom_S N 3 q q2 q3).bind fun (x_48, y_49, y_50, y_51) =>
              br (!x_48)
                (lim (x2.length + [u3].length) <|
                chk (1 + x_27) <|
                lim (want.length + [(1 + x_27)].length) <|
                none)
                (none))
              (none)))
          (br (decide (x_27 = (1 : Int)))
            (lim (x4.length + [u3].length) <|
            br (decide (x_27 = (0 : Int)))
              ((seldom_S N 3 q q2 q3).bind fun (x_52, y_53, y_54, y_55) =>
              br (!x_52)
                (lim (x2.length + [u3].length) <|
                chk (1 + x_27) <|
                lim (want.length + [(1 + x_27)].length) <|
                none)
                (none))
              (br (decide (x_27 = (1 : Int)))
                ((seldom_S N 3 q q2 q3).bind fun (x_56, y_57, y_58, y_59) =>
                br (!x_56)
                  (lim (x2.length + [u3].length) <|
                  chk (1 + x_27) <|
                  lim (want.length + [(1 + x_27)].length) <|
                  toverheard_j1 N (toverheard_l2 N n_) share u u2 u3 y_57 y_58 y_59 x (want ++ [(1 + x_27)]) (x2 ++ [u3]) x3 (x4 ++ [u3]))
                  (toverheard_j1 N (toverheard_l2 N n_) share u u2 u3 y_57 y_58 y_59 x want x2 x3 (x4 ++ [u3])))
                (none)))
            (none))))
      (some (.inr (share, x, want, x2, x3, x4)))
def toverheard_S (N : Nat) (numbers : List Int) (lost : List Int) : Option Bool :=
  (hang_S N numbers).bind fun (x_1, y_2, y_3) =>
  (fe_made_S N 7 x_1 y_2 y_3).bind fun (x_4, y_5, y_6, y_7, y_8, y_9, y_10, y_11) =>
  (toverheard_l1 N N lost (y_11.length : Int) 0 2 y_5 y_6 y_7 y_11).bind fun (lost_15, b_16, b2_17, b3_18, b4_19, b5_20) =>
  (hang_S N lost_15).bind fun (x_21, y_22, y_23) =>
  (fe_best_S N b_16 b2_17 b3_18 b4_19 b5_20).bind fun (x_24, y_25, y_26) =>
  br (!decide (y_26 = 0))
    (some false)
    (br (!decide ((x_24.length : Int) = (b5_20.length : Int)))
      (some false)
      ((toverheard_l2 N N x_24 x_24 (x_24.length : Int) 0 x_21 y_22 y_23 0 [] [] [] []).bind fun e => match e with
      | .inl _ =>
        some false
      | .inr (share_60, x_61, want_62, x2_63, x3_64, x4_65) =>
        br (decide ((x3_64.length : Int) = 0))
          ((awake10_S N).bind fun x_66 =>
          some x_66)
          (br (decide ((x4_65.length : Int) = 0))
            ((awake10_S N).bind fun x_67 =>
            some x_67)
            (br (decide (6 < (max (x3_64.length : Int) (x4_65.length : Int))))
              ((awake10_S N).bind fun x_68 =>
              some x_68)
              ((least_S N [x3_64, x4_65] x2_63 x_61 0 1).bind fun (x_69, y_70) =>
              (count_S N [x3_64, x4_65] x2_63 x_61 0 1).bind fun (x_71, y_72) =>
              (sure_S N [x3_64, x4_65] x2_63 x_61 0 1).bind fun (x_73, y_74) =>
              br (decide (y_70 = 0))
                (br (decide (y_72 = 0))
                  (br (decide (y_74 = 0))
                    (chk ((share_60.length : Int) - (x2_63.length : Int)) <|
                    br (decide (x_69 = ((share_60.length : Int) - (x2_63.length : Int))))
                      (br (decide (x_71 = 1))
                        ((likes_S N x_73 want_62).bind fun x_75 =>
                        br x_75
                          ((awake10_S N).bind fun x_76 =>
                          some x_76)
                          (some false))
                        (some false))
                      (some false))
                    (some false))
                  (some false))
                (some false))))))
noncomputable def toverheard_sp (N : Nat) : List Spec := [sp_rowon1 N, sp_seldom N, sp_hang N, sp_likes N, sp_least N, sp_count N, sp_sure N, sp_awake10 N, sp_fe_best N, sp_fe_made N]
theorem toverheard_all (N : Nat) : AllP (SpecOK Try.prog) (toverheard_sp N) := ⟨sp_rowon1_ok N, sp_seldom_ok N, sp_hang_ok N, sp_likes_ok N, sp_least_ok N, sp_count_ok N, sp_sure_ok N, sp_awake10_ok N, sp_fe_best_ok N, sp_fe_made_ok N, trivial⟩
noncomputable def toverheard_c : Code := (Try.f4.body).getD .skip
noncomputable abbrev toverheard_B : Body := { c := toverheard_c, n := 190, res := [.tmp 4], outs := [⟨[.b], []⟩], m0 := 0 }
abbrev toverheard_rt : altD toverheard_B.outs → Option Bool := fun r => some r.1.1
abbrev toverheard_l1_at : List PI := [.c [1, 1, 1, 0, 1, 0, 0, 0], .c [1, 1, 1, 0, 1, 0, 0, 1], .l [1, 1, 1, 0, 1, 0, 0], .b 0, .c [1, 1, 1, 1]]
abbrev toverheard_l1_st : Sta := ⟨[1, 5, 26, 27], ⟨[.sl (.int .u8), .own 0 0, .i .i64, .i .i64], [.segs [.i .i64, .i .i64, .i .i64, .i .i64, .ols 1], .lst Qk]⟩⟩
abbrev toverheard_l1_h (rec : Qe → Int → Int → Int → Int → Int → Int → Qj → Option (List Int × Int × Int × Int × Int × Qj)) : Leaf (List Int × Int × Int × Int × Int × Qj) := ⟨toverheard_l1_at, toverheard_l1_st, fun p => rec p.1.1 p.1.2.2.1 p.1.2.2.2.1 p.2.1.1 p.2.1.2.1 p.2.1.2.2.1 p.2.1.2.2.2.1 p.2.2.1⟩
abbrev toverheard_l1_e0 : Leaf (List Int × Int × Int × Int × Int × Qj) := ⟨[.c [1, 1, 1, 1, 0], .c [1, 1, 1, 1, 1]], ⟨[1, 5], ⟨[.sl (.int .u8), .own 0 0], [.segs [.i .i64, .i .i64, .i .i64, .i .i64, .ols 1], .lst Qk]⟩⟩, fun p => some ((p.1.1, p.2.1.1, p.2.1.2.1, p.2.1.2.2.1, p.2.1.2.2.2.1, p.2.2.1))⟩
noncomputable def toverheard_l1_L (N : Nat) : LoopS := { at_ := toverheard_l1_at, sta := toverheard_l1_st, exits := [([.c [1, 1, 1, 1, 0], .c [1, 1, 1, 1, 1]], ⟨[1, 5], ⟨[.sl (.int .u8), .own 0 0], [.segs [.i .i64, .i .i64, .i .i64, .i .i64, .ols 1], .lst Qk]⟩⟩)], run := fun p k => (toverheard_l1 N N p.1.1 p.1.2.2.1 p.1.2.2.2.1 p.2.1.1 p.2.1.2.1 p.2.1.2.2.1 p.2.1.2.2.2.1 p.2.2.1).bind fun e => k (.inl ((e.1, (), ()), ((e.2.1, e.2.2.1, e.2.2.2.1, e.2.2.2.2.1, (), ()), e.2.2.2.2.2, ()))) }
theorem toverheard_l1_eq (N n_ : Nat) (lost : List Int) (u : Int) (u2 : Int) (b : Int) (b2 : Int) (b3 : Int) (b4 : Int) (b5 : List QK) : ev (Z := List Int × Int × Int × Int × Int × Qj) Try.prog (toverheard_sp N) toverheard_B [] [toverheard_l1_h (toverheard_l1 N n_), toverheard_l1_e0] none 400 true toverheard_l1_at (stL toverheard_l1_st ((lost, (), u, u2, ()), ((b, b2, b3, b4, (), ()), b5, ()))) (stH toverheard_l1_st ((lost, (), u, u2, ()), ((b, b2, b3, b4, (), ()), b5, ()))) = toverheard_l1 N (n_ + 1) lost u u2 b b2 b3 b4 b5 := by kernel_rfl
theorem toverheard_l1_ok (N : Nat) {top : Bool} : LoopOK Try.prog toverheard_B.c toverheard_B.n toverheard_B.m0 top (toverheard_l1_L N) := loop_of_ev (Z := List Int × Int × Int × Int × Int × Qj) (N := N) (fun m p => toverheard_l1 N m p.1.1 p.1.2.2.1 p.1.2.2.2.1 p.2.1.1 p.2.1.2.1 p.2.1.2.2.1 p.2.1.2.2.2.1 p.2.2.1) (fun e => .inl ((e.1, (), ()), ((e.2.1, e.2.2.1, e.2.2.2.1, e.2.2.2.2.1, (), ()), e.2.2.2.2.2, ()))) (fun _ _ _ => rfl) (fun _ => rfl) (fun m z E Xc hE hX hrec hx => leaf_of_ev (B := toverheard_B) (loops := []) (leaves := [toverheard_l1_h (toverheard_l1 N m), toverheard_l1_e0]) (toverheard_all N) mixed trivial hE hX ⟨hrec, (fun p hp => by obtain rfl := Option.some.inj hp; exact hx), trivial⟩ RetOK.no (fun p => toverheard_l1_eq N m p.1.1 p.1.2.2.1 p.1.2.2.2.1 p.2.1.1 p.2.1.2.1 p.2.1.2.2.1 p.2.1.2.2.2.1 p.2.2.1))
abbrev toverheard_l2_at : List PI := [.c [1, 1, 1, 1, 1, 1, 1, 1, 1, 0, 1, 0, 0, 0], .c [1, 1, 1, 1, 1, 1, 1, 1, 1, 0, 1, 0, 0, 1], .l [1, 1, 1, 1, 1, 1, 1, 1, 1, 0, 1, 0, 0], .b 2, .c [1, 1, 1, 1, 1, 1, 1, 1, 1, 1]]
abbrev toverheard_l2_st : Sta := ⟨[7, 8, 11, 12, 71, 72, 73], ⟨[.own 0 0, .sl (.int .i64), .own 1 0, .ols 2, .sl (.int .i64), .i .i64, .i .i64], [.segs [.sl (.int .u8), .i .i64, .i .u32], .segs [.osl 3 2, .ols 4, .i .i64], .lst (.int .i64), .segs [.ols 5, .ols 6], .lst (.int .i64), .lst (.int .i64), .lst (.int .i64)]⟩⟩
abbrev toverheard_l2_h (rec : Qe → Qe → Int → Int → Qe → Int → Int → Int → Qe → Qe → Qe → Qe → Option ((Unit) ⊕ Qr)) : Leaf ((Unit) ⊕ Qr) := ⟨toverheard_l2_at, toverheard_l2_st, fun p => rec p.1.2.1 p.1.2.2.2.2.1 p.1.2.2.2.2.2.1 p.1.2.2.2.2.2.2.1 p.2.1.1 p.2.1.2.1 p.2.1.2.2.1 p.2.2.1.2.2.1 p.2.2.2.1 p.2.2.2.2.2.1 p.2.2.2.2.2.2.1 p.2.2.2.2.2.2.2.1⟩
abbrev toverheard_l2_e0 : Leaf ((Unit) ⊕ Qr) := ⟨[.c [1, 1, 1, 1, 1, 1, 1, 1, 1, 0, 1, 0, 0, 1, 1, 0, 0, 1, 0, 1, 0, 0], .c [1, 1, 1, 1, 1, 1, 1, 1, 1, 0, 1, 0, 0, 1, 1, 0, 0, 1, 0, 1, 0, 1], .c [1, 1, 1, 1, 1, 1, 1, 1, 1, 0, 1, 0, 0, 1, 1, 0, 0, 1, 1], .b 3, .c [1, 1, 1, 1, 1, 1, 1, 1, 1, 0, 1, 0, 0, 1, 1, 1], .l [1, 1, 1, 1, 1, 1, 1, 1, 1, 0, 1, 0, 0], .b 2, .c [1, 1, 1, 1, 1, 1, 1, 1, 1, 1]], ⟨[], ⟨[], []⟩⟩, fun p => some (.inl ())⟩
abbrev toverheard_l2_e1 : Leaf ((Unit) ⊕ Qr) := ⟨[.c [1, 1, 1, 1, 1, 1, 1, 1, 1, 1, 0, 0], .c [1, 1, 1, 1, 1, 1, 1, 1, 1, 1, 0, 1], .c [1, 1, 1, 1, 1, 1, 1, 1, 1, 1, 1]], ⟨[8, 11, 12], ⟨[.sl (.int .i64), .own 0 0, .ols 1], [.segs [.osl 2 2, .ols 3, .i .i64], .lst (.int .i64), .segs [.ols 4, .ols 5], .lst (.int .i64), .lst (.int .i64), .lst (.int .i64)]⟩⟩, fun p => some (.inr (p.1.1, p.2.1.2.2.1, p.2.2.1, p.2.2.2.2.1, p.2.2.2.2.2.1, p.2.2.2.2.2.2.1))⟩
abbrev toverheard_j1_at : List PI := [.c [1, 1, 1, 1, 1, 1, 1, 1, 1, 0, 1, 0, 0, 1, 1, 1], .l [1, 1, 1, 1, 1, 1, 1, 1, 1, 0, 1, 0, 0], .b 2, .c [1, 1, 1, 1, 1, 1, 1, 1, 1, 1]]
abbrev toverheard_j1_st : Sta := ⟨[7, 8, 11, 12, 71, 72, 73], ⟨[.own 0 0, .sl (.int .i64), .own 1 0, .ols 2, .sl (.int .i64), .i .i64, .i .i64], [.segs [.sl (.int .u8), .i .i64, .i .u32], .segs [.osl 3 2, .ols 4, .i .i64], .lst (.int .i64), .segs [.ols 5, .ols 6], .lst (.int .i64), .lst (.int .i64), .lst (.int .i64)]⟩⟩
abbrev toverheard_j1_k (N : Nat) (rec : Qe → Qe → Int → Int → Qe → Int → Int → Int → Qe → Qe → Qe → Qe → Option ((Unit) ⊕ Qr)) : Leaf ((Unit) ⊕ Qr) := ⟨toverheard_j1_at, toverheard_j1_st, fun p => toverheard_j1 N rec p.1.2.1 p.1.2.2.2.2.1 p.1.2.2.2.2.2.1 p.1.2.2.2.2.2.2.1 p.2.1.1 p.2.1.2.1 p.2.1.2.2.1 p.2.2.1.2.2.1 p.2.2.2.1 p.2.2.2.2.2.1 p.2.2.2.2.2.2.1 p.2.2.2.2.2.2.2.1⟩
theorem toverheard_j1_eq (N : Nat) (rec : Qe → Qe → Int → Int → Qe → Int → Int → Int → Qe → Qe → Qe → Qe → Option ((Unit) ⊕ Qr)) (share : List Int) (u : List Int) (u2 : Int) (u3 : Int) (q : List Int) (q2 : Int) (q3 : Int) (x : Int) (want : List Int) (x2 : List Int) (x3 : List Int) (x4 : List Int) : ev (Z := (Unit) ⊕ Qr) Try.prog (toverheard_sp N) toverheard_B [toverheard_l1_L N] [toverheard_l2_h rec, toverheard_l2_e0, toverheard_l2_e1] none 400 true toverheard_j1_at (stL toverheard_j1_st (((), share, (), (), u, u2, u3, ()), ((q, q2, q3, ()), ((), (), x, ()), want, ((), (), ()), x2, x3, x4, ()))) (stH toverheard_j1_st (((), share, (), (), u, u2, u3, ()), ((q, q2, q3, ()), ((), (), x, ()), want, ((), (), ()), x2, x3, x4, ()))) = toverheard_j1 N rec share u u2 u3 q q2 q3 x want x2 x3 x4 := by kernel_rfl
theorem toverheard_j1_lf (N : Nat) (rec : Qe → Qe → Int → Int → Qe → Int → Int → Int → Qe → Qe → Qe → Qe → Option ((Unit) ⊕ Qr)) {z : (Unit) ⊕ Qr} {top : Bool} {E : EE} {Xc : Ctx} (hE : EOK toverheard_B.m0 E) (hX : CxOK top Xc) (hrec : LeafOK Try.prog toverheard_B.c toverheard_B.n toverheard_B.m0 E Xc z (toverheard_l2_h rec)) (h0 : LeafOK Try.prog toverheard_B.c toverheard_B.n toverheard_B.m0 E Xc z toverheard_l2_e0) (h1 : LeafOK Try.prog toverheard_B.c toverheard_B.n toverheard_B.m0 E Xc z toverheard_l2_e1) : LeafOK Try.prog toverheard_B.c toverheard_B.n toverheard_B.m0 E Xc z (toverheard_j1_k N rec) := leaf_of_ev (B := toverheard_B) (loops := [toverheard_l1_L N]) (leaves := [toverheard_l2_h rec, toverheard_l2_e0, toverheard_l2_e1]) (toverheard_all N) mixed ⟨toverheard_l1_ok N, trivial⟩ hE hX ⟨hrec, h0, h1, trivial⟩ RetOK.no (fun p => toverheard_j1_eq N rec p.1.2.1 p.1.2.2.2.2.1 p.1.2.2.2.2.2.1 p.1.2.2.2.2.2.2.1 p.2.1.1 p.2.1.2.1 p.2.1.2.2.1 p.2.2.1.2.2.1 p.2.2.2.1 p.2.2.2.2.2.1 p.2.2.2.2.2.2.1 p.2.2.2.2.2.2.2.1)
noncomputable def toverheard_l2_L (N : Nat) : LoopS := { at_ := toverheard_l2_at, sta := toverheard_l2_st, exits := [([.c [1, 1, 1, 1, 1, 1, 1, 1, 1, 0, 1, 0, 0, 1, 1, 0, 0, 1, 0, 1, 0, 0], .c [1, 1, 1, 1, 1, 1, 1, 1, 1, 0, 1, 0, 0, 1, 1, 0, 0, 1, 0, 1, 0, 1], .c [1, 1, 1, 1, 1, 1, 1, 1, 1, 0, 1, 0, 0, 1, 1, 0, 0, 1, 1], .b 3, .c [1, 1, 1, 1, 1, 1, 1, 1, 1, 0, 1, 0, 0, 1, 1, 1], .l [1, 1, 1, 1, 1, 1, 1, 1, 1, 0, 1, 0, 0], .b 2, .c [1, 1, 1, 1, 1, 1, 1, 1, 1, 1]], ⟨[], ⟨[], []⟩⟩), ([.c [1, 1, 1, 1, 1, 1, 1, 1, 1, 1, 0, 0], .c [1, 1, 1, 1, 1, 1, 1, 1, 1, 1, 0, 1], .c [1, 1, 1, 1, 1, 1, 1, 1, 1, 1, 1]], ⟨[8, 11, 12], ⟨[.sl (.int .i64), .own 0 0, .ols 1], [.segs [.osl 2 2, .ols 3, .i .i64], .lst (.int .i64), .segs [.ols 4, .ols 5], .lst (.int .i64), .lst (.int .i64), .lst (.int .i64)]⟩⟩)], run := fun p k => (toverheard_l2 N N p.1.2.1 p.1.2.2.2.2.1 p.1.2.2.2.2.2.1 p.1.2.2.2.2.2.2.1 p.2.1.1 p.2.1.2.1 p.2.1.2.2.1 p.2.2.1.2.2.1 p.2.2.2.1 p.2.2.2.2.2.1 p.2.2.2.2.2.2.1 p.2.2.2.2.2.2.2.1).bind fun e => match e with | .inl x => k (.inl ((), ())) | .inr x => k (.inr (.inl ((x.1, (), (), ()), (((), (), x.2.1, ()), x.2.2.1, ((), (), ()), x.2.2.2.1, x.2.2.2.2.1, x.2.2.2.2.2, ())))) }
theorem toverheard_l2_eq (N n_ : Nat) (share : List Int) (u : List Int) (u2 : Int) (u3 : Int) (q : List Int) (q2 : Int) (q3 : Int) (x : Int) (want : List Int) (x2 : List Int) (x3 : List Int) (x4 : List Int) : ev (Z := (Unit) ⊕ Qr) Try.prog (toverheard_sp N) toverheard_B [toverheard_l1_L N] [toverheard_l2_h (toverheard_l2 N n_), toverheard_l2_e0, toverheard_l2_e1, toverheard_j1_k N (toverheard_l2 N n_)] none 400 true toverheard_l2_at (stL toverheard_l2_st (((), share, (), (), u, u2, u3, ()), ((q, q2, q3, ()), ((), (), x, ()), want, ((), (), ()), x2, x3, x4, ()))) (stH toverheard_l2_st (((), share, (), (), u, u2, u3, ()), ((q, q2, q3, ()), ((), (), x, ()), want, ((), (), ()), x2, x3, x4, ()))) = toverheard_l2 N (n_ + 1) share u u2 u3 q q2 q3 x want x2 x3 x4 := by kernel_rfl
theorem toverheard_l2_ok (N : Nat) {top : Bool} : LoopOK Try.prog toverheard_B.c toverheard_B.n toverheard_B.m0 top (toverheard_l2_L N) := loop_of_ev (Z := (Unit) ⊕ Qr) (N := N) (fun m p => toverheard_l2 N m p.1.2.1 p.1.2.2.2.2.1 p.1.2.2.2.2.2.1 p.1.2.2.2.2.2.2.1 p.2.1.1 p.2.1.2.1 p.2.1.2.2.1 p.2.2.1.2.2.1 p.2.2.2.1 p.2.2.2.2.2.1 p.2.2.2.2.2.2.1 p.2.2.2.2.2.2.2.1) (fun e => match e with | .inl x => .inl ((), ()) | .inr x => .inr (.inl ((x.1, (), (), ()), (((), (), x.2.1, ()), x.2.2.1, ((), (), ()), x.2.2.2.1, x.2.2.2.2.1, x.2.2.2.2.2, ())))) (fun _ p k => bind_congr_ (toverheard_l2 N N p.1.2.1 p.1.2.2.2.2.1 p.1.2.2.2.2.2.1 p.1.2.2.2.2.2.2.1 p.2.1.1 p.2.1.2.1 p.2.1.2.2.1 p.2.2.1.2.2.1 p.2.2.2.1 p.2.2.2.2.2.1 p.2.2.2.2.2.2.1 p.2.2.2.2.2.2.2.1) _ _ (fun e => by rcases e with x | x <;> rfl)) (fun _ => rfl) (fun m z E Xc hE hX hrec hx => leaf_of_ev (B := toverheard_B) (loops := [toverheard_l1_L N]) (leaves := [toverheard_l2_h (toverheard_l2 N m), toverheard_l2_e0, toverheard_l2_e1, toverheard_j1_k N (toverheard_l2 N m)]) (toverheard_all N) mixed ⟨toverheard_l1_ok N, trivial⟩ hE hX ⟨hrec, (fun p hp => by obtain rfl := Option.some.inj hp; exact hx), (fun p hp => by obtain rfl := Option.some.inj hp; exact hx), toverheard_j1_lf N _ hE hX hrec (fun p hp => by obtain rfl := Option.some.inj hp; exact hx) (fun p hp => by obtain rfl := Option.some.inj hp; exact hx), trivial⟩ RetOK.no (fun p => toverheard_l2_eq N m p.1.2.1 p.1.2.2.2.2.1 p.1.2.2.2.2.2.1 p.1.2.2.2.2.2.2.1 p.2.1.1 p.2.1.2.1 p.2.1.2.2.1 p.2.2.1.2.2.1 p.2.2.2.1 p.2.2.2.2.2.1 p.2.2.2.2.2.2.1 p.2.2.2.2.2.2.2.1))
abbrev toverheard_st : Sta := ⟨[0, 1], ⟨[.sl (.int .u8), .sl (.int .u8)], []⟩⟩
theorem toverheard_eq (N : Nat) (numbers : List Int) (lost : List Int) : ev (Z := Bool) Try.prog (toverheard_sp N) toverheard_B [toverheard_l1_L N, toverheard_l2_L N] [] (some toverheard_rt) 400 false [.c [0], .c [1]] (stL toverheard_st ((numbers, lost, ()), ())) (stH toverheard_st ((numbers, lost, ()), ())) = toverheard_S N numbers lost := by kernel_rfl
noncomputable def sp_toverheard (N : Nat) : Spec := { f := 4, ins := ⟨[.sl (.int .u8), .sl (.int .u8)], []⟩, outs := [⟨[.b], []⟩], run := fun p k => (toverheard_S N p.1.1 p.1.2.1).bind fun r => k ((r, ()), ()) }
theorem sp_toverheard_ok (N : Nat) : SpecOK Try.prog (sp_toverheard N) := fn_sound (B := toverheard_B) (loops := [toverheard_l1_L N, toverheard_l2_L N]) (leaves := []) (fun p => toverheard_S N p.1.1 p.1.2.1) (fun r => ((r, ()), ())) toverheard_rt (fun _ _ _ => rfl) (fun r z h => by cases h; rfl) Try.func4 (by kernel_rfl) (by kernel_rfl) (by kernel_rfl) rfl rfl (by kernel_rfl) (fun args w => Sem.pv_run _ _ _ (by kernel_rfl) w) (toverheard_all N) mixed ⟨toverheard_l1_ok N, toverheard_l2_ok N, trivial⟩ (fun z E Xc hE hX hret => trivial) (fun p => toverheard_eq N p.1.1 p.1.2.1)

end Go.Proofs.Ytgeijboidfadaaa

/-
  Parts of a proof, put together: E4, Pl12, Pl13, Pl14, Pl15, E6.
  Conditions: none.
-/
import Derived.Test.YtfcnhnbnjdccfaaZd
import Derived.Test.YtfcnhnbnjdccfaaZe
namespace Go.Proofs.Ytfcnhnbnjdccfaa
set_option linter.all false
open Go

def off_S (N : Nat) (n : Int) (lo : Int) (hi : Int) : Option Bool :=
  br (decide (n < lo))
    (some true)
    (some (decide (hi < n)))
noncomputable def off_sp (N : Nat) : List Spec := []
theorem off_all (N : Nat) : AllP (SpecOK Try.prog) (off_sp N) := trivial
noncomputable def off_c : Code := (Try.f96.body).getD .skip
noncomputable abbrev off_B : Body := { c := off_c, n := 15, res := [.tmp 6], outs := [⟨[.b], []⟩], m0 := 0 }
abbrev off_rt : altD off_B.outs → Option Bool := fun r => some r.1.1
abbrev off_st : Sta := ⟨[0, 1, 2], ⟨[.i .i64, .i .i64, .i .i64], []⟩⟩
theorem off_eq (N : Nat) (n : Int) (lo : Int) (hi : Int) : ev (Z := Bool) Try.prog (off_sp N) off_B [] [] (some off_rt) 400 false [.c [0], .c [1]] (stL off_st ((n, lo, hi, ()), ())) (stH off_st ((n, lo, hi, ()), ())) = off_S N n lo hi := by kernel_rfl
noncomputable def sp_off (N : Nat) : Spec := { f := 96, ins := ⟨[.i .i64, .i .i64, .i .i64], []⟩, outs := [⟨[.b], []⟩], run := fun p k => (off_S N p.1.1 p.1.2.1 p.1.2.2.1).bind fun r => k ((r, ()), ()) }
theorem sp_off_ok (N : Nat) : SpecOK Try.prog (sp_off N) := fn_sound (B := off_B) (loops := []) (leaves := []) (fun p => off_S N p.1.1 p.1.2.1 p.1.2.2.1) (fun r => ((r, ()), ())) off_rt (fun _ _ _ => rfl) (fun r z h => by cases h; rfl) Try.func96 (by kernel_rfl) (by kernel_rfl) (by kernel_rfl) rfl rfl (by kernel_rfl) (fun args w => Sem.pv_run _ _ _ (by kernel_rfl) w) (off_all N) mixed trivial (fun z E Xc hE hX hret => trivial) (fun p => off_eq N p.1.1 p.1.2.1 p.1.2.2.1)

def rcheck_l1 (N : Nat) : Nat → Int → (List (List Int)) → (List Int) → Int → Option ((Unit) ⊕ (List (List Int) × List Int × Int))
  | 0, _, _, _, _ => none
  | n_ + 1, t, e, e2, e3 =>
    br (decide (t < (e.length : Int)))
      (idx e t fun x_2 =>
      (off_S N (x_2.length : Int) 1 6).bind fun x_3 =>
      br x_3
        (some (.inl ()))
        (chk (t + 1) <|
        rcheck_l1 N n_ (t + 1) e e2 e3))
      (some (.inr (e, e2, e3)))
def rcheck_l3 (N : Nat) : Nat → Int → Int → (List (List Int)) → (List Int) → Int → Option ((Unit) ⊕ (Int × List (List Int) × List Int × Int))
  | 0, _, _, _, _, _ => none
  | n_ + 1, t, k, e, e2, e3 =>
    idx e t fun x_7 =>
    br (decide (k < (x_7.length : Int)))
      (idx e t fun x_8 =>
      idx x_8 k fun x_9 =>
      (off_S N x_9 0 9).bind fun x_10 =>
      br x_10
        (some (.inl ()))
        (chk (k + 1) <|
        rcheck_l3 N n_ t (k + 1) e e2 e3))
      (some (.inr (t, e, e2, e3)))
def rcheck_l2 (N : Nat) : Nat → Int → (List (List Int)) → (List Int) → Int → Option ((Unit) ⊕ (List (List Int) × List Int × Int))
  | 0, _, _, _, _ => none
  | n_ + 1, t, e, e2, e3 =>
    br (decide (t < (e.length : Int)))
      ((rcheck_l3 N N t 0 e e2 e3).bind fun e => match e with
      | .inl _ =>
        some (.inl ())
      | .inr (t_11, e_12, e2_13, e3_14) =>
        chk (t_11 + 1) <|
        rcheck_l2 N n_ (t_11 + 1) e_12 e2_13 e3_14)
      (some (.inr (e, e2, e3)))
def rcheck_l4 (N : Nat) : Nat → Int → (List (List Int)) → (List Int) → Int → Option ((Unit) ⊕ (List (List Int) × List Int × Int))
  | 0, _, _, _, _ => none
  | n_ + 1, i, e, e2, e3 =>
    br (decide (i < (e2.length : Int)))
      (idx e2 i fun x_18 =>
      (off_S N x_18 0 9).bind fun x_19 =>
      br x_19
        (some (.inl ()))
        (chk (i + 1) <|
        rcheck_l4 N n_ (i + 1) e e2 e3))
      (some (.inr (e, e2, e3)))
def rcheck_S (N : Nat) (e : List (List Int)) (e2 : List Int) (e3 : Int) : Option Int :=
  (off_S N (e.length : Int) 1 5).bind fun x_1 =>
  br x_1
    (some 2)
    (br (decide (10 < (e2.length : Int)))
      (some 2)
      ((rcheck_l1 N N 0 e e2 e3).bind fun e => match e with
      | .inl _ =>
        some 2
      | .inr (e_4, e2_5, e3_6) =>
        (rcheck_l2 N N 0 e_4 e2_5 e3_6).bind fun e => match e with
        | .inl _ =>
          some 3
        | .inr (e_15, e2_16, e3_17) =>
          (rcheck_l4 N N 0 e_15 e2_16 e3_17).bind fun e => match e with
          | .inl _ =>
            some 3
          | .inr (e_20, e2_21, e3_22) =>
            (off_S N e3_22 0 8).bind fun x_23 =>
            br x_23
              (some 3)
              (some 0)))
noncomputable def rcheck_sp (N : Nat) : List Spec := [sp_off N]
theorem rcheck_all (N : Nat) : AllP (SpecOK Try.prog) (rcheck_sp N) := ⟨sp_off_ok N, trivial⟩
noncomputable def rcheck_c : Code := (Try.f41.body).getD .skip
noncomputable abbrev rcheck_B : Body := { c := rcheck_c, n := 73, res := [.tmp 2], outs := [⟨[.i .i64], []⟩], m0 := 0 }
abbrev rcheck_rt : altD rcheck_B.outs → Option Int := fun r => some r.1.1
abbrev rcheck_l1_at : List PI := [.c [1, 1, 0, 1, 0, 0, 0, 0], .c [1, 1, 0, 1, 0, 0, 0, 1], .c [1, 1, 0, 1, 0, 0, 1], .l [1, 1, 0, 1, 0, 0], .b 0, .c [1, 1, 1]]
abbrev rcheck_l1_st : Sta := ⟨[1, 3], ⟨[.own 0 0, .i .i64], [.segs [.sl (.sl (.int .i64)), .sl (.int .i64), .i .i64]]⟩⟩
abbrev rcheck_l1_h (rec : Int → (List (List Int)) → (List Int) → Int → Option ((Unit) ⊕ (List (List Int) × List Int × Int))) : Leaf ((Unit) ⊕ (List (List Int) × List Int × Int)) := ⟨rcheck_l1_at, rcheck_l1_st, fun p => rec p.1.2.1 p.2.1.1 p.2.1.2.1 p.2.1.2.2.1⟩
abbrev rcheck_l1_e0 : Leaf ((Unit) ⊕ (List (List Int) × List Int × Int)) := ⟨[.c [1, 1, 0, 1, 0, 0, 1, 0, 0, 1, 0, 0], .c [1, 1, 0, 1, 0, 0, 1, 0, 0, 1, 0, 1], .b 1, .c [1, 1, 0, 1, 0, 0, 1, 1], .l [1, 1, 0, 1, 0, 0], .b 0, .c [1, 1, 1]], ⟨[], ⟨[], []⟩⟩, fun p => some (.inl ())⟩
abbrev rcheck_l1_e1 : Leaf ((Unit) ⊕ (List (List Int) × List Int × Int)) := ⟨[.c [1, 1, 1, 0, 0], .c [1, 1, 1, 0, 1], .c [1, 1, 1, 1]], ⟨[1], ⟨[.own 0 0], [.segs [.sl (.sl (.int .i64)), .sl (.int .i64), .i .i64]]⟩⟩, fun p => some (.inr (p.2.1.1, p.2.1.2.1, p.2.1.2.2.1))⟩
noncomputable def rcheck_l1_L (N : Nat) : LoopS := { at_ := rcheck_l1_at, sta := rcheck_l1_st, exits := [([.c [1, 1, 0, 1, 0, 0, 1, 0, 0, 1, 0, 0], .c [1, 1, 0, 1, 0, 0, 1, 0, 0, 1, 0, 1], .b 1, .c [1, 1, 0, 1, 0, 0, 1, 1], .l [1, 1, 0, 1, 0, 0], .b 0, .c [1, 1, 1]], ⟨[], ⟨[], []⟩⟩), ([.c [1, 1, 1, 0, 0], .c [1, 1, 1, 0, 1], .c [1, 1, 1, 1]], ⟨[1], ⟨[.own 0 0], [.segs [.sl (.sl (.int .i64)), .sl (.int .i64), .i .i64]]⟩⟩)], run := fun p k => (rcheck_l1 N N p.1.2.1 p.2.1.1 p.2.1.2.1 p.2.1.2.2.1).bind fun e => match e with | .inl x => k (.inl ((), ())) | .inr x => k (.inr (.inl (((), ()), ((x.1, x.2.1, x.2.2, ()), ())))) }
theorem rcheck_l1_eq (N n_ : Nat) (t : Int) (e : List (List Int)) (e2 : List Int) (e3 : Int) : ev (Z := (Unit) ⊕ (List (List Int) × List Int × Int)) Try.prog (rcheck_sp N) rcheck_B [] [rcheck_l1_h (rcheck_l1 N n_), rcheck_l1_e0, rcheck_l1_e1] none 400 true rcheck_l1_at (stL rcheck_l1_st (((), t, ()), ((e, e2, e3, ()), ()))) (stH rcheck_l1_st (((), t, ()), ((e, e2, e3, ()), ()))) = rcheck_l1 N (n_ + 1) t e e2 e3 := by kernel_rfl
theorem rcheck_l1_ok (N : Nat) {top : Bool} : LoopOK Try.prog rcheck_B.c rcheck_B.n rcheck_B.m0 top (rcheck_l1_L N) := loop_of_ev (Z := (Unit) ⊕ (List (List Int) × List Int × Int)) (N := N) (fun m p => rcheck_l1 N m p.1.2.1 p.2.1.1 p.2.1.2.1 p.2.1.2.2.1) (fun e => match e with | .inl x => .inl ((), ()) | .inr x => .inr (.inl (((), ()), ((x.1, x.2.1, x.2.2, ()), ())))) (fun _ p k => bind_congr_ (rcheck_l1 N N p.1.2.1 p.2.1.1 p.2.1.2.1 p.2.1.2.2.1) _ _ (fun e => by rcases e with x | x <;> rfl)) (fun _ => rfl) (fun m z E Xc hE hX hrec hx => leaf_of_ev (B := rcheck_B) (loops := []) (leaves := [rcheck_l1_h (rcheck_l1 N m), rcheck_l1_e0, rcheck_l1_e1]) (rcheck_all N) mixed trivial hE hX ⟨hrec, (fun p hp => by obtain rfl := Option.some.inj hp; exact hx), (fun p hp => by obtain rfl := Option.some.inj hp; exact hx), trivial⟩ RetOK.no (fun p => rcheck_l1_eq N m p.1.2.1 p.2.1.1 p.2.1.2.1 p.2.1.2.2.1))
abbrev rcheck_l3_at : List PI := [.c [1, 1, 1, 0, 1, 0, 0, 1, 0, 0, 1, 0, 0, 0, 0], .c [1, 1, 1, 0, 1, 0, 0, 1, 0, 0, 1, 0, 0, 0, 1], .c [1, 1, 1, 0, 1, 0, 0, 1, 0, 0, 1, 0, 0, 1], .l [1, 1, 1, 0, 1, 0, 0, 1, 0, 0, 1, 0, 0], .b 4, .b 3, .c [1, 1, 1, 0, 1, 0, 0, 1, 1], .l [1, 1, 1, 0, 1, 0, 0], .b 2, .c [1, 1, 1, 1]]
abbrev rcheck_l3_st : Sta := ⟨[1, 4, 5], ⟨[.own 0 0, .i .i64, .i .i64], [.segs [.sl (.sl (.int .i64)), .sl (.int .i64), .i .i64]]⟩⟩
abbrev rcheck_l3_h (rec : Int → Int → (List (List Int)) → (List Int) → Int → Option ((Unit) ⊕ (Int × List (List Int) × List Int × Int))) : Leaf ((Unit) ⊕ (Int × List (List Int) × List Int × Int)) := ⟨rcheck_l3_at, rcheck_l3_st, fun p => rec p.1.2.1 p.1.2.2.1 p.2.1.1 p.2.1.2.1 p.2.1.2.2.1⟩
abbrev rcheck_l3_e0 : Leaf ((Unit) ⊕ (Int × List (List Int) × List Int × Int)) := ⟨[.c [1, 1, 1, 0, 1, 0, 0, 1, 0, 0, 1, 0, 0, 1, 0, 0, 1, 0, 0], .c [1, 1, 1, 0, 1, 0, 0, 1, 0, 0, 1, 0, 0, 1, 0, 0, 1, 0, 1], .b 5, .c [1, 1, 1, 0, 1, 0, 0, 1, 0, 0, 1, 0, 0, 1, 1], .l [1, 1, 1, 0, 1, 0, 0, 1, 0, 0, 1, 0, 0], .b 4, .b 3, .c [1, 1, 1, 0, 1, 0, 0, 1, 1], .l [1, 1, 1, 0, 1, 0, 0], .b 2, .c [1, 1, 1, 1]], ⟨[], ⟨[], []⟩⟩, fun p => some (.inl ())⟩
abbrev rcheck_l3_e1 : Leaf ((Unit) ⊕ (Int × List (List Int) × List Int × Int)) := ⟨[.c [1, 1, 1, 0, 1, 0, 0, 1, 1], .l [1, 1, 1, 0, 1, 0, 0], .b 2, .c [1, 1, 1, 1]], ⟨[1, 4], ⟨[.own 0 0, .i .i64], [.segs [.sl (.sl (.int .i64)), .sl (.int .i64), .i .i64]]⟩⟩, fun p => some (.inr (p.1.2.1, p.2.1.1, p.2.1.2.1, p.2.1.2.2.1))⟩
noncomputable def rcheck_l3_L (N : Nat) : LoopS := { at_ := rcheck_l3_at, sta := rcheck_l3_st, exits := [([.c [1, 1, 1, 0, 1, 0, 0, 1, 0, 0, 1, 0, 0, 1, 0, 0, 1, 0, 0], .c [1, 1, 1, 0, 1, 0, 0, 1, 0, 0, 1, 0, 0, 1, 0, 0, 1, 0, 1], .b 5, .c [1, 1, 1, 0, 1, 0, 0, 1, 0, 0, 1, 0, 0, 1, 1], .l [1, 1, 1, 0, 1, 0, 0, 1, 0, 0, 1, 0, 0], .b 4, .b 3, .c [1, 1, 1, 0, 1, 0, 0, 1, 1], .l [1, 1, 1, 0, 1, 0, 0], .b 2, .c [1, 1, 1, 1]], ⟨[], ⟨[], []⟩⟩), ([.c [1, 1, 1, 0, 1, 0, 0, 1, 1], .l [1, 1, 1, 0, 1, 0, 0], .b 2, .c [1, 1, 1, 1]], ⟨[1, 4], ⟨[.own 0 0, .i .i64], [.segs [.sl (.sl (.int .i64)), .sl (.int .i64), .i .i64]]⟩⟩)], run := fun p k => (rcheck_l3 N N p.1.2.1 p.1.2.2.1 p.2.1.1 p.2.1.2.1 p.2.1.2.2.1).bind fun e => match e with | .inl x => k (.inl ((), ())) | .inr x => k (.inr (.inl (((), x.1, ()), ((x.2.1, x.2.2.1, x.2.2.2, ()), ())))) }
theorem rcheck_l3_eq (N n_ : Nat) (t : Int) (k : Int) (e : List (List Int)) (e2 : List Int) (e3 : Int) : ev (Z := (Unit) ⊕ (Int × List (List Int) × List Int × Int)) Try.prog (rcheck_sp N) rcheck_B [rcheck_l1_L N] [rcheck_l3_h (rcheck_l3 N n_), rcheck_l3_e0, rcheck_l3_e1] none 400 true rcheck_l3_at (stL rcheck_l3_st (((), t, k, ()), ((e, e2, e3, ()), ()))) (stH rcheck_l3_st (((), t, k, ()), ((e, e2, e3, ()), ()))) = rcheck_l3 N (n_ + 1) t k e e2 e3 := by kernel_rfl
theorem rcheck_l3_ok (N : Nat) {top : Bool} : LoopOK Try.prog rcheck_B.c rcheck_B.n rcheck_B.m0 top (rcheck_l3_L N) := loop_of_ev (Z := (Unit) ⊕ (Int × List (List Int) × List Int × Int)) (N := N) (fun m p => rcheck_l3 N m p.1.2.1 p.1.2.2.1 p.2.1.1 p.2.1.2.1 p.2.1.2.2.1) (fun e => match e with | .inl x => .inl ((), ()) | .inr x => .inr (.inl (((), x.1, ()), ((x.2.1, x.2.2.1, x.2.2.2, ()), ())))) (fun _ p k => bind_congr_ (rcheck_l3 N N p.1.2.1 p.1.2.2.1 p.2.1.1 p.2.1.2.1 p.2.1.2.2.1) _ _ (fun e => by rcases e with x | x <;> rfl)) (fun _ => rfl) (fun m z E Xc hE hX hrec hx => leaf_of_ev (B := rcheck_B) (loops := [rcheck_l1_L N]) (leaves := [rcheck_l3_h (rcheck_l3 N m), rcheck_l3_e0, rcheck_l3_e1]) (rcheck_all N) mixed ⟨rcheck_l1_ok N, trivial⟩ hE hX ⟨hrec, (fun p hp => by obtain rfl := Option.some.inj hp; exact hx), (fun p hp => by obtain rfl := Option.some.inj hp; exact hx), trivial⟩ RetOK.no (fun p => rcheck_l3_eq N m p.1.2.1 p.1.2.2.1 p.2.1.1 p.2.1.2.1 p.2.1.2.2.1))
abbrev rcheck_l2_at : List PI := [.c [1, 1, 1, 0, 1, 0, 0, 0, 0], .c [1, 1, 1, 0, 1, 0, 0, 0, 1], .c [1, 1, 1, 0, 1, 0, 0, 1], .l [1, 1, 1, 0, 1, 0, 0], .b 2, .c [1, 1, 1, 1]]
abbrev rcheck_l2_st : Sta := ⟨[1, 4], ⟨[.own 0 0, .i .i64], [.segs [.sl (.sl (.int .i64)), .sl (.int .i64), .i .i64]]⟩⟩
abbrev rcheck_l2_h (rec : Int → (List (List Int)) → (List Int) → Int → Option ((Unit) ⊕ (List (List Int) × List Int × Int))) : Leaf ((Unit) ⊕ (List (List Int) × List Int × Int)) := ⟨rcheck_l2_at, rcheck_l2_st, fun p => rec p.1.2.1 p.2.1.1 p.2.1.2.1 p.2.1.2.2.1⟩
abbrev rcheck_l2_e0 : Leaf ((Unit) ⊕ (List (List Int) × List Int × Int)) := ⟨[.c [1, 1, 1, 0, 1, 0, 0, 1, 0, 0, 1, 0, 0, 1, 0, 0, 1, 0, 0], .c [1, 1, 1, 0, 1, 0, 0, 1, 0, 0, 1, 0, 0, 1, 0, 0, 1, 0, 1], .b 5, .c [1, 1, 1, 0, 1, 0, 0, 1, 0, 0, 1, 0, 0, 1, 1], .l [1, 1, 1, 0, 1, 0, 0, 1, 0, 0, 1, 0, 0], .b 4, .b 3, .c [1, 1, 1, 0, 1, 0, 0, 1, 1], .l [1, 1, 1, 0, 1, 0, 0], .b 2, .c [1, 1, 1, 1]], ⟨[], ⟨[], []⟩⟩, fun p => some (.inl ())⟩
abbrev rcheck_l2_e1 : Leaf ((Unit) ⊕ (List (List Int) × List Int × Int)) := ⟨[.c [1, 1, 1, 1, 0, 0], .c [1, 1, 1, 1, 0, 1], .c [1, 1, 1, 1, 1]], ⟨[1], ⟨[.own 0 0], [.segs [.sl (.sl (.int .i64)), .sl (.int .i64), .i .i64]]⟩⟩, fun p => some (.inr (p.2.1.1, p.2.1.2.1, p.2.1.2.2.1))⟩
noncomputable def rcheck_l2_L (N : Nat) : LoopS := { at_ := rcheck_l2_at, sta := rcheck_l2_st, exits := [([.c [1, 1, 1, 0, 1, 0, 0, 1, 0, 0, 1, 0, 0, 1, 0, 0, 1, 0, 0], .c [1, 1, 1, 0, 1, 0, 0, 1, 0, 0, 1, 0, 0, 1, 0, 0, 1, 0, 1], .b 5, .c [1, 1, 1, 0, 1, 0, 0, 1, 0, 0, 1, 0, 0, 1, 1], .l [1, 1, 1, 0, 1, 0, 0, 1, 0, 0, 1, 0, 0], .b 4, .b 3, .c [1, 1, 1, 0, 1, 0, 0, 1, 1], .l [1, 1, 1, 0, 1, 0, 0], .b 2, .c [1, 1, 1, 1]], ⟨[], ⟨[], []⟩⟩), ([.c [1, 1, 1, 1, 0, 0], .c [1, 1, 1, 1, 0, 1], .c [1, 1, 1, 1, 1]], ⟨[1], ⟨[.own 0 0], [.segs [.sl (.sl (.int .i64)), .sl (.int .i64), .i .i64]]⟩⟩)], run := fun p k => (rcheck_l2 N N p.1.2.1 p.2.1.1 p.2.1.2.1 p.2.1.2.2.1).bind fun e => match e with | .inl x => k (.inl ((), ())) | .inr x => k (.inr (.inl (((), ()), ((x.1, x.2.1, x.2.2, ()), ())))) }
theorem rcheck_l2_eq (N n_ : Nat) (t : Int) (e : List (List Int)) (e2 : List Int) (e3 : Int) : ev (Z := (Unit) ⊕ (List (List Int) × List Int × Int)) Try.prog (rcheck_sp N) rcheck_B [rcheck_l1_L N, rcheck_l3_L N] [rcheck_l2_h (rcheck_l2 N n_), rcheck_l2_e0, rcheck_l2_e1] none 400 true rcheck_l2_at (stL rcheck_l2_st (((), t, ()), ((e, e2, e3, ()), ()))) (stH rcheck_l2_st (((), t, ()), ((e, e2, e3, ()), ()))) = rcheck_l2 N (n_ + 1) t e e2 e3 := by kernel_rfl
theorem rcheck_l2_ok (N : Nat) {top : Bool} : LoopOK Try.prog rcheck_B.c rcheck_B.n rcheck_B.m0 top (rcheck_l2_L N) := loop_of_ev (Z := (Unit) ⊕ (List (List Int) × List Int × Int)) (N := N) (fun m p => rcheck_l2 N m p.1.2.1 p.2.1.1 p.2.1.2.1 p.2.1.2.2.1) (fun e => match e with | .inl x => .inl ((), ()) | .inr x => .inr (.inl (((), ()), ((x.1, x.2.1, x.2.2, ()), ())))) (fun _ p k => bind_congr_ (rcheck_l2 N N p.1.2.1 p.2.1.1 p.2.1.2.1 p.2.1.2.2.1) _ _ (fun e => by rcases e with x | x <;> rfl)) (fun _ => rfl) (fun m z E Xc hE hX hrec hx => leaf_of_ev (B := rcheck_B) (loops := [rcheck_l1_L N, rcheck_l3_L N]) (leaves := [rcheck_l2_h (rcheck_l2 N m), rcheck_l2_e0, rcheck_l2_e1]) (rcheck_all N) mixed ⟨rcheck_l1_ok N, rcheck_l3_ok N, trivial⟩ hE hX ⟨hrec, (fun p hp => by obtain rfl := Option.some.inj hp; exact hx), (fun p hp => by obtain rfl := Option.some.inj hp; exact hx), trivial⟩ RetOK.no (fun p => rcheck_l2_eq N m p.1.2.1 p.2.1.1 p.2.1.2.1 p.2.1.2.2.1))
abbrev rcheck_l4_at : List PI := [.c [1, 1, 1, 1, 0, 1, 0, 0, 0, 0], .c [1, 1, 1, 1, 0, 1, 0, 0, 0, 1], .c [1, 1, 1, 1, 0, 1, 0, 0, 1], .l [1, 1, 1, 1, 0, 1, 0, 0], .b 6, .c [1, 1, 1, 1, 1]]
abbrev rcheck_l4_st : Sta := ⟨[1, 6], ⟨[.own 0 0, .i .i64], [.segs [.sl (.sl (.int .i64)), .sl (.int .i64), .i .i64]]⟩⟩
abbrev rcheck_l4_h (rec : Int → (List (List Int)) → (List Int) → Int → Option ((Unit) ⊕ (List (List Int) × List Int × Int))) : Leaf ((Unit) ⊕ (List (List Int) × List Int × Int)) := ⟨rcheck_l4_at, rcheck_l4_st, fun p => rec p.1.2.1 p.2.1.1 p.2.1.2.1 p.2.1.2.2.1⟩
abbrev rcheck_l4_e0 : Leaf ((Unit) ⊕ (List (List Int) × List Int × Int)) := ⟨[.c [1, 1, 1, 1, 0, 1, 0, 0, 1, 0, 0, 1, 0, 0], .c [1, 1, 1, 1, 0, 1, 0, 0, 1, 0, 0, 1, 0, 1], .b 7, .c [1, 1, 1, 1, 0, 1, 0, 0, 1, 1], .l [1, 1, 1, 1, 0, 1, 0, 0], .b 6, .c [1, 1, 1, 1, 1]], ⟨[], ⟨[], []⟩⟩, fun p => some (.inl ())⟩
abbrev rcheck_l4_e1 : Leaf ((Unit) ⊕ (List (List Int) × List Int × Int)) := ⟨[.c [1, 1, 1, 1, 1, 0, 0], .c [1, 1, 1, 1, 1, 0, 1], .c [1, 1, 1, 1, 1, 1]], ⟨[1], ⟨[.own 0 0], [.segs [.sl (.sl (.int .i64)), .sl (.int .i64), .i .i64]]⟩⟩, fun p => some (.inr (p.2.1.1, p.2.1.2.1, p.2.1.2.2.1))⟩
noncomputable def rcheck_l4_L (N : Nat) : LoopS := { at_ := rcheck_l4_at, sta := rcheck_l4_st, exits := [([.c [1, 1, 1, 1, 0, 1, 0, 0, 1, 0, 0, 1, 0, 0], .c [1, 1, 1, 1, 0, 1, 0, 0, 1, 0, 0, 1, 0, 1], .b 7, .c [1, 1, 1, 1, 0, 1, 0, 0, 1, 1], .l [1, 1, 1, 1, 0, 1, 0, 0], .b 6, .c [1, 1, 1, 1, 1]], ⟨[], ⟨[], []⟩⟩), ([.c [1, 1, 1, 1, 1, 0, 0], .c [1, 1, 1, 1, 1, 0, 1], .c [1, 1, 1, 1, 1, 1]], ⟨[1], ⟨[.own 0 0], [.segs [.sl (.sl (.int .i64)), .sl (.int .i64), .i .i64]]⟩⟩)], run := fun p k => (rcheck_l4 N N p.1.2.1 p.2.1.1 p.2.1.2.1 p.2.1.2.2.1).bind fun e => match e with | .inl x => k (.inl ((), ())) | .inr x => k (.inr (.inl (((), ()), ((x.1, x.2.1, x.2.2, ()), ())))) }
theorem rcheck_l4_eq (N n_ : Nat) (i : Int) (e : List (List Int)) (e2 : List Int) (e3 : Int) : ev (Z := (Unit) ⊕ (List (List Int) × List Int × Int)) Try.prog (rcheck_sp N) rcheck_B [rcheck_l1_L N, rcheck_l3_L N, rcheck_l2_L N] [rcheck_l4_h (rcheck_l4 N n_), rcheck_l4_e0, rcheck_l4_e1] none 400 true rcheck_l4_at (stL rcheck_l4_st (((), i, ()), ((e, e2, e3, ()), ()))) (stH rcheck_l4_st (((), i, ()), ((e, e2, e3, ()), ()))) = rcheck_l4 N (n_ + 1) i e e2 e3 := by kernel_rfl
theorem rcheck_l4_ok (N : Nat) {top : Bool} : LoopOK Try.prog rcheck_B.c rcheck_B.n rcheck_B.m0 top (rcheck_l4_L N) := loop_of_ev (Z := (Unit) ⊕ (List (List Int) × List Int × Int)) (N := N) (fun m p => rcheck_l4 N m p.1.2.1 p.2.1.1 p.2.1.2.1 p.2.1.2.2.1) (fun e => match e with | .inl x => .inl ((), ()) | .inr x => .inr (.inl (((), ()), ((x.1, x.2.1, x.2.2, ()), ())))) (fun _ p k => bind_congr_ (rcheck_l4 N N p.1.2.1 p.2.1.1 p.2.1.2.1 p.2.1.2.2.1) _ _ (fun e => by rcases e with x | x <;> rfl)) (fun _ => rfl) (fun m z E Xc hE hX hrec hx => leaf_of_ev (B := rcheck_B) (loops := [rcheck_l1_L N, rcheck_l3_L N, rcheck_l2_L N]) (leaves := [rcheck_l4_h (rcheck_l4 N m), rcheck_l4_e0, rcheck_l4_e1]) (rcheck_all N) mixed ⟨rcheck_l1_ok N, rcheck_l3_ok N, rcheck_l2_ok N, trivial⟩ hE hX ⟨hrec, (fun p hp => by obtain rfl := Option.some.inj hp; exact hx), (fun p hp => by obtain rfl := Option.some.inj hp; exact hx), trivial⟩ RetOK.no (fun p => rcheck_l4_eq N m p.1.2.1 p.2.1.1 p.2.1.2.1 p.2.1.2.2.1))
abbrev rcheck_st : Sta := ⟨[0], ⟨[.agg [.sl (.sl (.int .i64)), .sl (.int .i64), .i .i64]], []⟩⟩
theorem rcheck_eq (N : Nat) (e : List (List Int)) (e2 : List Int) (e3 : Int) : ev (Z := Int) Try.prog (rcheck_sp N) rcheck_B [rcheck_l1_L N, rcheck_l3_L N, rcheck_l2_L N, rcheck_l4_L N] [] (some rcheck_rt) 400 false [.c [0], .c [1]] (stL rcheck_st (((e, e2, e3, ()), ()), ())) (stH rcheck_st (((e, e2, e3, ()), ()), ())) = rcheck_S N e e2 e3 := by kernel_rfl
noncomputable def sp_rcheck (N : Nat) : Spec := { f := 41, ins := ⟨[.agg [.sl (.sl (.int .i64)), .sl (.int .i64), .i .i64]], []⟩, outs := [⟨[.i .i64], []⟩], run := fun p k => (rcheck_S N p.1.1.1 p.1.1.2.1 p.1.1.2.2.1).bind fun r => k ((r, ()), ()) }
theorem sp_rcheck_ok (N : Nat) : SpecOK Try.prog (sp_rcheck N) := fn_sound (B := rcheck_B) (loops := [rcheck_l1_L N, rcheck_l3_L N, rcheck_l2_L N, rcheck_l4_L N]) (leaves := []) (fun p => rcheck_S N p.1.1.1 p.1.1.2.1 p.1.1.2.2.1) (fun r => ((r, ()), ())) rcheck_rt (fun _ _ _ => rfl) (fun r z h => by cases h; rfl) Try.func41 (by kernel_rfl) (by kernel_rfl) (by kernel_rfl) rfl rfl (by kernel_rfl) (fun args w => Sem.pv_run _ _ _ (by kernel_rfl) w) (rcheck_all N) mixed ⟨rcheck_l1_ok N, rcheck_l3_ok N, rcheck_l2_ok N, rcheck_l4_ok N, trivial⟩ (fun z E Xc hE hX hret => trivial) (fun p => rcheck_eq N p.1.1.1 p.1.1.2.1 p.1.1.2.2.1)

def rtwo_S (N : Nat) (e : List (List Int)) (e2 : List Int) (e3 : Int) (p : Int) (p2 : Int) : Option Int :=
  (rcheck_S N e e2 e3).bind fun x_1 =>
  br (!decide (x_1 = 0))
    (some x_1)
    (chk ((e.length : Int) - 1) <|
    (off_S N p 0 ((e.length : Int) - 1)).bind fun x_2 =>
    br x_2
      (some 1)
      (chk ((e.length : Int) - 1) <|
      (off_S N p2 0 ((e.length : Int) - 1)).bind fun x_3 =>
      br x_3
        (some 1)
        (some 0)))
noncomputable def rtwo_sp (N : Nat) : List Spec := [sp_off N, sp_rcheck N]
theorem rtwo_all (N : Nat) : AllP (SpecOK Try.prog) (rtwo_sp N) := ⟨sp_off_ok N, sp_rcheck_ok N, trivial⟩
noncomputable def rtwo_c : Code := (Try.f42.body).getD .skip
noncomputable abbrev rtwo_B : Body := { c := rtwo_c, n := 27, res := [.tmp 4], outs := [⟨[.i .i64], []⟩], m0 := 0 }
abbrev rtwo_rt : altD rtwo_B.outs → Option Int := fun r => some r.1.1
abbrev rtwo_st : Sta := ⟨[0, 1], ⟨[.agg [.sl (.sl (.int .i64)), .sl (.int .i64), .i .i64], .agg [.i .i64, .i .i64]], []⟩⟩
theorem rtwo_eq (N : Nat) (e : List (List Int)) (e2 : List Int) (e3 : Int) (p : Int) (p2 : Int) : ev (Z := Int) Try.prog (rtwo_sp N) rtwo_B [] [] (some rtwo_rt) 400 false [.c [0], .c [1]] (stL rtwo_st (((e, e2, e3, ()), (p, p2, ()), ()), ())) (stH rtwo_st (((e, e2, e3, ()), (p, p2, ()), ()), ())) = rtwo_S N e e2 e3 p p2 := by kernel_rfl
noncomputable def sp_rtwo (N : Nat) : Spec := { f := 42, ins := ⟨[.agg [.sl (.sl (.int .i64)), .sl (.int .i64), .i .i64], .agg [.i .i64, .i .i64]], []⟩, outs := [⟨[.i .i64], []⟩], run := fun p k => (rtwo_S N p.1.1.1 p.1.1.2.1 p.1.1.2.2.1 p.1.2.1.1 p.1.2.1.2.1).bind fun r => k ((r, ()), ()) }
theorem sp_rtwo_ok (N : Nat) : SpecOK Try.prog (sp_rtwo N) := fn_sound (B := rtwo_B) (loops := []) (leaves := []) (fun p => rtwo_S N p.1.1.1 p.1.1.2.1 p.1.1.2.2.1 p.1.2.1.1 p.1.2.1.2.1) (fun r => ((r, ()), ())) rtwo_rt (fun _ _ _ => rfl) (fun r z h => by cases h; rfl) Try.func42 (by kernel_rfl) (by kernel_rfl) (by kernel_rfl) rfl rfl (by kernel_rfl) (fun args w => Sem.pv_run _ _ _ (by kernel_rfl) w) (rtwo_all N) mixed trivial (fun z E Xc hE hX hret => trivial) (fun p => rtwo_eq N p.1.1.1 p.1.1.2.1 p.1.1.2.2.1 p.1.2.1.1 p.1.2.1.2.1)

def fits_j1 (N : Nat) (rec : (List (Int × Int)) → Int → Int → Int → (List (List Int)) → (List Int) → Int → Int → Int → Option ((Unit) ⊕ ((Unit) ⊕ ((Unit) ⊕ (Unit))))) (l : List (Int × Int)) (a : Int) (b : Int) (i : Int) (e : List (List Int)) (e2 : List Int) (e3 : Int) (p : Int) (p2 : Int) : Option ((Unit) ⊕ ((Unit) ⊕ ((Unit) ⊕ (Unit)))) :=
  chk (i + 1) <|
  rec l a b (i + 1) e e2 e3 p p2
def fits_l1 (N : Nat) : Nat → (List (Int × Int)) → Int → Int → Int → (List (List Int)) → (List Int) → Int → Int → Int → Option ((Unit) ⊕ ((Unit) ⊕ ((Unit) ⊕ (Unit))))
  | 0, _, _, _, _, _, _, _, _, _ => none
  | n_ + 1, l, a, b, i, e, e2, e3, p, p2 =>
    br (decide (i < (l.length : Int)))
      (idx l i fun x_1 =>
      br (decide (x_1.1 = 1))
        (idx l i fun x_2 =>
        br (decide (x_2.2 ≤ a))
          (some (.inl ()))
          (idx l i fun x_3 =>
          idx e p fun x_4 =>
          br (decide ((x_4.length : Int) ≤ x_3.2))
            (some (.inl ()))
            (idx e p fun x_5 =>
            idx l i fun x_6 =>
            idx x_5 x_6.2 fun x_7 =>
            idx e2 i fun x_8 =>
            br (!decide (x_7 = x_8))
              (some (.inl ()))
              (idx l i fun x_9 =>
              fits_j1 N (fits_l1 N n_) l x_9.2 b i e e2 e3 p p2))))
        (idx l i fun x_10 =>
        br (decide (x_10.1 = 2))
          (idx l i fun x_11 =>
          br (decide (x_11.2 ≤ b))
            (some (.inr (.inl ())))
            (idx l i fun x_12 =>
            idx e p2 fun x_13 =>
            br (decide ((x_13.length : Int) ≤ x_12.2))
              (some (.inr (.inl ())))
              (idx e p2 fun x_14 =>
              idx l i fun x_15 =>
              idx x_14 x_15.2 fun x_16 =>
              idx e2 i fun x_17 =>
              br (!decide (x_16 = x_17))
                (some (.inr (.inl ())))
                (idx l i fun x_18 =>
                fits_j1 N (fits_l1 N n_) l a x_18.2 i e e2 e3 p p2))))
          (idx l i fun x_19 =>
          br (!decide (x_19.1 = 3))
            (some (.inr (.inr (.inl ()))))
            (idx l i fun x_20 =>
            br (!decide (x_20.2 = 0))
              (some (.inr (.inr (.inl ()))))
              (fits_j1 N (fits_l1 N n_) l a b i e e2 e3 p p2)))))
      (some (.inr (.inr (.inr ()))))
def fits_S (N : Nat) (e : List (List Int)) (e2 : List Int) (e3 : Int) (p : Int) (p2 : Int) (l : List (Int × Int)) : Option Bool :=
  (fits_l1 N N l (-1) (-1) 0 e e2 e3 p p2).bind fun e => match e with
  | .inl _ =>
    some false
  | .inr (.inl _) =>
    some false
  | .inr (.inr (.inl _)) =>
    some false
  | .inr (.inr (.inr _)) =>
    some true
noncomputable def fits_sp (N : Nat) : List Spec := []
theorem fits_all (N : Nat) : AllP (SpecOK Try.prog) (fits_sp N) := trivial
noncomputable def fits_c : Code := (Try.f99.body).getD .skip
noncomputable abbrev fits_B : Body := { c := fits_c, n := 138, res := [.tmp 6], outs := [⟨[.b], []⟩], m0 := 0 }
abbrev fits_rt : altD fits_B.outs → Option Bool := fun r => some r.1.1
abbrev fits_l1_at : List PI := [.c [1, 1, 0, 1, 0, 0, 0, 0], .c [1, 1, 0, 1, 0, 0, 0, 1], .c [1, 1, 0, 1, 0, 0, 1], .l [1, 1, 0, 1, 0, 0], .b 0, .c [1, 1, 1]]
abbrev fits_l1_st : Sta := ⟨[2, 3, 4, 7, 8, 9], ⟨[.sl (.pair (.int .i64) (.int .i64)), .own 0 0, .own 1 0, .i .i64, .i .i64, .i .i64], [.segs [.sl (.sl (.int .i64)), .sl (.int .i64), .i .i64], .segs [.i .i64, .i .i64]]⟩⟩
abbrev fits_l1_h (rec : (List (Int × Int)) → Int → Int → Int → (List (List Int)) → (List Int) → Int → Int → Int → Option ((Unit) ⊕ ((Unit) ⊕ ((Unit) ⊕ (Unit))))) : Leaf ((Unit) ⊕ ((Unit) ⊕ ((Unit) ⊕ (Unit)))) := ⟨fits_l1_at, fits_l1_st, fun p => rec p.1.1 p.1.2.2.2.1 p.1.2.2.2.2.1 p.1.2.2.2.2.2.1 p.2.1.1 p.2.1.2.1 p.2.1.2.2.1 p.2.2.1.1 p.2.2.1.2.1⟩
abbrev fits_l1_e0 : Leaf ((Unit) ⊕ ((Unit) ⊕ ((Unit) ⊕ (Unit)))) := ⟨[.c [1, 1, 0, 1, 0, 0, 1, 0, 0, 1, 0, 0, 1, 0, 0], .c [1, 1, 0, 1, 0, 0, 1, 0, 0, 1, 0, 0, 1, 0, 1], .c [1, 1, 0, 1, 0, 0, 1, 0, 0, 1, 0, 1], .b 1, .c [1, 1, 0, 1, 0, 0, 1, 1], .l [1, 1, 0, 1, 0, 0], .b 0, .c [1, 1, 1]], ⟨[], ⟨[], []⟩⟩, fun p => some (.inl ())⟩
abbrev fits_l1_e1 : Leaf ((Unit) ⊕ ((Unit) ⊕ ((Unit) ⊕ (Unit)))) := ⟨[.c [1, 1, 0, 1, 0, 0, 1, 0, 0, 1, 1, 1, 0, 0, 1, 0, 0], .c [1, 1, 0, 1, 0, 0, 1, 0, 0, 1, 1, 1, 0, 0, 1, 0, 1], .c [1, 1, 0, 1, 0, 0, 1, 0, 0, 1, 1, 1, 0, 1], .b 1, .c [1, 1, 0, 1, 0, 0, 1, 1], .l [1, 1, 0, 1, 0, 0], .b 0, .c [1, 1, 1]], ⟨[], ⟨[], []⟩⟩, fun p => some (.inr (.inl ()))⟩
abbrev fits_l1_e2 : Leaf ((Unit) ⊕ ((Unit) ⊕ ((Unit) ⊕ (Unit)))) := ⟨[.c [1, 1, 0, 1, 0, 0, 1, 0, 0, 1, 1, 1, 1, 1, 0, 0], .c [1, 1, 0, 1, 0, 0, 1, 0, 0, 1, 1, 1, 1, 1, 0, 1], .b 1, .c [1, 1, 0, 1, 0, 0, 1, 1], .l [1, 1, 0, 1, 0, 0], .b 0, .c [1, 1, 1]], ⟨[], ⟨[], []⟩⟩, fun p => some (.inr (.inr (.inl ())))⟩
abbrev fits_l1_e3 : Leaf ((Unit) ⊕ ((Unit) ⊕ ((Unit) ⊕ (Unit)))) := ⟨[.c [1, 1, 1, 0], .c [1, 1, 1, 1]], ⟨[], ⟨[], []⟩⟩, fun p => some (.inr (.inr (.inr ())))⟩
abbrev fits_j1_at : List PI := [.c [1, 1, 0, 1, 0, 0, 1, 1], .l [1, 1, 0, 1, 0, 0], .b 0, .c [1, 1, 1]]
abbrev fits_j1_st : Sta := ⟨[2, 3, 4, 7, 8, 9], ⟨[.sl (.pair (.int .i64) (.int .i64)), .own 0 0, .own 1 0, .i .i64, .i .i64, .i .i64], [.segs [.sl (.sl (.int .i64)), .sl (.int .i64), .i .i64], .segs [.i .i64, .i .i64]]⟩⟩
abbrev fits_j1_k (N : Nat) (rec : (List (Int × Int)) → Int → Int → Int → (List (List Int)) → (List Int) → Int → Int → Int → Option ((Unit) ⊕ ((Unit) ⊕ ((Unit) ⊕ (Unit))))) : Leaf ((Unit) ⊕ ((Unit) ⊕ ((Unit) ⊕ (Unit)))) := ⟨fits_j1_at, fits_j1_st, fun p => fits_j1 N rec p.1.1 p.1.2.2.2.1 p.1.2.2.2.2.1 p.1.2.2.2.2.2.1 p.2.1.1 p.2.1.2.1 p.2.1.2.2.1 p.2.2.1.1 p.2.2.1.2.1⟩
theorem fits_j1_eq (N : Nat) (rec : (List (Int × Int)) → Int → Int → Int → (List (List Int)) → (List Int) → Int → Int → Int → Option ((Unit) ⊕ ((Unit) ⊕ ((Unit) ⊕ (Unit))))) (l : List (Int × Int)) (a : Int) (b : Int) (i : Int) (e : List (List Int)) (e2 : List Int) (e3 : Int) (p : Int) (p2 : Int) : ev (Z := (Unit) ⊕ ((Unit) ⊕ ((Unit) ⊕ (Unit)))) Try.prog (fits_sp N) fits_B [] [fits_l1_h rec, fits_l1_e0, fits_l1_e1, fits_l1_e2, fits_l1_e3] none 400 true fits_j1_at (stL fits_j1_st ((l, (), (), a, b, i, ()), ((e, e2, e3, ()), (p, p2, ()), ()))) (stH fits_j1_st ((l, (), (), a, b, i, ()), ((e, e2, e3, ()), (p, p2, ()), ()))) = fits_j1 N rec l a b i e e2 e3 p p2 := by kernel_rfl
theorem fits_j1_lf (N : Nat) (rec : (List (Int × Int)) → Int → Int → Int → (List (List Int)) → (List Int) → Int → Int → Int → Option ((Unit) ⊕ ((Unit) ⊕ ((Unit) ⊕ (Unit))))) {z : (Unit) ⊕ ((Unit) ⊕ ((Unit) ⊕ (Unit)))} {top : Bool} {E : EE} {Xc : Ctx} (hE : EOK fits_B.m0 E) (hX : CxOK top Xc) (hrec : LeafOK Try.prog fits_B.c fits_B.n fits_B.m0 E Xc z (fits_l1_h rec)) (h0 : LeafOK Try.prog fits_B.c fits_B.n fits_B.m0 E Xc z fits_l1_e0) (h1 : LeafOK Try.prog fits_B.c fits_B.n fits_B.m0 E Xc z fits_l1_e1) (h2 : LeafOK Try.prog fits_B.c fits_B.n fits_B.m0 E Xc z fits_l1_e2) (h3 : LeafOK Try.prog fits_B.c fits_B.n fits_B.m0 E Xc z fits_l1_e3) : LeafOK Try.prog fits_B.c fits_B.n fits_B.m0 E Xc z (fits_j1_k N rec) := leaf_of_ev (B := fits_B) (loops := []) (leaves := [fits_l1_h rec, fits_l1_e0, fits_l1_e1, fits_l1_e2, fits_l1_e3]) (fits_all N) mixed trivial hE hX ⟨hrec, h0, h1, h2, h3, trivial⟩ RetOK.no (fun p => fits_j1_eq N rec p.1.1 p.1.2.2.2.1 p.1.2.2.2.2.1 p.1.2.2.2.2.2.1 p.2.1.1 p.2.1.2.1 p.2.1.2.2.1 p.2.2.1.1 p.2.2.1.2.1)
noncomputable def fits_l1_L (N : Nat) : LoopS := { at_ := fits_l1_at, sta := fits_l1_st, exits := [([.c [1, 1, 0, 1, 0, 0, 1, 0, 0, 1, 0, 0, 1, 0, 0], .c [1, 1, 0, 1, 0, 0, 1, 0, 0, 1, 0, 0, 1, 0, 1], .c [1, 1, 0, 1, 0, 0, 1, 0, 0, 1, 0, 1], .b 1, .c [1, 1, 0, 1, 0, 0, 1, 1], .l [1, 1, 0, 1, 0, 0], .b 0, .c [1, 1, 1]], ⟨[], ⟨[], []⟩⟩), ([.c [1, 1, 0, 1, 0, 0, 1, 0, 0, 1, 1, 1, 0, 0, 1, 0, 0], .c [1, 1, 0, 1, 0, 0, 1, 0, 0, 1, 1, 1, 0, 0, 1, 0, 1], .c [1, 1, 0, 1, 0, 0, 1, 0, 0, 1, 1, 1, 0, 1], .b 1, .c [1, 1, 0, 1, 0, 0, 1, 1], .l [1, 1, 0, 1, 0, 0], .b 0, .c [1, 1, 1]], ⟨[], ⟨[], []⟩⟩), ([.c [1, 1, 0, 1, 0, 0, 1, 0, 0, 1, 1, 1, 1, 1, 0, 0], .c [1, 1, 0, 1, 0, 0, 1, 0, 0, 1, 1, 1, 1, 1, 0, 1], .b 1, .c [1, 1, 0, 1, 0, 0, 1, 1], .l [1, 1, 0, 1, 0, 0], .b 0, .c [1, 1, 1]], ⟨[], ⟨[], []⟩⟩), ([.c [1, 1, 1, 0], .c [1, 1, 1, 1]], ⟨[], ⟨[], []⟩⟩)], run := fun p k => (fits_l1 N N p.1.1 p.1.2.2.2.1 p.1.2.2.2.2.1 p.1.2.2.2.2.2.1 p.2.1.1 p.2.1.2.1 p.2.1.2.2.1 p.2.2.1.1 p.2.2.1.2.1).bind fun e => match e with | .inl x => k (.inl ((), ())) | .inr (.inl x) => k (.inr (.inl ((), ()))) | .inr (.inr (.inl x)) => k (.inr (.inr (.inl ((), ())))) | .inr (.inr (.inr x)) => k (.inr (.inr (.inr (.inl ((), ()))))) }
theorem fits_l1_eq (N n_ : Nat) (l : List (Int × Int)) (a : Int) (b : Int) (i : Int) (e : List (List Int)) (e2 : List Int) (e3 : Int) (p : Int) (p2 : Int) : ev (Z := (Unit) ⊕ ((Unit) ⊕ ((Unit) ⊕ (Unit)))) Try.prog (fits_sp N) fits_B [] [fits_l1_h (fits_l1 N n_), fits_l1_e0, fits_l1_e1, fits_l1_e2, fits_l1_e3, fits_j1_k N (fits_l1 N n_)] none 400 true fits_l1_at (stL fits_l1_st ((l, (), (), a, b, i, ()), ((e, e2, e3, ()), (p, p2, ()), ()))) (stH fits_l1_st ((l, (), (), a, b, i, ()), ((e, e2, e3, ()), (p, p2, ()), ()))) = fits_l1 N (n_ + 1) l a b i e e2 e3 p p2 := by kernel_rfl
theorem fits_l1_ok (N : Nat) {top : Bool} : LoopOK Try.prog fits_B.c fits_B.n fits_B.m0 top (fits_l1_L N) := loop_of_ev (Z := (Unit) ⊕ ((Unit) ⊕ ((Unit) ⊕ (Unit)))) (N := N) (fun m p => fits_l1 N m p.1.1 p.1.2.2.2.1 p.1.2.2.2.2.1 p.1.2.2.2.2.2.1 p.2.1.1 p.2.1.2.1 p.2.1.2.2.1 p.2.2.1.1 p.2.2.1.2.1) (fun e => match e with | .inl x => .inl ((), ()) | .inr (.inl x) => .inr (.inl ((), ())) | .inr (.inr (.inl x)) => .inr (.inr (.inl ((), ()))) | .inr (.inr (.inr x)) => .inr (.inr (.inr (.inl ((), ()))))) (fun _ p k => bind_congr_ (fits_l1 N N p.1.1 p.1.2.2.2.1 p.1.2.2.2.2.1 p.1.2.2.2.2.2.1 p.2.1.1 p.2.1.2.1 p.2.1.2.2.1 p.2.2.1.1 p.2.2.1.2.1) _ _ (fun e => by rcases e with x | x | x | x <;> rfl)) (fun _ => rfl) (fun m z E Xc hE hX hrec hx => leaf_of_ev (B := fits_B) (loops := []) (leaves := [fits_l1_h (fits_l1 N m), fits_l1_e0, fits_l1_e1, fits_l1_e2, fits_l1_e3, fits_j1_k N (fits_l1 N m)]) (fits_all N) mixed trivial hE hX ⟨hrec, (fun p hp => by obtain rfl := Option.some.inj hp; exact hx), (fun p hp => by obtain rfl := Option.some.inj hp; exact hx), (fun p hp => by obtain rfl := Option.some.inj hp; exact hx), (fun p hp => by obtain rfl := Option.some.inj hp; exact hx), fits_j1_lf N _ hE hX hrec (fun p hp => by obtain rfl := Option.some.inj hp; exact hx) (fun p hp => by obtain rfl := Option.some.inj hp; exact hx) (fun p hp => by obtain rfl := Option.some.inj hp; exact hx) (fun p hp => by obtain rfl := Option.some.inj hp; exact hx), trivial⟩ RetOK.no (fun p => fits_l1_eq N m p.1.1 p.1.2.2.2.1 p.1.2.2.2.2.1 p.1.2.2.2.2.2.1 p.2.1.1 p.2.1.2.1 p.2.1.2.2.1 p.2.2.1.1 p.2.2.1.2.1))
abbrev fits_st : Sta := ⟨[0, 1, 2], ⟨[.agg [.sl (.sl (.int .i64)), .sl (.int .i64), .i .i64], .agg [.i .i64, .i .i64], .sl (.pair (.int .i64) (.int .i64))], []⟩⟩
theorem fits_eq (N : Nat) (e : List (List Int)) (e2 : List Int) (e3 : Int) (p : Int) (p2 : Int) (l : List (Int × Int)) : ev (Z := Bool) Try.prog (fits_sp N) fits_B [fits_l1_L N] [] (some fits_rt) 400 false [.c [0], .c [1]] (stL fits_st (((e, e2, e3, ()), (p, p2, ()), l, ()), ())) (stH fits_st (((e, e2, e3, ()), (p, p2, ()), l, ()), ())) = fits_S N e e2 e3 p p2 l := by kernel_rfl
noncomputable def sp_fits (N : Nat) : Spec := { f := 99, ins := ⟨[.agg [.sl (.sl (.int .i64)), .sl (.int .i64), .i .i64], .agg [.i .i64, .i .i64], .sl (.pair (.int .i64) (.int .i64))], []⟩, outs := [⟨[.b], []⟩], run := fun p k => (fits_S N p.1.1.1 p.1.1.2.1 p.1.1.2.2.1 p.1.2.1.1 p.1.2.1.2.1 p.1.2.2.1).bind fun r => k ((r, ()), ()) }
theorem sp_fits_ok (N : Nat) : SpecOK Try.prog (sp_fits N) := fn_sound (B := fits_B) (loops := [fits_l1_L N]) (leaves := []) (fun p => fits_S N p.1.1.1 p.1.1.2.1 p.1.1.2.2.1 p.1.2.1.1 p.1.2.1.2.1 p.1.2.2.1) (fun r => ((r, ()), ())) fits_rt (fun _ _ _ => rfl) (fun r z h => by cases h; rfl) Try.func99 (by kernel_rfl) (by kernel_rfl) (by kernel_rfl) rfl rfl (by kernel_rfl) (fun args w => Sem.pv_run _ _ _ (by kernel_rfl) w) (fits_all N) mixed ⟨fits_l1_ok N, trivial⟩ (fun z E Xc hE hX hret => trivial) (fun p => fits_eq N p.1.1.1 p.1.1.2.1 p.1.1.2.2.1 p.1.2.1.1 p.1.2.1.2.1 p.1.2.2.1)

def faulty_j1 (N : Nat) (rec : (List (Int × Int)) → Int → Int → Option Int) (l : List (Int × Int)) (n : Int) (i : Int) : Option Int :=
  chk (i + 1) <|
  rec l n (i + 1)
def faulty_l1 (N : Nat) : Nat → (List (Int × Int)) → Int → Int → Option Int
  | 0, _, _, _ => none
  | n_ + 1, l, n, i =>
    br (decide (i < (l.length : Int)))
      (idx l i fun x_3 =>
      br (decide (x_3.1 = 3))
        (chk (n + 1) <|
        faulty_j1 N (faulty_l1 N n_) l (n + 1) i)
        (chk (n - 1) <|
        faulty_j1 N (faulty_l1 N n_) l (n - 1) i))
      (some (n))
def faulty_S (N : Nat) (e : List (List Int)) (e2 : List Int) (e3 : Int) (p : Int) (p2 : Int) (l : List (Int × Int)) : Option Int :=
  idx e p fun x_1 =>
  idx e p2 fun x_2 =>
  chk ((x_1.length : Int) + (x_2.length : Int)) <|
  (faulty_l1 N N l ((x_1.length : Int) + (x_2.length : Int)) 0).bind fun n_4 =>
  some n_4
noncomputable def faulty_sp (N : Nat) : List Spec := []
theorem faulty_all (N : Nat) : AllP (SpecOK Try.prog) (faulty_sp N) := trivial
noncomputable def faulty_c : Code := (Try.f98.body).getD .skip
noncomputable abbrev faulty_B : Body := { c := faulty_c, n := 41, res := [.tmp 6], outs := [⟨[.i .i64], []⟩], m0 := 0 }
abbrev faulty_rt : altD faulty_B.outs → Option Int := fun r => some r.1.1
abbrev faulty_l1_at : List PI := [.c [1, 1, 0, 1, 0, 0, 0, 0], .c [1, 1, 0, 1, 0, 0, 0, 1], .c [1, 1, 0, 1, 0, 0, 1], .l [1, 1, 0, 1, 0, 0], .b 0, .c [1, 1, 1]]
abbrev faulty_l1_st : Sta := ⟨[2, 7, 8], ⟨[.sl (.pair (.int .i64) (.int .i64)), .i .i64, .i .i64], []⟩⟩
abbrev faulty_l1_h (rec : (List (Int × Int)) → Int → Int → Option Int) : Leaf Int := ⟨faulty_l1_at, faulty_l1_st, fun p => rec p.1.1 p.1.2.1 p.1.2.2.1⟩
abbrev faulty_l1_e0 : Leaf Int := ⟨[.c [1, 1, 1, 0], .c [1, 1, 1, 1]], ⟨[7], ⟨[.i .i64], []⟩⟩, fun p => some (p.1.1)⟩
abbrev faulty_j1_at : List PI := [.c [1, 1, 0, 1, 0, 0, 1, 1], .l [1, 1, 0, 1, 0, 0], .b 0, .c [1, 1, 1]]
abbrev faulty_j1_st : Sta := ⟨[2, 7, 8], ⟨[.sl (.pair (.int .i64) (.int .i64)), .i .i64, .i .i64], []⟩⟩
abbrev faulty_j1_k (N : Nat) (rec : (List (Int × Int)) → Int → Int → Option Int) : Leaf Int := ⟨faulty_j1_at, faulty_j1_st, fun p => faulty_j1 N rec p.1.1 p.1.2.1 p.1.2.2.1⟩
theorem faulty_j1_eq (N : Nat) (rec : (List (Int × Int)) → Int → Int → Option Int) (l : List (Int × Int)) (n : Int) (i : Int) : ev (Z := Int) Try.prog (faulty_sp N) faulty_B [] [faulty_l1_h rec, faulty_l1_e0] none 400 true faulty_j1_at (stL faulty_j1_st ((l, n, i, ()), ())) (stH faulty_j1_st ((l, n, i, ()), ())) = faulty_j1 N rec l n i := by kernel_rfl
theorem faulty_j1_lf (N : Nat) (rec : (List (Int × Int)) → Int → Int → Option Int) {z : Int} {top : Bool} {E : EE} {Xc : Ctx} (hE : EOK faulty_B.m0 E) (hX : CxOK top Xc) (hrec : LeafOK Try.prog faulty_B.c faulty_B.n faulty_B.m0 E Xc z (faulty_l1_h rec)) (h0 : LeafOK Try.prog faulty_B.c faulty_B.n faulty_B.m0 E Xc z faulty_l1_e0) : LeafOK Try.prog faulty_B.c faulty_B.n faulty_B.m0 E Xc z (faulty_j1_k N rec) := leaf_of_ev (B := faulty_B) (loops := []) (leaves := [faulty_l1_h rec, faulty_l1_e0]) (faulty_all N) mixed trivial hE hX ⟨hrec, h0, trivial⟩ RetOK.no (fun p => faulty_j1_eq N rec p.1.1 p.1.2.1 p.1.2.2.1)
noncomputable def faulty_l1_L (N : Nat) : LoopS := { at_ := faulty_l1_at, sta := faulty_l1_st, exits := [([.c [1, 1, 1, 0], .c [1, 1, 1, 1]], ⟨[7], ⟨[.i .i64], []⟩⟩)], run := fun p k => (faulty_l1 N N p.1.1 p.1.2.1 p.1.2.2.1).bind fun e => k (.inl ((e, ()), ())) }
theorem faulty_l1_eq (N n_ : Nat) (l : List (Int × Int)) (n : Int) (i : Int) : ev (Z := Int) Try.prog (faulty_sp N) faulty_B [] [faulty_l1_h (faulty_l1 N n_), faulty_l1_e0, faulty_j1_k N (faulty_l1 N n_)] none 400 true faulty_l1_at (stL faulty_l1_st ((l, n, i, ()), ())) (stH faulty_l1_st ((l, n, i, ()), ())) = faulty_l1 N (n_ + 1) l n i := by kernel_rfl
theorem faulty_l1_ok (N : Nat) {top : Bool} : LoopOK Try.prog faulty_B.c faulty_B.n faulty_B.m0 top (faulty_l1_L N) := loop_of_ev (Z := Int) (N := N) (fun m p => faulty_l1 N m p.1.1 p.1.2.1 p.1.2.2.1) (fun e => .inl ((e, ()), ())) (fun _ _ _ => rfl) (fun _ => rfl) (fun m z E Xc hE hX hrec hx => leaf_of_ev (B := faulty_B) (loops := []) (leaves := [faulty_l1_h (faulty_l1 N m), faulty_l1_e0, faulty_j1_k N (faulty_l1 N m)]) (faulty_all N) mixed trivial hE hX ⟨hrec, (fun p hp => by obtain rfl := Option.some.inj hp; exact hx), faulty_j1_lf N _ hE hX hrec (fun p hp => by obtain rfl := Option.some.inj hp; exact hx), trivial⟩ RetOK.no (fun p => faulty_l1_eq N m p.1.1 p.1.2.1 p.1.2.2.1))
abbrev faulty_st : Sta := ⟨[0, 1, 2], ⟨[.agg [.sl (.sl (.int .i64)), .sl (.int .i64), .i .i64], .agg [.i .i64, .i .i64], .sl (.pair (.int .i64) (.int .i64))], []⟩⟩
theorem faulty_eq (N : Nat) (e : List (List Int)) (e2 : List Int) (e3 : Int) (p : Int) (p2 : Int) (l : List (Int × Int)) : ev (Z := Int) Try.prog (faulty_sp N) faulty_B [faulty_l1_L N] [] (some faulty_rt) 400 false [.c [0], .c [1]] (stL faulty_st (((e, e2, e3, ()), (p, p2, ()), l, ()), ())) (stH faulty_st (((e, e2, e3, ()), (p, p2, ()), l, ()), ())) = faulty_S N e e2 e3 p p2 l := by kernel_rfl
noncomputable def sp_faulty (N : Nat) : Spec := { f := 98, ins := ⟨[.agg [.sl (.sl (.int .i64)), .sl (.int .i64), .i .i64], .agg [.i .i64, .i .i64], .sl (.pair (.int .i64) (.int .i64))], []⟩, outs := [⟨[.i .i64], []⟩], run := fun p k => (faulty_S N p.1.1.1 p.1.1.2.1 p.1.1.2.2.1 p.1.2.1.1 p.1.2.1.2.1 p.1.2.2.1).bind fun r => k ((r, ()), ()) }
theorem sp_faulty_ok (N : Nat) : SpecOK Try.prog (sp_faulty N) := fn_sound (B := faulty_B) (loops := [faulty_l1_L N]) (leaves := []) (fun p => faulty_S N p.1.1.1 p.1.1.2.1 p.1.1.2.2.1 p.1.2.1.1 p.1.2.1.2.1 p.1.2.2.1) (fun r => ((r, ()), ())) faulty_rt (fun _ _ _ => rfl) (fun r z h => by cases h; rfl) Try.func98 (by kernel_rfl) (by kernel_rfl) (by kernel_rfl) rfl rfl (by kernel_rfl) (fun args w => Sem.pv_run _ _ _ (by kernel_rfl) w) (faulty_all N) mixed ⟨faulty_l1_ok N, trivial⟩ (fun z E Xc hE hX hret => trivial) (fun p => faulty_eq N p.1.1.1 p.1.1.2.1 p.1.1.2.2.1 p.1.2.1.1 p.1.2.1.2.1 p.1.2.2.1)

def rfaults_S (N : Nat) (e : List (List Int)) (e2 : List Int) (e3 : Int) (p : Int) (p2 : Int) (l : List (Int × Int)) : Option (Int × Int) :=
  (rtwo_S N e e2 e3 p p2).bind fun x_1 =>
  br (!decide (x_1 = 0))
    (some (0, x_1))
    (br (!decide ((l.length : Int) = (e2.length : Int)))
      (some (0, 2))
      ((fits_S N e e2 e3 p p2 l).bind fun x_2 =>
      br (!x_2)
        (some (0, 8))
        ((faulty_S N e e2 e3 p p2 l).bind fun x_3 =>
        some (x_3, 0))))
noncomputable def rfaults_sp (N : Nat) : List Spec := [sp_rtwo N, sp_fits N, sp_faulty N]
theorem rfaults_all (N : Nat) : AllP (SpecOK Try.prog) (rfaults_sp N) := ⟨sp_rtwo_ok N, sp_fits_ok N, sp_faulty_ok N, trivial⟩
noncomputable def rfaults_c : Code := (Try.f46.body).getD .skip
noncomputable abbrev rfaults_B : Body := { c := rfaults_c, n := 30, res := [.tmp 6, .tmp 7], outs := [⟨[.i .i64, .i .i64], []⟩], m0 := 0 }
abbrev rfaults_rt : altD rfaults_B.outs → Option (Int × Int) := fun r => some (r.1.1, r.1.2.1)
abbrev rfaults_st : Sta := ⟨[0, 1, 2], ⟨[.agg [.sl (.sl (.int .i64)), .sl (.int .i64), .i .i64], .agg [.i .i64, .i .i64], .sl (.pair (.int .i64) (.int .i64))], []⟩⟩
theorem rfaults_eq (N : Nat) (e : List (List Int)) (e2 : List Int) (e3 : Int) (p : Int) (p2 : Int) (l : List (Int × Int)) : ev (Z := Int × Int) Try.prog (rfaults_sp N) rfaults_B [] [] (some rfaults_rt) 400 false [.c [0], .c [1]] (stL rfaults_st (((e, e2, e3, ()), (p, p2, ()), l, ()), ())) (stH rfaults_st (((e, e2, e3, ()), (p, p2, ()), l, ()), ())) = rfaults_S N e e2 e3 p p2 l := by kernel_rfl
noncomputable def sp_rfaults (N : Nat) : Spec := { f := 46, ins := ⟨[.agg [.sl (.sl (.int .i64)), .sl (.int .i64), .i .i64], .agg [.i .i64, .i .i64], .sl (.pair (.int .i64) (.int .i64))], []⟩, outs := [⟨[.i .i64, .i .i64], []⟩], run := fun p k => (rfaults_S N p.1.1.1 p.1.1.2.1 p.1.1.2.2.1 p.1.2.1.1 p.1.2.1.2.1 p.1.2.2.1).bind fun r => k ((r.1, r.2, ()), ()) }
theorem sp_rfaults_ok (N : Nat) : SpecOK Try.prog (sp_rfaults N) := fn_sound (B := rfaults_B) (loops := []) (leaves := []) (fun p => rfaults_S N p.1.1.1 p.1.1.2.1 p.1.1.2.2.1 p.1.2.1.1 p.1.2.1.2.1 p.1.2.2.1) (fun r => ((r.1, r.2, ()), ())) rfaults_rt (fun _ _ _ => rfl) (fun r z h => by cases h; rfl) Try.func46 (by kernel_rfl) (by kernel_rfl) (by kernel_rfl) rfl rfl (by kernel_rfl) (fun args w => Sem.pv_run _ _ _ (by kernel_rfl) w) (rfaults_all N) mixed trivial (fun z E Xc hE hX hret => trivial) (fun p => rfaults_eq N p.1.1.1 p.1.1.2.1 p.1.1.2.2.1 p.1.2.1.1 p.1.2.1.2.1 p.1.2.2.1)

def great_l1 (N : Nat) : Nat → (List (List Int)) → Int → Int → Option ((Unit) ⊕ (Unit))
  | 0, _, _, _ => none
  | n_ + 1, u, u2, u3 =>
    br (decide (u3 < u2))
      (idx u u3 fun x_1 =>
      br (decide (9 < (x_1.length : Int)))
        (some (.inl ()))
        (chk (u3 + 1) <|
        great_l1 N n_ u u2 (u3 + 1)))
      (some (.inr ()))
def great_S (N : Nat) (e : List (List Int)) (e2 : List Int) (e3 : Int) : Option Bool :=
  br (decide (8 < (e.length : Int)))
    (some true)
    (br (decide (14 < (e2.length : Int)))
      (some true)
      ((great_l1 N N e (e.length : Int) 0).bind fun e => match e with
      | .inl _ =>
        some true
      | .inr _ =>
        some false))
noncomputable def great_sp (N : Nat) : List Spec := []
theorem great_all (N : Nat) : AllP (SpecOK Try.prog) (great_sp N) := trivial
noncomputable def great_c : Code := (Try.f38.body).getD .skip
noncomputable abbrev great_B : Body := { c := great_c, n := 26, res := [.tmp 2], outs := [⟨[.b], []⟩], m0 := 0 }
abbrev great_rt : altD great_B.outs → Option Bool := fun r => some r.1.1
abbrev great_l1_at : List PI := [.c [1, 1, 0, 1, 0, 0, 0], .c [1, 1, 0, 1, 0, 0, 1], .l [1, 1, 0, 1, 0, 0], .b 0, .c [1, 1, 1]]
abbrev great_l1_st : Sta := ⟨[16, 17, 18], ⟨[.sl (.sl (.int .i64)), .i .i64, .i .i64], []⟩⟩
abbrev great_l1_h (rec : (List (List Int)) → Int → Int → Option ((Unit) ⊕ (Unit))) : Leaf ((Unit) ⊕ (Unit)) := ⟨great_l1_at, great_l1_st, fun p => rec p.1.1 p.1.2.1 p.1.2.2.1⟩
abbrev great_l1_e0 : Leaf ((Unit) ⊕ (Unit)) := ⟨[.c [1, 1, 0, 1, 0, 0, 1, 1, 0, 0, 1, 1, 0, 0], .c [1, 1, 0, 1, 0, 0, 1, 1, 0, 0, 1, 1, 0, 1], .b 1, .c [1, 1, 0, 1, 0, 0, 1, 1, 1], .l [1, 1, 0, 1, 0, 0], .b 0, .c [1, 1, 1]], ⟨[], ⟨[], []⟩⟩, fun p => some (.inl ())⟩
abbrev great_l1_e1 : Leaf ((Unit) ⊕ (Unit)) := ⟨[.c [1, 1, 1, 0], .c [1, 1, 1, 1]], ⟨[], ⟨[], []⟩⟩, fun p => some (.inr ())⟩
noncomputable def great_l1_L (N : Nat) : LoopS := { at_ := great_l1_at, sta := great_l1_st, exits := [([.c [1, 1, 0, 1, 0, 0, 1, 1, 0, 0, 1, 1, 0, 0], .c [1, 1, 0, 1, 0, 0, 1, 1, 0, 0, 1, 1, 0, 1], .b 1, .c [1, 1, 0, 1, 0, 0, 1, 1, 1], .l [1, 1, 0, 1, 0, 0], .b 0, .c [1, 1, 1]], ⟨[], ⟨[], []⟩⟩), ([.c [1, 1, 1, 0], .c [1, 1, 1, 1]], ⟨[], ⟨[], []⟩⟩)], run := fun p k => (great_l1 N N p.1.1 p.1.2.1 p.1.2.2.1).bind fun e => match e with | .inl x => k (.inl ((), ())) | .inr x => k (.inr (.inl ((), ()))) }
theorem great_l1_eq (N n_ : Nat) (u : List (List Int)) (u2 : Int) (u3 : Int) : ev (Z := (Unit) ⊕ (Unit)) Try.prog (great_sp N) great_B [] [great_l1_h (great_l1 N n_), great_l1_e0, great_l1_e1] none 400 true great_l1_at (stL great_l1_st ((u, u2, u3, ()), ())) (stH great_l1_st ((u, u2, u3, ()), ())) = great_l1 N (n_ + 1) u u2 u3 := by kernel_rfl
theorem great_l1_ok (N : Nat) {top : Bool} : LoopOK Try.prog great_B.c great_B.n great_B.m0 top (great_l1_L N) := loop_of_ev (Z := (Unit) ⊕ (Unit)) (N := N) (fun m p => great_l1 N m p.1.1 p.1.2.1 p.1.2.2.1) (fun e => match e with | .inl x => .inl ((), ()) | .inr x => .inr (.inl ((), ()))) (fun _ p k => bind_congr_ (great_l1 N N p.1.1 p.1.2.1 p.1.2.2.1) _ _ (fun e => by rcases e with x | x <;> rfl)) (fun _ => rfl) (fun m z E Xc hE hX hrec hx => leaf_of_ev (B := great_B) (loops := []) (leaves := [great_l1_h (great_l1 N m), great_l1_e0, great_l1_e1]) (great_all N) mixed trivial hE hX ⟨hrec, (fun p hp => by obtain rfl := Option.some.inj hp; exact hx), (fun p hp => by obtain rfl := Option.some.inj hp; exact hx), trivial⟩ RetOK.no (fun p => great_l1_eq N m p.1.1 p.1.2.1 p.1.2.2.1))
abbrev great_st : Sta := ⟨[0], ⟨[.agg [.sl (.sl (.int .i64)), .sl (.int .i64), .i .i64]], []⟩⟩
theorem great_eq (N : Nat) (e : List (List Int)) (e2 : List Int) (e3 : Int) : ev (Z := Bool) Try.prog (great_sp N) great_B [great_l1_L N] [] (some great_rt) 400 false [.c [0], .c [1]] (stL great_st (((e, e2, e3, ()), ()), ())) (stH great_st (((e, e2, e3, ()), ()), ())) = great_S N e e2 e3 := by kernel_rfl
noncomputable def sp_great (N : Nat) : Spec := { f := 38, ins := ⟨[.agg [.sl (.sl (.int .i64)), .sl (.int .i64), .i .i64]], []⟩, outs := [⟨[.b], []⟩], run := fun p k => (great_S N p.1.1.1 p.1.1.2.1 p.1.1.2.2.1).bind fun r => k ((r, ()), ()) }
theorem sp_great_ok (N : Nat) : SpecOK Try.prog (sp_great N) := fn_sound (B := great_B) (loops := [great_l1_L N]) (leaves := []) (fun p => great_S N p.1.1.1 p.1.1.2.1 p.1.1.2.2.1) (fun r => ((r, ()), ())) great_rt (fun _ _ _ => rfl) (fun r z h => by cases h; rfl) Try.func38 (by kernel_rfl) (by kernel_rfl) (by kernel_rfl) rfl rfl (by kernel_rfl) (fun args w => Sem.pv_run _ _ _ (by kernel_rfl) w) (great_all N) mixed ⟨great_l1_ok N, trivial⟩ (fun z E Xc hE hX hret => trivial) (fun p => great_eq N p.1.1.1 p.1.1.2.1 p.1.1.2.2.1)

def wide_l1 (N : Nat) : Nat → Int → (List (List Int)) → Int → Int → Option ((Unit) ⊕ (Unit))
  | 0, _, _, _, _ => none
  | n_ + 1, words, u, u2, u3 =>
    br (decide (u3 < u2))
      (idx u u3 fun x_1 =>
      br (decide (words < (x_1.length : Int)))
        (br (decide ((x_1.length : Int) ≤ 6))
          (some (.inl ()))
          (chk (u3 + 1) <|
          wide_l1 N n_ words u u2 (u3 + 1)))
        (chk (u3 + 1) <|
        wide_l1 N n_ words u u2 (u3 + 1)))
      (some (.inr ()))
def wide_S (N : Nat) (e : List (List Int)) (e2 : List Int) (e3 : Int) (heard : Int) (words : Int) : Option Bool :=
  br (decide (heard < (e2.length : Int)))
    (br (decide ((e2.length : Int) ≤ 10))
      (some true)
      ((wide_l1 N N words e (e.length : Int) 0).bind fun e => match e with
      | .inl _ =>
        some true
      | .inr _ =>
        some false))
    ((wide_l1 N N words e (e.length : Int) 0).bind fun e => match e with
    | .inl _ =>
      some true
    | .inr _ =>
      some false)
noncomputable def wide_sp (N : Nat) : List Spec := []
theorem wide_all (N : Nat) : AllP (SpecOK Try.prog) (wide_sp N) := trivial
noncomputable def wide_c : Code := (Try.f39.body).getD .skip
noncomputable abbrev wide_B : Body := { c := wide_c, n := 37, res := [.tmp 6], outs := [⟨[.b], []⟩], m0 := 0 }
abbrev wide_rt : altD wide_B.outs → Option Bool := fun r => some r.1.1
abbrev wide_l1_at : List PI := [.c [1, 1, 0, 1, 0, 0, 0], .c [1, 1, 0, 1, 0, 0, 1], .l [1, 1, 0, 1, 0, 0], .b 0, .c [1, 1, 1]]
abbrev wide_l1_st : Sta := ⟨[2, 21, 22, 23], ⟨[.i .i64, .sl (.sl (.int .i64)), .i .i64, .i .i64], []⟩⟩
abbrev wide_l1_h (rec : Int → (List (List Int)) → Int → Int → Option ((Unit) ⊕ (Unit))) : Leaf ((Unit) ⊕ (Unit)) := ⟨wide_l1_at, wide_l1_st, fun p => rec p.1.1 p.1.2.1 p.1.2.2.1 p.1.2.2.2.1⟩
abbrev wide_l1_e0 : Leaf ((Unit) ⊕ (Unit)) := ⟨[.c [1, 1, 0, 1, 0, 0, 1, 1, 0, 0, 1, 1, 0, 0], .c [1, 1, 0, 1, 0, 0, 1, 1, 0, 0, 1, 1, 0, 1], .b 1, .c [1, 1, 0, 1, 0, 0, 1, 1, 1], .l [1, 1, 0, 1, 0, 0], .b 0, .c [1, 1, 1]], ⟨[], ⟨[], []⟩⟩, fun p => some (.inl ())⟩
abbrev wide_l1_e1 : Leaf ((Unit) ⊕ (Unit)) := ⟨[.c [1, 1, 1, 0], .c [1, 1, 1, 1]], ⟨[], ⟨[], []⟩⟩, fun p => some (.inr ())⟩
noncomputable def wide_l1_L (N : Nat) : LoopS := { at_ := wide_l1_at, sta := wide_l1_st, exits := [([.c [1, 1, 0, 1, 0, 0, 1, 1, 0, 0, 1, 1, 0, 0], .c [1, 1, 0, 1, 0, 0, 1, 1, 0, 0, 1, 1, 0, 1], .b 1, .c [1, 1, 0, 1, 0, 0, 1, 1, 1], .l [1, 1, 0, 1, 0, 0], .b 0, .c [1, 1, 1]], ⟨[], ⟨[], []⟩⟩), ([.c [1, 1, 1, 0], .c [1, 1, 1, 1]], ⟨[], ⟨[], []⟩⟩)], run := fun p k => (wide_l1 N N p.1.1 p.1.2.1 p.1.2.2.1 p.1.2.2.2.1).bind fun e => match e with | .inl x => k (.inl ((), ())) | .inr x => k (.inr (.inl ((), ()))) }
theorem wide_l1_eq (N n_ : Nat) (words : Int) (u : List (List Int)) (u2 : Int) (u3 : Int) : ev (Z := (Unit) ⊕ (Unit)) Try.prog (wide_sp N) wide_B [] [wide_l1_h (wide_l1 N n_), wide_l1_e0, wide_l1_e1] none 400 true wide_l1_at (stL wide_l1_st ((words, u, u2, u3, ()), ())) (stH wide_l1_st ((words, u, u2, u3, ()), ())) = wide_l1 N (n_ + 1) words u u2 u3 := by kernel_rfl
theorem wide_l1_ok (N : Nat) {top : Bool} : LoopOK Try.prog wide_B.c wide_B.n wide_B.m0 top (wide_l1_L N) := loop_of_ev (Z := (Unit) ⊕ (Unit)) (N := N) (fun m p => wide_l1 N m p.1.1 p.1.2.1 p.1.2.2.1 p.1.2.2.2.1) (fun e => match e with | .inl x => .inl ((), ()) | .inr x => .inr (.inl ((), ()))) (fun _ p k => bind_congr_ (wide_l1 N N p.1.1 p.1.2.1 p.1.2.2.1 p.1.2.2.2.1) _ _ (fun e => by rcases e with x | x <;> rfl)) (fun _ => rfl) (fun m z E Xc hE hX hrec hx => leaf_of_ev (B := wide_B) (loops := []) (leaves := [wide_l1_h (wide_l1 N m), wide_l1_e0, wide_l1_e1]) (wide_all N) mixed trivial hE hX ⟨hrec, (fun p hp => by obtain rfl := Option.some.inj hp; exact hx), (fun p hp => by obtain rfl := Option.some.inj hp; exact hx), trivial⟩ RetOK.no (fun p => wide_l1_eq N m p.1.1 p.1.2.1 p.1.2.2.1 p.1.2.2.2.1))
abbrev wide_st : Sta := ⟨[0, 1, 2], ⟨[.agg [.sl (.sl (.int .i64)), .sl (.int .i64), .i .i64], .i .i64, .i .i64], []⟩⟩
theorem wide_eq (N : Nat) (e : List (List Int)) (e2 : List Int) (e3 : Int) (heard : Int) (words : Int) : ev (Z := Bool) Try.prog (wide_sp N) wide_B [wide_l1_L N] [] (some wide_rt) 400 false [.c [0], .c [1]] (stL wide_st (((e, e2, e3, ()), heard, words, ()), ())) (stH wide_st (((e, e2, e3, ()), heard, words, ()), ())) = wide_S N e e2 e3 heard words := by kernel_rfl
noncomputable def sp_wide (N : Nat) : Spec := { f := 39, ins := ⟨[.agg [.sl (.sl (.int .i64)), .sl (.int .i64), .i .i64], .i .i64, .i .i64], []⟩, outs := [⟨[.b], []⟩], run := fun p k => (wide_S N p.1.1.1 p.1.1.2.1 p.1.1.2.2.1 p.1.2.1 p.1.2.2.1).bind fun r => k ((r, ()), ()) }
theorem sp_wide_ok (N : Nat) : SpecOK Try.prog (sp_wide N) := fn_sound (B := wide_B) (loops := [wide_l1_L N]) (leaves := []) (fun p => wide_S N p.1.1.1 p.1.1.2.1 p.1.1.2.2.1 p.1.2.1 p.1.2.2.1) (fun r => ((r, ()), ())) wide_rt (fun _ _ _ => rfl) (fun r z h => by cases h; rfl) Try.func39 (by kernel_rfl) (by kernel_rfl) (by kernel_rfl) rfl rfl (by kernel_rfl) (fun args w => Sem.pv_run _ _ _ (by kernel_rfl) w) (wide_all N) mixed ⟨wide_l1_ok N, trivial⟩ (fun z E Xc hE hX hret => trivial) (fun p => wide_eq N p.1.1.1 p.1.1.2.1 p.1.1.2.2.1 p.1.2.1 p.1.2.2.1)

def places_l1 (N : Nat) : Nat → (List (Int × Int)) → Int → Int → (List (Int × Int)) → Option (List (Int × Int))
  | 0, _, _, _, _ => none
  | n_ + 1, u, u2, u3, out =>
    br (decide (u3 < u2))
      (idx u u3 fun x_1 =>
      lim (out.length + [(x_1.1, x_1.2)].length) <|
      chk (u3 + 1) <|
      places_l1 N n_ u u2 (u3 + 1) (out ++ [(x_1.1, x_1.2)]))
      (some (out))
def places_S (N : Nat) (l : List (Int × Int)) : Option (List (Int × Int)) :=
  (places_l1 N N l (l.length : Int) 0 []).bind fun out_2 =>
  some out_2
noncomputable def places_sp (N : Nat) : List Spec := []
theorem places_all (N : Nat) : AllP (SpecOK Try.prog) (places_sp N) := trivial
noncomputable def places_c : Code := (Try.f47.body).getD .skip
noncomputable abbrev places_B : Body := { c := places_c, n := 22, res := [.tmp 2], outs := [⟨[.sl (.pair (.int .i64) (.int .i64))], []⟩], m0 := 0 }
abbrev places_rt : altD places_B.outs → Option (List (Int × Int)) := fun r => some r.1.1
abbrev places_l1_at : List PI := [.c [1, 1, 0, 1, 0, 0, 0], .c [1, 1, 0, 1, 0, 0, 1], .l [1, 1, 0, 1, 0, 0], .b 0, .c [1, 1, 1]]
abbrev places_l1_st : Sta := ⟨[3, 6, 7, 8], ⟨[.ols 0, .sl (.pair (.int .i64) (.int .i64)), .i .i64, .i .i64], [.lst (.pair (.int .i64) (.int .i64))]⟩⟩
abbrev places_l1_h (rec : (List (Int × Int)) → Int → Int → (List (Int × Int)) → Option (List (Int × Int))) : Leaf (List (Int × Int)) := ⟨places_l1_at, places_l1_st, fun p => rec p.1.2.1 p.1.2.2.1 p.1.2.2.2.1 p.2.1⟩
abbrev places_l1_e0 : Leaf (List (Int × Int)) := ⟨[.c [1, 1, 1, 0], .c [1, 1, 1, 1]], ⟨[3], ⟨[.ols 0], [.lst (.pair (.int .i64) (.int .i64))]⟩⟩, fun p => some (p.2.1)⟩
noncomputable def places_l1_L (N : Nat) : LoopS := { at_ := places_l1_at, sta := places_l1_st, exits := [([.c [1, 1, 1, 0], .c [1, 1, 1, 1]], ⟨[3], ⟨[.ols 0], [.lst (.pair (.int .i64) (.int .i64))]⟩⟩)], run := fun p k => (places_l1 N N p.1.2.1 p.1.2.2.1 p.1.2.2.2.1 p.2.1).bind fun e => k (.inl (((), ()), (e, ()))) }
theorem places_l1_eq (N n_ : Nat) (u : List (Int × Int)) (u2 : Int) (u3 : Int) (out : List (Int × Int)) : ev (Z := (List (Int × Int))) Try.prog (places_sp N) places_B [] [places_l1_h (places_l1 N n_), places_l1_e0] none 400 true places_l1_at (stL places_l1_st (((), u, u2, u3, ()), (out, ()))) (stH places_l1_st (((), u, u2, u3, ()), (out, ()))) = places_l1 N (n_ + 1) u u2 u3 out := by kernel_rfl
theorem places_l1_ok (N : Nat) {top : Bool} : LoopOK Try.prog places_B.c places_B.n places_B.m0 top (places_l1_L N) := loop_of_ev (Z := (List (Int × Int))) (N := N) (fun m p => places_l1 N m p.1.2.1 p.1.2.2.1 p.1.2.2.2.1 p.2.1) (fun e => .inl (((), ()), (e, ()))) (fun _ _ _ => rfl) (fun _ => rfl) (fun m z E Xc hE hX hrec hx => leaf_of_ev (B := places_B) (loops := []) (leaves := [places_l1_h (places_l1 N m), places_l1_e0]) (places_all N) mixed trivial hE hX ⟨hrec, (fun p hp => by obtain rfl := Option.some.inj hp; exact hx), trivial⟩ RetOK.no (fun p => places_l1_eq N m p.1.2.1 p.1.2.2.1 p.1.2.2.2.1 p.2.1))
abbrev places_st : Sta := ⟨[0], ⟨[.sl (.pair (.int .i64) (.int .i64))], []⟩⟩
theorem places_eq (N : Nat) (l : List (Int × Int)) : ev (Z := (List (Int × Int))) Try.prog (places_sp N) places_B [places_l1_L N] [] (some places_rt) 400 false [.c [0], .c [1]] (stL places_st ((l, ()), ())) (stH places_st ((l, ()), ())) = places_S N l := by kernel_rfl
noncomputable def sp_places (N : Nat) : Spec := { f := 47, ins := ⟨[.sl (.pair (.int .i64) (.int .i64))], []⟩, outs := [⟨[.sl (.pair (.int .i64) (.int .i64))], []⟩], run := fun p k => (places_S N p.1.1).bind fun r => k ((r, ()), ()) }
theorem sp_places_ok (N : Nat) : SpecOK Try.prog (sp_places N) := fn_sound (B := places_B) (loops := [places_l1_L N]) (leaves := []) (fun p => places_S N p.1.1) (fun r => ((r, ()), ())) places_rt (fun _ _ _ => rfl) (fun r z h => by cases h; rfl) Try.func47 (by kernel_rfl) (by kernel_rfl) (by kernel_rfl) rfl rfl (by kernel_rfl) (fun args w => Sem.pv_run _ _ _ (by kernel_rfl) w) (places_all N) mixed ⟨places_l1_ok N, trivial⟩ (fun z E Xc hE hX hret => trivial) (fun p => places_eq N p.1.1)

def equalf_l1 (N : Nat) : Nat → (List (List Int)) → (List (List Int)) → Int → Int → Option ((Unit) ⊕ (Unit))
  | 0, _, _, _, _ => none
  | n_ + 1, s2, u, u2, u3 =>
    br (decide (u3 < u2))
      (idx u u3 fun x_1 =>
      idx s2 u3 fun x_2 =>
      (equali_S N x_1 x_2).bind fun x_3 =>
      br (!x_3)
        (some (.inl ()))
        (chk (u3 + 1) <|
        equalf_l1 N n_ s2 u u2 (u3 + 1)))
      (some (.inr ()))
def equalf_S (N : Nat) (s1 : List (List Int)) (s2 : List (List Int)) : Option Bool :=
  br (!decide ((s1.length : Int) = (s2.length : Int)))
    (some false)
    ((equalf_l1 N N s2 s1 (s1.length : Int) 0).bind fun e => match e with
    | .inl _ =>
      some false
    | .inr _ =>
      some true)
noncomputable def equalf_sp (N : Nat) : List Spec := [sp_equali N]
theorem equalf_all (N : Nat) : AllP (SpecOK Try.prog) (equalf_sp N) := ⟨sp_equali_ok N, trivial⟩
noncomputable def equalf_c : Code := (Try.f112.body).getD .skip
noncomputable abbrev equalf_B : Body := { c := equalf_c, n := 32, res := [.tmp 6], outs := [⟨[.b], []⟩], m0 := 0 }
abbrev equalf_rt : altD equalf_B.outs → Option Bool := fun r => some r.1.1
abbrev equalf_l1_at : List PI := [.c [1, 1, 0, 1, 0, 0, 0], .c [1, 1, 0, 1, 0, 0, 1], .l [1, 1, 0, 1, 0, 0], .b 0, .c [1, 1, 1]]
abbrev equalf_l1_st : Sta := ⟨[1, 2, 15, 16, 17], ⟨[.sl (.sl (.int .i64)), .fn 103 [] [], .sl (.sl (.int .i64)), .i .i64, .i .i64], []⟩⟩
abbrev equalf_l1_h (rec : (List (List Int)) → (List (List Int)) → Int → Int → Option ((Unit) ⊕ (Unit))) : Leaf ((Unit) ⊕ (Unit)) := ⟨equalf_l1_at, equalf_l1_st, fun p => rec p.1.1 p.1.2.2.1 p.1.2.2.2.1 p.1.2.2.2.2.1⟩
abbrev equalf_l1_e0 : Leaf ((Unit) ⊕ (Unit)) := ⟨[.c [1, 1, 0, 1, 0, 0, 1, 1, 0, 0, 1, 1, 1, 0, 0], .c [1, 1, 0, 1, 0, 0, 1, 1, 0, 0, 1, 1, 1, 0, 1], .b 1, .c [1, 1, 0, 1, 0, 0, 1, 1, 1], .l [1, 1, 0, 1, 0, 0], .b 0, .c [1, 1, 1]], ⟨[], ⟨[], []⟩⟩, fun p => some (.inl ())⟩
abbrev equalf_l1_e1 : Leaf ((Unit) ⊕ (Unit)) := ⟨[.c [1, 1, 1, 0], .c [1, 1, 1, 1]], ⟨[], ⟨[], []⟩⟩, fun p => some (.inr ())⟩
noncomputable def equalf_l1_L (N : Nat) : LoopS := { at_ := equalf_l1_at, sta := equalf_l1_st, exits := [([.c [1, 1, 0, 1, 0, 0, 1, 1, 0, 0, 1, 1, 1, 0, 0], .c [1, 1, 0, 1, 0, 0, 1, 1, 0, 0, 1, 1, 1, 0, 1], .b 1, .c [1, 1, 0, 1, 0, 0, 1, 1, 1], .l [1, 1, 0, 1, 0, 0], .b 0, .c [1, 1, 1]], ⟨[], ⟨[], []⟩⟩), ([.c [1, 1, 1, 0], .c [1, 1, 1, 1]], ⟨[], ⟨[], []⟩⟩)], run := fun p k => (equalf_l1 N N p.1.1 p.1.2.2.1 p.1.2.2.2.1 p.1.2.2.2.2.1).bind fun e => match e with | .inl x => k (.inl ((), ())) | .inr x => k (.inr (.inl ((), ()))) }
theorem equalf_l1_eq (N n_ : Nat) (s2 : List (List Int)) (u : List (List Int)) (u2 : Int) (u3 : Int) : ev (Z := (Unit) ⊕ (Unit)) Try.prog (equalf_sp N) equalf_B [] [equalf_l1_h (equalf_l1 N n_), equalf_l1_e0, equalf_l1_e1] none 400 true equalf_l1_at (stL equalf_l1_st ((s2, ((), ()), u, u2, u3, ()), ())) (stH equalf_l1_st ((s2, ((), ()), u, u2, u3, ()), ())) = equalf_l1 N (n_ + 1) s2 u u2 u3 := by kernel_rfl
theorem equalf_l1_ok (N : Nat) {top : Bool} : LoopOK Try.prog equalf_B.c equalf_B.n equalf_B.m0 top (equalf_l1_L N) := loop_of_ev (Z := (Unit) ⊕ (Unit)) (N := N) (fun m p => equalf_l1 N m p.1.1 p.1.2.2.1 p.1.2.2.2.1 p.1.2.2.2.2.1) (fun e => match e with | .inl x => .inl ((), ()) | .inr x => .inr (.inl ((), ()))) (fun _ p k => bind_congr_ (equalf_l1 N N p.1.1 p.1.2.2.1 p.1.2.2.2.1 p.1.2.2.2.2.1) _ _ (fun e => by rcases e with x | x <;> rfl)) (fun _ => rfl) (fun m z E Xc hE hX hrec hx => leaf_of_ev (B := equalf_B) (loops := []) (leaves := [equalf_l1_h (equalf_l1 N m), equalf_l1_e0, equalf_l1_e1]) (equalf_all N) mixed trivial hE hX ⟨hrec, (fun p hp => by obtain rfl := Option.some.inj hp; exact hx), (fun p hp => by obtain rfl := Option.some.inj hp; exact hx), trivial⟩ RetOK.no (fun p => equalf_l1_eq N m p.1.1 p.1.2.2.1 p.1.2.2.2.1 p.1.2.2.2.2.1))
abbrev equalf_st : Sta := ⟨[0, 1, 2], ⟨[.sl (.sl (.int .i64)), .sl (.sl (.int .i64)), .fn 103 [] []], []⟩⟩
theorem equalf_eq (N : Nat) (s1 : List (List Int)) (s2 : List (List Int)) : ev (Z := Bool) Try.prog (equalf_sp N) equalf_B [equalf_l1_L N] [] (some equalf_rt) 400 false [.c [0], .c [1]] (stL equalf_st ((s1, s2, ((), ()), ()), ())) (stH equalf_st ((s1, s2, ((), ()), ()), ())) = equalf_S N s1 s2 := by kernel_rfl
noncomputable def sp_equalf (N : Nat) : Spec := { f := 112, ins := ⟨[.sl (.sl (.int .i64)), .sl (.sl (.int .i64)), .fn 103 [] []], []⟩, outs := [⟨[.b], []⟩], run := fun p k => (equalf_S N p.1.1 p.1.2.1).bind fun r => k ((r, ()), ()) }
theorem sp_equalf_ok (N : Nat) : SpecOK Try.prog (sp_equalf N) := fn_sound (B := equalf_B) (loops := [equalf_l1_L N]) (leaves := []) (fun p => equalf_S N p.1.1 p.1.2.1) (fun r => ((r, ()), ())) equalf_rt (fun _ _ _ => rfl) (fun r z h => by cases h; rfl) Try.func112 (by kernel_rfl) (by kernel_rfl) (by kernel_rfl) rfl rfl (by kernel_rfl) (fun args w => Sem.pv_run _ _ _ (by kernel_rfl) w) (equalf_all N) mixed ⟨equalf_l1_ok N, trivial⟩ (fun z E Xc hE hX hret => trivial) (fun p => equalf_eq N p.1.1 p.1.2.1)

def liker_S (N : Nat) (a : List (List Int)) (b : List (List Int)) : Option Bool :=
  (equalf_S N a b).bind fun x_1 =>
  some x_1
noncomputable def liker_sp (N : Nat) : List Spec := [sp_equalf N]
theorem liker_all (N : Nat) : AllP (SpecOK Try.prog) (liker_sp N) := ⟨sp_equalf_ok N, trivial⟩
noncomputable def liker_c : Code := (Try.f68.body).getD .skip
noncomputable abbrev liker_B : Body := { c := liker_c, n := 8, res := [.tmp 4], outs := [⟨[.b], []⟩], m0 := 0 }
abbrev liker_rt : altD liker_B.outs → Option Bool := fun r => some r.1.1
abbrev liker_st : Sta := ⟨[0, 1], ⟨[.sl (.sl (.int .i64)), .sl (.sl (.int .i64))], []⟩⟩
theorem liker_eq (N : Nat) (a : List (List Int)) (b : List (List Int)) : ev (Z := Bool) Try.prog (liker_sp N) liker_B [] [] (some liker_rt) 400 false [.c [0], .c [1]] (stL liker_st ((a, b, ()), ())) (stH liker_st ((a, b, ()), ())) = liker_S N a b := by kernel_rfl
noncomputable def sp_liker (N : Nat) : Spec := { f := 68, ins := ⟨[.sl (.sl (.int .i64)), .sl (.sl (.int .i64))], []⟩, outs := [⟨[.b], []⟩], run := fun p k => (liker_S N p.1.1 p.1.2.1).bind fun r => k ((r, ()), ()) }
theorem sp_liker_ok (N : Nat) : SpecOK Try.prog (sp_liker N) := fn_sound (B := liker_B) (loops := []) (leaves := []) (fun p => liker_S N p.1.1 p.1.2.1) (fun r => ((r, ()), ())) liker_rt (fun _ _ _ => rfl) (fun r z h => by cases h; rfl) Try.func68 (by kernel_rfl) (by kernel_rfl) (by kernel_rfl) rfl rfl (by kernel_rfl) (fun args w => Sem.pv_run _ _ _ (by kernel_rfl) w) (liker_all N) mixed trivial (fun z E Xc hE hX hret => trivial) (fun p => liker_eq N p.1.1 p.1.2.1)

def same_S (N : Nat) (a : List (List Int)) (a2 : List Int) (a3 : Int) (b : List (List Int)) (b2 : List Int) (b3 : Int) : Option Bool :=
  (liker_S N a b).bind fun x_1 =>
  br x_1
    ((likei_S N a2 b2).bind fun x_2 =>
    br x_2
      (some (decide (a3 = b3)))
      (some false))
    (some false)
noncomputable def same_sp (N : Nat) : List Spec := [sp_likei N, sp_liker N]
theorem same_all (N : Nat) : AllP (SpecOK Try.prog) (same_sp N) := ⟨sp_likei_ok N, sp_liker_ok N, trivial⟩
noncomputable def same_c : Code := (Try.f43.body).getD .skip
noncomputable abbrev same_B : Body := { c := same_c, n := 24, res := [.tmp 4], outs := [⟨[.b], []⟩], m0 := 0 }
abbrev same_rt : altD same_B.outs → Option Bool := fun r => some r.1.1
abbrev same_st : Sta := ⟨[0, 1], ⟨[.agg [.sl (.sl (.int .i64)), .sl (.int .i64), .i .i64], .agg [.sl (.sl (.int .i64)), .sl (.int .i64), .i .i64]], []⟩⟩
theorem same_eq (N : Nat) (a : List (List Int)) (a2 : List Int) (a3 : Int) (b : List (List Int)) (b2 : List Int) (b3 : Int) : ev (Z := Bool) Try.prog (same_sp N) same_B [] [] (some same_rt) 400 false [.c [0], .c [1]] (stL same_st (((a, a2, a3, ()), (b, b2, b3, ()), ()), ())) (stH same_st (((a, a2, a3, ()), (b, b2, b3, ()), ()), ())) = same_S N a a2 a3 b b2 b3 := by kernel_rfl
noncomputable def sp_same (N : Nat) : Spec := { f := 43, ins := ⟨[.agg [.sl (.sl (.int .i64)), .sl (.int .i64), .i .i64], .agg [.sl (.sl (.int .i64)), .sl (.int .i64), .i .i64]], []⟩, outs := [⟨[.b], []⟩], run := fun p k => (same_S N p.1.1.1 p.1.1.2.1 p.1.1.2.2.1 p.1.2.1.1 p.1.2.1.2.1 p.1.2.1.2.2.1).bind fun r => k ((r, ()), ()) }
theorem sp_same_ok (N : Nat) : SpecOK Try.prog (sp_same N) := fn_sound (B := same_B) (loops := []) (leaves := []) (fun p => same_S N p.1.1.1 p.1.1.2.1 p.1.1.2.2.1 p.1.2.1.1 p.1.2.1.2.1 p.1.2.1.2.2.1) (fun r => ((r, ()), ())) same_rt (fun _ _ _ => rfl) (fun r z h => by cases h; rfl) Try.func43 (by kernel_rfl) (by kernel_rfl) (by kernel_rfl) rfl rfl (by kernel_rfl) (fun args w => Sem.pv_run _ _ _ (by kernel_rfl) w) (same_all N) mixed trivial (fun z E Xc hE hX hret => trivial) (fun p => same_eq N p.1.1.1 p.1.1.2.1 p.1.1.2.2.1 p.1.2.1.1 p.1.2.1.2.1 p.1.2.1.2.2.1)

noncomputable abbrev readings_self (self : (List (List Int)) → (List Int) → Int → Int → Int → (List (Int × Int)) → Option (List (List (Int × Int)))) : Spec := { f := 97, ins := ⟨[.agg [.sl (.sl (.int .i64)), .sl (.int .i64), .i .i64], .agg [.i .i64, .i .i64], .sl (.pair (.int .i64) (.int .i64))], []⟩, outs := [⟨[.ols 0], [.lst (.sl (.pair (.int .i64) (.int .i64)))]⟩], run := fun p k => (self p.1.1.1 p.1.1.2.1 p.1.1.2.2.1 p.1.2.1.1 p.1.2.1.2.1 p.1.2.2.1).bind fun r => k (((), ()), (r, ())) }
def readings_l1 (N : Nat) (self : (List (List Int)) → (List Int) → Int → Int → Int → (List (Int × Int)) → Option (List (List (Int × Int)))) : Nat → (List (Int × Int)) → Int → (List (List Int)) → (List Int) → Int → Int → Int → (List (List (Int × Int))) → Option ((List (Int × Int)) × List (List Int) × List Int × Int × Int × Int × (List (List (Int × Int))))
  | 0, _, _, _, _, _, _, _, _ => none
  | n_ + 1, l, k, e, e2, e3, p, p2, out =>
    idx e p fun x_3 =>
    br (decide (k < (x_3.length : Int)))
      (lim (([] : (List (Int × Int))).length + l.length) <|
      lim ((([] : (List (Int × Int))) ++ l).length + [(1, k)].length) <|
      (self e e2 e3 p p2 ((([] : (List (Int × Int))) ++ l) ++ [(1, k)])).bind fun x_4 =>
      lim (out.length + x_4.length) <|
      chk (k + 1) <|
      readings_l1 N self n_ l (k + 1) e e2 e3 p p2 (out ++ x_4))
      (some ((l, e, e2, e3, p, p2, out)))
def readings_l2 (N : Nat) (self : (List (List Int)) → (List Int) → Int → Int → Int → (List (Int × Int)) → Option (List (List (Int × Int)))) : Nat → (List (Int × Int)) → Int → (List (List Int)) → (List Int) → Int → Int → Int → (List (List (Int × Int))) → Option (List (List (Int × Int)))
  | 0, _, _, _, _, _, _, _, _ => none
  | n_ + 1, l, k, e, e2, e3, p, p2, out =>
    idx e p2 fun x_12 =>
    br (decide (k < (x_12.length : Int)))
      (lim (([] : (List (Int × Int))).length + l.length) <|
      lim ((([] : (List (Int × Int))) ++ l).length + [(2, k)].length) <|
      (self e e2 e3 p p2 ((([] : (List (Int × Int))) ++ l) ++ [(2, k)])).bind fun x_13 =>
      lim (out.length + x_13.length) <|
      chk (k + 1) <|
      readings_l2 N self n_ l (k + 1) e e2 e3 p p2 (out ++ x_13))
      (some (out))
def readings_S (N : Nat) (self : (List (List Int)) → (List Int) → Int → Int → Int → (List (Int × Int)) → Option (List (List (Int × Int)))) (e : List (List Int)) (e2 : List Int) (e3 : Int) (p : Int) (p2 : Int) (l : List (Int × Int)) : Option (List (List (Int × Int))) :=
  (fits_S N e e2 e3 p p2 l).bind fun x_1 =>
  br (!x_1)
    (some [])
    (br (decide ((l.length : Int) = (e2.length : Int)))
      (some [l])
      (lim (([] : (List (Int × Int))).length + l.length) <|
      lim ((([] : (List (Int × Int))) ++ l).length + [(3, 0)].length) <|
      (self e e2 e3 p p2 ((([] : (List (Int × Int))) ++ l) ++ [(3, 0)])).bind fun x_2 =>
      (readings_l1 N self N l 0 e e2 e3 p p2 x_2).bind fun (l_5, e_6, e2_7, e3_8, p_9, p2_10, out_11) =>
      (readings_l2 N self N l_5 0 e_6 e2_7 e3_8 p_9 p2_10 out_11).bind fun out_14 =>
      some out_14))
noncomputable def readings_sp (N : Nat) (self : (List (List Int)) → (List Int) → Int → Int → Int → (List (Int × Int)) → Option (List (List (Int × Int)))) : List Spec := [sp_fits N, readings_self self]
theorem readings_all (N : Nat) (self : (List (List Int)) → (List Int) → Int → Int → Int → (List (Int × Int)) → Option (List (List (Int × Int)))) (hself : SpecOK Try.prog (readings_self self)) : AllP (SpecOK Try.prog) (readings_sp N self) := ⟨sp_fits_ok N, hself, trivial⟩
noncomputable def readings_c : Code := (Try.f97.body).getD .skip
noncomputable abbrev readings_B : Body := { c := readings_c, n := 79, res := [.tmp 6], outs := [⟨[.ols 0], [.lst (.sl (.pair (.int .i64) (.int .i64)))]⟩], m0 := 0 }
abbrev readings_rt : altD readings_B.outs → Option (List (List (Int × Int))) := fun r => some r.2.1
abbrev readings_l1_at : List PI := [.c [1, 1, 1, 1, 0, 1, 0, 0, 0, 0], .c [1, 1, 1, 1, 0, 1, 0, 0, 0, 1], .c [1, 1, 1, 1, 0, 1, 0, 0, 1], .l [1, 1, 1, 1, 0, 1, 0, 0], .b 0, .c [1, 1, 1, 1, 1]]
abbrev readings_l1_st : Sta := ⟨[2, 3, 4, 7, 8], ⟨[.sl (.pair (.int .i64) (.int .i64)), .own 0 0, .own 1 0, .ols 2, .i .i64], [.segs [.sl (.sl (.int .i64)), .sl (.int .i64), .i .i64], .segs [.i .i64, .i .i64], .lst (.sl (.pair (.int .i64) (.int .i64)))]⟩⟩
abbrev readings_l1_h (rec : (List (Int × Int)) → Int → (List (List Int)) → (List Int) → Int → Int → Int → (List (List (Int × Int))) → Option ((List (Int × Int)) × List (List Int) × List Int × Int × Int × Int × (List (List (Int × Int))))) : Leaf ((List (Int × Int)) × List (List Int) × List Int × Int × Int × Int × (List (List (Int × Int)))) := ⟨readings_l1_at, readings_l1_st, fun p => rec p.1.1 p.1.2.2.2.2.1 p.2.1.1 p.2.1.2.1 p.2.1.2.2.1 p.2.2.1.1 p.2.2.1.2.1 p.2.2.2.1⟩
abbrev readings_l1_e0 : Leaf ((List (Int × Int)) × List (List Int) × List Int × Int × Int × Int × (List (List (Int × Int)))) := ⟨[.c [1, 1, 1, 1, 1, 0, 0], .c [1, 1, 1, 1, 1, 0, 1], .c [1, 1, 1, 1, 1, 1]], ⟨[2, 3, 4, 7], ⟨[.sl (.pair (.int .i64) (.int .i64)), .own 0 0, .own 1 0, .ols 2], [.segs [.sl (.sl (.int .i64)), .sl (.int .i64), .i .i64], .segs [.i .i64, .i .i64], .lst (.sl (.pair (.int .i64) (.int .i64)))]⟩⟩, fun p => some ((p.1.1, p.2.1.1, p.2.1.2.1, p.2.1.2.2.1, p.2.2.1.1, p.2.2.1.2.1, p.2.2.2.1))⟩
noncomputable def readings_l1_L (N : Nat) (self : (List (List Int)) → (List Int) → Int → Int → Int → (List (Int × Int)) → Option (List (List (Int × Int)))) : LoopS := { at_ := readings_l1_at, sta := readings_l1_st, exits := [([.c [1, 1, 1, 1, 1, 0, 0], .c [1, 1, 1, 1, 1, 0, 1], .c [1, 1, 1, 1, 1, 1]], ⟨[2, 3, 4, 7], ⟨[.sl (.pair (.int .i64) (.int .i64)), .own 0 0, .own 1 0, .ols 2], [.segs [.sl (.sl (.int .i64)), .sl (.int .i64), .i .i64], .segs [.i .i64, .i .i64], .lst (.sl (.pair (.int .i64) (.int .i64)))]⟩⟩)], run := fun p k => (readings_l1 N self N p.1.1 p.1.2.2.2.2.1 p.2.1.1 p.2.1.2.1 p.2.1.2.2.1 p.2.2.1.1 p.2.2.1.2.1 p.2.2.2.1).bind fun e => k (.inl ((e.1, (), (), (), ()), ((e.2.1, e.2.2.1, e.2.2.2.1, ()), (e.2.2.2.2.1, e.2.2.2.2.2.1, ()), e.2.2.2.2.2.2, ()))) }
theorem readings_l1_eq (N : Nat) (self : (List (List Int)) → (List Int) → Int → Int → Int → (List (Int × Int)) → Option (List (List (Int × Int)))) (n_ : Nat) (l : List (Int × Int)) (k : Int) (e : List (List Int)) (e2 : List Int) (e3 : Int) (p : Int) (p2 : Int) (out : List (List (Int × Int))) : ev (Z := (List (Int × Int)) × List (List Int) × List Int × Int × Int × Int × (List (List (Int × Int)))) Try.prog (readings_sp N self) readings_B [] [readings_l1_h (readings_l1 N self n_), readings_l1_e0] none 400 true readings_l1_at (stL readings_l1_st ((l, (), (), (), k, ()), ((e, e2, e3, ()), (p, p2, ()), out, ()))) (stH readings_l1_st ((l, (), (), (), k, ()), ((e, e2, e3, ()), (p, p2, ()), out, ()))) = readings_l1 N self (n_ + 1) l k e e2 e3 p p2 out := by kernel_rfl
theorem readings_l1_ok (N : Nat) (self : (List (List Int)) → (List Int) → Int → Int → Int → (List (Int × Int)) → Option (List (List (Int × Int)))) (hself : SpecOK Try.prog (readings_self self)) {top : Bool} : LoopOK Try.prog readings_B.c readings_B.n readings_B.m0 top (readings_l1_L N self) := loop_of_ev (Z := (List (Int × Int)) × List (List Int) × List Int × Int × Int × Int × (List (List (Int × Int)))) (N := N) (fun m p => readings_l1 N self m p.1.1 p.1.2.2.2.2.1 p.2.1.1 p.2.1.2.1 p.2.1.2.2.1 p.2.2.1.1 p.2.2.1.2.1 p.2.2.2.1) (fun e => .inl ((e.1, (), (), (), ()), ((e.2.1, e.2.2.1, e.2.2.2.1, ()), (e.2.2.2.2.1, e.2.2.2.2.2.1, ()), e.2.2.2.2.2.2, ()))) (fun _ _ _ => rfl) (fun _ => rfl) (fun m z E Xc hE hX hrec hx => leaf_of_ev (B := readings_B) (loops := []) (leaves := [readings_l1_h (readings_l1 N self m), readings_l1_e0]) (readings_all N self hself) mixed trivial hE hX ⟨hrec, (fun p hp => by obtain rfl := Option.some.inj hp; exact hx), trivial⟩ RetOK.no (fun p => readings_l1_eq N self m p.1.1 p.1.2.2.2.2.1 p.2.1.1 p.2.1.2.1 p.2.1.2.2.1 p.2.2.1.1 p.2.2.1.2.1 p.2.2.2.1))
abbrev readings_l2_at : List PI := [.c [1, 1, 1, 1, 1, 0, 1, 0, 0, 0, 0], .c [1, 1, 1, 1, 1, 0, 1, 0, 0, 0, 1], .c [1, 1, 1, 1, 1, 0, 1, 0, 0, 1], .l [1, 1, 1, 1, 1, 0, 1, 0, 0], .b 2, .c [1, 1, 1, 1, 1, 1]]
abbrev readings_l2_st : Sta := ⟨[2, 3, 4, 7, 9], ⟨[.sl (.pair (.int .i64) (.int .i64)), .own 0 0, .own 1 0, .ols 2, .i .i64], [.segs [.sl (.sl (.int .i64)), .sl (.int .i64), .i .i64], .segs [.i .i64, .i .i64], .lst (.sl (.pair (.int .i64) (.int .i64)))]⟩⟩
abbrev readings_l2_h (rec : (List (Int × Int)) → Int → (List (List Int)) → (List Int) → Int → Int → Int → (List (List (Int × Int))) → Option (List (List (Int × Int)))) : Leaf (List (List (Int × Int))) := ⟨readings_l2_at, readings_l2_st, fun p => rec p.1.1 p.1.2.2.2.2.1 p.2.1.1 p.2.1.2.1 p.2.1.2.2.1 p.2.2.1.1 p.2.2.1.2.1 p.2.2.2.1⟩
abbrev readings_l2_e0 : Leaf (List (List (Int × Int))) := ⟨[.c [1, 1, 1, 1, 1, 1, 0], .c [1, 1, 1, 1, 1, 1, 1]], ⟨[7], ⟨[.ols 0], [.lst (.sl (.pair (.int .i64) (.int .i64)))]⟩⟩, fun p => some (p.2.1)⟩
noncomputable def readings_l2_L (N : Nat) (self : (List (List Int)) → (List Int) → Int → Int → Int → (List (Int × Int)) → Option (List (List (Int × Int)))) : LoopS := { at_ := readings_l2_at, sta := readings_l2_st, exits := [([.c [1, 1, 1, 1, 1, 1, 0], .c [1, 1, 1, 1, 1, 1, 1]], ⟨[7], ⟨[.ols 0], [.lst (.sl (.pair (.int .i64) (.int .i64)))]⟩⟩)], run := fun p k => (readings_l2 N self N p.1.1 p.1.2.2.2.2.1 p.2.1.1 p.2.1.2.1 p.2.1.2.2.1 p.2.2.1.1 p.2.2.1.2.1 p.2.2.2.1).bind fun e => k (.inl (((), ()), (e, ()))) }
theorem readings_l2_eq (N : Nat) (self : (List (List Int)) → (List Int) → Int → Int → Int → (List (Int × Int)) → Option (List (List (Int × Int)))) (n_ : Nat) (l : List (Int × Int)) (k : Int) (e : List (List Int)) (e2 : List Int) (e3 : Int) (p : Int) (p2 : Int) (out : List (List (Int × Int))) : ev (Z := (List (List (Int × Int)))) Try.prog (readings_sp N self) readings_B [readings_l1_L N self] [readings_l2_h (readings_l2 N self n_), readings_l2_e0] none 400 true readings_l2_at (stL readings_l2_st ((l, (), (), (), k, ()), ((e, e2, e3, ()), (p, p2, ()), out, ()))) (stH readings_l2_st ((l, (), (), (), k, ()), ((e, e2, e3, ()), (p, p2, ()), out, ()))) = readings_l2 N self (n_ + 1) l k e e2 e3 p p2 out := by kernel_rfl
theorem readings_l2_ok (N : Nat) (self : (List (List Int)) → (List Int) → Int → Int → Int → (List (Int × Int)) → Option (List (List (Int × Int)))) (hself : SpecOK Try.prog (readings_self self)) {top : Bool} : LoopOK Try.prog readings_B.c readings_B.n readings_B.m0 top (readings_l2_L N self) := loop_of_ev (Z := (List (List (Int × Int)))) (N := N) (fun m p => readings_l2 N self m p.1.1 p.1.2.2.2.2.1 p.2.1.1 p.2.1.2.1 p.2.1.2.2.1 p.2.2.1.1 p.2.2.1.2.1 p.2.2.2.1) (fun e => .inl (((), ()), (e, ()))) (fun _ _ _ => rfl) (fun _ => rfl) (fun m z E Xc hE hX hrec hx => leaf_of_ev (B := readings_B) (loops := [readings_l1_L N self]) (leaves := [readings_l2_h (readings_l2 N self m), readings_l2_e0]) (readings_all N self hself) mixed ⟨readings_l1_ok N self hself, trivial⟩ hE hX ⟨hrec, (fun p hp => by obtain rfl := Option.some.inj hp; exact hx), trivial⟩ RetOK.no (fun p => readings_l2_eq N self m p.1.1 p.1.2.2.2.2.1 p.2.1.1 p.2.1.2.1 p.2.1.2.2.1 p.2.2.1.1 p.2.2.1.2.1 p.2.2.2.1))
abbrev readings_st : Sta := ⟨[0, 1, 2], ⟨[.agg [.sl (.sl (.int .i64)), .sl (.int .i64), .i .i64], .agg [.i .i64, .i .i64], .sl (.pair (.int .i64) (.int .i64))], []⟩⟩
theorem readings_eq (N : Nat) (self : (List (List Int)) → (List Int) → Int → Int → Int → (List (Int × Int)) → Option (List (List (Int × Int)))) (e : List (List Int)) (e2 : List Int) (e3 : Int) (p : Int) (p2 : Int) (l : List (Int × Int)) : ev (Z := (List (List (Int × Int)))) Try.prog (readings_sp N self) readings_B [readings_l1_L N self, readings_l2_L N self] [] (some readings_rt) 400 false [.c [0], .c [1]] (stL readings_st (((e, e2, e3, ()), (p, p2, ()), l, ()), ())) (stH readings_st (((e, e2, e3, ()), (p, p2, ()), l, ()), ())) = readings_S N self e e2 e3 p p2 l := by kernel_rfl
theorem readings_self_ok (N : Nat) (self : (List (List Int)) → (List Int) → Int → Int → Int → (List (Int × Int)) → Option (List (List (Int × Int)))) (hself : SpecOK Try.prog (readings_self self)) : SpecOK Try.prog (readings_self (readings_S N self)) := fn_sound (B := readings_B) (loops := [readings_l1_L N self, readings_l2_L N self]) (leaves := []) (fun p => readings_S N self p.1.1.1 p.1.1.2.1 p.1.1.2.2.1 p.1.2.1.1 p.1.2.1.2.1 p.1.2.2.1) (fun r => (((), ()), (r, ()))) readings_rt (fun _ _ _ => rfl) (fun r z h => by cases h; rfl) Try.func97 (by kernel_rfl) (by kernel_rfl) (by kernel_rfl) rfl rfl (by kernel_rfl) (fun args w => Sem.pv_run _ _ _ (by kernel_rfl) w) (readings_all N self hself) mixed ⟨readings_l1_ok N self hself, readings_l2_ok N self hself, trivial⟩ (fun z E Xc hE hX hret => trivial) (fun p => readings_eq N self p.1.1.1 p.1.1.2.1 p.1.1.2.2.1 p.1.2.1.1 p.1.2.1.2.1 p.1.2.2.1)
def readings_R (N : Nat) : Nat → (List (List Int)) → (List Int) → Int → Int → Int → (List (Int × Int)) → Option (List (List (Int × Int)))
  | 0 => fun _ _ _ _ _ _ => none
  | n + 1 => readings_S N (readings_R N n)
theorem readings_R_ok (N : Nat) : ∀ n, SpecOK Try.prog (readings_self (readings_R N n))
  | 0 => SpecOK.none (fun _ _ _ => rfl) (fun args w => Sem.pv_run _ _ _ (by kernel_rfl) w)
  | n + 1 => readings_self_ok N (readings_R N n) (readings_R_ok N n)
noncomputable abbrev sp_readings (N : Nat) : Spec := readings_self (readings_R N N)
theorem sp_readings_ok (N : Nat) : SpecOK Try.prog (sp_readings N) := readings_R_ok N N

def best_l1 (N : Nat) : Nat → Int → Int → (List (List Int)) → (List Int) → Int → Int → Int → (List (List (Int × Int))) → Option (Int × List (List Int) × List Int × Int × Int × Int × (List (List (Int × Int))))
  | 0, _, _, _, _, _, _, _, _ => none
  | n_ + 1, least, i, e, e2, e3, p, p2, all =>
    br (decide (i < (all.length : Int)))
      (rng i all.length <|
      get all i.toNat fun x_2 =>
      (faulty_S N e e2 e3 p p2 x_2).bind fun x_3 =>
      chk (i + 1) <|
      best_l1 N n_ (min least x_3) (i + 1) e e2 e3 p p2 all)
      (some ((least, e, e2, e3, p, p2, all)))
def best_j1 (N : Nat) (rec : Int → Int → (List (List Int)) → (List Int) → Int → Int → Int → (List (List (Int × Int))) → (List (List (Int × Int))) → Option (Int × (List (List (Int × Int))))) (least : Int) (i : Int) (e : List (List Int)) (e2 : List Int) (e3 : Int) (p : Int) (p2 : Int) (all : List (List (Int × Int))) (out : List (List (Int × Int))) : Option (Int × (List (List (Int × Int)))) :=
  chk (i + 1) <|
  rec least (i + 1) e e2 e3 p p2 all out
def best_l2 (N : Nat) : Nat → Int → Int → (List (List Int)) → (List Int) → Int → Int → Int → (List (List (Int × Int))) → (List (List (Int × Int))) → Option (Int × (List (List (Int × Int))))
  | 0, _, _, _, _, _, _, _, _, _ => none
  | n_ + 1, least, i, e, e2, e3, p, p2, all, out =>
    br (decide (i < (all.length : Int)))
      (rng i all.length <|
      get all i.toNat fun x_11 =>
      (faulty_S N e e2 e3 p p2 x_11).bind fun x_12 =>
      br (decide (x_12 = least))
        (rng i all.length <|
        get all i.toNat fun x_13 =>
        lim (out.length + [x_13].length) <|
        best_j1 N (best_l2 N n_) least i e e2 e3 p p2 all (out ++ [x_13]))
        (best_j1 N (best_l2 N n_) least i e e2 e3 p p2 all out))
      (some ((least, out)))
def best_S (N : Nat) (e : List (List Int)) (e2 : List Int) (e3 : Int) (p : Int) (p2 : Int) : Option ((List (List (Int × Int))) × Int) :=
  (readings_R N N e e2 e3 p p2 []).bind fun x_1 =>
  (best_l1 N N 99 0 e e2 e3 p p2 x_1).bind fun (least_4, e_5, e2_6, e3_7, p_8, p2_9, all_10) =>
  (best_l2 N N least_4 0 e_5 e2_6 e3_7 p_8 p2_9 all_10 []).bind fun (least_14, out_15) =>
  some (out_15, least_14)
noncomputable def best_sp (N : Nat) : List Spec := [sp_faulty N, sp_readings N]
theorem best_all (N : Nat) : AllP (SpecOK Try.prog) (best_sp N) := ⟨sp_faulty_ok N, sp_readings_ok N, trivial⟩
noncomputable def best_c : Code := (Try.f44.body).getD .skip
noncomputable abbrev best_B : Body := { c := best_c, n := 53, res := [.tmp 4, .tmp 5], outs := [⟨[.sl (.sl (.pair (.int .i64) (.int .i64))), .i .i64], []⟩], m0 := 0 }
abbrev best_rt : altD best_B.outs → Option ((List (List (Int × Int))) × Int) := fun r => some (r.1.1, r.1.2.1)
abbrev best_l1_at : List PI := [.c [1, 1, 1, 0, 1, 0, 0, 0, 0], .c [1, 1, 1, 0, 1, 0, 0, 0, 1], .c [1, 1, 1, 0, 1, 0, 0, 1], .l [1, 1, 1, 0, 1, 0, 0], .b 0, .c [1, 1, 1, 1]]
abbrev best_l1_st : Sta := ⟨[2, 3, 6, 7, 8], ⟨[.own 0 0, .own 1 0, .ols 2, .i .i64, .i .i64], [.segs [.sl (.sl (.int .i64)), .sl (.int .i64), .i .i64], .segs [.i .i64, .i .i64], .lst (.sl (.pair (.int .i64) (.int .i64)))]⟩⟩
abbrev best_l1_h (rec : Int → Int → (List (List Int)) → (List Int) → Int → Int → Int → (List (List (Int × Int))) → Option (Int × List (List Int) × List Int × Int × Int × Int × (List (List (Int × Int))))) : Leaf (Int × List (List Int) × List Int × Int × Int × Int × (List (List (Int × Int)))) := ⟨best_l1_at, best_l1_st, fun p => rec p.1.2.2.2.1 p.1.2.2.2.2.1 p.2.1.1 p.2.1.2.1 p.2.1.2.2.1 p.2.2.1.1 p.2.2.1.2.1 p.2.2.2.1⟩
abbrev best_l1_e0 : Leaf (Int × List (List Int) × List Int × Int × Int × Int × (List (List (Int × Int)))) := ⟨[.c [1, 1, 1, 1, 0], .c [1, 1, 1, 1, 1]], ⟨[2, 3, 6, 7], ⟨[.own 0 0, .own 1 0, .ols 2, .i .i64], [.segs [.sl (.sl (.int .i64)), .sl (.int .i64), .i .i64], .segs [.i .i64, .i .i64], .lst (.sl (.pair (.int .i64) (.int .i64)))]⟩⟩, fun p => some ((p.1.2.2.2.1, p.2.1.1, p.2.1.2.1, p.2.1.2.2.1, p.2.2.1.1, p.2.2.1.2.1, p.2.2.2.1))⟩
noncomputable def best_l1_L (N : Nat) : LoopS := { at_ := best_l1_at, sta := best_l1_st, exits := [([.c [1, 1, 1, 1, 0], .c [1, 1, 1, 1, 1]], ⟨[2, 3, 6, 7], ⟨[.own 0 0, .own 1 0, .ols 2, .i .i64], [.segs [.sl (.sl (.int .i64)), .sl (.int .i64), .i .i64], .segs [.i .i64, .i .i64], .lst (.sl (.pair (.int .i64) (.int .i64)))]⟩⟩)], run := fun p k => (best_l1 N N p.1.2.2.2.1 p.1.2.2.2.2.1 p.2.1.1 p.2.1.2.1 p.2.1.2.2.1 p.2.2.1.1 p.2.2.1.2.1 p.2.2.2.1).bind fun e => k (.inl (((), (), (), e.1, ()), ((e.2.1, e.2.2.1, e.2.2.2.1, ()), (e.2.2.2.2.1, e.2.2.2.2.2.1, ()), e.2.2.2.2.2.2, ()))) }
theorem best_l1_eq (N n_ : Nat) (least : Int) (i : Int) (e : List (List Int)) (e2 : List Int) (e3 : Int) (p : Int) (p2 : Int) (all : List (List (Int × Int))) : ev (Z := Int × List (List Int) × List Int × Int × Int × Int × (List (List (Int × Int)))) Try.prog (best_sp N) best_B [] [best_l1_h (best_l1 N n_), best_l1_e0] none 400 true best_l1_at (stL best_l1_st (((), (), (), least, i, ()), ((e, e2, e3, ()), (p, p2, ()), all, ()))) (stH best_l1_st (((), (), (), least, i, ()), ((e, e2, e3, ()), (p, p2, ()), all, ()))) = best_l1 N (n_ + 1) least i e e2 e3 p p2 all := by kernel_rfl
theorem best_l1_ok (N : Nat) {top : Bool} : LoopOK Try.prog best_B.c best_B.n best_B.m0 top (best_l1_L N) := loop_of_ev (Z := Int × List (List Int) × List Int × Int × Int × Int × (List (List (Int × Int)))) (N := N) (fun m p => best_l1 N m p.1.2.2.2.1 p.1.2.2.2.2.1 p.2.1.1 p.2.1.2.1 p.2.1.2.2.1 p.2.2.1.1 p.2.2.1.2.1 p.2.2.2.1) (fun e => .inl (((), (), (), e.1, ()), ((e.2.1, e.2.2.1, e.2.2.2.1, ()), (e.2.2.2.2.1, e.2.2.2.2.2.1, ()), e.2.2.2.2.2.2, ()))) (fun _ _ _ => rfl) (fun _ => rfl) (fun m z E Xc hE hX hrec hx => leaf_of_ev (B := best_B) (loops := []) (leaves := [best_l1_h (best_l1 N m), best_l1_e0]) (best_all N) mixed trivial hE hX ⟨hrec, (fun p hp => by obtain rfl := Option.some.inj hp; exact hx), trivial⟩ RetOK.no (fun p => best_l1_eq N m p.1.2.2.2.1 p.1.2.2.2.2.1 p.2.1.1 p.2.1.2.1 p.2.1.2.2.1 p.2.2.1.1 p.2.2.1.2.1 p.2.2.2.1))
abbrev best_l2_at : List PI := [.c [1, 1, 1, 1, 1, 0, 1, 0, 0, 0, 0], .c [1, 1, 1, 1, 1, 0, 1, 0, 0, 0, 1], .c [1, 1, 1, 1, 1, 0, 1, 0, 0, 1], .l [1, 1, 1, 1, 1, 0, 1, 0, 0], .b 2, .c [1, 1, 1, 1, 1, 1]]
abbrev best_l2_st : Sta := ⟨[2, 3, 6, 7, 9, 10], ⟨[.own 0 0, .own 1 0, .ols 2, .i .i64, .ols 3, .i .i64], [.segs [.sl (.sl (.int .i64)), .sl (.int .i64), .i .i64], .segs [.i .i64, .i .i64], .lst (.sl (.pair (.int .i64) (.int .i64))), .lst (.sl (.pair (.int .i64) (.int .i64)))]⟩⟩
abbrev best_l2_h (rec : Int → Int → (List (List Int)) → (List Int) → Int → Int → Int → (List (List (Int × Int))) → (List (List (Int × Int))) → Option (Int × (List (List (Int × Int))))) : Leaf (Int × (List (List (Int × Int)))) := ⟨best_l2_at, best_l2_st, fun p => rec p.1.2.2.2.1 p.1.2.2.2.2.2.1 p.2.1.1 p.2.1.2.1 p.2.1.2.2.1 p.2.2.1.1 p.2.2.1.2.1 p.2.2.2.1 p.2.2.2.2.1⟩
abbrev best_l2_e0 : Leaf (Int × (List (List (Int × Int)))) := ⟨[.c [1, 1, 1, 1, 1, 1, 0], .c [1, 1, 1, 1, 1, 1, 1]], ⟨[7, 9], ⟨[.i .i64, .ols 0], [.lst (.sl (.pair (.int .i64) (.int .i64)))]⟩⟩, fun p => some ((p.1.1, p.2.1))⟩
abbrev best_j1_at : List PI := [.c [1, 1, 1, 1, 1, 0, 1, 0, 0, 1, 1], .l [1, 1, 1, 1, 1, 0, 1, 0, 0], .b 2, .c [1, 1, 1, 1, 1, 1]]
abbrev best_j1_st : Sta := ⟨[2, 3, 6, 7, 9, 10], ⟨[.own 0 0, .own 1 0, .ols 2, .i .i64, .ols 3, .i .i64], [.segs [.sl (.sl (.int .i64)), .sl (.int .i64), .i .i64], .segs [.i .i64, .i .i64], .lst (.sl (.pair (.int .i64) (.int .i64))), .lst (.sl (.pair (.int .i64) (.int .i64)))]⟩⟩
abbrev best_j1_k (N : Nat) (rec : Int → Int → (List (List Int)) → (List Int) → Int → Int → Int → (List (List (Int × Int))) → (List (List (Int × Int))) → Option (Int × (List (List (Int × Int))))) : Leaf (Int × (List (List (Int × Int)))) := ⟨best_j1_at, best_j1_st, fun p => best_j1 N rec p.1.2.2.2.1 p.1.2.2.2.2.2.1 p.2.1.1 p.2.1.2.1 p.2.1.2.2.1 p.2.2.1.1 p.2.2.1.2.1 p.2.2.2.1 p.2.2.2.2.1⟩
theorem best_j1_eq (N : Nat) (rec : Int → Int → (List (List Int)) → (List Int) → Int → Int → Int → (List (List (Int × Int))) → (List (List (Int × Int))) → Option (Int × (List (List (Int × Int))))) (least : Int) (i : Int) (e : List (List Int)) (e2 : List Int) (e3 : Int) (p : Int) (p2 : Int) (all : List (List (Int × Int))) (out : List (List (Int × Int))) : ev (Z := Int × (List (List (Int × Int)))) Try.prog (best_sp N) best_B [best_l1_L N] [best_l2_h rec, best_l2_e0] none 400 true best_j1_at (stL best_j1_st (((), (), (), least, (), i, ()), ((e, e2, e3, ()), (p, p2, ()), all, out, ()))) (stH best_j1_st (((), (), (), least, (), i, ()), ((e, e2, e3, ()), (p, p2, ()), all, out, ()))) = best_j1 N rec least i e e2 e3 p p2 all out := by kernel_rfl
theorem best_j1_lf (N : Nat) (rec : Int → Int → (List (List Int)) → (List Int) → Int → Int → Int → (List (List (Int × Int))) → (List (List (Int × Int))) → Option (Int × (List (List (Int × Int))))) {z : Int × (List (List (Int × Int)))} {top : Bool} {E : EE} {Xc : Ctx} (hE : EOK best_B.m0 E) (hX : CxOK top Xc) (hrec : LeafOK Try.prog best_B.c best_B.n best_B.m0 E Xc z (best_l2_h rec)) (h0 : LeafOK Try.prog best_B.c best_B.n best_B.m0 E Xc z best_l2_e0) : LeafOK Try.prog best_B.c best_B.n best_B.m0 E Xc z (best_j1_k N rec) := leaf_of_ev (B := best_B) (loops := [best_l1_L N]) (leaves := [best_l2_h rec, best_l2_e0]) (best_all N) mixed ⟨best_l1_ok N, trivial⟩ hE hX ⟨hrec, h0, trivial⟩ RetOK.no (fun p => best_j1_eq N rec p.1.2.2.2.1 p.1.2.2.2.2.2.1 p.2.1.1 p.2.1.2.1 p.2.1.2.2.1 p.2.2.1.1 p.2.2.1.2.1 p.2.2.2.1 p.2.2.2.2.1)
noncomputable def best_l2_L (N : Nat) : LoopS := { at_ := best_l2_at, sta := best_l2_st, exits := [([.c [1, 1, 1, 1, 1, 1, 0], .c [1, 1, 1, 1, 1, 1, 1]], ⟨[7, 9], ⟨[.i .i64, .ols 0], [.lst (.sl (.pair (.int .i64) (.int .i64)))]⟩⟩)], run := fun p k => (best_l2 N N p.1.2.2.2.1 p.1.2.2.2.2.2.1 p.2.1.1 p.2.1.2.1 p.2.1.2.2.1 p.2.2.1.1 p.2.2.1.2.1 p.2.2.2.1 p.2.2.2.2.1).bind fun e => k (.inl ((e.1, (), ()), (e.2, ()))) }
theorem best_l2_eq (N n_ : Nat) (least : Int) (i : Int) (e : List (List Int)) (e2 : List Int) (e3 : Int) (p : Int) (p2 : Int) (all : List (List (Int × Int))) (out : List (List (Int × Int))) : ev (Z := Int × (List (List (Int × Int)))) Try.prog (best_sp N) best_B [best_l1_L N] [best_l2_h (best_l2 N n_), best_l2_e0, best_j1_k N (best_l2 N n_)] none 400 true best_l2_at (stL best_l2_st (((), (), (), least, (), i, ()), ((e, e2, e3, ()), (p, p2, ()), all, out, ()))) (stH best_l2_st (((), (), (), least, (), i, ()), ((e, e2, e3, ()), (p, p2, ()), all, out, ()))) = best_l2 N (n_ + 1) least i e e2 e3 p p2 all out := by kernel_rfl
theorem best_l2_ok (N : Nat) {top : Bool} : LoopOK Try.prog best_B.c best_B.n best_B.m0 top (best_l2_L N) := loop_of_ev (Z := Int × (List (List (Int × Int)))) (N := N) (fun m p => best_l2 N m p.1.2.2.2.1 p.1.2.2.2.2.2.1 p.2.1.1 p.2.1.2.1 p.2.1.2.2.1 p.2.2.1.1 p.2.2.1.2.1 p.2.2.2.1 p.2.2.2.2.1) (fun e => .inl ((e.1, (), ()), (e.2, ()))) (fun _ _ _ => rfl) (fun _ => rfl) (fun m z E Xc hE hX hrec hx => leaf_of_ev (B := best_B) (loops := [best_l1_L N]) (leaves := [best_l2_h (best_l2 N m), best_l2_e0, best_j1_k N (best_l2 N m)]) (best_all N) mixed ⟨best_l1_ok N, trivial⟩ hE hX ⟨hrec, (fun p hp => by obtain rfl := Option.some.inj hp; exact hx), best_j1_lf N _ hE hX hrec (fun p hp => by obtain rfl := Option.some.inj hp; exact hx), trivial⟩ RetOK.no (fun p => best_l2_eq N m p.1.2.2.2.1 p.1.2.2.2.2.2.1 p.2.1.1 p.2.1.2.1 p.2.1.2.2.1 p.2.2.1.1 p.2.2.1.2.1 p.2.2.2.1 p.2.2.2.2.1))
abbrev best_st : Sta := ⟨[0, 1], ⟨[.agg [.sl (.sl (.int .i64)), .sl (.int .i64), .i .i64], .agg [.i .i64, .i .i64]], []⟩⟩
theorem best_eq (N : Nat) (e : List (List Int)) (e2 : List Int) (e3 : Int) (p : Int) (p2 : Int) : ev (Z := (List (List (Int × Int))) × Int) Try.prog (best_sp N) best_B [best_l1_L N, best_l2_L N] [] (some best_rt) 400 false [.c [0], .c [1]] (stL best_st (((e, e2, e3, ()), (p, p2, ()), ()), ())) (stH best_st (((e, e2, e3, ()), (p, p2, ()), ()), ())) = best_S N e e2 e3 p p2 := by kernel_rfl
noncomputable def sp_best (N : Nat) : Spec := { f := 44, ins := ⟨[.agg [.sl (.sl (.int .i64)), .sl (.int .i64), .i .i64], .agg [.i .i64, .i .i64]], []⟩, outs := [⟨[.sl (.sl (.pair (.int .i64) (.int .i64))), .i .i64], []⟩], run := fun p k => (best_S N p.1.1.1 p.1.1.2.1 p.1.1.2.2.1 p.1.2.1.1 p.1.2.1.2.1).bind fun r => k ((r.1, r.2, ()), ()) }
theorem sp_best_ok (N : Nat) : SpecOK Try.prog (sp_best N) := fn_sound (B := best_B) (loops := [best_l1_L N, best_l2_L N]) (leaves := []) (fun p => best_S N p.1.1.1 p.1.1.2.1 p.1.1.2.2.1 p.1.2.1.1 p.1.2.1.2.1) (fun r => ((r.1, r.2, ()), ())) best_rt (fun _ _ _ => rfl) (fun r z h => by cases h; rfl) Try.func44 (by kernel_rfl) (by kernel_rfl) (by kernel_rfl) rfl rfl (by kernel_rfl) (fun args w => Sem.pv_run _ _ _ (by kernel_rfl) w) (best_all N) mixed ⟨best_l1_ok N, best_l2_ok N, trivial⟩ (fun z E Xc hE hX hret => trivial) (fun p => best_eq N p.1.1.1 p.1.1.2.1 p.1.1.2.2.1 p.1.2.1.1 p.1.2.1.2.1)

def rsure_j1 (N : Nat) (rec : (List (List (Int × Int))) → Int → Int → Int → (List (List Int)) → (List Int) → Int → (List Int) → Option ((List (List (Int × Int))) × Int × Int × List (List Int) × List Int × Int × List Int)) (best : List (List (Int × Int))) (i : Int) (side : Int) (k : Int) (e : List (List Int)) (e2 : List Int) (e3 : Int) (out : List Int) : Option ((List (List (Int × Int))) × Int × Int × List (List Int) × List Int × Int × List Int) :=
  chk (k + 1) <|
  rec best i side (k + 1) e e2 e3 out
def rsure_l2 (N : Nat) : Nat → (List (List (Int × Int))) → Int → Int → Int → (List (List Int)) → (List Int) → Int → (List Int) → Option ((List (List (Int × Int))) × Int × Int × List (List Int) × List Int × Int × List Int)
  | 0, _, _, _, _, _, _, _, _ => none
  | n_ + 1, best, i, side, k, e, e2, e3, out =>
    br (decide (k < (best.length : Int)))
      (idx best k fun x_3 =>
      idx x_3 i fun x_4 =>
      br (!decide (x_4.1 = side))
        (rsure_j1 N (rsure_l2 N n_) best i 0 k e e2 e3 out)
        (rsure_j1 N (rsure_l2 N n_) best i side k e e2 e3 out))
      (some ((best, i, side, e, e2, e3, out)))
def rsure_l1 (N : Nat) : Nat → (List (List (Int × Int))) → Int → (List (List Int)) → (List Int) → Int → (List Int) → Option (List Int)
  | 0, _, _, _, _, _, _ => none
  | n_ + 1, best, i, e, e2, e3, out =>
    br (decide (i < (e2.length : Int)))
      (idx best 0 fun x_1 =>
      idx x_1 i fun x_2 =>
      (rsure_l2 N N best i x_2.1 0 e e2 e3 out).bind fun (best_5, i_6, side_7, e_8, e2_9, e3_10, out_11) =>
      lim (out_11.length + [side_7].length) <|
      chk (i_6 + 1) <|
      rsure_l1 N n_ best_5 (i_6 + 1) e_8 e2_9 e3_10 (out_11 ++ [side_7]))
      (some (out))
def rsure_S (N : Nat) (e : List (List Int)) (e2 : List Int) (e3 : Int) (best : List (List (Int × Int))) : Option (List Int) :=
  (rsure_l1 N N best 0 e e2 e3 []).bind fun out_12 =>
  some out_12
noncomputable def rsure_sp (N : Nat) : List Spec := []
theorem rsure_all (N : Nat) : AllP (SpecOK Try.prog) (rsure_sp N) := trivial
noncomputable def rsure_c : Code := (Try.f45.body).getD .skip
noncomputable abbrev rsure_B : Body := { c := rsure_c, n := 44, res := [.tmp 4], outs := [⟨[.sl (.int .i64)], []⟩], m0 := 0 }
abbrev rsure_rt : altD rsure_B.outs → Option (List Int) := fun r => some r.1.1
abbrev rsure_l2_at : List PI := [.c [1, 1, 0, 1, 0, 0, 1, 0, 0, 1, 0, 1, 0, 0, 0, 0], .c [1, 1, 0, 1, 0, 0, 1, 0, 0, 1, 0, 1, 0, 0, 0, 1], .c [1, 1, 0, 1, 0, 0, 1, 0, 0, 1, 0, 1, 0, 0, 1], .l [1, 1, 0, 1, 0, 0, 1, 0, 0, 1, 0, 1, 0, 0], .b 2, .c [1, 1, 0, 1, 0, 0, 1, 0, 0, 1, 1], .b 1, .c [1, 1, 0, 1, 0, 0, 1, 1], .l [1, 1, 0, 1, 0, 0], .b 0, .c [1, 1, 1]]
abbrev rsure_l2_st : Sta := ⟨[1, 2, 5, 6, 7, 8], ⟨[.sl (.sl (.pair (.int .i64) (.int .i64))), .own 0 0, .ols 1, .i .i64, .i .i64, .i .i64], [.segs [.sl (.sl (.int .i64)), .sl (.int .i64), .i .i64], .lst (.int .i64)]⟩⟩
abbrev rsure_l2_h (rec : (List (List (Int × Int))) → Int → Int → Int → (List (List Int)) → (List Int) → Int → (List Int) → Option ((List (List (Int × Int))) × Int × Int × List (List Int) × List Int × Int × List Int)) : Leaf ((List (List (Int × Int))) × Int × Int × List (List Int) × List Int × Int × List Int) := ⟨rsure_l2_at, rsure_l2_st, fun p => rec p.1.1 p.1.2.2.2.1 p.1.2.2.2.2.1 p.1.2.2.2.2.2.1 p.2.1.1 p.2.1.2.1 p.2.1.2.2.1 p.2.2.1⟩
abbrev rsure_l2_e0 : Leaf ((List (List (Int × Int))) × Int × Int × List (List Int) × List Int × Int × List Int) := ⟨[.c [1, 1, 0, 1, 0, 0, 1, 0, 0, 1, 1], .b 1, .c [1, 1, 0, 1, 0, 0, 1, 1], .l [1, 1, 0, 1, 0, 0], .b 0, .c [1, 1, 1]], ⟨[1, 2, 5, 6, 7], ⟨[.sl (.sl (.pair (.int .i64) (.int .i64))), .own 0 0, .ols 1, .i .i64, .i .i64], [.segs [.sl (.sl (.int .i64)), .sl (.int .i64), .i .i64], .lst (.int .i64)]⟩⟩, fun p => some ((p.1.1, p.1.2.2.2.1, p.1.2.2.2.2.1, p.2.1.1, p.2.1.2.1, p.2.1.2.2.1, p.2.2.1))⟩
abbrev rsure_j1_at : List PI := [.c [1, 1, 0, 1, 0, 0, 1, 0, 0, 1, 0, 1, 0, 0, 1, 1], .l [1, 1, 0, 1, 0, 0, 1, 0, 0, 1, 0, 1, 0, 0], .b 2, .c [1, 1, 0, 1, 0, 0, 1, 0, 0, 1, 1], .b 1, .c [1, 1, 0, 1, 0, 0, 1, 1], .l [1, 1, 0, 1, 0, 0], .b 0, .c [1, 1, 1]]
abbrev rsure_j1_st : Sta := ⟨[1, 2, 5, 6, 7, 8], ⟨[.sl (.sl (.pair (.int .i64) (.int .i64))), .own 0 0, .ols 1, .i .i64, .i .i64, .i .i64], [.segs [.sl (.sl (.int .i64)), .sl (.int .i64), .i .i64], .lst (.int .i64)]⟩⟩
abbrev rsure_j1_k (N : Nat) (rec : (List (List (Int × Int))) → Int → Int → Int → (List (List Int)) → (List Int) → Int → (List Int) → Option ((List (List (Int × Int))) × Int × Int × List (List Int) × List Int × Int × List Int)) : Leaf ((List (List (Int × Int))) × Int × Int × List (List Int) × List Int × Int × List Int) := ⟨rsure_j1_at, rsure_j1_st, fun p => rsure_j1 N rec p.1.1 p.1.2.2.2.1 p.1.2.2.2.2.1 p.1.2.2.2.2.2.1 p.2.1.1 p.2.1.2.1 p.2.1.2.2.1 p.2.2.1⟩
theorem rsure_j1_eq (N : Nat) (rec : (List (List (Int × Int))) → Int → Int → Int → (List (List Int)) → (List Int) → Int → (List Int) → Option ((List (List (Int × Int))) × Int × Int × List (List Int) × List Int × Int × List Int)) (best : List (List (Int × Int))) (i : Int) (side : Int) (k : Int) (e : List (List Int)) (e2 : List Int) (e3 : Int) (out : List Int) : ev (Z := (List (List (Int × Int))) × Int × Int × List (List Int) × List Int × Int × List Int) Try.prog (rsure_sp N) rsure_B [] [rsure_l2_h rec, rsure_l2_e0] none 400 true rsure_j1_at (stL rsure_j1_st ((best, (), (), i, side, k, ()), ((e, e2, e3, ()), out, ()))) (stH rsure_j1_st ((best, (), (), i, side, k, ()), ((e, e2, e3, ()), out, ()))) = rsure_j1 N rec best i side k e e2 e3 out := by kernel_rfl
theorem rsure_j1_lf (N : Nat) (rec : (List (List (Int × Int))) → Int → Int → Int → (List (List Int)) → (List Int) → Int → (List Int) → Option ((List (List (Int × Int))) × Int × Int × List (List Int) × List Int × Int × List Int)) {z : (List (List (Int × Int))) × Int × Int × List (List Int) × List Int × Int × List Int} {top : Bool} {E : EE} {Xc : Ctx} (hE : EOK rsure_B.m0 E) (hX : CxOK top Xc) (hrec : LeafOK Try.prog rsure_B.c rsure_B.n rsure_B.m0 E Xc z (rsure_l2_h rec)) (h0 : LeafOK Try.prog rsure_B.c rsure_B.n rsure_B.m0 E Xc z rsure_l2_e0) : LeafOK Try.prog rsure_B.c rsure_B.n rsure_B.m0 E Xc z (rsure_j1_k N rec) := leaf_of_ev (B := rsure_B) (loops := []) (leaves := [rsure_l2_h rec, rsure_l2_e0]) (rsure_all N) mixed trivial hE hX ⟨hrec, h0, trivial⟩ RetOK.no (fun p => rsure_j1_eq N rec p.1.1 p.1.2.2.2.1 p.1.2.2.2.2.1 p.1.2.2.2.2.2.1 p.2.1.1 p.2.1.2.1 p.2.1.2.2.1 p.2.2.1)
noncomputable def rsure_l2_L (N : Nat) : LoopS := { at_ := rsure_l2_at, sta := rsure_l2_st, exits := [([.c [1, 1, 0, 1, 0, 0, 1, 0, 0, 1, 1], .b 1, .c [1, 1, 0, 1, 0, 0, 1, 1], .l [1, 1, 0, 1, 0, 0], .b 0, .c [1, 1, 1]], ⟨[1, 2, 5, 6, 7], ⟨[.sl (.sl (.pair (.int .i64) (.int .i64))), .own 0 0, .ols 1, .i .i64, .i .i64], [.segs [.sl (.sl (.int .i64)), .sl (.int .i64), .i .i64], .lst (.int .i64)]⟩⟩)], run := fun p k => (rsure_l2 N N p.1.1 p.1.2.2.2.1 p.1.2.2.2.2.1 p.1.2.2.2.2.2.1 p.2.1.1 p.2.1.2.1 p.2.1.2.2.1 p.2.2.1).bind fun e => k (.inl ((e.1, (), (), e.2.1, e.2.2.1, ()), ((e.2.2.2.1, e.2.2.2.2.1, e.2.2.2.2.2.1, ()), e.2.2.2.2.2.2, ()))) }
theorem rsure_l2_eq (N n_ : Nat) (best : List (List (Int × Int))) (i : Int) (side : Int) (k : Int) (e : List (List Int)) (e2 : List Int) (e3 : Int) (out : List Int) : ev (Z := (List (List (Int × Int))) × Int × Int × List (List Int) × List Int × Int × List Int) Try.prog (rsure_sp N) rsure_B [] [rsure_l2_h (rsure_l2 N n_), rsure_l2_e0, rsure_j1_k N (rsure_l2 N n_)] none 400 true rsure_l2_at (stL rsure_l2_st ((best, (), (), i, side, k, ()), ((e, e2, e3, ()), out, ()))) (stH rsure_l2_st ((best, (), (), i, side, k, ()), ((e, e2, e3, ()), out, ()))) = rsure_l2 N (n_ + 1) best i side k e e2 e3 out := by kernel_rfl
theorem rsure_l2_ok (N : Nat) {top : Bool} : LoopOK Try.prog rsure_B.c rsure_B.n rsure_B.m0 top (rsure_l2_L N) := loop_of_ev (Z := (List (List (Int × Int))) × Int × Int × List (List Int) × List Int × Int × List Int) (N := N) (fun m p => rsure_l2 N m p.1.1 p.1.2.2.2.1 p.1.2.2.2.2.1 p.1.2.2.2.2.2.1 p.2.1.1 p.2.1.2.1 p.2.1.2.2.1 p.2.2.1) (fun e => .inl ((e.1, (), (), e.2.1, e.2.2.1, ()), ((e.2.2.2.1, e.2.2.2.2.1, e.2.2.2.2.2.1, ()), e.2.2.2.2.2.2, ()))) (fun _ _ _ => rfl) (fun _ => rfl) (fun m z E Xc hE hX hrec hx => leaf_of_ev (B := rsure_B) (loops := []) (leaves := [rsure_l2_h (rsure_l2 N m), rsure_l2_e0, rsure_j1_k N (rsure_l2 N m)]) (rsure_all N) mixed trivial hE hX ⟨hrec, (fun p hp => by obtain rfl := Option.some.inj hp; exact hx), rsure_j1_lf N _ hE hX hrec (fun p hp => by obtain rfl := Option.some.inj hp; exact hx), trivial⟩ RetOK.no (fun p => rsure_l2_eq N m p.1.1 p.1.2.2.2.1 p.1.2.2.2.2.1 p.1.2.2.2.2.2.1 p.2.1.1 p.2.1.2.1 p.2.1.2.2.1 p.2.2.1))
abbrev rsure_l1_at : List PI := [.c [1, 1, 0, 1, 0, 0, 0, 0], .c [1, 1, 0, 1, 0, 0, 0, 1], .c [1, 1, 0, 1, 0, 0, 1], .l [1, 1, 0, 1, 0, 0], .b 0, .c [1, 1, 1]]
abbrev rsure_l1_st : Sta := ⟨[1, 2, 5, 6], ⟨[.sl (.sl (.pair (.int .i64) (.int .i64))), .own 0 0, .ols 1, .i .i64], [.segs [.sl (.sl (.int .i64)), .sl (.int .i64), .i .i64], .lst (.int .i64)]⟩⟩
abbrev rsure_l1_h (rec : (List (List (Int × Int))) → Int → (List (List Int)) → (List Int) → Int → (List Int) → Option (List Int)) : Leaf (List Int) := ⟨rsure_l1_at, rsure_l1_st, fun p => rec p.1.1 p.1.2.2.2.1 p.2.1.1 p.2.1.2.1 p.2.1.2.2.1 p.2.2.1⟩
abbrev rsure_l1_e0 : Leaf (List Int) := ⟨[.c [1, 1, 1, 0], .c [1, 1, 1, 1]], ⟨[5], ⟨[.ols 0], [.lst (.int .i64)]⟩⟩, fun p => some (p.2.1)⟩
noncomputable def rsure_l1_L (N : Nat) : LoopS := { at_ := rsure_l1_at, sta := rsure_l1_st, exits := [([.c [1, 1, 1, 0], .c [1, 1, 1, 1]], ⟨[5], ⟨[.ols 0], [.lst (.int .i64)]⟩⟩)], run := fun p k => (rsure_l1 N N p.1.1 p.1.2.2.2.1 p.2.1.1 p.2.1.2.1 p.2.1.2.2.1 p.2.2.1).bind fun e => k (.inl (((), ()), (e, ()))) }
theorem rsure_l1_eq (N n_ : Nat) (best : List (List (Int × Int))) (i : Int) (e : List (List Int)) (e2 : List Int) (e3 : Int) (out : List Int) : ev (Z := List Int) Try.prog (rsure_sp N) rsure_B [rsure_l2_L N] [rsure_l1_h (rsure_l1 N n_), rsure_l1_e0] none 400 true rsure_l1_at (stL rsure_l1_st ((best, (), (), i, ()), ((e, e2, e3, ()), out, ()))) (stH rsure_l1_st ((best, (), (), i, ()), ((e, e2, e3, ()), out, ()))) = rsure_l1 N (n_ + 1) best i e e2 e3 out := by kernel_rfl
theorem rsure_l1_ok (N : Nat) {top : Bool} : LoopOK Try.prog rsure_B.c rsure_B.n rsure_B.m0 top (rsure_l1_L N) := loop_of_ev (Z := List Int) (N := N) (fun m p => rsure_l1 N m p.1.1 p.1.2.2.2.1 p.2.1.1 p.2.1.2.1 p.2.1.2.2.1 p.2.2.1) (fun e => .inl (((), ()), (e, ()))) (fun _ _ _ => rfl) (fun _ => rfl) (fun m z E Xc hE hX hrec hx => leaf_of_ev (B := rsure_B) (loops := [rsure_l2_L N]) (leaves := [rsure_l1_h (rsure_l1 N m), rsure_l1_e0]) (rsure_all N) mixed ⟨rsure_l2_ok N, trivial⟩ hE hX ⟨hrec, (fun p hp => by obtain rfl := Option.some.inj hp; exact hx), trivial⟩ RetOK.no (fun p => rsure_l1_eq N m p.1.1 p.1.2.2.2.1 p.2.1.1 p.2.1.2.1 p.2.1.2.2.1 p.2.2.1))
abbrev rsure_st : Sta := ⟨[0, 1], ⟨[.agg [.sl (.sl (.int .i64)), .sl (.int .i64), .i .i64], .sl (.sl (.pair (.int .i64) (.int .i64)))], []⟩⟩
theorem rsure_eq (N : Nat) (e : List (List Int)) (e2 : List Int) (e3 : Int) (best : List (List (Int × Int))) : ev (Z := List Int) Try.prog (rsure_sp N) rsure_B [rsure_l2_L N, rsure_l1_L N] [] (some rsure_rt) 400 false [.c [0], .c [1]] (stL rsure_st (((e, e2, e3, ()), best, ()), ())) (stH rsure_st (((e, e2, e3, ()), best, ()), ())) = rsure_S N e e2 e3 best := by kernel_rfl
noncomputable def sp_rsure (N : Nat) : Spec := { f := 45, ins := ⟨[.agg [.sl (.sl (.int .i64)), .sl (.int .i64), .i .i64], .sl (.sl (.pair (.int .i64) (.int .i64)))], []⟩, outs := [⟨[.sl (.int .i64)], []⟩], run := fun p k => (rsure_S N p.1.1.1 p.1.1.2.1 p.1.1.2.2.1 p.1.2.1).bind fun r => k ((r, ()), ()) }
theorem sp_rsure_ok (N : Nat) : SpecOK Try.prog (sp_rsure N) := fn_sound (B := rsure_B) (loops := [rsure_l2_L N, rsure_l1_L N]) (leaves := []) (fun p => rsure_S N p.1.1.1 p.1.1.2.1 p.1.1.2.2.1 p.1.2.1) (fun r => ((r, ()), ())) rsure_rt (fun _ _ _ => rfl) (fun r z h => by cases h; rfl) Try.func45 (by kernel_rfl) (by kernel_rfl) (by kernel_rfl) rfl rfl (by kernel_rfl) (fun args w => Sem.pv_run _ _ _ (by kernel_rfl) w) (rsure_all N) mixed ⟨rsure_l2_ok N, rsure_l1_ok N, trivial⟩ (fun z E Xc hE hX hret => trivial) (fun p => rsure_eq N p.1.1.1 p.1.1.2.1 p.1.1.2.2.1 p.1.2.1)

end Go.Proofs.Ytfcnhnbnjdccfaa

namespace Go.Proofs.Ytfcnhnbnjdccfaa
set_option linter.all false
open Go

section
variable {N : Nat} {T : List (List Int)} {H : List Int} {f : Int}
/-! ### The first least one -/
/-! ### The texts that are in all pairs -/
/-! ### The law -/
end
end Go.Proofs.Ytfcnhnbnjdccfaa

namespace Go.Proofs.Ytfcnhnbnjdccfaa
set_option linter.all false
open Go

section
variable {N : Nat} {T : List (List Int)} {H : List Int} {f : Int}
/-! ### What is looked at, copies, comparisons -/
theorem great_l1_p (hT : T.length ≤ 1000) : ∀ (n k : Nat), T.length < n + k → k ≤ T.length → ∃ r, great_l1 N n T (T.length : Int) k = some r ∧ ((∃ u, r = .inr u) → ∀ x ∈ T.drop k, x.length ≤ 9)
  | 0, k, h, _ => by omega
  | n + 1, k, h, hk => by
    unfold great_l1
    by_cases c : k < T.length
    · have hd : T.drop k = T.getD k [] :: T.drop (k + 1) := by
        rw [List.drop_eq_getElem_cons c]; simp [List.getD, c]
      rw [br_dec (by omega), idx_get [] (by omega) (by omega)]
      simp only [Int.toNat_natCast]
      by_cases d : 9 < ((T.getD k []).length : Int)
      · rw [br_dec d]; exact ⟨_, rfl, fun ⟨u, hu⟩ => by cases hu⟩
      · rw [br_ndec d, chk_eq (by omega)]
        obtain ⟨r, e, hr⟩ := great_l1_p hT n (k + 1) (by omega) (by omega)
        rw [show ((k + 1 : Nat) : Int) = (k : Int) + 1 by omega] at e
        refine ⟨r, e, fun hu x hx => ?_⟩
        rw [hd] at hx
        rcases List.mem_cons.1 hx with rfl | hx
        · omega
        · exact hr hu x hx
    · rw [br_ndec (by omega)]
      refine ⟨_, rfl, fun _ x hx => ?_⟩
      rw [List.drop_of_length_le (by omega)] at hx; cases hx
/-- An echo that is looked at. -/
structure Small (T : List (List Int)) (H : List Int) : Prop where
  n : T.length ≤ 8
  h : H.length ≤ 14
  l : ∀ x ∈ T, x.length ≤ 9
theorem great_v (hN : 20 ≤ N) (T : List (List Int)) (H : List Int) (f : Int) : great_S N T H f = some true ∨ great_S N T H f = some false ∧ Small T H := by
  unfold great_S
  by_cases c : 8 < (T.length : Int)
  · rw [br_dec c]; exact .inl rfl
  · rw [br_ndec c]
    by_cases d : 14 < (H.length : Int)
    · rw [br_dec d]; exact .inl rfl
    · rw [br_ndec d]
      obtain ⟨r, e, hr⟩ := great_l1_p (N := N) (T := T) (by omega) N 0 (by omega) (by omega)
      rw [show ((0 : Nat) : Int) = 0 from rfl] at e
      rw [e]
      simp only [Option.bind_some]
      cases r with
      | inl _ => exact .inl rfl
      | inr u => exact .inr ⟨rfl, by omega, by omega, by simpa using hr ⟨u, rfl⟩⟩
theorem places_l1_p {l : List (Int × Int)} (hl : l.length ≤ 1000) : ∀ (n k : Nat), l.length < n + k → k ≤ l.length → places_l1 N n l (l.length : Int) k (l.take k) = some l
  | 0, k, h, _ => by omega
  | n + 1, k, h, hk => by
    unfold places_l1
    by_cases c : k < l.length
    · have e : l.take (k + 1) = l.take k ++ [l.getD k (0, 0)] := by rw [List.take_add_one]; simp [List.getD, c]
      rw [br_dec (by omega), idx_get (0, 0) (by omega) (by omega)]
      simp only [Int.toNat_natCast]
      rw [lim_eq (by simp; omega), chk_eq (by omega)]
      have := places_l1_p hl n (k + 1) (by omega) (by omega)
      rw [show ((k + 1 : Nat) : Int) = (k : Int) + 1 by omega, e] at this
      exact this
    · rw [br_ndec (by omega), List.take_of_length_le (by omega)]
theorem places_v {l : List (Int × Int)} (hl : l.length ≤ 1000) (hN : l.length < N) : places_S N l = some l := by
  unfold places_S
  have := places_l1_p (N := N) hl N 0 (by omega) (by omega)
  rw [List.take_zero, show ((0 : Nat) : Int) = 0 from rfl] at this
  rw [this]; rfl
theorem equali_l1_p {s : List Int} (hs : s.length ≤ 1000) : ∀ (n k : Nat), s.length < n + k → k ≤ s.length → equali_l1 N n s s (s.length : Int) k = some (.inr ())
  | 0, k, h, _ => by omega
  | n + 1, k, h, hk => by
    unfold equali_l1
    by_cases c : k < s.length
    · rw [br_dec (by omega), idx_get 0 (by omega) (by omega), idx_get 0 (by omega) (by omega), br_nd rfl, chk_eq (by omega)]
      have := equali_l1_p hs n (k + 1) (by omega) (by omega)
      rw [show ((k + 1 : Nat) : Int) = (k : Int) + 1 by omega] at this
      exact this
    · rw [br_ndec (by omega)]
theorem equali_v {s : List Int} (hs : s.length ≤ 1000) (hN : s.length < N) : equali_S N s s = some true := by
  unfold equali_S
  have := equali_l1_p (N := N) hs N 0 (by omega) (by omega)
  rw [show ((0 : Nat) : Int) = 0 from rfl] at this
  rw [br_nd rfl, this]; rfl
theorem likei_v {s : List Int} (hs : s.length ≤ 1000) (hN : s.length < N) : likei_S N s s = some true := by
  unfold likei_S
  rw [equali_v hs hN]; rfl
theorem equalf_l1_p (hT : T.length ≤ 1000) (hl : ∀ x ∈ T, x.length ≤ 1000 ∧ x.length < N) : ∀ (n k : Nat), T.length < n + k → k ≤ T.length → equalf_l1 N n T T (T.length : Int) k = some (.inr ())
  | 0, k, h, _ => by omega
  | n + 1, k, h, hk => by
    unfold equalf_l1
    by_cases c : k < T.length
    · have l1 := hl (T.getD k []) (getD_mem c)
      rw [br_dec (by omega), idx_get [] (by omega) (by omega), idx_get [] (by omega) (by omega)]
      simp only [Int.toNat_natCast]
      rw [equali_v l1.1 l1.2]
      simp only [Option.bind_some, Bool.not_true, br_false]
      rw [chk_eq (by omega)]
      have := equalf_l1_p hT hl n (k + 1) (by omega) (by omega)
      rw [show ((k + 1 : Nat) : Int) = (k : Int) + 1 by omega] at this
      exact this
    · rw [br_ndec (by omega)]
theorem same_v (hN : 20 ≤ N) (h : Small T H) (f : Int) : same_S N T H f T H f = some true := by
  have hT := h.n
  have hH := h.h
  unfold same_S liker_S equalf_S
  have := equalf_l1_p (N := N) (T := T) (by omega) (fun x hx => by have := h.l x hx; omega) N 0 (by omega) (by omega)
  rw [show ((0 : Nat) : Int) = 0 from rfl] at this
  rw [br_nd rfl, this]
  simp only [Option.bind_some, br_true]
  rw [likei_v (by omega) (by omega)]
  simp only [Option.bind_some, br_true, decide_true]
theorem copye_small (hN : 1010 ≤ N) (h : Small T H) (f : Int) : copye_S N T H f = some (T, H, f) :=
  copye_v (by have := h.n; have := h.h; omega) (fun x hx => by have := h.l x hx; omega) hN

/-! ### The reference's errors -/
theorem off_v (n lo hi : Int) : off_S N n lo hi = some (!decide (lo ≤ n ∧ n ≤ hi)) := by
  unfold off_S
  by_cases c : n < lo
  · rw [br_dec c, decide_eq_false (by omega)]; rfl
  · rw [br_ndec c]
    congr 1
    rw [Bool.eq_iff_iff]
    simp only [decide_eq_true_eq, Bool.not_eq_true', decide_eq_false_iff_not]
    omega
theorem rcheck_l1_p (hT : T.length ≤ 1000) : ∀ (n k : Nat), T.length < n + k → k ≤ T.length → rcheck_l1 N n k T H f = some (if (T.drop k).all okL then .inr (T, H, f) else .inl ())
  | 0, k, h, _ => by omega
  | n + 1, k, h, hk => by
    unfold rcheck_l1
    by_cases c : k < T.length
    · have hd : T.drop k = T.getD k [] :: T.drop (k + 1) := by
        rw [List.drop_eq_getElem_cons c]; simp [List.getD, c]
      have hk' : T[((k : Nat) : Int).toNat]? = some (T.getD k []) := by simp [List.getD, c]
      generalize T.getD k [] = x at *
      rw [br_dec (by omega), idx_eq (by omega) hk', off_v, hd, List.all_cons]
      simp only [Option.bind_some]
      have ex : okL x = decide (1 ≤ (x.length : Int) ∧ (x.length : Int) ≤ 6) := rfl
      rw [← ex]
      cases okL x with
      | false => rfl
      | true =>
        simp only [Bool.not_true, br_false, Bool.true_and]
        rw [chk_eq (by omega)]
        have := rcheck_l1_p hT n (k + 1) (by omega) (by omega)
        rw [show ((k + 1 : Nat) : Int) = (k : Int) + 1 by omega] at this
        exact this
    · rw [br_ndec (by omega), List.drop_of_length_le (by omega)]; rfl
theorem rcheck_l3_p {t : Nat} {x : List Int} (ht : T[t]? = some x) (hx : x.length ≤ 1000) : ∀ (n k : Nat), x.length < n + k → k ≤ x.length → rcheck_l3 N n t k T H f = some (if (x.drop k).all okW then .inr ((t : Int), T, H, f) else .inl ())
  | 0, k, h, _ => by omega
  | n + 1, k, h, hk => by
    unfold rcheck_l3
    have ht' : T[((t : Nat) : Int).toNat]? = some x := by simpa using ht
    rw [idx_eq (by omega) ht']
    by_cases c : k < x.length
    · have hd : x.drop k = x.getD k 0 :: x.drop (k + 1) := drop_cons c
      have hk' : x[((k : Nat) : Int).toNat]? = some (x.getD k 0) := by simp [List.getD, c]
      generalize x.getD k 0 = y at *
      rw [br_dec (by omega), idx_eq (by omega) ht', idx_eq (by omega) hk', off_v, hd, List.all_cons]
      simp only [Option.bind_some]
      have ex : okW y = decide (0 ≤ y ∧ y ≤ 9) := rfl
      rw [← ex]
      cases okW y with
      | false => rfl
      | true =>
        simp only [Bool.not_true, br_false, Bool.true_and]
        rw [chk_eq (by omega)]
        have := rcheck_l3_p ht hx n (k + 1) (by omega) (by omega)
        rw [show ((k + 1 : Nat) : Int) = (k : Int) + 1 by omega] at this
        exact this
    · rw [br_ndec (by omega), List.drop_of_length_le (by omega)]; rfl
theorem rcheck_l2_p (hT : T.length ≤ 1000) (hl : ∀ x ∈ T, x.length ≤ 1000 ∧ x.length < N) : ∀ (n k : Nat), T.length < n + k → k ≤ T.length → rcheck_l2 N n k T H f = some (if (T.drop k).all (fun x => x.all okW) then .inr (T, H, f) else .inl ())
  | 0, k, h, _ => by omega
  | n + 1, k, h, hk => by
    unfold rcheck_l2
    by_cases c : k < T.length
    · have l1 := hl (T.getD k []) (getD_mem c)
      have hd : T.drop k = T.getD k [] :: T.drop (k + 1) := by
        rw [List.drop_eq_getElem_cons c]; simp [List.getD, c]
      have hk' : T[k]? = some (T.getD k []) := by simp [List.getD, c]
      generalize T.getD k [] = x at *
      have e3 := rcheck_l3_p (N := N) (H := H) (f := f) hk' l1.1 N 0 (by omega) (by omega)
      rw [show ((0 : Nat) : Int) = 0 from rfl, List.drop_zero] at e3
      rw [br_dec (by omega), e3, hd, List.all_cons]
      simp only [Option.bind_some]
      cases x.all okW with
      | false => rfl
      | true =>
        simp only [Bool.true_and, if_true]
        rw [chk_eq (by omega)]
        have := rcheck_l2_p hT hl n (k + 1) (by omega) (by omega)
        rw [show ((k + 1 : Nat) : Int) = (k : Int) + 1 by omega] at this
        exact this
    · rw [br_ndec (by omega), List.drop_of_length_le (by omega)]; rfl
theorem rcheck_l4_p (hH : H.length ≤ 1000) : ∀ (n k : Nat), H.length < n + k → k ≤ H.length → rcheck_l4 N n k T H f = some (if (H.drop k).all okW then .inr (T, H, f) else .inl ())
  | 0, k, h, _ => by omega
  | n + 1, k, h, hk => by
    unfold rcheck_l4
    by_cases c : k < H.length
    · have hd : H.drop k = H.getD k 0 :: H.drop (k + 1) := drop_cons c
      have hk' : H[((k : Nat) : Int).toNat]? = some (H.getD k 0) := by simp [List.getD, c]
      generalize H.getD k 0 = y at *
      rw [br_dec (by omega), idx_eq (by omega) hk', off_v, hd, List.all_cons]
      simp only [Option.bind_some]
      have ex : okW y = decide (0 ≤ y ∧ y ≤ 9) := rfl
      rw [← ex]
      cases okW y with
      | false => rfl
      | true =>
        simp only [Bool.not_true, br_false, Bool.true_and]
        rw [chk_eq (by omega)]
        have := rcheck_l4_p hH n (k + 1) (by omega) (by omega)
        rw [show ((k + 1 : Nat) : Int) = (k : Int) + 1 by omega] at this
        exact this
    · rw [br_ndec (by omega), List.drop_of_length_le (by omega)]; rfl
theorem rcheck_v (hN : 20 ≤ N) (h : Small T H) : rcheck_S N T H f = some (checkE T H f) := by
  have hT := h.n
  have hH := h.h
  unfold rcheck_S checkE
  rw [off_v]
  simp only [Option.bind_some]
  by_cases c1 : 1 ≤ T.length ∧ T.length ≤ 5
  · rw [if_neg (by simpa using c1), show decide ((1 : Int) ≤ (T.length : Int) ∧ (T.length : Int) ≤ 5) = true by simp; omega]
    simp only [Bool.not_true, br_false]
    by_cases c2 : 10 < H.length
    · rw [if_pos c2, br_dec (by omega)]
    · rw [if_neg c2, br_ndec (by omega)]
      have e1 := rcheck_l1_p (N := N) (T := T) (H := H) (f := f) (by omega) N 0 (by omega) (by omega)
      have e2 := rcheck_l2_p (N := N) (T := T) (H := H) (f := f) (by omega) (fun x hx => by have := h.l x hx; omega) N 0 (by omega) (by omega)
      have e4 := rcheck_l4_p (N := N) (T := T) (H := H) (f := f) (by omega) N 0 (by omega) (by omega)
      rw [show ((0 : Nat) : Int) = 0 from rfl, List.drop_zero] at e1 e2 e4
      rw [e1]
      cases T.all okL with
      | false => rfl
      | true =>
        simp only [Option.bind_some, if_true, not_true_eq_false, if_false]
        rw [e2]
        cases T.all fun x => x.all okW with
        | false => rfl
        | true =>
          simp only [Option.bind_some, if_true, not_true_eq_false, if_false]
          rw [e4]
          cases H.all okW with
          | false => rfl
          | true =>
            simp only [Option.bind_some, if_true, not_true_eq_false, if_false]
            rw [off_v]
            simp only [Option.bind_some]
            by_cases c5 : 0 ≤ f ∧ f ≤ 8
            · rw [decide_eq_true c5]; simp [c5, br]
            · rw [decide_eq_false c5]; simp only [Bool.not_false, br_true]; rw [if_pos c5]
  · rw [if_pos (by simpa using c1), show decide ((1 : Int) ≤ (T.length : Int) ∧ (T.length : Int) ≤ 5) = false by simp; omega]
    rfl
theorem rtwo_v (hN : 20 ≤ N) (h : Small T H) (a b : Int) : rtwo_S N T H f a b = some (openE T H f a b) := by
  unfold rtwo_S openE
  have hT := h.n
  rw [rcheck_v hN h]
  simp only [Option.bind_some]
  by_cases c : checkE T H f = 0
  · rw [br_nd c, if_neg (by simpa using c), chk_eq (by omega), off_v]
    simp only [Option.bind_some]
    by_cases ha : 0 ≤ a ∧ a < T.length
    · rw [show decide (0 ≤ a ∧ a ≤ (T.length : Int) - 1) = true by simp; omega]
      simp only [Bool.not_true, br_false]
      rw [chk_eq (by omega), off_v]
      simp only [Option.bind_some]
      by_cases hb : 0 ≤ b ∧ b < T.length
      · rw [show decide (0 ≤ b ∧ b ≤ (T.length : Int) - 1) = true by simp; omega, if_neg (by simp; omega)]; rfl
      · rw [show decide (0 ≤ b ∧ b ≤ (T.length : Int) - 1) = false by simp; omega, if_pos (.inr hb)]; rfl
    · rw [show decide (0 ≤ a ∧ a ≤ (T.length : Int) - 1) = false by simp; omega, if_pos (.inl ha)]; rfl
  · rw [br_nnd c, if_pos c]

/-! ### Readings -/
/-- What is behind when a word that was heard has a place. -/
def stepF (A B : List Int) (w : Int) (x : At3) (q : Int × Int) : Option At3 :=
  if q.1 = 1 then (if (x.2.1 : Int) ≤ q.2 ∧ q.2 < A.length ∧ A.getD q.2.toNat 0 = w then some (x.1 + 1, q.2.toNat + 1, x.2.2) else none)
  else if q.1 = 2 then (if (x.2.2 : Int) ≤ q.2 ∧ q.2 < B.length ∧ B.getD q.2.toNat 0 = w then some (x.1 + 1, x.2.1, q.2.toNat + 1) else none)
  else if q.1 = 3 ∧ q.2 = 0 then some (x.1 + 1, x.2.1, x.2.2) else none
theorem mem_movesL {A B : List Int} {w : Int} {x : At3} {m : Mv} : m ∈ movesL A B w x ↔ stepF A B w x m.1 = some m.2 := by
  obtain ⟨⟨s, p⟩, y⟩ := m
  simp only [movesL, List.mem_cons, List.mem_append, List.mem_map, stepF]
  constructor
  · rintro (h | ⟨j, hj, h⟩ | ⟨j, hj, h⟩)
    · simp only [Prod.mk.injEq] at h
      obtain ⟨⟨rfl, rfl⟩, rfl⟩ := h
      simp
    · simp only [Prod.mk.injEq] at h
      obtain ⟨⟨rfl, rfl⟩, rfl⟩ := h
      obtain ⟨h1, h2, h3⟩ := mem_standsL.1 hj
      rw [if_pos rfl, if_pos ⟨by omega, by omega, by simpa using h3⟩]; simp
    · simp only [Prod.mk.injEq] at h
      obtain ⟨⟨rfl, rfl⟩, rfl⟩ := h
      obtain ⟨h1, h2, h3⟩ := mem_standsL.1 hj
      rw [if_neg (by decide), if_pos rfl, if_pos ⟨by omega, by omega, by simpa using h3⟩]; simp
  · intro h
    by_cases c1 : s = 1
    · rw [if_pos c1] at h
      split at h
      · rename_i hc
        simp only [Option.some.injEq] at h
        refine .inr (.inl ⟨p.toNat, mem_standsL.2 ⟨by omega, by omega, hc.2.2⟩, ?_⟩)
        rw [← h, c1, show ((p.toNat : Nat) : Int) = p by omega]
      · cases h
    · rw [if_neg c1] at h
      by_cases c2 : s = 2
      · rw [if_pos c2] at h
        split at h
        · rename_i hc
          simp only [Option.some.injEq] at h
          refine .inr (.inr ⟨p.toNat, mem_standsL.2 ⟨by omega, by omega, hc.2.2⟩, ?_⟩)
          rw [← h, c2, show ((p.toNat : Nat) : Int) = p by omega]
        · cases h
      · rw [if_neg c2] at h
        split at h
        · rename_i hc
          simp only [Option.some.injEq] at h
          exact .inl (by rw [← h, hc.1, hc.2])
        · cases h
/-- A reading that goes on from some place. -/
def fitL (H A B : List Int) : List (Int × Int) → At3 → Bool
  | [], _ => true
  | q :: r, x => match stepF A B (H.getD x.1 0) x q with
    | none => false
    | some y => fitL H A B r y
def toldN : List (Int × Int) → Int
  | [] => 0
  | q :: r => (if q.1 = 3 then 0 else 1) + toldN r
theorem toldN_bnd : ∀ l : List (Int × Int), 0 ≤ toldN l ∧ toldN l ≤ l.length
  | [] => by simp [toldN]
  | q :: r => by
    have := toldN_bnd r
    unfold toldN
    simp only [List.length_cons]
    split <;> omega
theorem stepF_at {A B : List Int} {w : Int} {x y : At3} {q : Int × Int} (h : stepF A B w x q = some y) (ha : x.2.1 ≤ A.length) (hb : x.2.2 ≤ B.length) : y.1 = x.1 + 1 ∧ y.2.1 ≤ A.length ∧ y.2.2 ≤ B.length :=
  movesL_ok ha hb (mem_movesL.2 (show stepF A B w x ((q, y) : Mv).1 = some y from h))
theorem nextR_v {h i k : Nat} {T : List (List Int)} {H A B : List Int} {f : Int} (hh : h < H.length) (hH : H.length ≤ 10) (hA : A.length ≤ 6) (hB : B.length ≤ 6) (hi : i ≤ A.length) (hk : k ≤ B.length) : nextR ((h : Int), (i : Int), (k : Int)) (T, H, f, A, B) = some ((movesL A B (H.getD h 0) (h, i, k)).map movP) := by
  unfold nextR
  rw [if_pos ⟨⟨by simp, by simp; omega⟩, ⟨by simp, by simp; omega⟩, ⟨by simp, by simp; omega⟩, by dsimp only; omega, by dsimp only; omega, by dsimp only; omega⟩]
  simp
/-! ### The reference's readings -/
theorem fits_l1_p {A B : List Int} {l : List (Int × Int)} {a b : Int} (ha : 0 ≤ a) (hb : 0 ≤ b) (hTa : T[a.toNat]? = some A) (hTb : T[b.toNat]? = some B) (hA : A.length ≤ 1000) (hB : B.length ≤ 1000) (hl : l.length ≤ H.length) (hH : H.length ≤ 1000) : ∀ (n : Nat) (x : At3), l.length < n + x.1 → x.1 ≤ l.length → x.2.1 ≤ A.length → x.2.2 ≤ B.length →
    ∃ r, fits_l1 N n l ((x.2.1 : Int) - 1) ((x.2.2 : Int) - 1) x.1 T H f a b = some r ∧ (fitL H A B (l.drop x.1) x = true ∧ r = .inr (.inr (.inr ())) ∨ fitL H A B (l.drop x.1) x = false ∧ r ≠ .inr (.inr (.inr ())))
  | 0, x, h, _, _, _ => by omega
  | n + 1, x, h, hx, hi, hk => by
    unfold fits_l1
    obtain ⟨h0, i, k⟩ := x
    dsimp only at *
    by_cases c : h0 < l.length
    · have hd : l.drop h0 = l.getD h0 (0, 0) :: l.drop (h0 + 1) := by
        rw [List.drop_eq_getElem_cons c]; simp [List.getD, c]
      have hk' : l[((h0 : Nat) : Int).toNat]? = some (l.getD h0 (0, 0)) := by simp [List.getD, c]
      have hw : H[((h0 : Nat) : Int).toNat]? = some (H.getD h0 0) := by
        have : h0 < H.length := by omega
        simp [List.getD, this]
      generalize l.getD h0 (0, 0) = q at *
      obtain ⟨s, p⟩ := q
      have next := fun (y : At3) (hy : y.1 = h0 + 1) (h1 : y.2.1 ≤ A.length) (h2 : y.2.2 ≤ B.length) => fits_l1_p ha hb hTa hTb hA hB hl hH n y (by omega) (by omega) h1 h2
      rw [hd]
      unfold fitL
      dsimp only
      rw [br_dec (by omega), idx_eq (by omega) hk']
      by_cases c1 : s = 1
      · rw [br_dec c1, idx_eq (by omega) hk']
        have st : stepF A B (H.getD h0 0) (h0, i, k) (s, p) = if (i : Int) ≤ p ∧ p < A.length ∧ A.getD p.toNat 0 = H.getD h0 0 then some (h0 + 1, p.toNat + 1, k) else none := by unfold stepF; exact if_pos c1
        rw [st]
        by_cases c2 : p ≤ (i : Int) - 1
        · rw [br_dec c2, if_neg (by omega)]; exact ⟨_, rfl, .inr ⟨rfl, by simp⟩⟩
        · rw [br_ndec c2, idx_eq (by omega) hk', idx_eq ha hTa]
          by_cases c3 : (A.length : Int) ≤ p
          · rw [br_dec c3, if_neg (by omega)]; exact ⟨_, rfl, .inr ⟨rfl, by simp⟩⟩
          · have hAp : A[p.toNat]? = some (A.getD p.toNat 0) := by
              have : p.toNat < A.length := by omega
              simp [List.getD, this]
            rw [br_ndec c3, idx_eq ha hTa, idx_eq (by omega) hk', idx_eq (show 0 ≤ ((s, p) : Int × Int).2 by dsimp only; omega) hAp, idx_eq (by omega) hw]
            by_cases c4 : A.getD p.toNat 0 = H.getD h0 0
            · rw [br_nd c4, if_pos ⟨by omega, by omega, c4⟩, idx_eq (by omega) hk']
              unfold fits_j1
              rw [chk_eq (by omega)]
              obtain ⟨r, e, hr⟩ := next (h0 + 1, p.toNat + 1, k) rfl (by dsimp only; omega) hk
              dsimp only at e hr ⊢
              rw [show ((p.toNat + 1 : Nat) : Int) - 1 = p by omega, show ((h0 + 1 : Nat) : Int) = (h0 : Int) + 1 by omega] at e
              exact ⟨r, e, hr⟩
            · rw [br_nnd c4, if_neg (fun h => c4 h.2.2)]; exact ⟨_, rfl, .inr ⟨rfl, by simp⟩⟩
      · rw [br_ndec c1, idx_eq (by omega) hk']
        by_cases c5 : s = 2
        · rw [br_dec c5, idx_eq (by omega) hk']
          have st : stepF A B (H.getD h0 0) (h0, i, k) (s, p) = if (k : Int) ≤ p ∧ p < B.length ∧ B.getD p.toNat 0 = H.getD h0 0 then some (h0 + 1, i, p.toNat + 1) else none := by unfold stepF; rw [if_neg c1]; exact if_pos c5
          rw [st]
          by_cases c2 : p ≤ (k : Int) - 1
          · rw [br_dec c2, if_neg (by omega)]; exact ⟨_, rfl, .inr ⟨rfl, by simp⟩⟩
          · rw [br_ndec c2, idx_eq (by omega) hk', idx_eq hb hTb]
            by_cases c3 : (B.length : Int) ≤ p
            · rw [br_dec c3, if_neg (by omega)]; exact ⟨_, rfl, .inr ⟨rfl, by simp⟩⟩
            · have hBp : B[p.toNat]? = some (B.getD p.toNat 0) := by
                have : p.toNat < B.length := by omega
                simp [List.getD, this]
              rw [br_ndec c3, idx_eq hb hTb, idx_eq (by omega) hk', idx_eq (show 0 ≤ ((s, p) : Int × Int).2 by dsimp only; omega) hBp, idx_eq (by omega) hw]
              by_cases c4 : B.getD p.toNat 0 = H.getD h0 0
              · rw [br_nd c4, if_pos ⟨by omega, by omega, c4⟩, idx_eq (by omega) hk']
                unfold fits_j1
                rw [chk_eq (by omega)]
                obtain ⟨r, e, hr⟩ := next (h0 + 1, i, p.toNat + 1) rfl hi (by dsimp only; omega)
                dsimp only at e hr ⊢
                rw [show ((p.toNat + 1 : Nat) : Int) - 1 = p by omega, show ((h0 + 1 : Nat) : Int) = (h0 : Int) + 1 by omega] at e
                exact ⟨r, e, hr⟩
              · rw [br_nnd c4, if_neg (fun h => c4 h.2.2)]; exact ⟨_, rfl, .inr ⟨rfl, by simp⟩⟩
        · rw [br_ndec c5, idx_eq (by omega) hk']
          have st : stepF A B (H.getD h0 0) (h0, i, k) (s, p) = if s = 3 ∧ p = 0 then some (h0 + 1, i, k) else none := by unfold stepF; rw [if_neg c1, if_neg c5]
          rw [st]
          by_cases c6 : s = 3
          · rw [br_nd c6, idx_eq (by omega) hk']
            by_cases c7 : p = 0
            · rw [br_nd c7, if_pos ⟨c6, c7⟩]
              unfold fits_j1
              rw [chk_eq (by omega)]
              obtain ⟨r, e, hr⟩ := next (h0 + 1, i, k) rfl hi hk
              dsimp only at e hr ⊢
              rw [show ((h0 + 1 : Nat) : Int) = (h0 : Int) + 1 by omega] at e
              exact ⟨r, e, hr⟩
            · rw [br_nnd c7, if_neg (fun h => c7 h.2)]; exact ⟨_, rfl, .inr ⟨rfl, by simp⟩⟩
          · rw [br_nnd c6, if_neg (fun h => c6 h.1)]; exact ⟨_, rfl, .inr ⟨rfl, by simp⟩⟩
    · rw [br_ndec (by omega), List.drop_of_length_le (by omega)]
      exact ⟨_, rfl, .inl ⟨rfl, rfl⟩⟩
theorem fits_v {A B : List Int} {l : List (Int × Int)} {a b : Int} (ha : 0 ≤ a) (hb : 0 ≤ b) (hTa : T[a.toNat]? = some A) (hTb : T[b.toNat]? = some B) (hA : A.length ≤ 1000) (hB : B.length ≤ 1000) (hl : l.length ≤ H.length) (hH : H.length ≤ 1000) (hN : l.length < N) : fits_S N T H f a b l = some (fitL H A B l (0, 0, 0)) := by
  obtain ⟨r, e, hr⟩ := fits_l1_p (N := N) (f := f) ha hb hTa hTb hA hB hl hH N (0, 0, 0) (by dsimp only; omega) (by dsimp only; omega) (by dsimp only; omega) (by dsimp only; omega)
  unfold fits_S
  dsimp only at e hr
  rw [show ((0 : Nat) : Int) = 0 from rfl, show (0 : Int) - 1 = -1 from rfl] at e
  rw [List.drop_zero] at hr
  rw [e]
  rcases hr with ⟨h1, rfl⟩ | ⟨h1, h2⟩
  · rw [h1]; rfl
  · rw [h1]
    rcases r with r | r | r | r
    · rfl
    · rfl
    · rfl
    · exact absurd rfl h2
theorem faulty_l1_p {l : List (Int × Int)} (hl : l.length ≤ 1000) : ∀ (n k : Nat) (m : Int), l.length < n + k → k ≤ l.length → -10000 ≤ m - l.length + k ∧ m + l.length - k ≤ 10000 → faulty_l1 N n l m k = some (m + (l.length - k) - 2 * toldN (l.drop k))
  | 0, k, m, h, _, _ => by omega
  | n + 1, k, m, h, hk, hm => by
    unfold faulty_l1
    by_cases c : k < l.length
    · have hd : l.drop k = l.getD k (0, 0) :: l.drop (k + 1) := by
        rw [List.drop_eq_getElem_cons c]; simp [List.getD, c]
      have hk' : l[((k : Nat) : Int).toNat]? = some (l.getD k (0, 0)) := by simp [List.getD, c]
      generalize l.getD k (0, 0) = q at *
      rw [br_dec (by omega), idx_eq (by omega) hk', hd]
      unfold toldN
      by_cases c3 : q.1 = 3
      · rw [br_dec c3, if_pos c3, chk_eq (by omega)]
        unfold faulty_j1
        rw [chk_eq (by omega)]
        have := faulty_l1_p hl n (k + 1) (m + 1) (by omega) (by omega) (by omega)
        rw [show ((k + 1 : Nat) : Int) = (k : Int) + 1 by omega] at this
        rw [this]; congr 1; omega
      · rw [br_ndec c3, if_neg c3, chk_eq (by omega)]
        unfold faulty_j1
        rw [chk_eq (by omega)]
        have := faulty_l1_p hl n (k + 1) (m - 1) (by omega) (by omega) (by omega)
        rw [show ((k + 1 : Nat) : Int) = (k : Int) + 1 by omega] at this
        rw [this]; congr 1; omega
    · rw [br_ndec (by omega), List.drop_of_length_le (by omega)]
      simp [toldN]; omega
theorem faulty_v {A B : List Int} {l : List (Int × Int)} {a b : Int} (ha : 0 ≤ a) (hb : 0 ≤ b) (hTa : T[a.toNat]? = some A) (hTb : T[b.toNat]? = some B) (hA : A.length ≤ 1000) (hB : B.length ≤ 1000) (hl : l.length ≤ 1000) (hN : l.length < N) : faulty_S N T H f a b l = some ((A.length : Int) + B.length + l.length - 2 * toldN l) := by
  unfold faulty_S
  rw [idx_eq ha hTa, idx_eq hb hTb, chk_eq (by omega)]
  have := faulty_l1_p (N := N) hl N 0 ((A.length : Int) + B.length) (by omega) (by omega) (by omega)
  rw [show ((0 : Nat) : Int) = 0 from rfl, List.drop_zero] at this
  rw [this]
  simp
theorem rfaults_v (hN : 20 ≤ N) (h : Small T H) (a b : Int) (l : List (Int × Int)) (hl : l.length ≤ 14) : rfaults_S N T H f a b l = some (if openE T H f a b ≠ 0 then (0, openE T H f a b) else if l.length ≠ H.length then (0, 2)
    else if fitL H (T.getD a.toNat []) (T.getD b.toNat []) l (0, 0, 0) = true then (((T.getD a.toNat []).length : Int) + (T.getD b.toNat []).length + H.length - 2 * toldN l, 0) else (0, 8)) := by
  unfold rfaults_S
  rw [rtwo_v hN h]
  simp only [Option.bind_some]
  by_cases c : openE T H f a b = 0
  · rw [if_neg (by simpa using c), br_nd c]
    obtain ⟨hF, ha, hb, e⟩ := opened_good hN c
    have hH := hF.h
    have lA := hF.l (T.getD a.toNat []) (getD_mem (by omega))
    have lB := hF.l (T.getD b.toNat []) (getD_mem (by omega))
    have hTa : T[a.toNat]? = some (T.getD a.toNat []) := by
      have : a.toNat < T.length := by omega
      simp [List.getD, this]
    have hTb : T[b.toNat]? = some (T.getD b.toNat []) := by
      have : b.toNat < T.length := by omega
      simp [List.getD, this]
    by_cases d : l.length = H.length
    · rw [if_neg (by simpa using d), br_nd (by omega), fits_v ha.1 hb.1 hTa hTb (by omega) (by omega) (by omega) (by omega) (by omega)]
      simp only [Option.bind_some]
      cases g : fitL H (T.getD a.toNat []) (T.getD b.toNat []) l (0, 0, 0) with
      | true =>
        simp only [Bool.not_true, br_false, if_true]
        rw [faulty_v ha.1 hb.1 hTa hTb (by omega) (by omega) (by omega) (by omega)]
        simp only [Option.bind_some]
        rw [d]
      | false => rfl
    · rw [if_pos d, br_nnd (by omega)]
  · rw [if_pos c, br_nnd c]
end
end Go.Proofs.Ytfcnhnbnjdccfaa

namespace Go.Proofs.Ytfcnhnbnjdccfaa
set_option linter.all false
open Go

section
variable {N : Nat} {T : List (List Int)} {H A B : List Int} {f : Int}
/-- What is behind after places. -/
def runF (H A B : List Int) : List (Int × Int) → At3 → Option At3
  | [], x => some x
  | q :: r, x => (stepF A B (H.getD x.1 0) x q).bind (runF H A B r)
theorem fitL_run : ∀ (l : List (Int × Int)) (x : At3), fitL H A B l x = (runF H A B l x).isSome
  | [], _ => rfl
  | q :: r, x => by
    unfold fitL runF
    cases stepF A B (H.getD x.1 0) x q with
    | none => rfl
    | some y => exact fitL_run r y
theorem runF_app : ∀ (l r : List (Int × Int)) (x : At3), runF H A B (l ++ r) x = (runF H A B l x).bind (runF H A B r)
  | [], _, _ => rfl
  | q :: l, r, x => by
    rw [List.cons_append]
    unfold runF
    cases stepF A B (H.getD x.1 0) x q with
    | none => rfl
    | some y => exact runF_app l r y
/-- All readings of so many words from here on. -/
def rdx (H A B : List Int) : Nat → At3 → List (List (Int × Int))
  | 0, _ => [[]]
  | n + 1, x => (movesL A B (H.getD x.1 0) x).flatMap fun m => (rdx H A B n m.2).map fun r => m.1 :: r
theorem flat_len {α β : Type} {g : α → List β} {P : Nat} : ∀ (l : List α), (∀ x ∈ l, (g x).length ≤ P) → (l.flatMap g).length ≤ l.length * P
  | [], _ => by simp
  | x :: l, h => by
    rw [List.flatMap_cons, List.length_append, List.length_cons, Nat.succ_mul]
    have h1 := h x (by simp)
    have h2 := flat_len l (fun y hy => h y (by simp [hy]))
    omega
theorem rdx_len {M : Nat} (hM : 1 + A.length + B.length ≤ M) : ∀ (n : Nat) (x : At3), (rdx H A B n x).length ≤ M ^ n
  | 0, _ => by simp [rdx]
  | n + 1, x => by
    unfold rdx
    have h1 := flat_len (g := fun m => (rdx H A B n m.2).map fun r => m.1 :: r) (P := M ^ n) (movesL A B (H.getD x.1 0) x) (fun m _ => by rw [List.length_map]; exact rdx_len hM n m.2)
    have h2 := movesL_len A B (H.getD x.1 0) x
    have h3 : (movesL A B (H.getD x.1 0) x).length * M ^ n ≤ M * M ^ n := Nat.mul_le_mul_right _ (by omega)
    rw [Nat.pow_succ, Nat.mul_comm (M ^ n) M]
    omega
theorem flat_filter {α β : Type} (p : α → Bool) (g : α → List β) : ∀ l : List α, (l.flatMap fun x => if p x = true then g x else []) = (l.filter p).flatMap g
  | [] => rfl
  | x :: l => by
    rw [List.flatMap_cons, flat_filter p g l, List.filter_cons]
    split <;> simp
theorem stands_all {β : Type} (l : List Int) (w : Int) (i : Nat) (hi : i ≤ l.length) (g : Nat → List β) : ((List.range l.length).flatMap fun k => if (decide (i ≤ k) && l.getD k 0 == w) = true then g k else []) = (standsL l w i).flatMap g := by
  rw [flat_filter (fun k => decide (i ≤ k) && l.getD k 0 == w) g]
  have e : List.range l.length = List.range' 0 i ++ List.range' i (l.length - i) := by
    rw [List.range_eq_range', show l.length = i + (l.length - i) by omega, ← List.range'_append]
    simp
  rw [e, List.filter_append]
  have e1 : (List.range' 0 i).filter (fun k => decide (i ≤ k) && l.getD k 0 == w) = [] := by
    rw [List.filter_eq_nil_iff]
    intro k hk
    have := List.mem_range'.1 hk
    simp only [Bool.and_eq_true, decide_eq_true_eq, not_and]
    intro h; omega
  have e2 : (List.range' i (l.length - i)).filter (fun k => decide (i ≤ k) && l.getD k 0 == w) = standsL l w i := by
    unfold standsL
    apply List.filter_congr
    intro k hk
    have := List.mem_range'.1 hk
    have h2 : i ≤ k := by omega
    simp [h2]
  rw [e1, e2, List.nil_append]
/-- What readings with a further place there are. -/
def gR (H A B : List Int) (n : Nat) (x : At3) (l : List (Int × Int)) (q : Int × Int) : List (List (Int × Int)) :=
  match stepF A B (H.getD x.1 0) x q with
  | none => []
  | some y => (rdx H A B n y).map fun r => (l ++ [q]) ++ r
theorem gR_len {M n : Nat} (hM : 1 + A.length + B.length ≤ M) (x : At3) (l : List (Int × Int)) (q : Int × Int) : (gR H A B n x l q).length ≤ M ^ n := by
  unfold gR
  split
  · simp
  · rw [List.length_map]; exact rdx_len hM n _
theorem gR_all {n : Nat} {x : At3} {l : List (Int × Int)} (hi : x.2.1 ≤ A.length) (hk : x.2.2 ≤ B.length) :
    (gR H A B n x l (3, 0) ++ ((List.range A.length).flatMap fun (k : Nat) => gR H A B n x l (1, (k : Int)))) ++ ((List.range B.length).flatMap fun (k : Nat) => gR H A B n x l (2, (k : Int))) = (rdx H A B (n + 1) x).map fun r => l ++ r := by
  have eA : ∀ k ∈ List.range A.length, gR H A B n x l (1, (k : Int)) = if (decide (x.2.1 ≤ k) && A.getD k 0 == H.getD x.1 0) = true then (rdx H A B n (x.1 + 1, k + 1, x.2.2)).map (fun r => l ++ (1, (k : Int)) :: r) else [] := by
    intro k hk
    have hk := List.mem_range.1 hk
    have st : stepF A B (H.getD x.1 0) x (1, (k : Int)) = if (x.2.1 : Int) ≤ (k : Int) ∧ (k : Int) < A.length ∧ A.getD (k : Int).toNat 0 = H.getD x.1 0 then some (x.1 + 1, (k : Int).toNat + 1, x.2.2) else none := rfl
    unfold gR
    rw [st]
    by_cases c : x.2.1 ≤ k ∧ A.getD k 0 = H.getD x.1 0
    · rw [if_pos ⟨by omega, by omega, by simpa using c.2⟩, if_pos (by simp only [Bool.and_eq_true, decide_eq_true_eq, beq_iff_eq]; exact c)]
      simp
    · rw [if_neg (fun h => c ⟨by omega, by simpa using h.2.2⟩), if_neg (by simp only [Bool.and_eq_true, decide_eq_true_eq, beq_iff_eq]; exact c)]
  have eB : ∀ k ∈ List.range B.length, gR H A B n x l (2, (k : Int)) = if (decide (x.2.2 ≤ k) && B.getD k 0 == H.getD x.1 0) = true then (rdx H A B n (x.1 + 1, x.2.1, k + 1)).map (fun r => l ++ (2, (k : Int)) :: r) else [] := by
    intro k hk
    have hk := List.mem_range.1 hk
    have st : stepF A B (H.getD x.1 0) x (2, (k : Int)) = if (x.2.2 : Int) ≤ (k : Int) ∧ (k : Int) < B.length ∧ B.getD (k : Int).toNat 0 = H.getD x.1 0 then some (x.1 + 1, x.2.1, (k : Int).toNat + 1) else none := rfl
    unfold gR
    rw [st]
    by_cases c : x.2.2 ≤ k ∧ B.getD k 0 = H.getD x.1 0
    · rw [if_pos ⟨by omega, by omega, by simpa using c.2⟩, if_pos (by simp only [Bool.and_eq_true, decide_eq_true_eq, beq_iff_eq]; exact c)]
      simp
    · rw [if_neg (fun h => c ⟨by omega, by simpa using h.2.2⟩), if_neg (by simp only [Bool.and_eq_true, decide_eq_true_eq, beq_iff_eq]; exact c)]
  have fc : ∀ {α β : Type} {u v : α → List β} (l : List α), (∀ k ∈ l, u k = v k) → l.flatMap u = l.flatMap v := by
    intro α β u v l
    induction l with
    | nil => intro _; rfl
    | cons a l ih => intro h; rw [List.flatMap_cons, List.flatMap_cons, h a (by simp), ih (fun k hk => h k (by simp [hk]))]
  rw [fc _ eA, fc _ eB, stands_all A _ _ hi, stands_all B _ _ hk]
  have er : rdx H A B (n + 1) x = (movesL A B (H.getD x.1 0) x).flatMap fun m => (rdx H A B n m.2).map fun r => m.1 :: r := rfl
  rw [er]
  unfold movesL
  have e3 : gR H A B n x l (3, 0) = (rdx H A B n (x.1 + 1, x.2.1, x.2.2)).map fun r => l ++ (3, 0) :: r := by
    unfold gR
    have st : stepF A B (H.getD x.1 0) x (3, 0) = some (x.1 + 1, x.2.1, x.2.2) := rfl
    rw [st]; simp
  rw [e3, List.flatMap_cons, List.flatMap_append, List.map_append, List.map_append, List.append_assoc]
  simp only [List.map_map, List.flatMap_map, List.map_flatMap]
  rfl
theorem readings_l1_p {self : (List (List Int)) → (List Int) → Int → Int → Int → (List (Int × Int)) → Option (List (List (Int × Int)))} {a b : Int} {l : List (Int × Int)} {x : At3} {m P : Nat} (ha : 0 ≤ a) (hTa : T[a.toNat]? = some A) (hl : l.length ≤ 100) (hA : A.length ≤ 100)
    (hs : ∀ q, self T H f a b (l ++ [q]) = some (gR H A B m x l q)) (hg : ∀ q, (gR H A B m x l q).length ≤ P) {o : List (List (Int × Int))} (ho : o.length ≤ P) (hP : (1 + A.length) * P ≤ 1000000) : ∀ (n k : Nat), A.length < n + k → k ≤ A.length →
    readings_l1 N self n l k T H f a b (o ++ (List.range k).flatMap fun (j : Nat) => gR H A B m x l (1, (j : Int))) = some (l, T, H, f, a, b, o ++ (List.range A.length).flatMap fun (j : Nat) => gR H A B m x l (1, (j : Int)))
  | 0, k, h, _ => by omega
  | n + 1, k, h, hk => by
    unfold readings_l1
    rw [idx_eq ha hTa]
    by_cases c : k < A.length
    · have fl := flat_len (g := fun j : Nat => gR H A B m x l (1, (j : Int))) (P := P) (List.range k) (fun j _ => hg _)
      rw [List.length_range] at fl
      have gl := hg (1, (k : Int))
      have hp : (1 + k + 1) * P ≤ (1 + A.length) * P := Nat.mul_le_mul_right _ (by omega)
      have hp2 : (1 + k + 1) * P = P + k * P + P := by rw [Nat.add_mul, Nat.add_mul, Nat.one_mul]
      rw [br_dec (by omega), lim_eq (by simp; omega), lim_eq (by simp; omega)]
      simp only [List.nil_append]
      rw [hs]
      simp only [Option.bind_some]
      rw [lim_eq (by rw [List.length_append]; omega), chk_eq (by omega)]
      have := readings_l1_p ha hTa hl hA hs hg ho hP n (k + 1) (by omega) (by omega)
      rw [show ((k + 1 : Nat) : Int) = (k : Int) + 1 by omega, List.range_succ, List.flatMap_append, ← List.append_assoc] at this
      simpa using this
    · have e : k = A.length := by omega
      rw [br_ndec (by omega), e]
theorem readings_l2_p {self : (List (List Int)) → (List Int) → Int → Int → Int → (List (Int × Int)) → Option (List (List (Int × Int)))} {a b : Int} {l : List (Int × Int)} {x : At3} {m P Q : Nat} (ha : 0 ≤ b) (hTa : T[b.toNat]? = some B) (hl : l.length ≤ 100) (hA : B.length ≤ 100)
    (hs : ∀ q, self T H f a b (l ++ [q]) = some (gR H A B m x l q)) (hg : ∀ q, (gR H A B m x l q).length ≤ P) {o : List (List (Int × Int))} (ho : o.length ≤ Q) (hP : Q + B.length * P ≤ 1000000) : ∀ (n k : Nat), B.length < n + k → k ≤ B.length →
    readings_l2 N self n l k T H f a b (o ++ (List.range k).flatMap fun (j : Nat) => gR H A B m x l (2, (j : Int))) = some (o ++ (List.range B.length).flatMap fun (j : Nat) => gR H A B m x l (2, (j : Int)))
  | 0, k, h, _ => by omega
  | n + 1, k, h, hk => by
    unfold readings_l2
    rw [idx_eq ha hTa]
    by_cases c : k < B.length
    · have fl := flat_len (g := fun j : Nat => gR H A B m x l (2, (j : Int))) (P := P) (List.range k) (fun j _ => hg _)
      rw [List.length_range] at fl
      have gl := hg (2, (k : Int))
      have hp : (k + 1) * P ≤ B.length * P := Nat.mul_le_mul_right _ (by omega)
      have hp2 : (k + 1) * P = k * P + P := by rw [Nat.add_mul, Nat.one_mul]
      rw [br_dec (by omega), lim_eq (by simp; omega), lim_eq (by simp; omega)]
      simp only [List.nil_append]
      rw [hs]
      simp only [Option.bind_some]
      rw [lim_eq (by rw [List.length_append]; omega), chk_eq (by omega)]
      have := readings_l2_p ha hTa hl hA hs hg ho hP n (k + 1) (by omega) (by omega)
      rw [show ((k + 1 : Nat) : Int) = (k : Int) + 1 by omega, List.range_succ, List.flatMap_append, ← List.append_assoc] at this
      simpa using this
    · have e : k = B.length := by omega
      rw [br_ndec (by omega), e]
theorem runF_at : ∀ (l : List (Int × Int)) (x y : At3), runF H A B l x = some y → x.2.1 ≤ A.length → x.2.2 ≤ B.length → y.1 = x.1 + l.length ∧ y.2.1 ≤ A.length ∧ y.2.2 ≤ B.length
  | [], x, y, h, h1, h2 => by simp only [runF, Option.some.injEq] at h; subst h; exact ⟨rfl, h1, h2⟩
  | q :: l, x, y, h, h1, h2 => by
    unfold runF at h
    cases hs : stepF A B (H.getD x.1 0) x q with
    | none => rw [hs] at h; cases h
    | some z =>
      rw [hs] at h
      obtain ⟨z1, z2, z3⟩ := stepF_at hs h1 h2
      obtain ⟨y1, y2, y3⟩ := runF_at l z y h z2 z3
      exact ⟨by rw [List.length_cons]; omega, y2, y3⟩
theorem readings_R_p {a b : Int} {M : Nat} (hN : 20 ≤ N) (ha : 0 ≤ a) (hb : 0 ≤ b) (hTa : T[a.toNat]? = some A) (hTb : T[b.toNat]? = some B) (hA : A.length ≤ 6) (hB : B.length ≤ 6) (hH : H.length ≤ 10) (hM : 1 + A.length + B.length ≤ M) (hP : M ^ H.length ≤ 1000000) : ∀ (n m : Nat) (l : List (Int × Int)), H.length = l.length + m → m < n →
    readings_R N n T H f a b l = some (match runF H A B l (0, 0, 0) with | none => [] | some x => (rdx H A B m x).map fun r => l ++ r)
  | 0, m, l, _, h => by omega
  | n + 1, m, l, hl, h => by
    show readings_S N (readings_R N n) T H f a b l = _
    unfold readings_S
    rw [fits_v ha hb hTa hTb (by omega) (by omega) (by omega) (by omega) (by omega), fitL_run]
    simp only [Option.bind_some]
    cases hr : runF H A B l (0, 0, 0) with
    | none => rfl
    | some x =>
      obtain ⟨x1, x2, x3⟩ := runF_at l _ x hr (Nat.zero_le _) (Nat.zero_le _)
      dsimp only at x1
      simp only [Option.isSome_some, Bool.not_true, br_false]
      cases m with
      | zero =>
        rw [br_dec (by omega)]
        simp [rdx]
      | succ m =>
        have hs : ∀ q, readings_R N n T H f a b (l ++ [q]) = some (gR H A B m x l q) := by
          intro q
          rw [readings_R_p hN ha hb hTa hTb hA hB hH hM hP n m (l ++ [q]) (by simp; omega) (by omega), runF_app, hr]
          simp only [Option.bind_some]
          unfold runF gR
          cases stepF A B (H.getD x.1 0) x q with
          | none => rfl
          | some y => rfl
        have hg := fun q => gR_len (H := H) (n := m) hM x l q
        have p1 : M ^ (m + 1) ≤ M ^ H.length := Nat.pow_le_pow_right (by omega) (by omega)
        have p2 : (1 + A.length + B.length) * M ^ m ≤ M * M ^ m := Nat.mul_le_mul_right _ hM
        rw [Nat.pow_succ, Nat.mul_comm (M ^ m) M] at p1
        have p3 : (1 + A.length + B.length) * M ^ m = (1 + A.length) * M ^ m + B.length * M ^ m := Nat.add_mul _ _ _
        rw [br_ndec (by omega), lim_eq (by simp; omega), lim_eq (by simp; omega)]
        simp only [List.nil_append]
        rw [hs]
        simp only [Option.bind_some]
        have e1 := readings_l1_p (N := N) (f := f) (x := x) ha hTa (by omega) (by omega) hs hg (o := gR H A B m x l (3, 0)) (hg _) (by omega) N 0 (by omega) (by omega)
        simp only [List.range_zero, List.flatMap_nil, List.append_nil, show ((0 : Nat) : Int) = 0 from rfl] at e1
        rw [e1]
        simp only [Option.bind_some]
        have fl := flat_len (g := fun j : Nat => gR H A B m x l (1, (j : Int))) (P := M ^ m) (List.range A.length) (fun j _ => hg _)
        rw [List.length_range] at fl
        have e2 := readings_l2_p (N := N) (f := f) (x := x) (Q := (1 + A.length) * M ^ m) hb hTb (by omega) (by omega) hs hg (o := gR H A B m x l (3, 0) ++ (List.range A.length).flatMap fun (j : Nat) => gR H A B m x l (1, (j : Int))) (by rw [List.length_append, Nat.add_mul, Nat.one_mul]; have := hg (3, 0); omega) (by omega) N 0 (by omega) (by omega)
        simp only [List.range_zero, List.flatMap_nil, List.append_nil, show ((0 : Nat) : Int) = 0 from rfl] at e2
        rw [e2]
        simp only [Option.bind_some]
        rw [gR_all x2 x3]
/-! ### The best of them -/
theorem countP_zero {α : Type} {p : α → Bool} : ∀ {l : List α}, (∀ x ∈ l, p x = false) → l.countP p = 0
  | [], _ => rfl
  | a :: l, h => by
    rw [List.countP_cons, countP_zero (fun x hx => h x (by simp [hx])), h a (by simp)]; rfl
/-- So many words are told in the best of these, and there are so many best ones. -/
def BestOf (C : List (List (Int × Int))) (v : Int × Int) : Prop := (∀ r ∈ C, toldN r ≤ v.1) ∧ v.2 = (C.countP fun r => decide (toldN r = v.1) : Nat)
theorem BestOf.add {h n : Nat} {t : At3 → Int × Int} {m : Mv} {C D : List (List (Int × Int))} {best : Int × Int} (hb : BestOf C best) (hd : BestOf D (t m.2)) (h0 : 0 ≤ (t m.2).1) : BestOf (C ++ D.map fun r => m.1 :: r) (stepT mayA h t best m) := by
  have st : stepT mayA h t best m = (if best.1 < wT m.1.1 (t m.2).1 then (wT m.1.1 (t m.2).1, (t m.2).2) else if wT m.1.1 (t m.2).1 = best.1 then (best.1, best.2 + (t m.2).2) else best) := by
    unfold stepT; exact if_pos rfl
  have hw : wT m.1.1 (t m.2).1 = (if m.1.1 = 3 then 0 else 1) + (t m.2).1 := by
    unfold wT
    by_cases c : m.1.1 = 3
    · rw [if_neg (fun h => h.2 c), if_pos c]; omega
    · rw [if_pos ⟨h0, c⟩, if_neg c]; omega
  obtain ⟨b1, b2⟩ := hb
  obtain ⟨d1, d2⟩ := hd
  have tn : ∀ r, toldN (m.1 :: r) = (if m.1.1 = 3 then 0 else 1) + toldN r := fun r => rfl
  rw [st]
  generalize wT m.1.1 (t m.2).1 = W at *
  generalize (if m.1.1 = 3 then (0 : Int) else 1) = e at *
  have c1 : ∀ v : Int, ((D.map fun r => m.1 :: r).countP fun r => decide (toldN r = v)) = D.countP fun r => decide (toldN r = v - e) := by
    intro v
    rw [List.countP_map]
    congr 1
    funext r
    simp only [Function.comp]
    rw [tn]
    apply decide_eq_decide.2
    omega
  have le : ∀ r ∈ D.map (fun r => m.1 :: r), toldN r ≤ W := by
    intro r hr
    obtain ⟨r', hr', rfl⟩ := List.mem_map.1 hr
    rw [tn]; have := d1 r' hr'; omega
  by_cases k1 : best.1 < W
  · rw [if_pos k1]
    refine ⟨fun r hr => ?_, ?_⟩
    · rcases List.mem_append.1 hr with hr | hr
      · have := b1 r hr; dsimp only; omega
      · exact le r hr
    · dsimp only
      rw [List.countP_append, c1, show W - e = (t m.2).1 by omega, countP_zero (l := C) (fun r hr => by have := b1 r hr; simp; omega), d2]
      simp
  · rw [if_neg k1]
    by_cases k2 : W = best.1
    · rw [if_pos k2]
      refine ⟨fun r hr => ?_, ?_⟩
      · rcases List.mem_append.1 hr with hr | hr
        · exact b1 r hr
        · have := le r hr; dsimp only; omega
      · dsimp only
        rw [List.countP_append, c1, show best.1 - e = (t m.2).1 by omega, b2, d2]
        omega
    · rw [if_neg k2]
      refine ⟨fun r hr => ?_, ?_⟩
      · rcases List.mem_append.1 hr with hr | hr
        · exact b1 r hr
        · have := le r hr; omega
      · rw [List.countP_append, c1, countP_zero (l := D) (fun r hr => by have := d1 r hr; simp; omega), b2]
        simp
theorem BestOf.fold {h n : Nat} {t : At3 → Int × Int} (hd : ∀ y, y.1 = h + 1 → BestOf (rdx H A B n y) (t y) ∧ 0 ≤ (t y).1) : ∀ (ms : List Mv) (C : List (List (Int × Int))) (best : Int × Int), (∀ m ∈ ms, m.2.1 = h + 1) → BestOf C best → BestOf (C ++ ms.flatMap fun m => (rdx H A B n m.2).map fun r => m.1 :: r) (ms.foldl (stepT mayA h t) best)
  | [], C, best, _, hb => by simpa using hb
  | m :: ms, C, best, hm, hb => by
    rw [List.flatMap_cons, ← List.append_assoc, List.foldl_cons]
    obtain ⟨d1, d2⟩ := hd m.2 (hm m (by simp))
    exact BestOf.fold hd ms _ _ (fun m' h' => hm m' (by simp [h'])) (BestOf.add (n := n) hb d1 d2)
theorem rdx_best : ∀ (n : Nat) (x : At3), H.length = x.1 + n → BestOf (rdx H A B n x) (tvx mayA H A B n x)
  | 0, x, _ => ⟨fun r hr => by simp [rdx] at hr; subst hr; simp [tvx, toldN], by simp [rdx, tvx, toldN]⟩
  | n + 1, x, hx => by
    have := BestOf.fold (H := H) (A := A) (B := B) (h := x.1) (n := n) (t := tvx mayA H A B n) (fun y hy => ⟨rdx_best n y (by omega), tvx_nonneg H A B (h := y.1) (i := y.2.1) (k := y.2.2) (by omega)⟩) (movesL A B (H.getD x.1 0) x) [] (-1, 0) (fun m hm => by
      have h3 := mem_movesL.1 hm
      unfold stepF at h3
      split at h3
      · split at h3
        · simp only [Option.some.injEq] at h3; rw [← h3]
        · cases h3
      · split at h3
        · split at h3
          · simp only [Option.some.injEq] at h3; rw [← h3]
          · cases h3
        · split at h3
          · simp only [Option.some.injEq] at h3; rw [← h3]
          · cases h3) ⟨(fun r hr => by cases hr), rfl⟩
    exact this
theorem rdx_has : ∀ (n : Nat) (x : At3), H.length = x.1 + n → ∃ r ∈ rdx H A B n x, toldN r = (tvx mayA H A B n x).1
  | 0, x, _ => ⟨[], by simp [rdx], by simp [toldN, tvx]⟩
  | n + 1, x, hx => by
    have nn := tvx_nonneg H A B (h := x.1) (i := x.2.1) (k := x.2.2) hx
    rw [show ((x.1, x.2.1, x.2.2) : At3) = x from rfl, tvx] at nn
    rw [tvx]
    rcases fold_has (h := x.1) (t := tvx mayA H A B n) (movesL A B (H.getD x.1 0) x) (-1, 0) with h1 | ⟨m, hm, h1⟩
    · rw [h1] at nn; exact absurd nn (by decide)
    · have hy : m.2.1 = x.1 + 1 := by
        simp only [movesL, List.mem_cons, List.mem_append, List.mem_map] at hm
        rcases hm with rfl | ⟨j, _, rfl⟩ | ⟨j, _, rfl⟩ <;> rfl
      obtain ⟨r, hr, e⟩ := rdx_has n m.2 (by omega)
      have h0 := tvx_nonneg H A B (h := m.2.1) (i := m.2.2.1) (k := m.2.2.2) (n := n) (by omega)
      refine ⟨m.1 :: r, List.mem_flatMap.2 ⟨m, hm, List.mem_map.2 ⟨r, hr, rfl⟩⟩, ?_⟩
      rw [h1]
      unfold toldN wT
      by_cases c : m.1.1 = 3
      · rw [if_pos c, if_neg (fun h => h.2 c)]; rw [e]; omega
      · rw [if_neg c, if_pos ⟨h0, c⟩]; rw [e]; omega
theorem rdx_length : ∀ (n : Nat) (x : At3), ∀ r ∈ rdx H A B n x, r.length = n
  | 0, x, r, hr => by simp [rdx] at hr; subst hr; rfl
  | n + 1, x, r, hr => by
    obtain ⟨m, _, h⟩ := List.mem_flatMap.1 hr
    obtain ⟨r', hr', rfl⟩ := List.mem_map.1 h
    rw [List.length_cons, rdx_length n m.2 r' hr']
/-- All readings. -/
def rdAll (H A B : List Int) : List (List (Int × Int)) := rdx H A B H.length (0, 0, 0)
theorem rdAll_le : ∀ r ∈ rdAll H A B, toldN r ≤ (tv mayA H A B (0, 0, 0)).1 := (rdx_best (H := H) (A := A) (B := B) H.length (0, 0, 0) (by simp)).1
theorem rdAll_count : (tv mayA H A B (0, 0, 0)).2 = ((rdAll H A B).countP fun r => decide (toldN r = (tv mayA H A B (0, 0, 0)).1) : Nat) := (rdx_best (H := H) (A := A) (B := B) H.length (0, 0, 0) (by simp)).2
theorem rdAll_has : ∃ r ∈ rdAll H A B, toldN r = (tv mayA H A B (0, 0, 0)).1 := rdx_has (H := H) (A := A) (B := B) H.length (0, 0, 0) (by simp)
/-- Words of both texts, and those that were heard, less those that are told, twice. -/
def fltV (H A B : List Int) (r : List (Int × Int)) : Int := (A.length : Int) + B.length + H.length - 2 * toldN r
theorem best_l1_p {a b : Int} (ha : 0 ≤ a) (hb : 0 ≤ b) (hTa : T[a.toNat]? = some A) (hTb : T[b.toNat]? = some B) (hA : A.length ≤ 6) (hB : B.length ≤ 6) (hH : H.length ≤ 10) (hN : 20 ≤ N) {R : List (List (Int × Int))} (hR : ∀ r ∈ R, r.length = H.length) (hRl : R.length ≤ 1000000) : ∀ (n k : Nat) (least : Int), R.length < n + k → k ≤ R.length →
    ∃ v, best_l1 N n least k T H f a b R = some (v, T, H, f, a, b, R) ∧ v ≤ least ∧ (∀ r ∈ R.drop k, v ≤ fltV H A B r) ∧ (v = least ∨ ∃ r ∈ R.drop k, v = fltV H A B r)
  | 0, k, least, h, _ => by omega
  | n + 1, k, least, h, hk => by
    unfold best_l1
    by_cases c : k < R.length
    · have hd : R.drop k = R.getD k [] :: R.drop (k + 1) := by
        rw [List.drop_eq_getElem_cons c]; simp [List.getD, c]
      have hk' : R[((k : Nat) : Int).toNat]? = some (R.getD k []) := by simp [List.getD, c]
      have hl := hR (R.getD k []) (getD_mem c)
      generalize R.getD k [] = r at *
      rw [br_dec (by omega), rng_eq (by omega), get_eq hk', faulty_v ha hb hTa hTb (by omega) (by omega) (by omega) (by omega)]
      simp only [Option.bind_some]
      rw [chk_eq (by omega), hl]
      have ev : (A.length : Int) + B.length + H.length - 2 * toldN r = fltV H A B r := rfl
      rw [ev]
      obtain ⟨v, e, h1, h2, h3⟩ := best_l1_p ha hb hTa hTb hA hB hH hN hR hRl n (k + 1) (min least (fltV H A B r)) (by omega) (by omega)
      rw [show ((k + 1 : Nat) : Int) = (k : Int) + 1 by omega] at e
      refine ⟨v, e, by omega, ?_, ?_⟩
      · intro r' hr'
        rw [hd] at hr'
        rcases List.mem_cons.1 hr' with rfl | hr'
        · omega
        · exact h2 r' hr'
      · rw [hd]
        rcases h3 with h3 | ⟨r', hr', h3⟩
        · rcases Int.le_total least (fltV H A B r) with h4 | h4
          · exact .inl (by omega)
          · exact .inr ⟨r, by simp, by omega⟩
        · exact .inr ⟨r', by simp [hr'], h3⟩
    · rw [br_ndec (by omega)]
      refine ⟨least, rfl, Int.le_refl _, ?_, .inl rfl⟩
      intro r hr
      rw [List.drop_of_length_le (by omega)] at hr; cases hr
theorem best_l2_p {a b least : Int} (ha : 0 ≤ a) (hb : 0 ≤ b) (hTa : T[a.toNat]? = some A) (hTb : T[b.toNat]? = some B) (hA : A.length ≤ 6) (hB : B.length ≤ 6) (hH : H.length ≤ 10) (hN : 20 ≤ N) {R : List (List (Int × Int))} (hR : ∀ r ∈ R, r.length = H.length) (hRl : R.length ≤ 1000000) : ∀ (n k : Nat), R.length < n + k → k ≤ R.length →
    best_l2 N n least k T H f a b R ((R.take k).filter fun r => decide (fltV H A B r = least)) = some (least, R.filter fun r => decide (fltV H A B r = least))
  | 0, k, h, _ => by omega
  | n + 1, k, h, hk => by
    unfold best_l2
    by_cases c : k < R.length
    · have hd : R.take (k + 1) = R.take k ++ [R.getD k []] := by rw [List.take_add_one]; simp [List.getD, c]
      have hk' : R[((k : Nat) : Int).toNat]? = some (R.getD k []) := by simp [List.getD, c]
      have hl := hR (R.getD k []) (getD_mem c)
      have next := best_l2_p (least := least) ha hb hTa hTb hA hB hH hN hR hRl n (k + 1) (by omega) (by omega)
      have fl := List.length_filter_le (fun r => decide (fltV H A B r = least)) (R.take k)
      rw [List.length_take] at fl
      rw [hd, List.filter_append, show ((k + 1 : Nat) : Int) = (k : Int) + 1 by omega] at next
      generalize R.getD k [] = r at *
      rw [br_dec (by omega), rng_eq (by omega), get_eq hk', faulty_v ha hb hTa hTb (by omega) (by omega) (by omega) (by omega)]
      simp only [Option.bind_some]
      rw [hl]
      have ev : (A.length : Int) + B.length + H.length - 2 * toldN r = fltV H A B r := rfl
      rw [ev]
      by_cases d : fltV H A B r = least
      · rw [br_dec d, rng_eq (by omega), get_eq hk', lim_eq (by rw [List.length_singleton]; omega)]
        unfold best_j1
        rw [chk_eq (by omega)]
        simpa [d] using next
      · rw [br_ndec d]
        unfold best_j1
        rw [chk_eq (by omega)]
        simpa [d] using next
    · rw [br_ndec (by omega), List.take_of_length_le (by omega)]
theorem best_v {a b : Int} {M : Nat} (hN : 20 ≤ N) (ha : 0 ≤ a) (hb : 0 ≤ b) (hTa : T[a.toNat]? = some A) (hTb : T[b.toNat]? = some B) (hA : A.length ≤ 6) (hB : B.length ≤ 6) (hH : H.length ≤ 10) (hM : 1 + A.length + B.length ≤ M) (hP : M ^ H.length ≤ 1000000) (hPN : M ^ H.length < N) :
    best_S N T H f a b = some ((rdAll H A B).filter fun r => decide (toldN r = (tv mayA H A B (0, 0, 0)).1), leastV H A B) := by
  unfold best_S
  have e := readings_R_p (N := N) (f := f) hN ha hb hTa hTb hA hB hH hM hP N H.length [] (by simp) (by omega)
  have e2 : readings_R N N T H f a b [] = some (rdAll H A B) := by
    rw [e]; simp [runF, rdAll]
  rw [e2]
  simp only [Option.bind_some]
  have rl := rdx_len (H := H) hM H.length (0, 0, 0)
  have hR : ∀ r ∈ rdAll H A B, r.length = H.length := rdx_length H.length (0, 0, 0)
  obtain ⟨v, e3, h1, h2, h3⟩ := best_l1_p (N := N) (f := f) ha hb hTa hTb hA hB hH hN hR (Nat.le_trans rl hP) N 0 99 (Nat.lt_of_le_of_lt rl (by omega)) (Nat.zero_le _)
  rw [show ((0 : Nat) : Int) = 0 from rfl] at e3
  rw [List.drop_zero] at h2 h3
  rw [e3]
  simp only [Option.bind_some]
  have e4 := best_l2_p (N := N) (f := f) (least := v) ha hb hTa hTb hA hB hH hN hR (Nat.le_trans rl hP) N 0 (Nat.lt_of_le_of_lt rl (by omega)) (Nat.zero_le _)
  rw [show ((0 : Nat) : Int) = 0 from rfl, List.take_zero, List.filter_nil] at e4
  rw [e4]
  simp only [Option.bind_some]
  obtain ⟨r0, hr0, er0⟩ := rdAll_has (H := H) (A := A) (B := B)
  have lv : leastV H A B = (A.length : Int) + B.length + H.length - 2 * (tv mayA H A B (0, 0, 0)).1 := rfl
  have tb := tv_bnd mayA (H := H) hA hB
  have hv : v = leastV H A B := by
    have a1 := h2 r0 hr0
    unfold fltV at a1
    rcases h3 with h3 | ⟨r, hr, h3⟩
    · have t0 := tvx_nonneg H A B (n := H.length) (h := 0) (i := 0) (k := 0) (by omega)
      have : (tvx mayA H A B H.length (0, 0, 0)).1 = (tv mayA H A B (0, 0, 0)).1 := rfl
      omega
    · have := rdAll_le (H := H) (A := A) (B := B) r hr
      unfold fltV at h3
      omega
  congr 1
  rw [hv]
  congr 1
  apply List.filter_congr
  intro r _
  apply decide_eq_decide.2
  unfold fltV
  omega
end
end Go.Proofs.Ytfcnhnbnjdccfaa

namespace Go.Proofs.Ytfcnhnbnjdccfaa
set_option linter.all false
open Go

section
variable {N : Nat} {T : List (List Int)} {H : List Int} {f : Int}
theorem wide_l1_p {words : Int} (hT : T.length ≤ 1000) : ∀ (n k : Nat), T.length < n + k → k ≤ T.length → ∃ r, wide_l1 N n words T (T.length : Int) k = some r ∧ ((∃ u, r = .inr u) → ∀ x ∈ T.drop k, (x.length : Int) ≤ words ∨ 6 < x.length)
  | 0, k, h, _ => by omega
  | n + 1, k, h, hk => by
    unfold wide_l1
    by_cases c : k < T.length
    · have hd : T.drop k = T.getD k [] :: T.drop (k + 1) := by
        rw [List.drop_eq_getElem_cons c]; simp [List.getD, c]
      have hk' : T[((k : Nat) : Int).toNat]? = some (T.getD k []) := by simp [List.getD, c]
      generalize T.getD k [] = y at *
      rw [br_dec (by omega), idx_eq (by omega) hk']
      obtain ⟨r, e, hr⟩ := wide_l1_p (words := words) hT n (k + 1) (by omega) (by omega)
      rw [show ((k + 1 : Nat) : Int) = (k : Int) + 1 by omega] at e
      by_cases d : words < (y.length : Int)
      · rw [br_dec d]
        by_cases d2 : (y.length : Int) ≤ 6
        · rw [br_dec d2]; exact ⟨_, rfl, fun ⟨u, hu⟩ => by cases hu⟩
        · rw [br_ndec d2, chk_eq (by omega)]
          refine ⟨r, e, fun hu x hx => ?_⟩
          rw [hd] at hx
          rcases List.mem_cons.1 hx with rfl | hx
          · omega
          · exact hr hu x hx
      · rw [br_ndec d, chk_eq (by omega)]
        refine ⟨r, e, fun hu x hx => ?_⟩
        rw [hd] at hx
        rcases List.mem_cons.1 hx with rfl | hx
        · omega
        · exact hr hu x hx
    · rw [br_ndec (by omega)]
      refine ⟨_, rfl, fun _ x hx => ?_⟩
      rw [List.drop_of_length_le (by omega)] at hx; cases hx
theorem wide_v {heard words : Int} (hT : T.length ≤ 8) (hN : 20 ≤ N) : wide_S N T H f heard words = some true ∨ wide_S N T H f heard words = some false ∧ ((H.length : Int) ≤ heard ∨ 10 < H.length) ∧ ∀ x ∈ T, (x.length : Int) ≤ words ∨ 6 < x.length := by
  unfold wide_S
  obtain ⟨r, e, hr⟩ := wide_l1_p (N := N) (T := T) (words := words) (by omega) N 0 (by omega) (by omega)
  rw [show ((0 : Nat) : Int) = 0 from rfl] at e
  rw [e]
  by_cases c : heard < (H.length : Int)
  · rw [br_dec c]
    by_cases d : (H.length : Int) ≤ 10
    · rw [br_dec d]; exact .inl rfl
    · rw [br_ndec d]
      cases r with
      | inl _ => exact .inl rfl
      | inr u => exact .inr ⟨rfl, .inr (by omega), by simpa using hr ⟨u, rfl⟩⟩
  · rw [br_ndec c]
    cases r with
    | inl _ => exact .inl rfl
    | inr u => exact .inr ⟨rfl, .inl (by omega), by simpa using hr ⟨u, rfl⟩⟩
/-- An echo of which all readings are made. -/
structure Slim (T : List (List Int)) (H : List Int) (M N : Nat) : Prop where
  w : ∀ x ∈ T, ∀ y ∈ T, 1 + x.length + y.length ≤ M
  p : M ^ H.length ≤ 1000000
  n : M ^ H.length < N
theorem rbest_v {M : Nat} (hN : 20 ≤ N) (h : Fine T H f) (hs : Slim T H M N) {a b : Int} (ha : 0 ≤ a ∧ a < T.length) (hb : 0 ≤ b ∧ b < T.length) :
    best_S N T H f a b = some ((rdAll H (T.getD a.toNat []) (T.getD b.toNat [])).filter fun r => decide (toldN r = (tv mayA H (T.getD a.toNat []) (T.getD b.toNat []) (0, 0, 0)).1), leastV H (T.getD a.toNat []) (T.getD b.toNat [])) := by
  have m1 : T.getD a.toNat [] ∈ T := getD_mem (by omega)
  have m2 : T.getD b.toNat [] ∈ T := getD_mem (by omega)
  have hTa : T[a.toNat]? = some (T.getD a.toNat []) := by
    have : a.toNat < T.length := by omega
    simp [List.getD, this]
  have hTb : T[b.toNat]? = some (T.getD b.toNat []) := by
    have : b.toNat < T.length := by omega
    simp [List.getD, this]
  exact best_v hN ha.1 hb.1 hTa hTb (h.l _ m1).2 (h.l _ m2).2 h.h (hs.w _ m1 _ m2) hs.p hs.n
end
end Go.Proofs.Ytfcnhnbnjdccfaa

namespace Go.Proofs.Ytfcnhnbnjdccfaa
set_option linter.all false
open Go

def reading_l2_x0 (N : Nat) (u : Int) (d : ((List (List Int)) × ((List Int) × (Int × ((List Int) × (List Int)))))) (u2 : (Int × (Int × Int))) (u3 : ((List (List Int)) × ((List Int) × (Int × ((List Int) × (List Int)))))) (g_ : Int) (g2_ : Int) (g3_ : Int) (g4_ : List ((Int × (Int × Int)) × (Int × Int))) (g5_ : List (Int × Int)) : Option (Int × ((List (List Int)) × ((List Int) × (Int × ((List Int) × (List Int))))) × Int × Int × Int × (List ((Int × (Int × Int)) × (Int × Int))) × (List (Int × Int))) :=
  some ((u, d, g_, g2_, g3_, g4_, g5_))
def reading_l2_b (N : Nat) (rec : Int → Int → Int → (List ((Int × (Int × Int)) × (Int × Int))) → (List (Int × Int)) → Option (Int × ((List (List Int)) × ((List Int) × (Int × ((List Int) × (List Int))))) × Int × Int × Int × (List ((Int × (Int × Int)) × (Int × Int))) × (List (Int × Int)))) (u : Int) (d : ((List (List Int)) × ((List Int) × (Int × ((List Int) × (List Int)))))) (u2 : (Int × (Int × Int))) (u3 : ((List (List Int)) × ((List Int) × (Int × ((List Int) × (List Int)))))) (u' : Int) (x' : Int) (x2' : Int) (x3' : Int) (rests' : List ((Int × (Int × Int)) × (Int × Int))) (out' : List (Int × Int)) (q' : Int) (q2' : Int) (y' : Int) (y2' : Int) (y3' : Int) : Option (Int × ((List (List Int)) × ((List Int) × (Int × ((List Int) × (List Int))))) × Int × Int × Int × (List ((Int × (Int × Int)) × (Int × Int))) × (List (Int × Int))) :=
  br (!decide (q' = 3))
    (chk ((((rests'.find? fun (y : (Int × (Int × Int)) × (Int × Int)) => Ty.beq (.pair (.int .i64) (.pair (.int .i64) (.int .i64))) y.1 (y', y2', y3')).map (·.2)).getD (Ty.dflt (.pair (.int .i64) (.int .i64)))).1 + 1) <|
    br (decide (((((rests'.find? fun (y : (Int × (Int × Int)) × (Int × Int)) => Ty.beq (.pair (.int .i64) (.pair (.int .i64) (.int .i64))) y.1 (y', y2', y3')).map (·.2)).getD (Ty.dflt (.pair (.int .i64) (.int .i64)))).1 + 1) = (((rests'.find? fun (y : (Int × (Int × Int)) × (Int × Int)) => Ty.beq (.pair (.int .i64) (.pair (.int .i64) (.int .i64))) y.1 (x', x2', x3')).map (·.2)).getD (Ty.dflt (.pair (.int .i64) (.int .i64)))).1))
      (lim (out'.length + [(q', q2')].length) <|
      some ((u, d, y', y2', y3', rests', (out' ++ [(q', q2')]))))
      (rec x' x2' x3' rests' out'))
    (br (decide ((((rests'.find? fun (y : (Int × (Int × Int)) × (Int × Int)) => Ty.beq (.pair (.int .i64) (.pair (.int .i64) (.int .i64))) y.1 (y', y2', y3')).map (·.2)).getD (Ty.dflt (.pair (.int .i64) (.int .i64)))).1 = (((rests'.find? fun (y : (Int × (Int × Int)) × (Int × Int)) => Ty.beq (.pair (.int .i64) (.pair (.int .i64) (.int .i64))) y.1 (x', x2', x3')).map (·.2)).getD (Ty.dflt (.pair (.int .i64) (.int .i64)))).1))
      (lim (out'.length + [(q', q2')].length) <|
      some ((u, d, y', y2', y3', rests', (out' ++ [(q', q2')]))))
      (rec x' x2' x3' rests' out'))
def reading_l2 (N : Nat) : List Move → Int → (((List (List Int)) × ((List Int) × (Int × ((List Int) × (List Int)))))) → ((Int × (Int × Int))) → (((List (List Int)) × ((List Int) × (Int × ((List Int) × (List Int)))))) → Int → Int → Int → (List ((Int × (Int × Int)) × (Int × Int))) → (List (Int × Int)) → Option (Int × ((List (List Int)) × ((List Int) × (Int × ((List Int) × (List Int))))) × Int × Int × Int × (List ((Int × (Int × Int)) × (Int × Int))) × (List (Int × Int)))
  | [], u, d, u2, u3, x, x2, x3, rests, out =>
    some ((u, d, x, x2, x3, rests, out))
  | e :: es, u, d, u2, u3, x, x2, x3, rests, out =>
    reading_l2_b N (fun x_ x2_ x3_ rests_ out_ => reading_l2 N es u d u2 u3 x_ x2_ x3_ rests_ out_) u d u2 u3 u x x2 x3 rests out e.1.1 e.1.2.1 e.2.1.1 e.2.1.2.1 e.2.1.2.2.1
def reading_l1 (N : Nat) : Nat → Int → (((List (List Int)) × ((List Int) × (Int × ((List Int) × (List Int)))))) → Int → Int → Int → (List ((Int × (Int × Int)) × (Int × Int))) → (List (Int × Int)) → Option (List (Int × Int))
  | 0, _, _, _, _, _, _, _ => none
  | n_ + 1, u, d, x, x2, x3, rests, out =>
    br (decide (x < (d.2.1.length : Int)))
      ((next_S N d x x2 x3).bind fun (x_4, y_5) =>
      ((nextR x_4 y_5).bind fun es => reading_l2 N es u d x_4 y_5 x x2 x3 rests out).bind fun (u_6, d_7, x_8, x2_9, x3_10, rests_11, out_12) =>
      reading_l1 N n_ u_6 d_7 x_8 x2_9 x3_10 rests_11 out_12)
      (some (out))
def reading_S (N : Nat) (e : List (List Int)) (e2 : List Int) (e3 : Int) (p : Int) (p2 : Int) : Option ((List (Int × Int)) × Int) :=
  ((opened_S N e e2 e3 p p2).bind fun e => match e with
  | .inl (x_1, y_2) =>
    (br (!decide (y_2 = 0))
      (some ([], y_2))
      ((all_S N).bind fun _ =>
      (restsa_S N x_1).bind fun x_3 =>
      (reading_l1 N N 0 x_1 0 0 0 x_3 []).bind fun out_13 =>
      some (out_13, 0)))
  | .inr x_14 =>
    (br (!decide (x_14 = 0))
      (some ([], x_14))
      ((all_S N).bind fun _ =>
      none)))
noncomputable def reading_sp (N : Nat) : List Spec := [sp_opened N, sp_next N, sp_all N, sp_restsa N]
theorem reading_all (N : Nat) : AllP (SpecOK Try.prog) (reading_sp N) := ⟨sp_opened_ok N, sp_next_ok N, sp_all_ok N, sp_restsa_ok N, trivial⟩
noncomputable def reading_c : Code := (Try.f32.body).getD .skip
noncomputable abbrev reading_B : Body := { c := reading_c, n := 62, res := [.tmp 4, .tmp 5], outs := [⟨[.sl (.pair (.int .i64) (.int .i64)), .i .i64], []⟩], m0 := 0 }
abbrev reading_rt : altD reading_B.outs → Option ((List (Int × Int)) × Int) := fun r => some (r.1.1, r.1.2.1)
abbrev reading_l2_st : Sta := ⟨[4, 5, 6, 8, 9, 10, 38], ⟨[.nils, .i .i64, .fe (.pair (.sl (.sl (.int .i64))) (.pair (.sl (.int .i64)) (.pair (.int .i64) (.pair (.sl (.int .i64)) (.sl (.int .i64)))))), .own 0 0, .own 1 0, .own 2 0, .fn 122 [] [.fe (.pair (.int .i64) (.pair (.int .i64) (.int .i64))), .fe (.ptr (.pair (.sl (.sl (.int .i64))) (.pair (.sl (.int .i64)) (.pair (.int .i64) (.pair (.sl (.int .i64)) (.sl (.int .i64)))))))]], [.segs [.mp 3], .segs [.ols 4], .segs [.i .i64, .i .i64, .i .i64], .map (.pair (.int .i64) (.pair (.int .i64) (.int .i64))) (.pair (.int .i64) (.int .i64)), .lst (.pair (.int .i64) (.int .i64))]⟩⟩
abbrev reading_l2_stA : Sta := ⟨[4, 5, 8, 9, 10, 11, 12], ⟨[.nils, .i .i64, .own 0 0, .own 1 0, .own 2 0, .own 5 0, .own 6 0], [.segs [.mp 3], .segs [.ols 4], .segs [.i .i64, .i .i64, .i .i64], .map (.pair (.int .i64) (.pair (.int .i64) (.int .i64))) (.pair (.int .i64) (.int .i64)), .lst (.pair (.int .i64) (.int .i64)), .segs [.i .i64, .i .i64], .segs [.i .i64, .i .i64, .i .i64]]⟩⟩
abbrev reading_l2_e0 : Leaf (Int × ((List (List Int)) × ((List Int) × (Int × ((List Int) × (List Int))))) × Int × Int × Int × (List ((Int × (Int × Int)) × (Int × Int))) × (List (Int × Int))) := ⟨[.c [1, 1, 1, 1, 1, 1, 0, 0, 0, 0, 0], .c [1, 1, 1, 1, 1, 1, 0, 0, 0, 0, 1], .c [1, 1, 1, 1, 1, 1, 0, 0, 0, 1], .l [1, 1, 1, 1, 1, 1, 0, 0, 0], .b 0, .c [1, 1, 1, 1, 1, 1, 1]], ⟨[4, 5, 6, 8, 9, 10], ⟨[.nils, .i .i64, .fe (.pair (.sl (.sl (.int .i64))) (.pair (.sl (.int .i64)) (.pair (.int .i64) (.pair (.sl (.int .i64)) (.sl (.int .i64)))))), .own 0 0, .own 1 0, .own 2 0], [.segs [.mp 3], .segs [.ols 4], .segs [.i .i64, .i .i64, .i .i64], .map (.pair (.int .i64) (.pair (.int .i64) (.int .i64))) (.pair (.int .i64) (.int .i64)), .lst (.pair (.int .i64) (.int .i64))]⟩⟩, fun p => some ((p.1.2.1, p.1.2.2.1, p.2.2.2.1.1, p.2.2.2.1.2.1, p.2.2.2.1.2.2.1, p.2.2.2.2.1, p.2.2.2.2.2.1))⟩
noncomputable def reading_l2_L (N : Nat) : LoopS := { at_ := [.c [1, 1, 1, 1, 1, 1, 0, 0, 0, 1, 0, 0, 1, 1, 0], .b 2, .s [1, 1, 1, 1, 1, 1, 0, 0, 0, 1, 0, 0], .b 1, .l [1, 1, 1, 1, 1, 1, 0, 0, 0], .b 0, .c [1, 1, 1, 1, 1, 1, 1]], sta := reading_l2_st, exits := [([.c [1, 1, 1, 1, 1, 1, 0, 0, 0, 0, 0], .c [1, 1, 1, 1, 1, 1, 0, 0, 0, 0, 1], .c [1, 1, 1, 1, 1, 1, 0, 0, 0, 1], .l [1, 1, 1, 1, 1, 1, 0, 0, 0], .b 0, .c [1, 1, 1, 1, 1, 1, 1]], ⟨[4, 5, 6, 8, 9, 10], ⟨[.nils, .i .i64, .fe (.pair (.sl (.sl (.int .i64))) (.pair (.sl (.int .i64)) (.pair (.int .i64) (.pair (.sl (.int .i64)) (.sl (.int .i64)))))), .own 0 0, .own 1 0, .own 2 0], [.segs [.mp 3], .segs [.ols 4], .segs [.i .i64, .i .i64, .i .i64], .map (.pair (.int .i64) (.pair (.int .i64) (.int .i64))) (.pair (.int .i64) (.int .i64)), .lst (.pair (.int .i64) (.int .i64))]⟩⟩)], run := fun p k => ((nextR p.1.2.2.2.2.2.2.1.2.1 p.1.2.2.2.2.2.2.1.2.2.1).bind fun es => reading_l2 N es p.1.2.1 p.1.2.2.1 p.1.2.2.2.2.2.2.1.2.1 p.1.2.2.2.2.2.2.1.2.2.1 p.2.2.2.1.1 p.2.2.2.1.2.1 p.2.2.2.1.2.2.1 p.2.2.2.2.1 p.2.2.2.2.2.1).bind fun e => k (.inl (((), e.1, e.2.1, (), (), (), ()), (((), ()), ((), ()), (e.2.2.1, e.2.2.2.1, e.2.2.2.2.1, ()), e.2.2.2.2.2.1, e.2.2.2.2.2.2, ()))) }
noncomputable abbrev reading_l2_Bk : Body := { c := reading_c, n := reading_B.n, res := reading_B.res, outs := reading_B.outs, m0 := 5 }
theorem reading_l2_end (N : Nat) (u : Int) (d : ((List (List Int)) × ((List Int) × (Int × ((List Int) × (List Int)))))) (u2 : (Int × (Int × Int))) (u3 : ((List (List Int)) × ((List Int) × (Int × ((List Int) × (List Int)))))) (x : Int) (x2 : Int) (x3 : Int) (rests : List ((Int × (Int × Int)) × (Int × Int))) (out : List (Int × Int)) : ev (Z := Int × ((List (List Int)) × ((List Int) × (Int × ((List Int) × (List Int))))) × Int × Int × Int × (List ((Int × (Int × Int)) × (Int × Int))) × (List (Int × Int))) Try.prog (reading_sp N) reading_B [] [reading_l2_e0] none 400 false (nrm reading_B.c 99 [.b 2, .s [1, 1, 1, 1, 1, 1, 0, 0, 0, 1, 0, 0], .b 1, .l [1, 1, 1, 1, 1, 1, 0, 0, 0], .b 0, .c [1, 1, 1, 1, 1, 1, 1]]) (stL reading_l2_st (((), u, d, (), (), (), ((), (u2, u3, ())), ()), (((), ()), ((), ()), (x, x2, x3, ()), rests, out, ()))) (stH reading_l2_st (((), u, d, (), (), (), ((), (u2, u3, ())), ()), (((), ()), ((), ()), (x, x2, x3, ()), rests, out, ()))) = reading_l2 N [] u d u2 u3 x x2 x3 rests out := by kernel_rfl
theorem reading_l2_asg (N : Nat) (e : Move) (es : List Move) (u : Int) (d : ((List (List Int)) × ((List Int) × (Int × ((List Int) × (List Int)))))) (u2 : (Int × (Int × Int))) (u3 : ((List (List Int)) × ((List Int) × (Int × ((List Int) × (List Int)))))) (x : Int) (x2 : Int) (x3 : Int) (rests : List ((Int × (Int × Int)) × (Int × Int))) (out : List (Int × Int)) : ev (Z := Int × ((List (List Int)) × ((List Int) × (Int × ((List Int) × (List Int))))) × Int × Int × Int × (List ((Int × (Int × Int)) × (Int × Int))) × (List (Int × Int))) Try.prog (reading_sp N) reading_l2_Bk [] [⟨[.r, .c [1, 1, 1, 1, 1, 1, 0, 0, 0, 1, 0, 0, 1, 1, 0, 1]], reading_l2_stA, fun p => reading_l2_b N (fun x_ x2_ x3_ rests_ out_ => reading_l2 N es u d u2 u3 x_ x2_ x3_ rests_ out_) u d u2 u3 p.1.2.1 p.2.2.2.1.1 p.2.2.2.1.2.1 p.2.2.2.1.2.2.1 p.2.2.2.2.1 p.2.2.2.2.2.1 p.2.2.2.2.2.2.1.1 p.2.2.2.2.2.2.1.2.1 p.2.2.2.2.2.2.2.1.1 p.2.2.2.2.2.2.2.1.2.1 p.2.2.2.2.2.2.2.1.2.2.1⟩] none 400 false (nrm reading_B.c 99 [.c [1, 1, 1, 1, 1, 1, 0, 0, 0, 1, 0, 0, 1, 1, 0, 0], .r, .c [1, 1, 1, 1, 1, 1, 0, 0, 0, 1, 0, 0, 1, 1, 0, 1]]) (pars [39, 40] (encs id is_next.elem e) (stL reading_l2_st (((), u, d, (), (), (), ((), (u2, u3, ())), ()), (((), ()), ((), ()), (x, x2, x3, ()), rests, out, ())))) (stH reading_l2_st (((), u, d, (), (), (), ((), (u2, u3, ())), ()), (((), ()), ((), ()), (x, x2, x3, ()), rests, out, ()))) = reading_l2 N (e :: es) u d u2 u3 x x2 x3 rests out := by kernel_rfl
theorem reading_l2_bod (N : Nat) (rec : Int → Int → Int → (List ((Int × (Int × Int)) × (Int × Int))) → (List (Int × Int)) → Option (Int × ((List (List Int)) × ((List Int) × (Int × ((List Int) × (List Int))))) × Int × Int × Int × (List ((Int × (Int × Int)) × (Int × Int))) × (List (Int × Int)))) (u : Int) (d : ((List (List Int)) × ((List Int) × (Int × ((List Int) × (List Int)))))) (u2 : (Int × (Int × Int))) (u3 : ((List (List Int)) × ((List Int) × (Int × ((List Int) × (List Int)))))) (u' : Int) (x' : Int) (x2' : Int) (x3' : Int) (rests' : List ((Int × (Int × Int)) × (Int × Int))) (out' : List (Int × Int)) (q' : Int) (q2' : Int) (y' : Int) (y2' : Int) (y3' : Int) : ev (Z := Int × ((List (List Int)) × ((List Int) × (Int × ((List Int) × (List Int))))) × Int × Int × Int × (List ((Int × (Int × Int)) × (Int × Int))) × (List (Int × Int))) Try.prog (reading_sp N) reading_l2_Bk [] [⟨[], ⟨[], ⟨[], [.segs [.mp 3], .segs [.ols 4], .segs [.i .i64, .i .i64, .i .i64], .map (.pair (.int .i64) (.pair (.int .i64) (.int .i64))) (.pair (.int .i64) (.int .i64)), .lst (.pair (.int .i64) (.int .i64))]⟩⟩, fun p => rec p.2.2.2.1.1 p.2.2.2.1.2.1 p.2.2.2.1.2.2.1 p.2.2.2.2.1 p.2.2.2.2.2.1⟩, ⟨[.c [1, 1, 1, 1, 1, 1, 0, 0, 0, 1, 0, 0, 1, 1, 0, 1, 0, 1, 1, 1, 0, 1], .b 3], ⟨[], ⟨[], [.segs [.mp 3], .segs [.ols 5], .segs [.i .i64, .i .i64, .i .i64], .map (.pair (.int .i64) (.pair (.int .i64) (.int .i64))) (.pair (.int .i64) (.int .i64)), .dead, .lst (.pair (.int .i64) (.int .i64))]⟩⟩, fun p => reading_l2_x0 N u d u2 u3 p.2.2.2.1.1 p.2.2.2.1.2.1 p.2.2.2.1.2.2.1 p.2.2.2.2.1 p.2.2.2.2.2.2.1⟩] none 400 false (nrm reading_B.c 99 [.c [1, 1, 1, 1, 1, 1, 0, 0, 0, 1, 0, 0, 1, 1, 0, 1]]) (stL reading_l2_stA (((), u', (), (), (), (), (), ()), (((), ()), ((), ()), (x', x2', x3', ()), rests', out', (q', q2', ()), (y', y2', y3', ()), ()))) (stH reading_l2_stA (((), u', (), (), (), (), (), ()), (((), ()), ((), ()), (x', x2', x3', ()), rests', out', (q', q2', ()), (y', y2', y3', ()), ()))) = reading_l2_b N rec u d u2 u3 u' x' x2' x3' rests' out' q' q2' y' y2' y3' := by kernel_rfl
theorem reading_l2_esc0 (N : Nat) (u : Int) (d : ((List (List Int)) × ((List Int) × (Int × ((List Int) × (List Int)))))) (u2 : (Int × (Int × Int))) (u3 : ((List (List Int)) × ((List Int) × (Int × ((List Int) × (List Int)))))) (g_ : Int) (g2_ : Int) (g3_ : Int) (g4_ : List ((Int × (Int × Int)) × (Int × Int))) (g5_ : List (Int × Int)) : ev (Z := Int × ((List (List Int)) × ((List Int) × (Int × ((List Int) × (List Int))))) × Int × Int × Int × (List ((Int × (Int × Int)) × (Int × Int))) × (List (Int × Int))) Try.prog (reading_sp N) reading_B [] [reading_l2_e0] none 400 false (nrm reading_B.c 99 (.c [1, 1, 1, 1, 1, 1, 0, 0, 0, 1, 0, 0, 1, 1, 0, 1, 0, 1, 1, 1, 0, 1] :: [.b 2, .s [1, 1, 1, 1, 1, 1, 0, 0, 0, 1, 0, 0], .b 1, .l [1, 1, 1, 1, 1, 1, 0, 0, 0], .b 0, .c [1, 1, 1, 1, 1, 1, 1]])) (reading_l2_st.tmps.zip (encs id reading_l2_st.sh.avs ((), u, d, (), (), (), ((), (u2, u3, ())), ()))) (encBs id [.segs [.mp 3], .segs [.ols 5], .segs [.i .i64, .i .i64, .i .i64], .map (.pair (.int .i64) (.pair (.int .i64) (.int .i64))) (.pair (.int .i64) (.int .i64)), .dead, .lst (.pair (.int .i64) (.int .i64))] (((), ()), ((), ()), (g_, g2_, g3_, ()), g4_, (), g5_, ())) = reading_l2_x0 N u d u2 u3 g_ g2_ g3_ g4_ g5_ := by kernel_rfl
theorem reading_l2_ok (N : Nat) : LoopOK Try.prog reading_B.c reading_B.n reading_B.m0 true (reading_l2_L N) := by
  refine range_ok (B := reading_B) (is := is_next) (g := .tmp 38) (ps := #[39, 40]) (assign := sub reading_c [1, 1, 1, 1, 1, 1, 0, 0, 0, 1, 0, 0, 1, 1, 0, 0]) (body := sub reading_c [1, 1, 1, 1, 1, 1, 0, 0, 0, 1, 0, 0, 1, 1, 0, 1]) (Z := Int × ((List (List Int)) × ((List Int) × (Int × ((List Int) × (List Int))))) × Int × Int × Int × (List ((Int × (Int × Int)) × (Int × Int))) × (List (Int × Int))) (x := reading_l2_L N) (fun p => (p.1.2.2.2.2.2.2.1.2.1, p.1.2.2.2.2.2.2.1.2.2.1, ())) (fun es p => reading_l2 N es p.1.2.1 p.1.2.2.1 p.1.2.2.2.2.2.2.1.2.1 p.1.2.2.2.2.2.2.1.2.2.1 p.2.2.2.1.1 p.2.2.2.1.2.1 p.2.2.2.1.2.2.1 p.2.2.2.2.1 p.2.2.2.2.2.1) (staA := reading_l2_stA) (fun es q p => reading_l2_b N (fun x_ x2_ x3_ rests_ out_ => reading_l2 N es q.2.1 q.2.2.1 q.2.2.2.2.2.2.1.2.1 q.2.2.2.2.2.2.1.2.2.1 x_ x2_ x3_ rests_ out_) q.2.1 q.2.2.1 q.2.2.2.2.2.2.1.2.1 q.2.2.2.2.2.2.1.2.2.1 p.1.2.1 p.2.2.2.1.1 p.2.2.2.1.2.1 p.2.2.2.1.2.2.1 p.2.2.2.2.1 p.2.2.2.2.2.1 p.2.2.2.2.2.2.1.1 p.2.2.2.2.2.2.1.2.1 p.2.2.2.2.2.2.2.1.1 p.2.2.2.2.2.2.2.1.2.1 p.2.2.2.2.2.2.2.1.2.2.1) [⟨[1, 1, 1, 1, 1, 1, 0, 0, 0, 1, 0, 0, 1, 1, 0, 1, 0, 1, 1, 1, 0, 1], [.b 3], [.segs [.mp 3], .segs [.ols 5], .segs [.i .i64, .i .i64, .i .i64], .map (.pair (.int .i64) (.pair (.int .i64) (.int .i64))) (.pair (.int .i64) (.int .i64)), .dead, .lst (.pair (.int .i64) (.int .i64))], fun q b => reading_l2_x0 N q.2.1 q.2.2.1 q.2.2.2.2.2.2.1.2.1 q.2.2.2.2.2.2.1.2.2.1 ((), b).2.2.2.1.1 ((), b).2.2.2.1.2.1 ((), b).2.2.2.1.2.2.1 ((), b).2.2.2.2.1 ((), b).2.2.2.2.2.2.1⟩] (fun e => .inl (((), e.1, e.2.1, (), (), (), ()), (((), ()), ((), ()), (e.2.2.1, e.2.2.2.1, e.2.2.2.2.1, ()), e.2.2.2.2.2.1, e.2.2.2.2.2.2, ()))) (fun _ _ _ => rfl) rfl (by kernel_rfl) (fun _ => by kernel_rfl) (by kernel_rfl) is_next_ok (Nat.le_of_ble_eq_true (by kernel_rfl)) (by kernel_rfl) ?_ ?_ ?_ ?_
  · exact fun z E Xc hE hX hx p hp a w hS => ev_sound (z := z) (B := reading_B) (loops := []) (leaves := [reading_l2_e0]) (top := true) (reading_all N) mixed trivial hE hX ⟨(fun p hp => by obtain rfl := Option.some.inj hp; exact hx), trivial⟩ RetOK.no 400 false _ _ _ ((reading_l2_end N p.1.2.1 p.1.2.2.1 p.1.2.2.2.2.2.2.1.2.1 p.1.2.2.2.2.2.2.1.2.2.1 p.2.2.2.1.1 p.2.2.2.1.2.1 p.2.2.2.1.2.2.1 p.2.2.2.2.1 p.2.2.2.2.2.1).trans hp) a w hS
  · intro z E Xc hE hX hx e he q b hb a w hS
    simp only [List.mem_cons, List.not_mem_nil, or_false] at he
    rcases he with rfl
    · exact ev_sound (z := z) (B := reading_B) (loops := []) (leaves := [reading_l2_e0]) (top := true) (reading_all N) mixed trivial hE hX ⟨(fun p hp => by obtain rfl := Option.some.inj hp; exact hx), trivial⟩ RetOK.no 400 false _ _ _ ((reading_l2_esc0 N q.2.1 q.2.2.1 q.2.2.2.2.2.2.1.2.1 q.2.2.2.2.2.2.1.2.2.1 ((), b).2.2.2.1.1 ((), b).2.2.2.1.2.1 ((), b).2.2.2.1.2.2.1 ((), b).2.2.2.2.1 ((), b).2.2.2.2.2.2.1).trans hb) a w hS
  · exact fun z E Xc hE hX e es p hl hp a w hS => ev_sound (z := z) (B := reading_l2_Bk) (loops := []) (leaves := [_]) (top := false) (reading_all N) mixed trivial hE hX ⟨hl, trivial⟩ RetOK.no 400 false _ _ _ ((reading_l2_asg N e es p.1.2.1 p.1.2.2.1 p.1.2.2.2.2.2.2.1.2.1 p.1.2.2.2.2.2.2.1.2.2.1 p.2.2.2.1.1 p.2.2.2.1.2.1 p.2.2.2.1.2.2.1 p.2.2.2.2.1 p.2.2.2.2.2.1).trans hp) a w hS
  · exact fun z E Xc hE hX es q he hs p hp a w hS => ev_sound (z := z) (B := reading_l2_Bk) (loops := []) (leaves := [_, _]) (top := false) (reading_all N) mixed trivial hE hX ⟨he, hs _ List.mem_cons_self, trivial⟩ RetOK.no 400 false _ _ _ ((reading_l2_bod N (fun x_ x2_ x3_ rests_ out_ => reading_l2 N es q.2.1 q.2.2.1 q.2.2.2.2.2.2.1.2.1 q.2.2.2.2.2.2.1.2.2.1 x_ x2_ x3_ rests_ out_) q.2.1 q.2.2.1 q.2.2.2.2.2.2.1.2.1 q.2.2.2.2.2.2.1.2.2.1 p.1.2.1 p.2.2.2.1.1 p.2.2.2.1.2.1 p.2.2.2.1.2.2.1 p.2.2.2.2.1 p.2.2.2.2.2.1 p.2.2.2.2.2.2.1.1 p.2.2.2.2.2.2.1.2.1 p.2.2.2.2.2.2.2.1.1 p.2.2.2.2.2.2.2.1.2.1 p.2.2.2.2.2.2.2.1.2.2.1).trans hp) a w hS
abbrev reading_l1_at : List PI := [.c [1, 1, 1, 1, 1, 1, 0, 0, 0, 0, 0], .c [1, 1, 1, 1, 1, 1, 0, 0, 0, 0, 1], .c [1, 1, 1, 1, 1, 1, 0, 0, 0, 1], .l [1, 1, 1, 1, 1, 1, 0, 0, 0], .b 0, .c [1, 1, 1, 1, 1, 1, 1]]
abbrev reading_l1_st : Sta := ⟨[4, 5, 6, 8, 9, 10], ⟨[.nils, .i .i64, .fe (.pair (.sl (.sl (.int .i64))) (.pair (.sl (.int .i64)) (.pair (.int .i64) (.pair (.sl (.int .i64)) (.sl (.int .i64)))))), .own 0 0, .own 1 0, .own 2 0], [.segs [.mp 3], .segs [.ols 4], .segs [.i .i64, .i .i64, .i .i64], .map (.pair (.int .i64) (.pair (.int .i64) (.int .i64))) (.pair (.int .i64) (.int .i64)), .lst (.pair (.int .i64) (.int .i64))]⟩⟩
abbrev reading_l1_h (rec : Int → (((List (List Int)) × ((List Int) × (Int × ((List Int) × (List Int)))))) → Int → Int → Int → (List ((Int × (Int × Int)) × (Int × Int))) → (List (Int × Int)) → Option (List (Int × Int))) : Leaf (List (Int × Int)) := ⟨reading_l1_at, reading_l1_st, fun p => rec p.1.2.1 p.1.2.2.1 p.2.2.2.1.1 p.2.2.2.1.2.1 p.2.2.2.1.2.2.1 p.2.2.2.2.1 p.2.2.2.2.2.1⟩
abbrev reading_l1_e0 : Leaf (List (Int × Int)) := ⟨[.c [1, 1, 1, 1, 1, 1, 1, 0], .c [1, 1, 1, 1, 1, 1, 1, 1]], ⟨[9], ⟨[.own 0 0], [.segs [.ols 1], .lst (.pair (.int .i64) (.int .i64))]⟩⟩, fun p => some (p.2.2.1)⟩
noncomputable def reading_l1_L (N : Nat) : LoopS := { at_ := reading_l1_at, sta := reading_l1_st, exits := [([.c [1, 1, 1, 1, 1, 1, 1, 0], .c [1, 1, 1, 1, 1, 1, 1, 1]], ⟨[9], ⟨[.own 0 0], [.segs [.ols 1], .lst (.pair (.int .i64) (.int .i64))]⟩⟩)], run := fun p k => (reading_l1 N N p.1.2.1 p.1.2.2.1 p.2.2.2.1.1 p.2.2.2.1.2.1 p.2.2.2.1.2.2.1 p.2.2.2.2.1 p.2.2.2.2.2.1).bind fun e => k (.inl (((), ()), (((), ()), e, ()))) }
theorem reading_l1_eq (N n_ : Nat) (u : Int) (d : ((List (List Int)) × ((List Int) × (Int × ((List Int) × (List Int)))))) (x : Int) (x2 : Int) (x3 : Int) (rests : List ((Int × (Int × Int)) × (Int × Int))) (out : List (Int × Int)) : ev (Z := (List (Int × Int))) Try.prog (reading_sp N) reading_B [reading_l2_L N] [reading_l1_h (reading_l1 N n_), reading_l1_e0] none 400 true reading_l1_at (stL reading_l1_st (((), u, d, (), (), (), ()), (((), ()), ((), ()), (x, x2, x3, ()), rests, out, ()))) (stH reading_l1_st (((), u, d, (), (), (), ()), (((), ()), ((), ()), (x, x2, x3, ()), rests, out, ()))) = reading_l1 N (n_ + 1) u d x x2 x3 rests out := by kernel_rfl
theorem reading_l1_ok (N : Nat) : LoopOK Try.prog reading_B.c reading_B.n reading_B.m0 true (reading_l1_L N) := loop_of_ev (Z := (List (Int × Int))) (N := N) (fun m p => reading_l1 N m p.1.2.1 p.1.2.2.1 p.2.2.2.1.1 p.2.2.2.1.2.1 p.2.2.2.1.2.2.1 p.2.2.2.2.1 p.2.2.2.2.2.1) (fun e => .inl (((), ()), (((), ()), e, ()))) (fun _ _ _ => rfl) (fun _ => rfl) (fun m z E Xc hE hX hrec hx => leaf_of_ev (B := reading_B) (loops := [reading_l2_L N]) (leaves := [reading_l1_h (reading_l1 N m), reading_l1_e0]) (reading_all N) mixed ⟨reading_l2_ok N, trivial⟩ hE hX ⟨hrec, (fun p hp => by obtain rfl := Option.some.inj hp; exact hx), trivial⟩ RetOK.no (fun p => reading_l1_eq N m p.1.2.1 p.1.2.2.1 p.2.2.2.1.1 p.2.2.2.1.2.1 p.2.2.2.1.2.2.1 p.2.2.2.2.1 p.2.2.2.2.2.1))
abbrev reading_st : Sta := ⟨[0, 1], ⟨[.agg [.sl (.sl (.int .i64)), .sl (.int .i64), .i .i64], .agg [.i .i64, .i .i64]], []⟩⟩
theorem reading_eq (N : Nat) (e : List (List Int)) (e2 : List Int) (e3 : Int) (p : Int) (p2 : Int) : ev (Z := (List (Int × Int)) × Int) Try.prog (reading_sp N) reading_B [reading_l2_L N, reading_l1_L N] [] (some reading_rt) 400 false [.c [0], .c [1]] (stL reading_st (((e, e2, e3, ()), (p, p2, ()), ()), ())) (stH reading_st (((e, e2, e3, ()), (p, p2, ()), ()), ())) = reading_S N e e2 e3 p p2 := by kernel_rfl
noncomputable def sp_reading (N : Nat) : Spec := { f := 32, ins := ⟨[.agg [.sl (.sl (.int .i64)), .sl (.int .i64), .i .i64], .agg [.i .i64, .i .i64]], []⟩, outs := [⟨[.sl (.pair (.int .i64) (.int .i64)), .i .i64], []⟩], run := fun p k => (reading_S N p.1.1.1 p.1.1.2.1 p.1.1.2.2.1 p.1.2.1.1 p.1.2.1.2.1).bind fun r => k ((r.1, r.2, ()), ()) }
theorem sp_reading_ok (N : Nat) : SpecOK Try.prog (sp_reading N) := fn_sound (B := reading_B) (loops := [reading_l2_L N, reading_l1_L N]) (leaves := []) (fun p => reading_S N p.1.1.1 p.1.1.2.1 p.1.1.2.2.1 p.1.2.1.1 p.1.2.1.2.1) (fun r => ((r.1, r.2, ()), ())) reading_rt (fun _ _ _ => rfl) (fun r z h => by cases h; rfl) Try.func32 (by kernel_rfl) (by kernel_rfl) (by kernel_rfl) rfl rfl (by kernel_rfl) (fun args w => Sem.pv_run _ _ _ (by kernel_rfl) w) (reading_all N) mixed ⟨reading_l2_ok N, reading_l1_ok N, trivial⟩ (fun z E Xc hE hX hret => trivial) (fun p => reading_eq N p.1.1.1 p.1.1.2.1 p.1.1.2.2.1 p.1.2.1.1 p.1.2.1.2.1)

def ereads_l1 (N : Nat) : Nat → (List (Int × Int)) → (List Int) → Int → (List Int) → Int → Int → (List (List Int)) → (List Int) → Int → Int → Int → (List (List Int)) → (List Int) → Int → (List (List Int)) → (List Int) → Int → Option ((Unit) ⊕ ((List (Int × Int)) × Int × List (List Int) × List Int × Int × Int × Int × List (List Int) × List Int × Int × List (List Int) × List Int × Int))
  | 0, _, _, _, _, _, _, _, _, _, _, _, _, _, _, _, _, _ => none
  | n_ + 1, l, sure, least, u, u2, u3, x, x2, x3, p, p2, own, own2, own3, y, y2, y3 =>
    br (decide (u3 < u2))
      (idx u u3 fun x_27 =>
      idx sure u3 fun x_28 =>
      br (!decide (x_28 = x_27))
        (some (.inl ()))
        (chk (u3 + 1) <|
        ereads_l1 N n_ l sure least u u2 (u3 + 1) x x2 x3 p p2 own own2 own3 y y2 y3))
      (some (.inr (l, least, x, x2, x3, p, p2, own, own2, own3, y, y2, y3)))
def ereads_S (N : Nat) (x : List (List Int)) (x2 : List Int) (x3 : Int) (p : Int) (p2 : Int) : Option Bool :=
  (great_S N x x2 x3).bind fun x_1 =>
  br x_1
    ((awake_S N).bind fun x_2 =>
    some x_2)
    ((wide_S N x x2 x3 5 4).bind fun x_3 =>
    br x_3
      ((awake_S N).bind fun x_4 =>
      some x_4)
      ((copye_S N x x2 x3).bind fun (x_5, y_6, y_7) =>
      (copye_S N x x2 x3).bind fun (x_8, y_9, y_10) =>
      (check_S N x_5 y_6 y_7).bind fun x_11 =>
      (rcheck_S N x_8 y_9 y_10).bind fun x_12 =>
      br (!decide (x_11 = x_12))
        (some false)
        ((least_S N x_5 y_6 y_7 p p2).bind fun (x_13, y_14) =>
        (reading_S N x_5 y_6 y_7 p p2).bind fun (x_15, y_16) =>
        (count_S N x_5 y_6 y_7 p p2).bind fun (x_17, y_18) =>
        (sure_S N x_5 y_6 y_7 p p2).bind fun (x_19, y_20) =>
        (rtwo_S N x_8 y_9 y_10 p p2).bind fun x_21 =>
        br (!decide (x_21 = 0))
          (br (decide (y_14 = x_21))
            (br (decide (y_16 = x_21))
              (br (decide (y_18 = x_21))
                (br (decide (y_20 = x_21))
                  (chk (x_13 + (x_15.length : Int)) <|
                  chk ((x_13 + (x_15.length : Int)) + x_17) <|
                  chk (((x_13 + (x_15.length : Int)) + x_17) + (x_19.length : Int)) <|
                  br (decide ((((x_13 + (x_15.length : Int)) + x_17) + (x_19.length : Int)) = 0))
                    ((same_S N x_5 y_6 y_7 x x2 x3).bind fun x_22 =>
                    br x_22
                      ((awake_S N).bind fun x_23 =>
                      some x_23)
                      (some false))
                    (some false))
                  (some false))
                (some false))
              (some false))
            (some false))
          ((best_S N x_8 y_9 y_10 p p2).bind fun (x_24, y_25) =>
          br (!decide (y_14 = 0))
            (some false)
            (br (!decide (y_16 = 0))
              (some false)
              (br (!decide (y_18 = 0))
                (some false)
                (br (!decide (y_20 = 0))
                  (some false)
                  (br (!decide (x_13 = y_25))
                    (some false)
                    (br (!decide (x_17 = (x_24.length : Int)))
                      (some false)
                      (br (!decide ((x_19.length : Int) = (x2.length : Int)))
                        (some false)
                        ((rsure_S N x_8 y_9 y_10 x_24).bind fun x_26 =>
                        (ereads_l1 N N x_15 x_19 y_25 x_26 (x_26.length : Int) 0 x x2 x3 p p2 x_5 y_6 y_7 x_8 y_9 y_10).bind fun e => match e with
                        | .inl _ =>
                          some false
                        | .inr (l_29, least_30, x_31, x2_32, x3_33, p_34, p2_35, own_36, own2_37, own3_38, y_39, y2_40, y3_41) =>
                          (places_S N l_29).bind fun x_42 =>
                          (rfaults_S N y_39 y2_40 y3_41 p_34 p2_35 x_42).bind fun (x_43, y_44) =>
                          br (decide (y_44 = 0))
                            (br (decide (x_43 = least_30))
                              ((same_S N own_36 own2_37 own3_38 x_31 x2_32 x3_33).bind fun x_45 =>
                              br x_45
                                ((awake_S N).bind fun x_46 =>
                                some x_46)
                                (some false))
                              (some false))
                            (some false))))))))))))
noncomputable def ereads_sp (N : Nat) : List Spec := [sp_check N, sp_least N, sp_count N, sp_sure N, sp_awake N, sp_copye N, sp_rcheck N, sp_rtwo N, sp_rfaults N, sp_great N, sp_wide N, sp_places N, sp_same N, sp_best N, sp_rsure N, sp_reading N]
theorem ereads_all (N : Nat) : AllP (SpecOK Try.prog) (ereads_sp N) := ⟨sp_check_ok N, sp_least_ok N, sp_count_ok N, sp_sure_ok N, sp_awake_ok N, sp_copye_ok N, sp_rcheck_ok N, sp_rtwo_ok N, sp_rfaults_ok N, sp_great_ok N, sp_wide_ok N, sp_places_ok N, sp_same_ok N, sp_best_ok N, sp_rsure_ok N, sp_reading_ok N, trivial⟩
noncomputable def ereads_c : Code := (Try.f6.body).getD .skip
noncomputable abbrev ereads_B : Body := { c := ereads_c, n := 183, res := [.tmp 4], outs := [⟨[.b], []⟩], m0 := 0 }
abbrev ereads_rt : altD ereads_B.outs → Option Bool := fun r => some r.1.1
abbrev ereads_l1_at : List PI := [.c [1, 1, 1, 1, 1, 1, 1, 1, 1, 1, 1, 0, 1, 0, 0, 0], .c [1, 1, 1, 1, 1, 1, 1, 1, 1, 1, 1, 0, 1, 0, 0, 1], .l [1, 1, 1, 1, 1, 1, 1, 1, 1, 1, 1, 0, 1, 0, 0], .b 0, .c [1, 1, 1, 1, 1, 1, 1, 1, 1, 1, 1, 1]]
abbrev ereads_l1_st : Sta := ⟨[2, 3, 5, 6, 9, 13, 17, 146, 147, 148], ⟨[.own 0 0, .own 1 0, .own 2 0, .own 3 0, .sl (.pair (.int .i64) (.int .i64)), .sl (.int .i64), .i .i64, .sl (.int .i64), .i .i64, .i .i64], [.segs [.sl (.sl (.int .i64)), .sl (.int .i64), .i .i64], .segs [.i .i64, .i .i64], .segs [.sl (.sl (.int .i64)), .sl (.int .i64), .i .i64], .segs [.sl (.sl (.int .i64)), .sl (.int .i64), .i .i64]]⟩⟩
abbrev ereads_l1_h (rec : (List (Int × Int)) → (List Int) → Int → (List Int) → Int → Int → (List (List Int)) → (List Int) → Int → Int → Int → (List (List Int)) → (List Int) → Int → (List (List Int)) → (List Int) → Int → Option ((Unit) ⊕ ((List (Int × Int)) × Int × List (List Int) × List Int × Int × Int × Int × List (List Int) × List Int × Int × List (List Int) × List Int × Int))) : Leaf ((Unit) ⊕ ((List (Int × Int)) × Int × List (List Int) × List Int × Int × Int × Int × List (List Int) × List Int × Int × List (List Int) × List Int × Int)) := ⟨ereads_l1_at, ereads_l1_st, fun p => rec p.1.2.2.2.2.1 p.1.2.2.2.2.2.1 p.1.2.2.2.2.2.2.1 p.1.2.2.2.2.2.2.2.1 p.1.2.2.2.2.2.2.2.2.1 p.1.2.2.2.2.2.2.2.2.2.1 p.2.1.1 p.2.1.2.1 p.2.1.2.2.1 p.2.2.1.1 p.2.2.1.2.1 p.2.2.2.1.1 p.2.2.2.1.2.1 p.2.2.2.1.2.2.1 p.2.2.2.2.1.1 p.2.2.2.2.1.2.1 p.2.2.2.2.1.2.2.1⟩
abbrev ereads_l1_e0 : Leaf ((Unit) ⊕ ((List (Int × Int)) × Int × List (List Int) × List Int × Int × Int × Int × List (List Int) × List Int × Int × List (List Int) × List Int × Int)) := ⟨[.c [1, 1, 1, 1, 1, 1, 1, 1, 1, 1, 1, 0, 1, 0, 0, 1, 1, 0, 0, 1, 1, 0, 0], .c [1, 1, 1, 1, 1, 1, 1, 1, 1, 1, 1, 0, 1, 0, 0, 1, 1, 0, 0, 1, 1, 0, 1], .b 1, .c [1, 1, 1, 1, 1, 1, 1, 1, 1, 1, 1, 0, 1, 0, 0, 1, 1, 1], .l [1, 1, 1, 1, 1, 1, 1, 1, 1, 1, 1, 0, 1, 0, 0], .b 0, .c [1, 1, 1, 1, 1, 1, 1, 1, 1, 1, 1, 1]], ⟨[], ⟨[], []⟩⟩, fun p => some (.inl ())⟩
abbrev ereads_l1_e1 : Leaf ((Unit) ⊕ ((List (Int × Int)) × Int × List (List Int) × List Int × Int × Int × Int × List (List Int) × List Int × Int × List (List Int) × List Int × Int)) := ⟨[.c [1, 1, 1, 1, 1, 1, 1, 1, 1, 1, 1, 1, 0], .c [1, 1, 1, 1, 1, 1, 1, 1, 1, 1, 1, 1, 1]], ⟨[2, 3, 5, 6, 9, 17], ⟨[.own 0 0, .own 1 0, .own 2 0, .own 3 0, .sl (.pair (.int .i64) (.int .i64)), .i .i64], [.segs [.sl (.sl (.int .i64)), .sl (.int .i64), .i .i64], .segs [.i .i64, .i .i64], .segs [.sl (.sl (.int .i64)), .sl (.int .i64), .i .i64], .segs [.sl (.sl (.int .i64)), .sl (.int .i64), .i .i64]]⟩⟩, fun p => some (.inr (p.1.2.2.2.2.1, p.1.2.2.2.2.2.1, p.2.1.1, p.2.1.2.1, p.2.1.2.2.1, p.2.2.1.1, p.2.2.1.2.1, p.2.2.2.1.1, p.2.2.2.1.2.1, p.2.2.2.1.2.2.1, p.2.2.2.2.1.1, p.2.2.2.2.1.2.1, p.2.2.2.2.1.2.2.1))⟩
noncomputable def ereads_l1_L (N : Nat) : LoopS := { at_ := ereads_l1_at, sta := ereads_l1_st, exits := [([.c [1, 1, 1, 1, 1, 1, 1, 1, 1, 1, 1, 0, 1, 0, 0, 1, 1, 0, 0, 1, 1, 0, 0], .c [1, 1, 1, 1, 1, 1, 1, 1, 1, 1, 1, 0, 1, 0, 0, 1, 1, 0, 0, 1, 1, 0, 1], .b 1, .c [1, 1, 1, 1, 1, 1, 1, 1, 1, 1, 1, 0, 1, 0, 0, 1, 1, 1], .l [1, 1, 1, 1, 1, 1, 1, 1, 1, 1, 1, 0, 1, 0, 0], .b 0, .c [1, 1, 1, 1, 1, 1, 1, 1, 1, 1, 1, 1]], ⟨[], ⟨[], []⟩⟩), ([.c [1, 1, 1, 1, 1, 1, 1, 1, 1, 1, 1, 1, 0], .c [1, 1, 1, 1, 1, 1, 1, 1, 1, 1, 1, 1, 1]], ⟨[2, 3, 5, 6, 9, 17], ⟨[.own 0 0, .own 1 0, .own 2 0, .own 3 0, .sl (.pair (.int .i64) (.int .i64)), .i .i64], [.segs [.sl (.sl (.int .i64)), .sl (.int .i64), .i .i64], .segs [.i .i64, .i .i64], .segs [.sl (.sl (.int .i64)), .sl (.int .i64), .i .i64], .segs [.sl (.sl (.int .i64)), .sl (.int .i64), .i .i64]]⟩⟩)], run := fun p k => (ereads_l1 N N p.1.2.2.2.2.1 p.1.2.2.2.2.2.1 p.1.2.2.2.2.2.2.1 p.1.2.2.2.2.2.2.2.1 p.1.2.2.2.2.2.2.2.2.1 p.1.2.2.2.2.2.2.2.2.2.1 p.2.1.1 p.2.1.2.1 p.2.1.2.2.1 p.2.2.1.1 p.2.2.1.2.1 p.2.2.2.1.1 p.2.2.2.1.2.1 p.2.2.2.1.2.2.1 p.2.2.2.2.1.1 p.2.2.2.2.1.2.1 p.2.2.2.2.1.2.2.1).bind fun e => match e with | .inl x => k (.inl ((), ())) | .inr x => k (.inr (.inl (((), (), (), (), x.1, x.2.1, ()), ((x.2.2.1, x.2.2.2.1, x.2.2.2.2.1, ()), (x.2.2.2.2.2.1, x.2.2.2.2.2.2.1, ()), (x.2.2.2.2.2.2.2.1, x.2.2.2.2.2.2.2.2.1, x.2.2.2.2.2.2.2.2.2.1, ()), (x.2.2.2.2.2.2.2.2.2.2.1, x.2.2.2.2.2.2.2.2.2.2.2.1, x.2.2.2.2.2.2.2.2.2.2.2.2, ()), ())))) }
theorem ereads_l1_eq (N n_ : Nat) (l : List (Int × Int)) (sure : List Int) (least : Int) (u : List Int) (u2 : Int) (u3 : Int) (x : List (List Int)) (x2 : List Int) (x3 : Int) (p : Int) (p2 : Int) (own : List (List Int)) (own2 : List Int) (own3 : Int) (y : List (List Int)) (y2 : List Int) (y3 : Int) : ev (Z := (Unit) ⊕ ((List (Int × Int)) × Int × List (List Int) × List Int × Int × Int × Int × List (List Int) × List Int × Int × List (List Int) × List Int × Int)) Try.prog (ereads_sp N) ereads_B [] [ereads_l1_h (ereads_l1 N n_), ereads_l1_e0, ereads_l1_e1] none 400 true ereads_l1_at (stL ereads_l1_st (((), (), (), (), l, sure, least, u, u2, u3, ()), ((x, x2, x3, ()), (p, p2, ()), (own, own2, own3, ()), (y, y2, y3, ()), ()))) (stH ereads_l1_st (((), (), (), (), l, sure, least, u, u2, u3, ()), ((x, x2, x3, ()), (p, p2, ()), (own, own2, own3, ()), (y, y2, y3, ()), ()))) = ereads_l1 N (n_ + 1) l sure least u u2 u3 x x2 x3 p p2 own own2 own3 y y2 y3 := by kernel_rfl
theorem ereads_l1_ok (N : Nat) {top : Bool} : LoopOK Try.prog ereads_B.c ereads_B.n ereads_B.m0 top (ereads_l1_L N) := loop_of_ev (Z := (Unit) ⊕ ((List (Int × Int)) × Int × List (List Int) × List Int × Int × Int × Int × List (List Int) × List Int × Int × List (List Int) × List Int × Int)) (N := N) (fun m p => ereads_l1 N m p.1.2.2.2.2.1 p.1.2.2.2.2.2.1 p.1.2.2.2.2.2.2.1 p.1.2.2.2.2.2.2.2.1 p.1.2.2.2.2.2.2.2.2.1 p.1.2.2.2.2.2.2.2.2.2.1 p.2.1.1 p.2.1.2.1 p.2.1.2.2.1 p.2.2.1.1 p.2.2.1.2.1 p.2.2.2.1.1 p.2.2.2.1.2.1 p.2.2.2.1.2.2.1 p.2.2.2.2.1.1 p.2.2.2.2.1.2.1 p.2.2.2.2.1.2.2.1) (fun e => match e with | .inl x => .inl ((), ()) | .inr x => .inr (.inl (((), (), (), (), x.1, x.2.1, ()), ((x.2.2.1, x.2.2.2.1, x.2.2.2.2.1, ()), (x.2.2.2.2.2.1, x.2.2.2.2.2.2.1, ()), (x.2.2.2.2.2.2.2.1, x.2.2.2.2.2.2.2.2.1, x.2.2.2.2.2.2.2.2.2.1, ()), (x.2.2.2.2.2.2.2.2.2.2.1, x.2.2.2.2.2.2.2.2.2.2.2.1, x.2.2.2.2.2.2.2.2.2.2.2.2, ()), ())))) (fun _ p k => bind_congr_ (ereads_l1 N N p.1.2.2.2.2.1 p.1.2.2.2.2.2.1 p.1.2.2.2.2.2.2.1 p.1.2.2.2.2.2.2.2.1 p.1.2.2.2.2.2.2.2.2.1 p.1.2.2.2.2.2.2.2.2.2.1 p.2.1.1 p.2.1.2.1 p.2.1.2.2.1 p.2.2.1.1 p.2.2.1.2.1 p.2.2.2.1.1 p.2.2.2.1.2.1 p.2.2.2.1.2.2.1 p.2.2.2.2.1.1 p.2.2.2.2.1.2.1 p.2.2.2.2.1.2.2.1) _ _ (fun e => by rcases e with x | x <;> rfl)) (fun _ => rfl) (fun m z E Xc hE hX hrec hx => leaf_of_ev (B := ereads_B) (loops := []) (leaves := [ereads_l1_h (ereads_l1 N m), ereads_l1_e0, ereads_l1_e1]) (ereads_all N) mixed trivial hE hX ⟨hrec, (fun p hp => by obtain rfl := Option.some.inj hp; exact hx), (fun p hp => by obtain rfl := Option.some.inj hp; exact hx), trivial⟩ RetOK.no (fun p => ereads_l1_eq N m p.1.2.2.2.2.1 p.1.2.2.2.2.2.1 p.1.2.2.2.2.2.2.1 p.1.2.2.2.2.2.2.2.1 p.1.2.2.2.2.2.2.2.2.1 p.1.2.2.2.2.2.2.2.2.2.1 p.2.1.1 p.2.1.2.1 p.2.1.2.2.1 p.2.2.1.1 p.2.2.1.2.1 p.2.2.2.1.1 p.2.2.2.1.2.1 p.2.2.2.1.2.2.1 p.2.2.2.2.1.1 p.2.2.2.2.1.2.1 p.2.2.2.2.1.2.2.1))
abbrev ereads_st : Sta := ⟨[0, 1], ⟨[.agg [.sl (.sl (.int .i64)), .sl (.int .i64), .i .i64], .agg [.i .i64, .i .i64]], []⟩⟩
theorem ereads_eq (N : Nat) (x : List (List Int)) (x2 : List Int) (x3 : Int) (p : Int) (p2 : Int) : ev (Z := Bool) Try.prog (ereads_sp N) ereads_B [ereads_l1_L N] [] (some ereads_rt) 400 false [.c [0], .c [1]] (stL ereads_st (((x, x2, x3, ()), (p, p2, ()), ()), ())) (stH ereads_st (((x, x2, x3, ()), (p, p2, ()), ()), ())) = ereads_S N x x2 x3 p p2 := by kernel_rfl
noncomputable def sp_ereads (N : Nat) : Spec := { f := 6, ins := ⟨[.agg [.sl (.sl (.int .i64)), .sl (.int .i64), .i .i64], .agg [.i .i64, .i .i64]], []⟩, outs := [⟨[.b], []⟩], run := fun p k => (ereads_S N p.1.1.1 p.1.1.2.1 p.1.1.2.2.1 p.1.2.1.1 p.1.2.1.2.1).bind fun r => k ((r, ()), ()) }
theorem sp_ereads_ok (N : Nat) : SpecOK Try.prog (sp_ereads N) := fn_sound (B := ereads_B) (loops := [ereads_l1_L N]) (leaves := []) (fun p => ereads_S N p.1.1.1 p.1.1.2.1 p.1.1.2.2.1 p.1.2.1.1 p.1.2.1.2.1) (fun r => ((r, ()), ())) ereads_rt (fun _ _ _ => rfl) (fun r z h => by cases h; rfl) Try.func6 (by kernel_rfl) (by kernel_rfl) (by kernel_rfl) rfl rfl (by kernel_rfl) (fun args w => Sem.pv_run _ _ _ (by kernel_rfl) w) (ereads_all N) mixed ⟨ereads_l1_ok N, trivial⟩ (fun z E Xc hE hX hret => trivial) (fun p => ereads_eq N p.1.1.1 p.1.1.2.1 p.1.1.2.2.1 p.1.2.1.1 p.1.2.1.2.1)

end Go.Proofs.Ytfcnhnbnjdccfaa

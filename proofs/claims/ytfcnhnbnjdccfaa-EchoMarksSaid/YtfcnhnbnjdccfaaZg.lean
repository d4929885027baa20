/-
  Parts of a proof, put together: E4, Pl12, Pl13, Pl14, Pl15, E6, Pl19, Pl20, Pl21, Pl22, Pl23, Pl30, Pl27, Pl28.
  Conditions: none.
-/
import Derived.Test.YtfcnhnbnjdccfaaZe
import Derived.Test.YtfcnhnbnjdccfaaZf
namespace Go.Proofs.Ytfcnhnbnjdccfaa
set_option linter.all false
open Go

def off_S (N : Nat) (n : Int) (lo : Int) (hi : Int) : Option Bool :=
  br (decide (n < lo))
    (some true)
    (some (decide (hi < n)))
noncomputable def off_sp (N : Nat) : List Spec := []
theorem off_all (N : Nat) : AllP (SpecOK Try.prog) (off_sp N) := trivial
noncomputable def off_c : Code := (Try.f96.body).getD .skip
noncomputable abbrev off_B : Body := { c := off_c, n := 15, res := [.tmp 6], outs := [⟨[.b], []⟩], m0 := 0 }
abbrev off_rt : altD off_B.outs → Option Bool := fun r => some r.1.1
abbrev off_st : Sta := ⟨[0, 1, 2], ⟨[.i .i64, .i .i64, .i .i64], []⟩⟩
theorem off_eq (N : Nat) (n : Int) (lo : Int) (hi : Int) : ev (Z := Bool) Try.prog (off_sp N) off_B [] [] (some off_rt) 400 false [.c [0], .c [1]] (stL off_st ((n, lo, hi, ()), ())) (stH off_st ((n, lo, hi, ()), ())) = off_S N n lo hi := by kernel_rfl
noncomputable def sp_off (N : Nat) : Spec := { f := 96, ins := ⟨[.i .i64, .i .i64, .i .i64], []⟩, outs := [⟨[.b], []⟩], run := fun p k => (off_S N p.1.1 p.1.2.1 p.1.2.2.1).bind fun r => k ((r, ()), ()) }
theorem sp_off_ok (N : Nat) : SpecOK Try.prog (sp_off N) := fn_sound (B := off_B) (loops := []) (leaves := []) (fun p => off_S N p.1.1 p.1.2.1 p.1.2.2.1) (fun r => ((r, ()), ())) off_rt (fun _ _ _ => rfl) (fun r z h => by cases h; rfl) Try.func96 (by kernel_rfl) (by kernel_rfl) (by kernel_rfl) rfl rfl (by kernel_rfl) (fun args w => Sem.pv_run _ _ _ (by kernel_rfl) w) (off_all N) mixed trivial (fun z E Xc hE hX hret => trivial) (fun p => off_eq N p.1.1 p.1.2.1 p.1.2.2.1)

def rcheck_l1 (N : Nat) : Nat → Int → (List (List Int)) → (List Int) → Int → Option ((Unit) ⊕ (List (List Int) × List Int × Int))
  | 0, _, _, _, _ => none
  | n_ + 1, t, e, e2, e3 =>
    br (decide (t < (e.length : Int)))
      (idx e t fun x_2 =>
      (off_S N (x_2.length : Int) 1 6).bind fun x_3 =>
      br x_3
        (some (.inl ()))
        (chk (t + 1) <|
        rcheck_l1 N n_ (t + 1) e e2 e3))
      (some (.inr (e, e2, e3)))
def rcheck_l3 (N : Nat) : Nat → Int → Int → (List (List Int)) → (List Int) → Int → Option ((Unit) ⊕ (Int × List (List Int) × List Int × Int))
  | 0, _, _, _, _, _ => none
  | n_ + 1, t, k, e, e2, e3 =>
    idx e t fun x_7 =>
    br (decide (k < (x_7.length : Int)))
      (idx e t fun x_8 =>
      idx x_8 k fun x_9 =>
      (off_S N x_9 0 9).bind fun x_10 =>
      br x_10
        (some (.inl ()))
        (chk (k + 1) <|
        rcheck_l3 N n_ t (k + 1) e e2 e3))
      (some (.inr (t, e, e2, e3)))
def rcheck_l2 (N : Nat) : Nat → Int → (List (List Int)) → (List Int) → Int → Option ((Unit) ⊕ (List (List Int) × List Int × Int))
  | 0, _, _, _, _ => none
  | n_ + 1, t, e, e2, e3 =>
    br (decide (t < (e.length : Int)))
      ((rcheck_l3 N N t 0 e e2 e3).bind fun e => match e with
      | .inl _ =>
        some (.inl ())
      | .inr (t_11, e_12, e2_13, e3_14) =>
        chk (t_11 + 1) <|
        rcheck_l2 N n_ (t_11 + 1) e_12 e2_13 e3_14)
      (some (.inr (e, e2, e3)))
def rcheck_l4 (N : Nat) : Nat → Int → (List (List Int)) → (List Int) → Int → Option ((Unit) ⊕ (List (List Int) × List Int × Int))
  | 0, _, _, _, _ => none
  | n_ + 1, i, e, e2, e3 =>
    br (decide (i < (e2.length : Int)))
      (idx e2 i fun x_18 =>
      (off_S N x_18 0 9).bind fun x_19 =>
      br x_19
        (some (.inl ()))
        (chk (i + 1) <|
        rcheck_l4 N n_ (i + 1) e e2 e3))
      (some (.inr (e, e2, e3)))
def rcheck_S (N : Nat) (e : List (List Int)) (e2 : List Int) (e3 : Int) : Option Int :=
  (off_S N (e.length : Int) 1 5).bind fun x_1 =>
  br x_1
    (some 2)
    (br (decide (10 < (e2.length : Int)))
      (some 2)
      ((rcheck_l1 N N 0 e e2 e3).bind fun e => match e with
      | .inl _ =>
        some 2
      | .inr (e_4, e2_5, e3_6) =>
        (rcheck_l2 N N 0 e_4 e2_5 e3_6).bind fun e => match e with
        | .inl _ =>
          some 3
        | .inr (e_15, e2_16, e3_17) =>
          (rcheck_l4 N N 0 e_15 e2_16 e3_17).bind fun e => match e with
          | .inl _ =>
            some 3
          | .inr (e_20, e2_21, e3_22) =>
            (off_S N e3_22 0 8).bind fun x_23 =>
            br x_23
              (some 3)
              (some 0)))
noncomputable def rcheck_sp (N : Nat) : List Spec := [sp_off N]
theorem rcheck_all (N : Nat) : AllP (SpecOK Try.prog) (rcheck_sp N) := ⟨sp_off_ok N, trivial⟩
noncomputable def rcheck_c : Code := (Try.f41.body).getD .skip
noncomputable abbrev rcheck_B : Body := { c := rcheck_c, n := 73, res := [.tmp 2], outs := [⟨[.i .i64], []⟩], m0 := 0 }
abbrev rcheck_rt : altD rcheck_B.outs → Option Int := fun r => some r.1.1
abbrev rcheck_l1_at : List PI := [.c [1, 1, 0, 1, 0, 0, 0, 0], .c [1, 1, 0, 1, 0, 0, 0, 1], .c [1, 1, 0, 1, 0, 0, 1], .l [1, 1, 0, 1, 0, 0], .b 0, .c [1, 1, 1]]
abbrev rcheck_l1_st : Sta := ⟨[1, 3], ⟨[.own 0 0, .i .i64], [.segs [.sl (.sl (.int .i64)), .sl (.int .i64), .i .i64]]⟩⟩
abbrev rcheck_l1_h (rec : Int → (List (List Int)) → (List Int) → Int → Option ((Unit) ⊕ (List (List Int) × List Int × Int))) : Leaf ((Unit) ⊕ (List (List Int) × List Int × Int)) := ⟨rcheck_l1_at, rcheck_l1_st, fun p => rec p.1.2.1 p.2.1.1 p.2.1.2.1 p.2.1.2.2.1⟩
abbrev rcheck_l1_e0 : Leaf ((Unit) ⊕ (List (List Int) × List Int × Int)) := ⟨[.c [1, 1, 0, 1, 0, 0, 1, 0, 0, 1, 0, 0], .c [1, 1, 0, 1, 0, 0, 1, 0, 0, 1, 0, 1], .b 1, .c [1, 1, 0, 1, 0, 0, 1, 1], .l [1, 1, 0, 1, 0, 0], .b 0, .c [1, 1, 1]], ⟨[], ⟨[], []⟩⟩, fun p => some (.inl ())⟩
abbrev rcheck_l1_e1 : Leaf ((Unit) ⊕ (List (List Int) × List Int × Int)) := ⟨[.c [1, 1, 1, 0, 0], .c [1, 1, 1, 0, 1], .c [1, 1, 1, 1]], ⟨[1], ⟨[.own 0 0], [.segs [.sl (.sl (.int .i64)), .sl (.int .i64), .i .i64]]⟩⟩, fun p => some (.inr (p.2.1.1, p.2.1.2.1, p.2.1.2.2.1))⟩
noncomputable def rcheck_l1_L (N : Nat) : LoopS := { at_ := rcheck_l1_at, sta := rcheck_l1_st, exits := [([.c [1, 1, 0, 1, 0, 0, 1, 0, 0, 1, 0, 0], .c [1, 1, 0, 1, 0, 0, 1, 0, 0, 1, 0, 1], .b 1, .c [1, 1, 0, 1, 0, 0, 1, 1], .l [1, 1, 0, 1, 0, 0], .b 0, .c [1, 1, 1]], ⟨[], ⟨[], []⟩⟩), ([.c [1, 1, 1, 0, 0], .c [1, 1, 1, 0, 1], .c [1, 1, 1, 1]], ⟨[1], ⟨[.own 0 0], [.segs [.sl (.sl (.int .i64)), .sl (.int .i64), .i .i64]]⟩⟩)], run := fun p k => (rcheck_l1 N N p.1.2.1 p.2.1.1 p.2.1.2.1 p.2.1.2.2.1).bind fun e => match e with | .inl x => k (.inl ((), ())) | .inr x => k (.inr (.inl (((), ()), ((x.1, x.2.1, x.2.2, ()), ())))) }
theorem rcheck_l1_eq (N n_ : Nat) (t : Int) (e : List (List Int)) (e2 : List Int) (e3 : Int) : ev (Z := (Unit) ⊕ (List (List Int) × List Int × Int)) Try.prog (rcheck_sp N) rcheck_B [] [rcheck_l1_h (rcheck_l1 N n_), rcheck_l1_e0, rcheck_l1_e1] none 400 true rcheck_l1_at (stL rcheck_l1_st (((), t, ()), ((e, e2, e3, ()), ()))) (stH rcheck_l1_st (((), t, ()), ((e, e2, e3, ()), ()))) = rcheck_l1 N (n_ + 1) t e e2 e3 := by kernel_rfl
theorem rcheck_l1_ok (N : Nat) {top : Bool} : LoopOK Try.prog rcheck_B.c rcheck_B.n rcheck_B.m0 top (rcheck_l1_L N) := loop_of_ev (Z := (Unit) ⊕ (List (List Int) × List Int × Int)) (N := N) (fun m p => rcheck_l1 N m p.1.2.1 p.2.1.1 p.2.1.2.1 p.2.1.2.2.1) (fun e => match e with | .inl x => .inl ((), ()) | .inr x => .inr (.inl (((), ()), ((x.1, x.2.1, x.2.2, ()), ())))) (fun _ p k => bind_congr_ (rcheck_l1 N N p.1.2.1 p.2.1.1 p.2.1.2.1 p.2.1.2.2.1) _ _ (fun e => by rcases e with x | x <;> rfl)) (fun _ => rfl) (fun m z E Xc hE hX hrec hx => leaf_of_ev (B := rcheck_B) (loops := []) (leaves := [rcheck_l1_h (rcheck_l1 N m), rcheck_l1_e0, rcheck_l1_e1]) (rcheck_all N) mixed trivial hE hX ⟨hrec, (fun p hp => by obtain rfl := Option.some.inj hp; exact hx), (fun p hp => by obtain rfl := Option.some.inj hp; exact hx), trivial⟩ RetOK.no (fun p => rcheck_l1_eq N m p.1.2.1 p.2.1.1 p.2.1.2.1 p.2.1.2.2.1))
abbrev rcheck_l3_at : List PI := [.c [1, 1, 1, 0, 1, 0, 0, 1, 0, 0, 1, 0, 0, 0, 0], .c [1, 1, 1, 0, 1, 0, 0, 1, 0, 0, 1, 0, 0, 0, 1], .c [1, 1, 1, 0, 1, 0, 0, 1, 0, 0, 1, 0, 0, 1], .l [1, 1, 1, 0, 1, 0, 0, 1, 0, 0, 1, 0, 0], .b 4, .b 3, .c [1, 1, 1, 0, 1, 0, 0, 1, 1], .l [1, 1, 1, 0, 1, 0, 0], .b 2, .c [1, 1, 1, 1]]
abbrev rcheck_l3_st : Sta := ⟨[1, 4, 5], ⟨[.own 0 0, .i .i64, .i .i64], [.segs [.sl (.sl (.int .i64)), .sl (.int .i64), .i .i64]]⟩⟩
abbrev rcheck_l3_h (rec : Int → Int → (List (List Int)) → (List Int) → Int → Option ((Unit) ⊕ (Int × List (List Int) × List Int × Int))) : Leaf ((Unit) ⊕ (Int × List (List Int) × List Int × Int)) := ⟨rcheck_l3_at, rcheck_l3_st, fun p => rec p.1.2.1 p.1.2.2.1 p.2.1.1 p.2.1.2.1 p.2.1.2.2.1⟩
abbrev rcheck_l3_e0 : Leaf ((Unit) ⊕ (Int × List (List Int) × List Int × Int)) := ⟨[.c [1, 1, 1, 0, 1, 0, 0, 1, 0, 0, 1, 0, 0, 1, 0, 0, 1, 0, 0], .c [1, 1, 1, 0, 1, 0, 0, 1, 0, 0, 1, 0, 0, 1, 0, 0, 1, 0, 1], .b 5, .c [1, 1, 1, 0, 1, 0, 0, 1, 0, 0, 1, 0, 0, 1, 1], .l [1, 1, 1, 0, 1, 0, 0, 1, 0, 0, 1, 0, 0], .b 4, .b 3, .c [1, 1, 1, 0, 1, 0, 0, 1, 1], .l [1, 1, 1, 0, 1, 0, 0], .b 2, .c [1, 1, 1, 1]], ⟨[], ⟨[], []⟩⟩, fun p => some (.inl ())⟩
abbrev rcheck_l3_e1 : Leaf ((Unit) ⊕ (Int × List (List Int) × List Int × Int)) := ⟨[.c [1, 1, 1, 0, 1, 0, 0, 1, 1], .l [1, 1, 1, 0, 1, 0, 0], .b 2, .c [1, 1, 1, 1]], ⟨[1, 4], ⟨[.own 0 0, .i .i64], [.segs [.sl (.sl (.int .i64)), .sl (.int .i64), .i .i64]]⟩⟩, fun p => some (.inr (p.1.2.1, p.2.1.1, p.2.1.2.1, p.2.1.2.2.1))⟩
noncomputable def rcheck_l3_L (N : Nat) : LoopS := { at_ := rcheck_l3_at, sta := rcheck_l3_st, exits := [([.c [1, 1, 1, 0, 1, 0, 0, 1, 0, 0, 1, 0, 0, 1, 0, 0, 1, 0, 0], .c [1, 1, 1, 0, 1, 0, 0, 1, 0, 0, 1, 0, 0, 1, 0, 0, 1, 0, 1], .b 5, .c [1, 1, 1, 0, 1, 0, 0, 1, 0, 0, 1, 0, 0, 1, 1], .l [1, 1, 1, 0, 1, 0, 0, 1, 0, 0, 1, 0, 0], .b 4, .b 3, .c [1, 1, 1, 0, 1, 0, 0, 1, 1], .l [1, 1, 1, 0, 1, 0, 0], .b 2, .c [1, 1, 1, 1]], ⟨[], ⟨[], []⟩⟩), ([.c [1, 1, 1, 0, 1, 0, 0, 1, 1], .l [1, 1, 1, 0, 1, 0, 0], .b 2, .c [1, 1, 1, 1]], ⟨[1, 4], ⟨[.own 0 0, .i .i64], [.segs [.sl (.sl (.int .i64)), .sl (.int .i64), .i .i64]]⟩⟩)], run := fun p k => (rcheck_l3 N N p.1.2.1 p.1.2.2.1 p.2.1.1 p.2.1.2.1 p.2.1.2.2.1).bind fun e => match e with | .inl x => k (.inl ((), ())) | .inr x => k (.inr (.inl (((), x.1, ()), ((x.2.1, x.2.2.1, x.2.2.2, ()), ())))) }
theorem rcheck_l3_eq (N n_ : Nat) (t : Int) (k : Int) (e : List (List Int)) (e2 : List Int) (e3 : Int) : ev (Z := (Unit) ⊕ (Int × List (List Int) × List Int × Int)) Try.prog (rcheck_sp N) rcheck_B [rcheck_l1_L N] [rcheck_l3_h (rcheck_l3 N n_), rcheck_l3_e0, rcheck_l3_e1] none 400 true rcheck_l3_at (stL rcheck_l3_st (((), t, k, ()), ((e, e2, e3, ()), ()))) (stH rcheck_l3_st (((), t, k, ()), ((e, e2, e3, ()), ()))) = rcheck_l3 N (n_ + 1) t k e e2 e3 := by kernel_rfl
theorem rcheck_l3_ok (N : Nat) {top : Bool} : LoopOK Try.prog rcheck_B.c rcheck_B.n rcheck_B.m0 top (rcheck_l3_L N) := loop_of_ev (Z := (Unit) ⊕ (Int × List (List Int) × List Int × Int)) (N := N) (fun m p => rcheck_l3 N m p.1.2.1 p.1.2.2.1 p.2.1.1 p.2.1.2.1 p.2.1.2.2.1) (fun e => match e with | .inl x => .inl ((), ()) | .inr x => .inr (.inl (((), x.1, ()), ((x.2.1, x.2.2.1, x.2.2.2, ()), ())))) (fun _ p k => bind_congr_ (rcheck_l3 N N p.1.2.1 p.1.2.2.1 p.2.1.1 p.2.1.2.1 p.2.1.2.2.1) _ _ (fun e => by rcases e with x | x <;> rfl)) (fun _ => rfl) (fun m z E Xc hE hX hrec hx => leaf_of_ev (B := rcheck_B) (loops := [rcheck_l1_L N]) (leaves := [rcheck_l3_h (rcheck_l3 N m), rcheck_l3_e0, rcheck_l3_e1]) (rcheck_all N) mixed ⟨rcheck_l1_ok N, trivial⟩ hE hX ⟨hrec, (fun p hp => by obtain rfl := Option.some.inj hp; exact hx), (fun p hp => by obtain rfl := Option.some.inj hp; exact hx), trivial⟩ RetOK.no (fun p => rcheck_l3_eq N m p.1.2.1 p.1.2.2.1 p.2.1.1 p.2.1.2.1 p.2.1.2.2.1))
abbrev rcheck_l2_at : List PI := [.c [1, 1, 1, 0, 1, 0, 0, 0, 0], .c [1, 1, 1, 0, 1, 0, 0, 0, 1], .c [1, 1, 1, 0, 1, 0, 0, 1], .l [1, 1, 1, 0, 1, 0, 0], .b 2, .c [1, 1, 1, 1]]
abbrev rcheck_l2_st : Sta := ⟨[1, 4], ⟨[.own 0 0, .i .i64], [.segs [.sl (.sl (.int .i64)), .sl (.int .i64), .i .i64]]⟩⟩
abbrev rcheck_l2_h (rec : Int → (List (List Int)) → (List Int) → Int → Option ((Unit) ⊕ (List (List Int) × List Int × Int))) : Leaf ((Unit) ⊕ (List (List Int) × List Int × Int)) := ⟨rcheck_l2_at, rcheck_l2_st, fun p => rec p.1.2.1 p.2.1.1 p.2.1.2.1 p.2.1.2.2.1⟩
abbrev rcheck_l2_e0 : Leaf ((Unit) ⊕ (List (List Int) × List Int × Int)) := ⟨[.c [1, 1, 1, 0, 1, 0, 0, 1, 0, 0, 1, 0, 0, 1, 0, 0, 1, 0, 0], .c [1, 1, 1, 0, 1, 0, 0, 1, 0, 0, 1, 0, 0, 1, 0, 0, 1, 0, 1], .b 5, .c [1, 1, 1, 0, 1, 0, 0, 1, 0, 0, 1, 0, 0, 1, 1], .l [1, 1, 1, 0, 1, 0, 0, 1, 0, 0, 1, 0, 0], .b 4, .b 3, .c [1, 1, 1, 0, 1, 0, 0, 1, 1], .l [1, 1, 1, 0, 1, 0, 0], .b 2, .c [1, 1, 1, 1]], ⟨[], ⟨[], []⟩⟩, fun p => some (.inl ())⟩
abbrev rcheck_l2_e1 : Leaf ((Unit) ⊕ (List (List Int) × List Int × Int)) := ⟨[.c [1, 1, 1, 1, 0, 0], .c [1, 1, 1, 1, 0, 1], .c [1, 1, 1, 1, 1]], ⟨[1], ⟨[.own 0 0], [.segs [.sl (.sl (.int .i64)), .sl (.int .i64), .i .i64]]⟩⟩, fun p => some (.inr (p.2.1.1, p.2.1.2.1, p.2.1.2.2.1))⟩
noncomputable def rcheck_l2_L (N : Nat) : LoopS := { at_ := rcheck_l2_at, sta := rcheck_l2_st, exits := [([.c [1, 1, 1, 0, 1, 0, 0, 1, 0, 0, 1, 0, 0, 1, 0, 0, 1, 0, 0], .c [1, 1, 1, 0, 1, 0, 0, 1, 0, 0, 1, 0, 0, 1, 0, 0, 1, 0, 1], .b 5, .c [1, 1, 1, 0, 1, 0, 0, 1, 0, 0, 1, 0, 0, 1, 1], .l [1, 1, 1, 0, 1, 0, 0, 1, 0, 0, 1, 0, 0], .b 4, .b 3, .c [1, 1, 1, 0, 1, 0, 0, 1, 1], .l [1, 1, 1, 0, 1, 0, 0], .b 2, .c [1, 1, 1, 1]], ⟨[], ⟨[], []⟩⟩), ([.c [1, 1, 1, 1, 0, 0], .c [1, 1, 1, 1, 0, 1], .c [1, 1, 1, 1, 1]], ⟨[1], ⟨[.own 0 0], [.segs [.sl (.sl (.int .i64)), .sl (.int .i64), .i .i64]]⟩⟩)], run := fun p k => (rcheck_l2 N N p.1.2.1 p.2.1.1 p.2.1.2.1 p.2.1.2.2.1).bind fun e => match e with | .inl x => k (.inl ((), ())) | .inr x => k (.inr (.inl (((), ()), ((x.1, x.2.1, x.2.2, ()), ())))) }
theorem rcheck_l2_eq (N n_ : Nat) (t : Int) (e : List (List Int)) (e2 : List Int) (e3 : Int) : ev (Z := (Unit) ⊕ (List (List Int) × List Int × Int)) Try.prog (rcheck_sp N) rcheck_B [rcheck_l1_L N, rcheck_l3_L N] [rcheck_l2_h (rcheck_l2 N n_), rcheck_l2_e0, rcheck_l2_e1] none 400 true rcheck_l2_at (stL rcheck_l2_st (((), t, ()), ((e, e2, e3, ()), ()))) (stH rcheck_l2_st (((), t, ()), ((e, e2, e3, ()), ()))) = rcheck_l2 N (n_ + 1) t e e2 e3 := by kernel_rfl
theorem rcheck_l2_ok (N : Nat) {top : Bool} : LoopOK Try.prog rcheck_B.c rcheck_B.n rcheck_B.m0 top (rcheck_l2_L N) := loop_of_ev (Z := (Unit) ⊕ (List (List Int) × List Int × Int)) (N := N) (fun m p => rcheck_l2 N m p.1.2.1 p.2.1.1 p.2.1.2.1 p.2.1.2.2.1) (fun e => match e with | .inl x => .inl ((), ()) | .inr x => .inr (.inl (((), ()), ((x.1, x.2.1, x.2.2, ()), ())))) (fun _ p k => bind_congr_ (rcheck_l2 N N p.1.2.1 p.2.1.1 p.2.1.2.1 p.2.1.2.2.1) _ _ (fun e => by rcases e with x | x <;> rfl)) (fun _ => rfl) (fun m z E Xc hE hX hrec hx => leaf_of_ev (B := rcheck_B) (loops := [rcheck_l1_L N, rcheck_l3_L N]) (leaves := [rcheck_l2_h (rcheck_l2 N m), rcheck_l2_e0, rcheck_l2_e1]) (rcheck_all N) mixed ⟨rcheck_l1_ok N, rcheck_l3_ok N, trivial⟩ hE hX ⟨hrec, (fun p hp => by obtain rfl := Option.some.inj hp; exact hx), (fun p hp => by obtain rfl := Option.some.inj hp; exact hx), trivial⟩ RetOK.no (fun p => rcheck_l2_eq N m p.1.2.1 p.2.1.1 p.2.1.2.1 p.2.1.2.2.1))
abbrev rcheck_l4_at : List PI := [.c [1, 1, 1, 1, 0, 1, 0, 0, 0, 0], .c [1, 1, 1, 1, 0, 1, 0, 0, 0, 1], .c [1, 1, 1, 1, 0, 1, 0, 0, 1], .l [1, 1, 1, 1, 0, 1, 0, 0], .b 6, .c [1, 1, 1, 1, 1]]
abbrev rcheck_l4_st : Sta := ⟨[1, 6], ⟨[.own 0 0, .i .i64], [.segs [.sl (.sl (.int .i64)), .sl (.int .i64), .i .i64]]⟩⟩
abbrev rcheck_l4_h (rec : Int → (List (List Int)) → (List Int) → Int → Option ((Unit) ⊕ (List (List Int) × List Int × Int))) : Leaf ((Unit) ⊕ (List (List Int) × List Int × Int)) := ⟨rcheck_l4_at, rcheck_l4_st, fun p => rec p.1.2.1 p.2.1.1 p.2.1.2.1 p.2.1.2.2.1⟩
abbrev rcheck_l4_e0 : Leaf ((Unit) ⊕ (List (List Int) × List Int × Int)) := ⟨[.c [1, 1, 1, 1, 0, 1, 0, 0, 1, 0, 0, 1, 0, 0], .c [1, 1, 1, 1, 0, 1, 0, 0, 1, 0, 0, 1, 0, 1], .b 7, .c [1, 1, 1, 1, 0, 1, 0, 0, 1, 1], .l [1, 1, 1, 1, 0, 1, 0, 0], .b 6, .c [1, 1, 1, 1, 1]], ⟨[], ⟨[], []⟩⟩, fun p => some (.inl ())⟩
abbrev rcheck_l4_e1 : Leaf ((Unit) ⊕ (List (List Int) × List Int × Int)) := ⟨[.c [1, 1, 1, 1, 1, 0, 0], .c [1, 1, 1, 1, 1, 0, 1], .c [1, 1, 1, 1, 1, 1]], ⟨[1], ⟨[.own 0 0], [.segs [.sl (.sl (.int .i64)), .sl (.int .i64), .i .i64]]⟩⟩, fun p => some (.inr (p.2.1.1, p.2.1.2.1, p.2.1.2.2.1))⟩
noncomputable def rcheck_l4_L (N : Nat) : LoopS := { at_ := rcheck_l4_at, sta := rcheck_l4_st, exits := [([.c [1, 1, 1, 1, 0, 1, 0, 0, 1, 0, 0, 1, 0, 0], .c [1, 1, 1, 1, 0, 1, 0, 0, 1, 0, 0, 1, 0, 1], .b 7, .c [1, 1, 1, 1, 0, 1, 0, 0, 1, 1], .l [1, 1, 1, 1, 0, 1, 0, 0], .b 6, .c [1, 1, 1, 1, 1]], ⟨[], ⟨[], []⟩⟩), ([.c [1, 1, 1, 1, 1, 0, 0], .c [1, 1, 1, 1, 1, 0, 1], .c [1, 1, 1, 1, 1, 1]], ⟨[1], ⟨[.own 0 0], [.segs [.sl (.sl (.int .i64)), .sl (.int .i64), .i .i64]]⟩⟩)], run := fun p k => (rcheck_l4 N N p.1.2.1 p.2.1.1 p.2.1.2.1 p.2.1.2.2.1).bind fun e => match e with | .inl x => k (.inl ((), ())) | .inr x => k (.inr (.inl (((), ()), ((x.1, x.2.1, x.2.2, ()), ())))) }
theorem rcheck_l4_eq (N n_ : Nat) (i : Int) (e : List (List Int)) (e2 : List Int) (e3 : Int) : ev (Z := (Unit) ⊕ (List (List Int) × List Int × Int)) Try.prog (rcheck_sp N) rcheck_B [rcheck_l1_L N, rcheck_l3_L N, rcheck_l2_L N] [rcheck_l4_h (rcheck_l4 N n_), rcheck_l4_e0, rcheck_l4_e1] none 400 true rcheck_l4_at (stL rcheck_l4_st (((), i, ()), ((e, e2, e3, ()), ()))) (stH rcheck_l4_st (((), i, ()), ((e, e2, e3, ()), ()))) = rcheck_l4 N (n_ + 1) i e e2 e3 := by kernel_rfl
theorem rcheck_l4_ok (N : Nat) {top : Bool} : LoopOK Try.prog rcheck_B.c rcheck_B.n rcheck_B.m0 top (rcheck_l4_L N) := loop_of_ev (Z := (Unit) ⊕ (List (List Int) × List Int × Int)) (N := N) (fun m p => rcheck_l4 N m p.1.2.1 p.2.1.1 p.2.1.2.1 p.2.1.2.2.1) (fun e => match e with | .inl x => .inl ((), ()) | .inr x => .inr (.inl (((), ()), ((x.1, x.2.1, x.2.2, ()), ())))) (fun _ p k => bind_congr_ (rcheck_l4 N N p.1.2.1 p.2.1.1 p.2.1.2.1 p.2.1.2.2.1) _ _ (fun e => by rcases e with x | x <;> rfl)) (fun _ => rfl) (fun m z E Xc hE hX hrec hx => leaf_of_ev (B := rcheck_B) (loops := [rcheck_l1_L N, rcheck_l3_L N, rcheck_l2_L N]) (leaves := [rcheck_l4_h (rcheck_l4 N m), rcheck_l4_e0, rcheck_l4_e1]) (rcheck_all N) mixed ⟨rcheck_l1_ok N, rcheck_l3_ok N, rcheck_l2_ok N, trivial⟩ hE hX ⟨hrec, (fun p hp => by obtain rfl := Option.some.inj hp; exact hx), (fun p hp => by obtain rfl := Option.some.inj hp; exact hx), trivial⟩ RetOK.no (fun p => rcheck_l4_eq N m p.1.2.1 p.2.1.1 p.2.1.2.1 p.2.1.2.2.1))
abbrev rcheck_st : Sta := ⟨[0], ⟨[.agg [.sl (.sl (.int .i64)), .sl (.int .i64), .i .i64]], []⟩⟩
theorem rcheck_eq (N : Nat) (e : List (List Int)) (e2 : List Int) (e3 : Int) : ev (Z := Int) Try.prog (rcheck_sp N) rcheck_B [rcheck_l1_L N, rcheck_l3_L N, rcheck_l2_L N, rcheck_l4_L N] [] (some rcheck_rt) 400 false [.c [0], .c [1]] (stL rcheck_st (((e, e2, e3, ()), ()), ())) (stH rcheck_st (((e, e2, e3, ()), ()), ())) = rcheck_S N e e2 e3 := by kernel_rfl
noncomputable def sp_rcheck (N : Nat) : Spec := { f := 41, ins := ⟨[.agg [.sl (.sl (.int .i64)), .sl (.int .i64), .i .i64]], []⟩, outs := [⟨[.i .i64], []⟩], run := fun p k => (rcheck_S N p.1.1.1 p.1.1.2.1 p.1.1.2.2.1).bind fun r => k ((r, ()), ()) }
theorem sp_rcheck_ok (N : Nat) : SpecOK Try.prog (sp_rcheck N) := fn_sound (B := rcheck_B) (loops := [rcheck_l1_L N, rcheck_l3_L N, rcheck_l2_L N, rcheck_l4_L N]) (leaves := []) (fun p => rcheck_S N p.1.1.1 p.1.1.2.1 p.1.1.2.2.1) (fun r => ((r, ()), ())) rcheck_rt (fun _ _ _ => rfl) (fun r z h => by cases h; rfl) Try.func41 (by kernel_rfl) (by kernel_rfl) (by kernel_rfl) rfl rfl (by kernel_rfl) (fun args w => Sem.pv_run _ _ _ (by kernel_rfl) w) (rcheck_all N) mixed ⟨rcheck_l1_ok N, rcheck_l3_ok N, rcheck_l2_ok N, rcheck_l4_ok N, trivial⟩ (fun z E Xc hE hX hret => trivial) (fun p => rcheck_eq N p.1.1.1 p.1.1.2.1 p.1.1.2.2.1)

def rtwo_S (N : Nat) (e : List (List Int)) (e2 : List Int) (e3 : Int) (p : Int) (p2 : Int) : Option Int :=
  (rcheck_S N e e2 e3).bind fun x_1 =>
  br (!decide (x_1 = 0))
    (some x_1)
    (chk ((e.length : Int) - 1) <|
    (off_S N p 0 ((e.length : Int) - 1)).bind fun x_2 =>
    br x_2
      (some 1)
      (chk ((e.length : Int) - 1) <|
      (off_S N p2 0 ((e.length : Int) - 1)).bind fun x_3 =>
      br x_3
        (some 1)
        (some 0)))
noncomputable def rtwo_sp (N : Nat) : List Spec := [sp_off N, sp_rcheck N]
theorem rtwo_all (N : Nat) : AllP (SpecOK Try.prog) (rtwo_sp N) := ⟨sp_off_ok N, sp_rcheck_ok N, trivial⟩
noncomputable def rtwo_c : Code := (Try.f42.body).getD .skip
noncomputable abbrev rtwo_B : Body := { c := rtwo_c, n := 27, res := [.tmp 4], outs := [⟨[.i .i64], []⟩], m0 := 0 }
abbrev rtwo_rt : altD rtwo_B.outs → Option Int := fun r => some r.1.1
abbrev rtwo_st : Sta := ⟨[0, 1], ⟨[.agg [.sl (.sl (.int .i64)), .sl (.int .i64), .i .i64], .agg [.i .i64, .i .i64]], []⟩⟩
theorem rtwo_eq (N : Nat) (e : List (List Int)) (e2 : List Int) (e3 : Int) (p : Int) (p2 : Int) : ev (Z := Int) Try.prog (rtwo_sp N) rtwo_B [] [] (some rtwo_rt) 400 false [.c [0], .c [1]] (stL rtwo_st (((e, e2, e3, ()), (p, p2, ()), ()), ())) (stH rtwo_st (((e, e2, e3, ()), (p, p2, ()), ()), ())) = rtwo_S N e e2 e3 p p2 := by kernel_rfl
noncomputable def sp_rtwo (N : Nat) : Spec := { f := 42, ins := ⟨[.agg [.sl (.sl (.int .i64)), .sl (.int .i64), .i .i64], .agg [.i .i64, .i .i64]], []⟩, outs := [⟨[.i .i64], []⟩], run := fun p k => (rtwo_S N p.1.1.1 p.1.1.2.1 p.1.1.2.2.1 p.1.2.1.1 p.1.2.1.2.1).bind fun r => k ((r, ()), ()) }
theorem sp_rtwo_ok (N : Nat) : SpecOK Try.prog (sp_rtwo N) := fn_sound (B := rtwo_B) (loops := []) (leaves := []) (fun p => rtwo_S N p.1.1.1 p.1.1.2.1 p.1.1.2.2.1 p.1.2.1.1 p.1.2.1.2.1) (fun r => ((r, ()), ())) rtwo_rt (fun _ _ _ => rfl) (fun r z h => by cases h; rfl) Try.func42 (by kernel_rfl) (by kernel_rfl) (by kernel_rfl) rfl rfl (by kernel_rfl) (fun args w => Sem.pv_run _ _ _ (by kernel_rfl) w) (rtwo_all N) mixed trivial (fun z E Xc hE hX hret => trivial) (fun p => rtwo_eq N p.1.1.1 p.1.1.2.1 p.1.1.2.2.1 p.1.2.1.1 p.1.2.1.2.1)

def great_l1 (N : Nat) : Nat → (List (List Int)) → Int → Int → Option ((Unit) ⊕ (Unit))
  | 0, _, _, _ => none
  | n_ + 1, u, u2, u3 =>
    br (decide (u3 < u2))
      (idx u u3 fun x_1 =>
      br (decide (9 < (x_1.length : Int)))
        (some (.inl ()))
        (chk (u3 + 1) <|
        great_l1 N n_ u u2 (u3 + 1)))
      (some (.inr ()))
def great_S (N : Nat) (e : List (List Int)) (e2 : List Int) (e3 : Int) : Option Bool :=
  br (decide (8 < (e.length : Int)))
    (some true)
    (br (decide (14 < (e2.length : Int)))
      (some true)
      ((great_l1 N N e (e.length : Int) 0).bind fun e => match e with
      | .inl _ =>
        some true
      | .inr _ =>
        some false))
noncomputable def great_sp (N : Nat) : List Spec := []
theorem great_all (N : Nat) : AllP (SpecOK Try.prog) (great_sp N) := trivial
noncomputable def great_c : Code := (Try.f38.body).getD .skip
noncomputable abbrev great_B : Body := { c := great_c, n := 26, res := [.tmp 2], outs := [⟨[.b], []⟩], m0 := 0 }
abbrev great_rt : altD great_B.outs → Option Bool := fun r => some r.1.1
abbrev great_l1_at : List PI := [.c [1, 1, 0, 1, 0, 0, 0], .c [1, 1, 0, 1, 0, 0, 1], .l [1, 1, 0, 1, 0, 0], .b 0, .c [1, 1, 1]]
abbrev great_l1_st : Sta := ⟨[16, 17, 18], ⟨[.sl (.sl (.int .i64)), .i .i64, .i .i64], []⟩⟩
abbrev great_l1_h (rec : (List (List Int)) → Int → Int → Option ((Unit) ⊕ (Unit))) : Leaf ((Unit) ⊕ (Unit)) := ⟨great_l1_at, great_l1_st, fun p => rec p.1.1 p.1.2.1 p.1.2.2.1⟩
abbrev great_l1_e0 : Leaf ((Unit) ⊕ (Unit)) := ⟨[.c [1, 1, 0, 1, 0, 0, 1, 1, 0, 0, 1, 1, 0, 0], .c [1, 1, 0, 1, 0, 0, 1, 1, 0, 0, 1, 1, 0, 1], .b 1, .c [1, 1, 0, 1, 0, 0, 1, 1, 1], .l [1, 1, 0, 1, 0, 0], .b 0, .c [1, 1, 1]], ⟨[], ⟨[], []⟩⟩, fun p => some (.inl ())⟩
abbrev great_l1_e1 : Leaf ((Unit) ⊕ (Unit)) := ⟨[.c [1, 1, 1, 0], .c [1, 1, 1, 1]], ⟨[], ⟨[], []⟩⟩, fun p => some (.inr ())⟩
noncomputable def great_l1_L (N : Nat) : LoopS := { at_ := great_l1_at, sta := great_l1_st, exits := [([.c [1, 1, 0, 1, 0, 0, 1, 1, 0, 0, 1, 1, 0, 0], .c [1, 1, 0, 1, 0, 0, 1, 1, 0, 0, 1, 1, 0, 1], .b 1, .c [1, 1, 0, 1, 0, 0, 1, 1, 1], .l [1, 1, 0, 1, 0, 0], .b 0, .c [1, 1, 1]], ⟨[], ⟨[], []⟩⟩), ([.c [1, 1, 1, 0], .c [1, 1, 1, 1]], ⟨[], ⟨[], []⟩⟩)], run := fun p k => (great_l1 N N p.1.1 p.1.2.1 p.1.2.2.1).bind fun e => match e with | .inl x => k (.inl ((), ())) | .inr x => k (.inr (.inl ((), ()))) }
theorem great_l1_eq (N n_ : Nat) (u : List (List Int)) (u2 : Int) (u3 : Int) : ev (Z := (Unit) ⊕ (Unit)) Try.prog (great_sp N) great_B [] [great_l1_h (great_l1 N n_), great_l1_e0, great_l1_e1] none 400 true great_l1_at (stL great_l1_st ((u, u2, u3, ()), ())) (stH great_l1_st ((u, u2, u3, ()), ())) = great_l1 N (n_ + 1) u u2 u3 := by kernel_rfl
theorem great_l1_ok (N : Nat) {top : Bool} : LoopOK Try.prog great_B.c great_B.n great_B.m0 top (great_l1_L N) := loop_of_ev (Z := (Unit) ⊕ (Unit)) (N := N) (fun m p => great_l1 N m p.1.1 p.1.2.1 p.1.2.2.1) (fun e => match e with | .inl x => .inl ((), ()) | .inr x => .inr (.inl ((), ()))) (fun _ p k => bind_congr_ (great_l1 N N p.1.1 p.1.2.1 p.1.2.2.1) _ _ (fun e => by rcases e with x | x <;> rfl)) (fun _ => rfl) (fun m z E Xc hE hX hrec hx => leaf_of_ev (B := great_B) (loops := []) (leaves := [great_l1_h (great_l1 N m), great_l1_e0, great_l1_e1]) (great_all N) mixed trivial hE hX ⟨hrec, (fun p hp => by obtain rfl := Option.some.inj hp; exact hx), (fun p hp => by obtain rfl := Option.some.inj hp; exact hx), trivial⟩ RetOK.no (fun p => great_l1_eq N m p.1.1 p.1.2.1 p.1.2.2.1))
abbrev great_st : Sta := ⟨[0], ⟨[.agg [.sl (.sl (.int .i64)), .sl (.int .i64), .i .i64]], []⟩⟩
theorem great_eq (N : Nat) (e : List (List Int)) (e2 : List Int) (e3 : Int) : ev (Z := Bool) Try.prog (great_sp N) great_B [great_l1_L N] [] (some great_rt) 400 false [.c [0], .c [1]] (stL great_st (((e, e2, e3, ()), ()), ())) (stH great_st (((e, e2, e3, ()), ()), ())) = great_S N e e2 e3 := by kernel_rfl
noncomputable def sp_great (N : Nat) : Spec := { f := 38, ins := ⟨[.agg [.sl (.sl (.int .i64)), .sl (.int .i64), .i .i64]], []⟩, outs := [⟨[.b], []⟩], run := fun p k => (great_S N p.1.1.1 p.1.1.2.1 p.1.1.2.2.1).bind fun r => k ((r, ()), ()) }
theorem sp_great_ok (N : Nat) : SpecOK Try.prog (sp_great N) := fn_sound (B := great_B) (loops := [great_l1_L N]) (leaves := []) (fun p => great_S N p.1.1.1 p.1.1.2.1 p.1.1.2.2.1) (fun r => ((r, ()), ())) great_rt (fun _ _ _ => rfl) (fun r z h => by cases h; rfl) Try.func38 (by kernel_rfl) (by kernel_rfl) (by kernel_rfl) rfl rfl (by kernel_rfl) (fun args w => Sem.pv_run _ _ _ (by kernel_rfl) w) (great_all N) mixed ⟨great_l1_ok N, trivial⟩ (fun z E Xc hE hX hret => trivial) (fun p => great_eq N p.1.1.1 p.1.1.2.1 p.1.1.2.2.1)

def equalf_l1 (N : Nat) : Nat → (List (List Int)) → (List (List Int)) → Int → Int → Option ((Unit) ⊕ (Unit))
  | 0, _, _, _, _ => none
  | n_ + 1, s2, u, u2, u3 =>
    br (decide (u3 < u2))
      (idx u u3 fun x_1 =>
      idx s2 u3 fun x_2 =>
      (equali_S N x_1 x_2).bind fun x_3 =>
      br (!x_3)
        (some (.inl ()))
        (chk (u3 + 1) <|
        equalf_l1 N n_ s2 u u2 (u3 + 1)))
      (some (.inr ()))
def equalf_S (N : Nat) (s1 : List (List Int)) (s2 : List (List Int)) : Option Bool :=
  br (!decide ((s1.length : Int) = (s2.length : Int)))
    (some false)
    ((equalf_l1 N N s2 s1 (s1.length : Int) 0).bind fun e => match e with
    | .inl _ =>
      some false
    | .inr _ =>
      some true)
noncomputable def equalf_sp (N : Nat) : List Spec := [sp_equali N]
theorem equalf_all (N : Nat) : AllP (SpecOK Try.prog) (equalf_sp N) := ⟨sp_equali_ok N, trivial⟩
noncomputable def equalf_c : Code := (Try.f112.body).getD .skip
noncomputable abbrev equalf_B : Body := { c := equalf_c, n := 32, res := [.tmp 6], outs := [⟨[.b], []⟩], m0 := 0 }
abbrev equalf_rt : altD equalf_B.outs → Option Bool := fun r => some r.1.1
abbrev equalf_l1_at : List PI := [.c [1, 1, 0, 1, 0, 0, 0], .c [1, 1, 0, 1, 0, 0, 1], .l [1, 1, 0, 1, 0, 0], .b 0, .c [1, 1, 1]]
abbrev equalf_l1_st : Sta := ⟨[1, 2, 15, 16, 17], ⟨[.sl (.sl (.int .i64)), .fn 103 [] [], .sl (.sl (.int .i64)), .i .i64, .i .i64], []⟩⟩
abbrev equalf_l1_h (rec : (List (List Int)) → (List (List Int)) → Int → Int → Option ((Unit) ⊕ (Unit))) : Leaf ((Unit) ⊕ (Unit)) := ⟨equalf_l1_at, equalf_l1_st, fun p => rec p.1.1 p.1.2.2.1 p.1.2.2.2.1 p.1.2.2.2.2.1⟩
abbrev equalf_l1_e0 : Leaf ((Unit) ⊕ (Unit)) := ⟨[.c [1, 1, 0, 1, 0, 0, 1, 1, 0, 0, 1, 1, 1, 0, 0], .c [1, 1, 0, 1, 0, 0, 1, 1, 0, 0, 1, 1, 1, 0, 1], .b 1, .c [1, 1, 0, 1, 0, 0, 1, 1, 1], .l [1, 1, 0, 1, 0, 0], .b 0, .c [1, 1, 1]], ⟨[], ⟨[], []⟩⟩, fun p => some (.inl ())⟩
abbrev equalf_l1_e1 : Leaf ((Unit) ⊕ (Unit)) := ⟨[.c [1, 1, 1, 0], .c [1, 1, 1, 1]], ⟨[], ⟨[], []⟩⟩, fun p => some (.inr ())⟩
noncomputable def equalf_l1_L (N : Nat) : LoopS := { at_ := equalf_l1_at, sta := equalf_l1_st, exits := [([.c [1, 1, 0, 1, 0, 0, 1, 1, 0, 0, 1, 1, 1, 0, 0], .c [1, 1, 0, 1, 0, 0, 1, 1, 0, 0, 1, 1, 1, 0, 1], .b 1, .c [1, 1, 0, 1, 0, 0, 1, 1, 1], .l [1, 1, 0, 1, 0, 0], .b 0, .c [1, 1, 1]], ⟨[], ⟨[], []⟩⟩), ([.c [1, 1, 1, 0], .c [1, 1, 1, 1]], ⟨[], ⟨[], []⟩⟩)], run := fun p k => (equalf_l1 N N p.1.1 p.1.2.2.1 p.1.2.2.2.1 p.1.2.2.2.2.1).bind fun e => match e with | .inl x => k (.inl ((), ())) | .inr x => k (.inr (.inl ((), ()))) }
theorem equalf_l1_eq (N n_ : Nat) (s2 : List (List Int)) (u : List (List Int)) (u2 : Int) (u3 : Int) : ev (Z := (Unit) ⊕ (Unit)) Try.prog (equalf_sp N) equalf_B [] [equalf_l1_h (equalf_l1 N n_), equalf_l1_e0, equalf_l1_e1] none 400 true equalf_l1_at (stL equalf_l1_st ((s2, ((), ()), u, u2, u3, ()), ())) (stH equalf_l1_st ((s2, ((), ()), u, u2, u3, ()), ())) = equalf_l1 N (n_ + 1) s2 u u2 u3 := by kernel_rfl
theorem equalf_l1_ok (N : Nat) {top : Bool} : LoopOK Try.prog equalf_B.c equalf_B.n equalf_B.m0 top (equalf_l1_L N) := loop_of_ev (Z := (Unit) ⊕ (Unit)) (N := N) (fun m p => equalf_l1 N m p.1.1 p.1.2.2.1 p.1.2.2.2.1 p.1.2.2.2.2.1) (fun e => match e with | .inl x => .inl ((), ()) | .inr x => .inr (.inl ((), ()))) (fun _ p k => bind_congr_ (equalf_l1 N N p.1.1 p.1.2.2.1 p.1.2.2.2.1 p.1.2.2.2.2.1) _ _ (fun e => by rcases e with x | x <;> rfl)) (fun _ => rfl) (fun m z E Xc hE hX hrec hx => leaf_of_ev (B := equalf_B) (loops := []) (leaves := [equalf_l1_h (equalf_l1 N m), equalf_l1_e0, equalf_l1_e1]) (equalf_all N) mixed trivial hE hX ⟨hrec, (fun p hp => by obtain rfl := Option.some.inj hp; exact hx), (fun p hp => by obtain rfl := Option.some.inj hp; exact hx), trivial⟩ RetOK.no (fun p => equalf_l1_eq N m p.1.1 p.1.2.2.1 p.1.2.2.2.1 p.1.2.2.2.2.1))
abbrev equalf_st : Sta := ⟨[0, 1, 2], ⟨[.sl (.sl (.int .i64)), .sl (.sl (.int .i64)), .fn 103 [] []], []⟩⟩
theorem equalf_eq (N : Nat) (s1 : List (List Int)) (s2 : List (List Int)) : ev (Z := Bool) Try.prog (equalf_sp N) equalf_B [equalf_l1_L N] [] (some equalf_rt) 400 false [.c [0], .c [1]] (stL equalf_st ((s1, s2, ((), ()), ()), ())) (stH equalf_st ((s1, s2, ((), ()), ()), ())) = equalf_S N s1 s2 := by kernel_rfl
noncomputable def sp_equalf (N : Nat) : Spec := { f := 112, ins := ⟨[.sl (.sl (.int .i64)), .sl (.sl (.int .i64)), .fn 103 [] []], []⟩, outs := [⟨[.b], []⟩], run := fun p k => (equalf_S N p.1.1 p.1.2.1).bind fun r => k ((r, ()), ()) }
theorem sp_equalf_ok (N : Nat) : SpecOK Try.prog (sp_equalf N) := fn_sound (B := equalf_B) (loops := [equalf_l1_L N]) (leaves := []) (fun p => equalf_S N p.1.1 p.1.2.1) (fun r => ((r, ()), ())) equalf_rt (fun _ _ _ => rfl) (fun r z h => by cases h; rfl) Try.func112 (by kernel_rfl) (by kernel_rfl) (by kernel_rfl) rfl rfl (by kernel_rfl) (fun args w => Sem.pv_run _ _ _ (by kernel_rfl) w) (equalf_all N) mixed ⟨equalf_l1_ok N, trivial⟩ (fun z E Xc hE hX hret => trivial) (fun p => equalf_eq N p.1.1 p.1.2.1)

def liker_S (N : Nat) (a : List (List Int)) (b : List (List Int)) : Option Bool :=
  (equalf_S N a b).bind fun x_1 =>
  some x_1
noncomputable def liker_sp (N : Nat) : List Spec := [sp_equalf N]
theorem liker_all (N : Nat) : AllP (SpecOK Try.prog) (liker_sp N) := ⟨sp_equalf_ok N, trivial⟩
noncomputable def liker_c : Code := (Try.f68.body).getD .skip
noncomputable abbrev liker_B : Body := { c := liker_c, n := 8, res := [.tmp 4], outs := [⟨[.b], []⟩], m0 := 0 }
abbrev liker_rt : altD liker_B.outs → Option Bool := fun r => some r.1.1
abbrev liker_st : Sta := ⟨[0, 1], ⟨[.sl (.sl (.int .i64)), .sl (.sl (.int .i64))], []⟩⟩
theorem liker_eq (N : Nat) (a : List (List Int)) (b : List (List Int)) : ev (Z := Bool) Try.prog (liker_sp N) liker_B [] [] (some liker_rt) 400 false [.c [0], .c [1]] (stL liker_st ((a, b, ()), ())) (stH liker_st ((a, b, ()), ())) = liker_S N a b := by kernel_rfl
noncomputable def sp_liker (N : Nat) : Spec := { f := 68, ins := ⟨[.sl (.sl (.int .i64)), .sl (.sl (.int .i64))], []⟩, outs := [⟨[.b], []⟩], run := fun p k => (liker_S N p.1.1 p.1.2.1).bind fun r => k ((r, ()), ()) }
theorem sp_liker_ok (N : Nat) : SpecOK Try.prog (sp_liker N) := fn_sound (B := liker_B) (loops := []) (leaves := []) (fun p => liker_S N p.1.1 p.1.2.1) (fun r => ((r, ()), ())) liker_rt (fun _ _ _ => rfl) (fun r z h => by cases h; rfl) Try.func68 (by kernel_rfl) (by kernel_rfl) (by kernel_rfl) rfl rfl (by kernel_rfl) (fun args w => Sem.pv_run _ _ _ (by kernel_rfl) w) (liker_all N) mixed trivial (fun z E Xc hE hX hret => trivial) (fun p => liker_eq N p.1.1 p.1.2.1)

def same_S (N : Nat) (a : List (List Int)) (a2 : List Int) (a3 : Int) (b : List (List Int)) (b2 : List Int) (b3 : Int) : Option Bool :=
  (liker_S N a b).bind fun x_1 =>
  br x_1
    ((likei_S N a2 b2).bind fun x_2 =>
    br x_2
      (some (decide (a3 = b3)))
      (some false))
    (some false)
noncomputable def same_sp (N : Nat) : List Spec := [sp_likei N, sp_liker N]
theorem same_all (N : Nat) : AllP (SpecOK Try.prog) (same_sp N) := ⟨sp_likei_ok N, sp_liker_ok N, trivial⟩
noncomputable def same_c : Code := (Try.f43.body).getD .skip
noncomputable abbrev same_B : Body := { c := same_c, n := 24, res := [.tmp 4], outs := [⟨[.b], []⟩], m0 := 0 }
abbrev same_rt : altD same_B.outs → Option Bool := fun r => some r.1.1
abbrev same_st : Sta := ⟨[0, 1], ⟨[.agg [.sl (.sl (.int .i64)), .sl (.int .i64), .i .i64], .agg [.sl (.sl (.int .i64)), .sl (.int .i64), .i .i64]], []⟩⟩
theorem same_eq (N : Nat) (a : List (List Int)) (a2 : List Int) (a3 : Int) (b : List (List Int)) (b2 : List Int) (b3 : Int) : ev (Z := Bool) Try.prog (same_sp N) same_B [] [] (some same_rt) 400 false [.c [0], .c [1]] (stL same_st (((a, a2, a3, ()), (b, b2, b3, ()), ()), ())) (stH same_st (((a, a2, a3, ()), (b, b2, b3, ()), ()), ())) = same_S N a a2 a3 b b2 b3 := by kernel_rfl
noncomputable def sp_same (N : Nat) : Spec := { f := 43, ins := ⟨[.agg [.sl (.sl (.int .i64)), .sl (.int .i64), .i .i64], .agg [.sl (.sl (.int .i64)), .sl (.int .i64), .i .i64]], []⟩, outs := [⟨[.b], []⟩], run := fun p k => (same_S N p.1.1.1 p.1.1.2.1 p.1.1.2.2.1 p.1.2.1.1 p.1.2.1.2.1 p.1.2.1.2.2.1).bind fun r => k ((r, ()), ()) }
theorem sp_same_ok (N : Nat) : SpecOK Try.prog (sp_same N) := fn_sound (B := same_B) (loops := []) (leaves := []) (fun p => same_S N p.1.1.1 p.1.1.2.1 p.1.1.2.2.1 p.1.2.1.1 p.1.2.1.2.1 p.1.2.1.2.2.1) (fun r => ((r, ()), ())) same_rt (fun _ _ _ => rfl) (fun r z h => by cases h; rfl) Try.func43 (by kernel_rfl) (by kernel_rfl) (by kernel_rfl) rfl rfl (by kernel_rfl) (fun args w => Sem.pv_run _ _ _ (by kernel_rfl) w) (same_all N) mixed trivial (fun z E Xc hE hX hret => trivial) (fun p => same_eq N p.1.1.1 p.1.1.2.1 p.1.1.2.2.1 p.1.2.1.1 p.1.2.1.2.1 p.1.2.1.2.2.1)

end Go.Proofs.Ytfcnhnbnjdccfaa

namespace Go.Proofs.Ytfcnhnbnjdccfaa
set_option linter.all false
open Go

section
variable {N : Nat} {T : List (List Int)} {H : List Int} {f : Int}
/-! ### The first least one -/
/-! ### The texts that are in all pairs -/
/-! ### The law -/
end
end Go.Proofs.Ytfcnhnbnjdccfaa

namespace Go.Proofs.Ytfcnhnbnjdccfaa
set_option linter.all false
open Go

section
variable {N : Nat} {T : List (List Int)} {H : List Int} {f : Int}
/-! ### What is looked at, copies, comparisons -/
theorem great_l1_p (hT : T.length ≤ 1000) : ∀ (n k : Nat), T.length < n + k → k ≤ T.length → ∃ r, great_l1 N n T (T.length : Int) k = some r ∧ ((∃ u, r = .inr u) → ∀ x ∈ T.drop k, x.length ≤ 9)
  | 0, k, h, _ => by omega
  | n + 1, k, h, hk => by
    unfold great_l1
    by_cases c : k < T.length
    · have hd : T.drop k = T.getD k [] :: T.drop (k + 1) := by
        rw [List.drop_eq_getElem_cons c]; simp [List.getD, c]
      rw [br_dec (by omega), idx_get [] (by omega) (by omega)]
      simp only [Int.toNat_natCast]
      by_cases d : 9 < ((T.getD k []).length : Int)
      · rw [br_dec d]; exact ⟨_, rfl, fun ⟨u, hu⟩ => by cases hu⟩
      · rw [br_ndec d, chk_eq (by omega)]
        obtain ⟨r, e, hr⟩ := great_l1_p hT n (k + 1) (by omega) (by omega)
        rw [show ((k + 1 : Nat) : Int) = (k : Int) + 1 by omega] at e
        refine ⟨r, e, fun hu x hx => ?_⟩
        rw [hd] at hx
        rcases List.mem_cons.1 hx with rfl | hx
        · omega
        · exact hr hu x hx
    · rw [br_ndec (by omega)]
      refine ⟨_, rfl, fun _ x hx => ?_⟩
      rw [List.drop_of_length_le (by omega)] at hx; cases hx
/-- An echo that is looked at. -/
structure Small (T : List (List Int)) (H : List Int) : Prop where
  n : T.length ≤ 8
  h : H.length ≤ 14
  l : ∀ x ∈ T, x.length ≤ 9
theorem great_v (hN : 20 ≤ N) (T : List (List Int)) (H : List Int) (f : Int) : great_S N T H f = some true ∨ great_S N T H f = some false ∧ Small T H := by
  unfold great_S
  by_cases c : 8 < (T.length : Int)
  · rw [br_dec c]; exact .inl rfl
  · rw [br_ndec c]
    by_cases d : 14 < (H.length : Int)
    · rw [br_dec d]; exact .inl rfl
    · rw [br_ndec d]
      obtain ⟨r, e, hr⟩ := great_l1_p (N := N) (T := T) (by omega) N 0 (by omega) (by omega)
      rw [show ((0 : Nat) : Int) = 0 from rfl] at e
      rw [e]
      simp only [Option.bind_some]
      cases r with
      | inl _ => exact .inl rfl
      | inr u => exact .inr ⟨rfl, by omega, by omega, by simpa using hr ⟨u, rfl⟩⟩
theorem equali_l1_p {s : List Int} (hs : s.length ≤ 1000) : ∀ (n k : Nat), s.length < n + k → k ≤ s.length → equali_l1 N n s s (s.length : Int) k = some (.inr ())
  | 0, k, h, _ => by omega
  | n + 1, k, h, hk => by
    unfold equali_l1
    by_cases c : k < s.length
    · rw [br_dec (by omega), idx_get 0 (by omega) (by omega), idx_get 0 (by omega) (by omega), br_nd rfl, chk_eq (by omega)]
      have := equali_l1_p hs n (k + 1) (by omega) (by omega)
      rw [show ((k + 1 : Nat) : Int) = (k : Int) + 1 by omega] at this
      exact this
    · rw [br_ndec (by omega)]
theorem equali_v {s : List Int} (hs : s.length ≤ 1000) (hN : s.length < N) : equali_S N s s = some true := by
  unfold equali_S
  have := equali_l1_p (N := N) hs N 0 (by omega) (by omega)
  rw [show ((0 : Nat) : Int) = 0 from rfl] at this
  rw [br_nd rfl, this]; rfl
theorem likei_v {s : List Int} (hs : s.length ≤ 1000) (hN : s.length < N) : likei_S N s s = some true := by
  unfold likei_S
  rw [equali_v hs hN]; rfl
theorem equalf_l1_p (hT : T.length ≤ 1000) (hl : ∀ x ∈ T, x.length ≤ 1000 ∧ x.length < N) : ∀ (n k : Nat), T.length < n + k → k ≤ T.length → equalf_l1 N n T T (T.length : Int) k = some (.inr ())
  | 0, k, h, _ => by omega
  | n + 1, k, h, hk => by
    unfold equalf_l1
    by_cases c : k < T.length
    · have l1 := hl (T.getD k []) (getD_mem c)
      rw [br_dec (by omega), idx_get [] (by omega) (by omega), idx_get [] (by omega) (by omega)]
      simp only [Int.toNat_natCast]
      rw [equali_v l1.1 l1.2]
      simp only [Option.bind_some, Bool.not_true, br_false]
      rw [chk_eq (by omega)]
      have := equalf_l1_p hT hl n (k + 1) (by omega) (by omega)
      rw [show ((k + 1 : Nat) : Int) = (k : Int) + 1 by omega] at this
      exact this
    · rw [br_ndec (by omega)]
theorem same_v (hN : 20 ≤ N) (h : Small T H) (f : Int) : same_S N T H f T H f = some true := by
  have hT := h.n
  have hH := h.h
  unfold same_S liker_S equalf_S
  have := equalf_l1_p (N := N) (T := T) (by omega) (fun x hx => by have := h.l x hx; omega) N 0 (by omega) (by omega)
  rw [show ((0 : Nat) : Int) = 0 from rfl] at this
  rw [br_nd rfl, this]
  simp only [Option.bind_some, br_true]
  rw [likei_v (by omega) (by omega)]
  simp only [Option.bind_some, br_true, decide_true]
theorem copye_small (hN : 1010 ≤ N) (h : Small T H) (f : Int) : copye_S N T H f = some (T, H, f) :=
  copye_v (by have := h.n; have := h.h; omega) (fun x hx => by have := h.l x hx; omega) hN

/-! ### The reference's errors -/
theorem off_v (n lo hi : Int) : off_S N n lo hi = some (!decide (lo ≤ n ∧ n ≤ hi)) := by
  unfold off_S
  by_cases c : n < lo
  · rw [br_dec c, decide_eq_false (by omega)]; rfl
  · rw [br_ndec c]
    congr 1
    rw [Bool.eq_iff_iff]
    simp only [decide_eq_true_eq, Bool.not_eq_true', decide_eq_false_iff_not]
    omega
theorem rcheck_l1_p (hT : T.length ≤ 1000) : ∀ (n k : Nat), T.length < n + k → k ≤ T.length → rcheck_l1 N n k T H f = some (if (T.drop k).all okL then .inr (T, H, f) else .inl ())
  | 0, k, h, _ => by omega
  | n + 1, k, h, hk => by
    unfold rcheck_l1
    by_cases c : k < T.length
    · have hd : T.drop k = T.getD k [] :: T.drop (k + 1) := by
        rw [List.drop_eq_getElem_cons c]; simp [List.getD, c]
      have hk' : T[((k : Nat) : Int).toNat]? = some (T.getD k []) := by simp [List.getD, c]
      generalize T.getD k [] = x at *
      rw [br_dec (by omega), idx_eq (by omega) hk', off_v, hd, List.all_cons]
      simp only [Option.bind_some]
      have ex : okL x = decide (1 ≤ (x.length : Int) ∧ (x.length : Int) ≤ 6) := rfl
      rw [← ex]
      cases okL x with
      | false => rfl
      | true =>
        simp only [Bool.not_true, br_false, Bool.true_and]
        rw [chk_eq (by omega)]
        have := rcheck_l1_p hT n (k + 1) (by omega) (by omega)
        rw [show ((k + 1 : Nat) : Int) = (k : Int) + 1 by omega] at this
        exact this
    · rw [br_ndec (by omega), List.drop_of_length_le (by omega)]; rfl
theorem rcheck_l3_p {t : Nat} {x : List Int} (ht : T[t]? = some x) (hx : x.length ≤ 1000) : ∀ (n k : Nat), x.length < n + k → k ≤ x.length → rcheck_l3 N n t k T H f = some (if (x.drop k).all okW then .inr ((t : Int), T, H, f) else .inl ())
  | 0, k, h, _ => by omega
  | n + 1, k, h, hk => by
    unfold rcheck_l3
    have ht' : T[((t : Nat) : Int).toNat]? = some x := by simpa using ht
    rw [idx_eq (by omega) ht']
    by_cases c : k < x.length
    · have hd : x.drop k = x.getD k 0 :: x.drop (k + 1) := drop_cons c
      have hk' : x[((k : Nat) : Int).toNat]? = some (x.getD k 0) := by simp [List.getD, c]
      generalize x.getD k 0 = y at *
      rw [br_dec (by omega), idx_eq (by omega) ht', idx_eq (by omega) hk', off_v, hd, List.all_cons]
      simp only [Option.bind_some]
      have ex : okW y = decide (0 ≤ y ∧ y ≤ 9) := rfl
      rw [← ex]
      cases okW y with
      | false => rfl
      | true =>
        simp only [Bool.not_true, br_false, Bool.true_and]
        rw [chk_eq (by omega)]
        have := rcheck_l3_p ht hx n (k + 1) (by omega) (by omega)
        rw [show ((k + 1 : Nat) : Int) = (k : Int) + 1 by omega] at this
        exact this
    · rw [br_ndec (by omega), List.drop_of_length_le (by omega)]; rfl
theorem rcheck_l2_p (hT : T.length ≤ 1000) (hl : ∀ x ∈ T, x.length ≤ 1000 ∧ x.length < N) : ∀ (n k : Nat), T.length < n + k → k ≤ T.length → rcheck_l2 N n k T H f = some (if (T.drop k).all (fun x => x.all okW) then .inr (T, H, f) else .inl ())
  | 0, k, h, _ => by omega
  | n + 1, k, h, hk => by
    unfold rcheck_l2
    by_cases c : k < T.length
    · have l1 := hl (T.getD k []) (getD_mem c)
      have hd : T.drop k = T.getD k [] :: T.drop (k + 1) := by
        rw [List.drop_eq_getElem_cons c]; simp [List.getD, c]
      have hk' : T[k]? = some (T.getD k []) := by simp [List.getD, c]
      generalize T.getD k [] = x at *
      have e3 := rcheck_l3_p (N := N) (H := H) (f := f) hk' l1.1 N 0 (by omega) (by omega)
      rw [show ((0 : Nat) : Int) = 0 from rfl, List.drop_zero] at e3
      rw [br_dec (by omega), e3, hd, List.all_cons]
      simp only [Option.bind_some]
      cases x.all okW with
      | false => rfl
      | true =>
        simp only [Bool.true_and, if_true]
        rw [chk_eq (by omega)]
        have := rcheck_l2_p hT hl n (k + 1) (by omega) (by omega)
        rw [show ((k + 1 : Nat) : Int) = (k : Int) + 1 by omega] at this
        exact this
    · rw [br_ndec (by omega), List.drop_of_length_le (by omega)]; rfl
theorem rcheck_l4_p (hH : H.length ≤ 1000) : ∀ (n k : Nat), H.length < n + k → k ≤ H.length → rcheck_l4 N n k T H f = some (if (H.drop k).all okW then .inr (T, H, f) else .inl ())
  | 0, k, h, _ => by omega
  | n + 1, k, h, hk => by
    unfold rcheck_l4
    by_cases c : k < H.length
    · have hd : H.drop k = H.getD k 0 :: H.drop (k + 1) := drop_cons c
      have hk' : H[((k : Nat) : Int).toNat]? = some (H.getD k 0) := by simp [List.getD, c]
      generalize H.getD k 0 = y at *
      rw [br_dec (by omega), idx_eq (by omega) hk', off_v, hd, List.all_cons]
      simp only [Option.bind_some]
      have ex : okW y = decide (0 ≤ y ∧ y ≤ 9) := rfl
      rw [← ex]
      cases okW y with
      | false => rfl
      | true =>
        simp only [Bool.not_true, br_false, Bool.true_and]
        rw [chk_eq (by omega)]
        have := rcheck_l4_p hH n (k + 1) (by omega) (by omega)
        rw [show ((k + 1 : Nat) : Int) = (k : Int) + 1 by omega] at this
        exact this
    · rw [br_ndec (by omega), List.drop_of_length_le (by omega)]; rfl
theorem rcheck_v (hN : 20 ≤ N) (h : Small T H) : rcheck_S N T H f = some (checkE T H f) := by
  have hT := h.n
  have hH := h.h
  unfold rcheck_S checkE
  rw [off_v]
  simp only [Option.bind_some]
  by_cases c1 : 1 ≤ T.length ∧ T.length ≤ 5
  · rw [if_neg (by simpa using c1), show decide ((1 : Int) ≤ (T.length : Int) ∧ (T.length : Int) ≤ 5) = true by simp; omega]
    simp only [Bool.not_true, br_false]
    by_cases c2 : 10 < H.length
    · rw [if_pos c2, br_dec (by omega)]
    · rw [if_neg c2, br_ndec (by omega)]
      have e1 := rcheck_l1_p (N := N) (T := T) (H := H) (f := f) (by omega) N 0 (by omega) (by omega)
      have e2 := rcheck_l2_p (N := N) (T := T) (H := H) (f := f) (by omega) (fun x hx => by have := h.l x hx; omega) N 0 (by omega) (by omega)
      have e4 := rcheck_l4_p (N := N) (T := T) (H := H) (f := f) (by omega) N 0 (by omega) (by omega)
      rw [show ((0 : Nat) : Int) = 0 from rfl, List.drop_zero] at e1 e2 e4
      rw [e1]
      cases T.all okL with
      | false => rfl
      | true =>
        simp only [Option.bind_some, if_true, not_true_eq_false, if_false]
        rw [e2]
        cases T.all fun x => x.all okW with
        | false => rfl
        | true =>
          simp only [Option.bind_some, if_true, not_true_eq_false, if_false]
          rw [e4]
          cases H.all okW with
          | false => rfl
          | true =>
            simp only [Option.bind_some, if_true, not_true_eq_false, if_false]
            rw [off_v]
            simp only [Option.bind_some]
            by_cases c5 : 0 ≤ f ∧ f ≤ 8
            · rw [decide_eq_true c5]; simp [c5, br]
            · rw [decide_eq_false c5]; simp only [Bool.not_false, br_true]; rw [if_pos c5]
  · rw [if_pos (by simpa using c1), show decide ((1 : Int) ≤ (T.length : Int) ∧ (T.length : Int) ≤ 5) = false by simp; omega]
    rfl
theorem rtwo_v (hN : 20 ≤ N) (h : Small T H) (a b : Int) : rtwo_S N T H f a b = some (openE T H f a b) := by
  unfold rtwo_S openE
  have hT := h.n
  rw [rcheck_v hN h]
  simp only [Option.bind_some]
  by_cases c : checkE T H f = 0
  · rw [br_nd c, if_neg (by simpa using c), chk_eq (by omega), off_v]
    simp only [Option.bind_some]
    by_cases ha : 0 ≤ a ∧ a < T.length
    · rw [show decide (0 ≤ a ∧ a ≤ (T.length : Int) - 1) = true by simp; omega]
      simp only [Bool.not_true, br_false]
      rw [chk_eq (by omega), off_v]
      simp only [Option.bind_some]
      by_cases hb : 0 ≤ b ∧ b < T.length
      · rw [show decide (0 ≤ b ∧ b ≤ (T.length : Int) - 1) = true by simp; omega, if_neg (by simp; omega)]; rfl
      · rw [show decide (0 ≤ b ∧ b ≤ (T.length : Int) - 1) = false by simp; omega, if_pos (.inr hb)]; rfl
    · rw [show decide (0 ≤ a ∧ a ≤ (T.length : Int) - 1) = false by simp; omega, if_pos (.inl ha)]; rfl
  · rw [br_nnd c, if_pos c]

/-! ### Readings -/
def toldN : List (Int × Int) → Int
  | [] => 0
  | q :: r => (if q.1 = 3 then 0 else 1) + toldN r
theorem toldN_bnd : ∀ l : List (Int × Int), 0 ≤ toldN l ∧ toldN l ≤ l.length
  | [] => by simp [toldN]
  | q :: r => by
    have := toldN_bnd r
    unfold toldN
    simp only [List.length_cons]
    split <;> omega
/-! ### The reference's readings -/
end
end Go.Proofs.Ytfcnhnbnjdccfaa

namespace Go.Proofs.Ytfcnhnbnjdccfaa
set_option linter.all false
open Go

section
variable {N : Nat} {T : List (List Int)} {H A B : List Int} {f : Int}
/-! ### The best of them -/
theorem countP_zero {α : Type} {p : α → Bool} : ∀ {l : List α}, (∀ x ∈ l, p x = false) → l.countP p = 0
  | [], _ => rfl
  | a :: l, h => by
    rw [List.countP_cons, countP_zero (fun x hx => h x (by simp [hx])), h a (by simp)]; rfl
/-- So many words are told in the best of these, and there are so many best ones. -/
def BestOf (C : List (List (Int × Int))) (v : Int × Int) : Prop := (∀ r ∈ C, toldN r ≤ v.1) ∧ v.2 = (C.countP fun r => decide (toldN r = v.1) : Nat)
theorem BestOf.add {h n : Nat} {t : At3 → Int × Int} {m : Mv} {C D : List (List (Int × Int))} {best : Int × Int} (hb : BestOf C best) (hd : BestOf D (t m.2)) (h0 : 0 ≤ (t m.2).1) : BestOf (C ++ D.map fun r => m.1 :: r) (stepT mayA h t best m) := by
  have st : stepT mayA h t best m = (if best.1 < wT m.1.1 (t m.2).1 then (wT m.1.1 (t m.2).1, (t m.2).2) else if wT m.1.1 (t m.2).1 = best.1 then (best.1, best.2 + (t m.2).2) else best) := by
    unfold stepT; exact if_pos rfl
  have hw : wT m.1.1 (t m.2).1 = (if m.1.1 = 3 then 0 else 1) + (t m.2).1 := by
    unfold wT
    by_cases c : m.1.1 = 3
    · rw [if_neg (fun h => h.2 c), if_pos c]; omega
    · rw [if_pos ⟨h0, c⟩, if_neg c]; omega
  obtain ⟨b1, b2⟩ := hb
  obtain ⟨d1, d2⟩ := hd
  have tn : ∀ r, toldN (m.1 :: r) = (if m.1.1 = 3 then 0 else 1) + toldN r := fun r => rfl
  rw [st]
  generalize wT m.1.1 (t m.2).1 = W at *
  generalize (if m.1.1 = 3 then (0 : Int) else 1) = e at *
  have c1 : ∀ v : Int, ((D.map fun r => m.1 :: r).countP fun r => decide (toldN r = v)) = D.countP fun r => decide (toldN r = v - e) := by
    intro v
    rw [List.countP_map]
    congr 1
    funext r
    simp only [Function.comp]
    rw [tn]
    apply decide_eq_decide.2
    omega
  have le : ∀ r ∈ D.map (fun r => m.1 :: r), toldN r ≤ W := by
    intro r hr
    obtain ⟨r', hr', rfl⟩ := List.mem_map.1 hr
    rw [tn]; have := d1 r' hr'; omega
  by_cases k1 : best.1 < W
  · rw [if_pos k1]
    refine ⟨fun r hr => ?_, ?_⟩
    · rcases List.mem_append.1 hr with hr | hr
      · have := b1 r hr; dsimp only; omega
      · exact le r hr
    · dsimp only
      rw [List.countP_append, c1, show W - e = (t m.2).1 by omega, countP_zero (l := C) (fun r hr => by have := b1 r hr; simp; omega), d2]
      simp
  · rw [if_neg k1]
    by_cases k2 : W = best.1
    · rw [if_pos k2]
      refine ⟨fun r hr => ?_, ?_⟩
      · rcases List.mem_append.1 hr with hr | hr
        · exact b1 r hr
        · have := le r hr; dsimp only; omega
      · dsimp only
        rw [List.countP_append, c1, show best.1 - e = (t m.2).1 by omega, b2, d2]
        omega
    · rw [if_neg k2]
      refine ⟨fun r hr => ?_, ?_⟩
      · rcases List.mem_append.1 hr with hr | hr
        · exact b1 r hr
        · have := le r hr; omega
      · rw [List.countP_append, c1, countP_zero (l := D) (fun r hr => by have := d1 r hr; simp; omega), b2]
        simp
end
end Go.Proofs.Ytfcnhnbnjdccfaa

namespace Go.Proofs.Ytfcnhnbnjdccfaa
set_option linter.all false
open Go

section
variable {N : Nat} {T : List (List Int)} {H : List Int} {f : Int}
end
end Go.Proofs.Ytfcnhnbnjdccfaa

namespace Go.Proofs.Ytfcnhnbnjdccfaa
set_option linter.all false
open Go

end Go.Proofs.Ytfcnhnbnjdccfaa

namespace Go.Proofs.Ytfcnhnbnjdccfaa
set_option linter.all false
open Go

section
variable {N : Nat} {T : List (List Int)} {H A B : List Int} {f : Int}
abbrev keyT : Ty := .pair (.int .i64) (.pair (.int .i64) (.int .i64))
abbrev keyA (x : At3) : Int × Int × Int := (((x.1 : Nat) : Int), ((x.2.1 : Nat) : Int), ((x.2.2 : Nat) : Int))
/-- Whether a place is remembered. -/
def hasK (m : Memo) (x : At3) : Bool := (m.find? fun y => Ty.beq keyT y.1 (keyA x)).isSome
theorem hasK_cons {m : Memo} {x z : At3} {v : Int × Int} : hasK ((keyA x, v) :: m) z = true ↔ z = x ∨ hasK m z = true := by
  unfold hasK
  rw [List.find?_cons]
  by_cases e : Ty.beq keyT (keyA x) (keyA z) = true
  · rw [e]
    have := (beq_iff_ (y := keyT) rfl).1 e
    simp only [keyA, Prod.mk.injEq] at this
    have : z = x := by
      obtain ⟨a, b, c⟩ := x
      obtain ⟨a', b', c'⟩ := z
      dsimp only at this
      simp only [Prod.mk.injEq]; omega
    simp [this]
  · have e' : Ty.beq keyT (keyA x) (keyA z) = false := by simpa using e
    rw [e']
    constructor
    · exact fun h => .inr h
    · rintro (rfl | h)
      · exact absurd ((beq_iff_ (y := keyT) rfl).2 rfl) e
      · exact h
/-- What is remembered is right, and so is all that it came of. -/
def MOK (H A B : List Int) (m : Memo) : Prop := MapOK mayA H A B m ∧ ∀ x : At3, hasK m x = true → x.1 < H.length → ∀ mv ∈ movesL A B (H.getD x.1 0) x, mv.2.1 < H.length → hasK m mv.2 = true
theorem MOK.cons {m : Memo} (h : MOK H A B m) {x : At3} (hk : ∀ mv ∈ movesL A B (H.getD x.1 0) x, mv.2.1 < H.length → hasK m mv.2 = true) : MOK H A B ((keyA x, tv mayA H A B x) :: m) := by
  refine ⟨h.1.cons x, fun z hz hlt mv hmv hl => hasK_cons.2 (.inr ?_)⟩
  rcases hasK_cons.1 hz with rfl | hz
  · exact hk mv hmv hl
  · exact h.2 z hz hlt mv hmv hl
theorem MOK.nil : MOK H A B [] := ⟨MapOK.nil _ _ _ _, fun x h => by cases h⟩
end
end Go.Proofs.Ytfcnhnbnjdccfaa

namespace Go.Proofs.Ytfcnhnbnjdccfaa
set_option linter.all false
open Go

section
variable {N : Nat} {T : List (List Int)} {H A B : List Int} {f a b : Int}
end
end Go.Proofs.Ytfcnhnbnjdccfaa

namespace Go.Proofs.Ytfcnhnbnjdccfaa
set_option linter.all false
open Go

section
variable {N : Nat} {T : List (List Int)} {H A B : List Int} {f : Int}
end
end Go.Proofs.Ytfcnhnbnjdccfaa

namespace Go.Proofs.Ytfcnhnbnjdccfaa
set_option linter.all false
open Go

section
variable {N : Nat} {T : List (List Int)} {H A B : List Int} {f a b : Int}
/-- As many words are told in the best of these, of which there are so many, if there is one. -/
def Gd (C : List (List (Int × Int))) (v : Int × Int) : Prop := BestOf C v ∧ (C = [] ∧ v.1 = -1 ∨ ∃ r ∈ C, toldN r = v.1)
theorem Gd.ge {C : List (List (Int × Int))} {v : Int × Int} (h : Gd C v) : -1 ≤ v.1 := by
  rcases h.2 with ⟨_, h⟩ | ⟨r, _, h⟩
  · omega
  · have := toldN_bnd r; omega
theorem Gd.add {may : Nat → Int × Int → Bool} {h : Nat} {t : At3 → Int × Int} {m : Mv} {C D : List (List (Int × Int))} {best : Int × Int} (hb : Gd C best) (hd : Gd D (t m.2)) : Gd (C ++ if may h m.1 = true then D.map fun r => m.1 :: r else []) (stepT may h t best m) := by
  by_cases c : may h m.1 = true
  · rw [if_pos c]
    have st : stepT may h t best m = stepT mayA h t best m := by
      unfold stepT; rw [if_pos c]; exact (if_pos rfl).symm
    rw [st]
    have st2 : stepT mayA h t best m = (if best.1 < wT m.1.1 (t m.2).1 then (wT m.1.1 (t m.2).1, (t m.2).2) else if wT m.1.1 (t m.2).1 = best.1 then (best.1, best.2 + (t m.2).2) else best) := by
      unfold stepT; exact if_pos rfl
    have hge := hb.ge
    rcases hd.2 with ⟨rfl, hv⟩ | ⟨r, hr, hv⟩
    · have h2 := hd.1.2
      rw [List.countP_nil] at h2
      have hw : wT m.1.1 (t m.2).1 = -1 := by
        unfold wT; rw [hv]; exact if_neg (fun h => absurd h.1 (by decide))
      rw [st2, hw, List.map_nil, List.append_nil, if_neg (by omega)]
      by_cases k : -1 = best.1
      · rw [if_pos k, h2]
        rw [show ((best.1, best.2 + ((0 : Nat) : Int)) : Int × Int) = best by simp]
        exact hb
      · rw [if_neg k]; exact hb
    · have t0 := toldN_bnd r
      have h0 : 0 ≤ (t m.2).1 := by omega
      refine ⟨BestOf.add (n := 0) hb.1 hd.1 h0, .inr ?_⟩
      have hw : toldN (m.1 :: r) = wT m.1.1 (t m.2).1 := by
        unfold wT toldN
        by_cases c : m.1.1 = 3
        · rw [if_pos c, if_neg (fun h => h.2 c)]; omega
        · rw [if_neg c, if_pos ⟨h0, c⟩]; omega
      rw [st2]
      by_cases k1 : best.1 < wT m.1.1 (t m.2).1
      · rw [if_pos k1]
        exact ⟨m.1 :: r, List.mem_append.2 (.inr (List.mem_map.2 ⟨r, hr, rfl⟩)), hw⟩
      · rw [if_neg k1]
        have t1 := toldN_bnd (m.1 :: r)
        rcases hb.2 with ⟨_, e⟩ | ⟨r', hr', e⟩
        · omega
        · refine ⟨r', List.mem_append.2 (.inl hr'), ?_⟩
          split <;> exact e
  · have st : stepT may h t best m = best := by
      unfold stepT; rw [if_neg c]
    rw [if_neg c, st, List.append_nil]
    exact hb
end
end Go.Proofs.Ytfcnhnbnjdccfaa

namespace Go.Proofs.Ytfcnhnbnjdccfaa
set_option linter.all false
open Go

section
variable {N : Nat} {T : List (List Int)} {H A B : List Int} {f a b : Int}
theorem least_bad2 (hN : 20 ≤ N) (h : openE T H f a b ≠ 0) : least_S N T H f a b = some (0, openE T H f a b) := by
  unfold least_S
  rw [opened_bad hN h]
  simp only [Option.bind_some]
  rw [br_nnd h]
end
end Go.Proofs.Ytfcnhnbnjdccfaa

namespace Go.Proofs.Ytfcnhnbnjdccfaa
set_option linter.all false
open Go

/-- The greatest mark that may stand behind those before it. -/
def bndF (H A B : List Int) (v : Nat → Nat → Nat → Int) (i a b : Nat) : Int :=
  if i + a + b = 0 then 0 else
    min (min (min (min (min 99 (if 0 < i then v (i - 1) a b + 1 else 99)) (if 0 < a then v i (a - 1) b + 1 else 99)) (if 0 < b then v i a (b - 1) + 1 else 99))
      (if 0 < i ∧ 0 < a ∧ H.getD (i - 1) 0 = A.getD (a - 1) 0 then v (i - 1) (a - 1) b else 99)) (if 0 < i ∧ 0 < b ∧ H.getD (i - 1) 0 = B.getD (b - 1) 0 then v (i - 1) a (b - 1) else 99)
/-- What is asked of a mark. -/
structure Stp3 (H A B : List Int) (v : Nat → Nat → Nat → Int) (i a b : Nat) (n : Int) : Prop where
  sz : i + a + b = 0 → n ≤ 0
  sh : 0 < i → n ≤ v (i - 1) a b + 1
  sa : 0 < a → n ≤ v i (a - 1) b + 1
  sb : 0 < b → n ≤ v i a (b - 1) + 1
  sha : 0 < i → 0 < a → H.getD (i - 1) 0 = A.getD (a - 1) 0 → n ≤ v (i - 1) (a - 1) b
  shb : 0 < i → 0 < b → H.getD (i - 1) 0 = B.getD (b - 1) 0 → n ≤ v (i - 1) a (b - 1)
theorem le_bndF {H A B : List Int} {v : Nat → Nat → Nat → Int} {i a b : Nat} {n : Int} (hn : n ≤ 99) : n ≤ bndF H A B v i a b ↔ Stp3 H A B v i a b n := by
  unfold bndF
  by_cases z : i + a + b = 0
  · rw [if_pos z]
    exact ⟨fun h => ⟨fun _ => h, fun h' => by omega, fun h' => by omega, fun h' => by omega, fun h' => by omega, fun h' => by omega⟩, fun h => h.sz z⟩
  · rw [if_neg z]
    constructor
    · intro h
      refine ⟨fun h' => absurd h' z, fun h1 => ?_, fun h1 => ?_, fun h1 => ?_, fun h1 h2 h3 => ?_, fun h1 h2 h3 => ?_⟩
      · rw [if_pos h1] at h; omega
      · rw [if_pos h1] at h; omega
      · rw [if_pos h1] at h; omega
      · rw [if_pos (show 0 < i ∧ 0 < a ∧ H.getD (i - 1) 0 = A.getD (a - 1) 0 from ⟨h1, h2, h3⟩)] at h; omega
      · rw [if_pos (show 0 < i ∧ 0 < b ∧ H.getD (i - 1) 0 = B.getD (b - 1) 0 from ⟨h1, h2, h3⟩)] at h; omega
    · intro h
      have e1 : n ≤ (if 0 < i then v (i - 1) a b + 1 else 99) := by split; exact h.sh ‹_›; exact hn
      have e2 : n ≤ (if 0 < a then v i (a - 1) b + 1 else 99) := by split; exact h.sa ‹_›; exact hn
      have e3 : n ≤ (if 0 < b then v i a (b - 1) + 1 else 99) := by split; exact h.sb ‹_›; exact hn
      have e4 : n ≤ (if 0 < i ∧ 0 < a ∧ H.getD (i - 1) 0 = A.getD (a - 1) 0 then v (i - 1) (a - 1) b else 99) := by
        split
        · rename_i c; exact h.sha c.1 c.2.1 c.2.2
        · exact hn
      have e5 : n ≤ (if 0 < i ∧ 0 < b ∧ H.getD (i - 1) 0 = B.getD (b - 1) 0 then v (i - 1) a (b - 1) else 99) := by
        split
        · rename_i c; exact h.shb c.1 c.2.1 c.2.2
        · exact hn
      omega
theorem bndF_le {H A B : List Int} {v : Nat → Nat → Nat → Int} (i a b : Nat) : bndF H A B v i a b ≤ 99 := by
  unfold bndF
  split <;> omega
theorem bndF_nonneg {H A B : List Int} {v : Nat → Nat → Nat → Int} {i a b : Nat} (h : ∀ i' a' b', i' ≤ i → a' ≤ a → b' ≤ b → i' + a' + b' < i + a + b → 0 ≤ v i' a' b') : 0 ≤ bndF H A B v i a b := by
  rw [le_bndF (by decide)]
  refine ⟨fun _ => Int.le_refl _, fun h1 => ?_, fun h1 => ?_, fun h1 => ?_, fun h1 h2 _ => ?_, fun h1 h2 _ => ?_⟩
  · have := h (i - 1) a b (by omega) (by omega) (by omega) (by omega); omega
  · have := h i (a - 1) b (by omega) (by omega) (by omega) (by omega); omega
  · have := h i a (b - 1) (by omega) (by omega) (by omega) (by omega); omega
  · exact h (i - 1) (a - 1) b (by omega) (by omega) (by omega) (by omega)
  · exact h (i - 1) a (b - 1) (by omega) (by omega) (by omega) (by omega)
/-- One of the bounds is met. -/
theorem bndF_met (H A B : List Int) (v : Nat → Nat → Nat → Int) (i a b : Nat) : bndF H A B v i a b = 99 ∨ (i + a + b = 0 ∧ bndF H A B v i a b = 0) ∨ (0 < i ∧ bndF H A B v i a b = v (i - 1) a b + 1) ∨ (0 < a ∧ bndF H A B v i a b = v i (a - 1) b + 1) ∨ (0 < b ∧ bndF H A B v i a b = v i a (b - 1) + 1) ∨
    ((0 < i ∧ 0 < a ∧ H.getD (i - 1) 0 = A.getD (a - 1) 0) ∧ bndF H A B v i a b = v (i - 1) (a - 1) b) ∨ ((0 < i ∧ 0 < b ∧ H.getD (i - 1) 0 = B.getD (b - 1) 0) ∧ bndF H A B v i a b = v (i - 1) a (b - 1)) := by
  unfold bndF
  by_cases z : i + a + b = 0
  · rw [if_pos z]; exact .inr (.inl ⟨z, rfl⟩)
  · rw [if_neg z]
    have c4 := Decidable.em (0 < i ∧ 0 < a ∧ H.getD (i - 1) 0 = A.getD (a - 1) 0)
    have c5 := Decidable.em (0 < i ∧ 0 < b ∧ H.getD (i - 1) 0 = B.getD (b - 1) 0)
    generalize hx1 : (if 0 < i then v (i - 1) a b + 1 else 99) = x1
    generalize hx2 : (if 0 < a then v i (a - 1) b + 1 else 99) = x2
    generalize hx3 : (if 0 < b then v i a (b - 1) + 1 else 99) = x3
    generalize hx4 : (if 0 < i ∧ 0 < a ∧ H.getD (i - 1) 0 = A.getD (a - 1) 0 then v (i - 1) (a - 1) b else 99) = x4
    generalize hx5 : (if 0 < i ∧ 0 < b ∧ H.getD (i - 1) 0 = B.getD (b - 1) 0 then v (i - 1) a (b - 1) else 99) = x5
    have m : min (min (min (min (min 99 x1) x2) x3) x4) x5 = 99 ∨ min (min (min (min (min 99 x1) x2) x3) x4) x5 = x1 ∨ min (min (min (min (min 99 x1) x2) x3) x4) x5 = x2 ∨ min (min (min (min (min 99 x1) x2) x3) x4) x5 = x3 ∨ min (min (min (min (min 99 x1) x2) x3) x4) x5 = x4 ∨ min (min (min (min (min 99 x1) x2) x3) x4) x5 = x5 := by omega
    rcases m with m | m | m | m | m | m
    · exact .inl m
    · by_cases c : 0 < i
      · rw [if_pos c] at hx1; exact .inr (.inr (.inl ⟨c, by omega⟩))
      · rw [if_neg c] at hx1; exact .inl (by omega)
    · by_cases c : 0 < a
      · rw [if_pos c] at hx2; exact .inr (.inr (.inr (.inl ⟨c, by omega⟩)))
      · rw [if_neg c] at hx2; exact .inl (by omega)
    · by_cases c : 0 < b
      · rw [if_pos c] at hx3; exact .inr (.inr (.inr (.inr (.inl ⟨c, by omega⟩))))
      · rw [if_neg c] at hx3; exact .inl (by omega)
    · rcases c4 with c | c
      · rw [if_pos c] at hx4; exact .inr (.inr (.inr (.inr (.inr (.inl ⟨c, by omega⟩)))))
      · rw [if_neg c] at hx4; exact .inl (by omega)
    · rcases c5 with c | c
      · rw [if_pos c] at hx5; exact .inr (.inr (.inr (.inr (.inr (.inr ⟨c, by omega⟩)))))
      · rw [if_neg c] at hx5; exact .inl (by omega)
/-- Marks that hold. -/
def Holds3 (H A B : List Int) (v : Nat → Nat → Nat → Int) : Prop := ∀ i a b, i ≤ H.length → a ≤ A.length → b ≤ B.length → Stp3 H A B v i a b (v i a b)
theorem drop_at {l : List Int} {j : Nat} {w : Int} {r : List Int} (e : l.drop j = w :: r) : j < l.length ∧ l.getD j 0 = w ∧ l.drop (j + 1) = r := by
  have h : j < l.length := by
    rcases Nat.lt_or_ge j l.length with h | h
    · exact h
    · rw [List.drop_of_length_le h] at e; cases e
  rw [List.drop_eq_getElem_cons h] at e
  simp only [List.cons.injEq] at e
  exact ⟨h, by simp [List.getD, h, e.1], e.2⟩
/-- They are not greater than the faults of any reading. -/
theorem holds_path {H A B : List Int} {v : Nat → Nat → Nat → Int} (hv : Holds3 H A B v) : ∀ (n i j k : Nat) (R x y : List Int), n = (H.length - i) + (A.length - j) + (B.length - k) → i ≤ H.length → j ≤ A.length → k ≤ B.length → H.drop i = R → Rd R x y → x.Sublist (A.drop j) → y.Sublist (B.drop k) →
    v H.length A.length B.length ≤ v i j k + ((H.length : Int) - i + (A.length - j) + (B.length - k)) - 2 * (x.length + y.length)
  | 0, i, j, k, R, x, y, hn, hi, hj, hk, hR, hr, hx, hy => by
    obtain rfl : i = H.length := by omega
    obtain rfl : j = A.length := by omega
    obtain rfl : k = B.length := by omega
    rw [List.drop_length] at hx hy
    rw [List.sublist_nil.1 hx, List.sublist_nil.1 hy]
    simp
  | n + 1, i, j, k, R, x, y, hn, hi, hj, hk, hR, hr, hx, hy => by
    -- a word of the first text that is skipped
    have skA : ∀ z r, A.drop j = z :: r → x.Sublist r → v H.length A.length B.length ≤ v i j k + ((H.length : Int) - i + (A.length - j) + (B.length - k)) - 2 * (x.length + y.length) := fun z r e hs => by
      obtain ⟨h1, h2, h3⟩ := drop_at e
      have ih := holds_path hv n i (j + 1) k R x y (by omega) hi (by omega) hk hR hr (by rw [h3]; exact hs) hy
      have st := (hv i (j + 1) k hi (by omega) hk).sa (by omega)
      rw [Nat.add_sub_cancel] at st
      omega
    have skB : ∀ z r, B.drop k = z :: r → y.Sublist r → v H.length A.length B.length ≤ v i j k + ((H.length : Int) - i + (A.length - j) + (B.length - k)) - 2 * (x.length + y.length) := fun z r e hs => by
      obtain ⟨h1, h2, h3⟩ := drop_at e
      have ih := holds_path hv n i j (k + 1) R x y (by omega) hi hj (by omega) hR hr hx (by rw [h3]; exact hs)
      have st := (hv i j (k + 1) hi hj (by omega)).sb (by omega)
      rw [Nat.add_sub_cancel] at st
      omega
    cases hr with
    | nil =>
      -- nothing is heard any more
      cases eA : A.drop j with
      | cons z r => exact skA z r eA (List.nil_sublist _)
      | nil =>
        cases eB : B.drop k with
        | cons z r => exact skB z r eB (List.nil_sublist _)
        | nil =>
          have h1 := List.drop_eq_nil_iff.1 eA
          have h2 := List.drop_eq_nil_iff.1 eB
          have h3 := List.drop_eq_nil_iff.1 hR
          omega
    | @noise w H' _ _ s =>
      obtain ⟨h1, h2, h3⟩ := drop_at hR
      have ih := holds_path hv n (i + 1) j k H' x y (by omega) (by omega) hj hk h3 s hx hy
      have st := (hv (i + 1) j k (by omega) hj hk).sh (by omega)
      rw [Nat.add_sub_cancel] at st
      omega
    | @ta w H' x' _ s =>
      cases eA : A.drop j with
      | nil => rw [eA] at hx; cases hx
      | cons z r =>
        rw [eA] at hx
        cases hx with
        | cons _ hs => exact skA z r eA hs
        | cons_cons _ hs =>
          obtain ⟨h1, h2, h3⟩ := drop_at hR
          obtain ⟨g1, g2, g3⟩ := drop_at eA
          have ih := holds_path hv (n - 1) (i + 1) (j + 1) k H' x' y (by omega) (by omega) (by omega) hk h3 s (by rw [g3]; exact hs) hy
          have st := (hv (i + 1) (j + 1) k (by omega) (by omega) hk).sha (by omega) (by omega) (by rw [Nat.add_sub_cancel, Nat.add_sub_cancel, h2, g2])
          rw [Nat.add_sub_cancel, Nat.add_sub_cancel] at st
          rw [List.length_cons]
          omega
    | @tb w H' _ y' s =>
      cases eB : B.drop k with
      | nil => rw [eB] at hy; cases hy
      | cons z r =>
        rw [eB] at hy
        cases hy with
        | cons _ hs => exact skB z r eB hs
        | cons_cons _ hs =>
          obtain ⟨h1, h2, h3⟩ := drop_at hR
          obtain ⟨g1, g2, g3⟩ := drop_at eB
          have ih := holds_path hv (n - 1) (i + 1) j (k + 1) H' x y' (by omega) (by omega) hj (by omega) h3 s hx (by rw [g3]; exact hs)
          have st := (hv (i + 1) j (k + 1) (by omega) hj (by omega)).shb (by omega) (by omega) (by rw [Nat.add_sub_cancel, Nat.add_sub_cancel, h2, g2])
          rw [Nat.add_sub_cancel, Nat.add_sub_cancel] at st
          rw [List.length_cons]
          omega
theorem holds_le {H A B : List Int} {v : Nat → Nat → Nat → Int} (hv : Holds3 H A B v) : v H.length A.length B.length ≤ leastV H A B := by
  obtain ⟨a, b, h1, h2, h3, h4⟩ := leastV_has H A B
  have := holds_path hv _ 0 0 0 H a b rfl (by omega) (by omega) (by omega) rfl h1 h2 h3
  have h0 := (hv 0 0 0 (by omega) (by omega) (by omega)).sz rfl
  omega
theorem Rd.snoc (w : Int) {H a b : List Int} (s : Rd H a b) : Rd (H ++ [w]) a b ∧ Rd (H ++ [w]) (a ++ [w]) b ∧ Rd (H ++ [w]) a (b ++ [w]) := by
  induction s with
  | nil => exact ⟨.noise w .nil, .ta w .nil, .tb w .nil⟩
  | noise z _ ih => exact ⟨.noise z ih.1, .noise z ih.2.1, .noise z ih.2.2⟩
  | ta z _ ih => exact ⟨.ta z ih.1, .ta z ih.2.1, .ta z ih.2.2⟩
  | tb z _ ih => exact ⟨.tb z ih.1, .tb z ih.2.1, .tb z ih.2.2⟩
theorem take_snoc {l : List Int} {i : Nat} (h : i < l.length) : l.take (i + 1) = l.take i ++ [l.getD i 0] := by
  rw [List.take_add_one]; simp [List.getD, h]
/-- Marks that are as great as can be. -/
theorem fix_ge {H A B : List Int} {v : Nat → Nat → Nat → Int} (hb : H.length + A.length + B.length ≤ 99) (hv : ∀ i a b, i ≤ H.length → a ≤ A.length → b ≤ B.length → v i a b = bndF H A B v i a b) : ∀ (n i j k : Nat), n = i + j + k → i ≤ H.length → j ≤ A.length → k ≤ B.length →
    ∃ x y, Rd (H.take i) x y ∧ x.Sublist (A.take j) ∧ y.Sublist (B.take k) ∧ ((i : Int) + j + k) - 2 * (x.length + y.length) ≤ v i j k := by
  intro n
  induction n using Nat.strongRecOn with
  | ind n ih => ?_
  intro i j k hn hi hj hk
  have e := hv i j k hi hj hk
  have sA : ∀ {x : List Int} {j : Nat}, 0 < j → x.Sublist (A.take (j - 1)) → x.Sublist (A.take j) := fun hj h => h.trans (List.take_sublist_take_left (by omega))
  have sB : ∀ {x : List Int} {j : Nat}, 0 < j → x.Sublist (B.take (j - 1)) → x.Sublist (B.take j) := fun hj h => h.trans (List.take_sublist_take_left (by omega))
  rcases bndF_met H A B v i j k with m | ⟨z, m⟩ | ⟨c, m⟩ | ⟨c, m⟩ | ⟨c, m⟩ | ⟨⟨c1, c2, c3⟩, m⟩ | ⟨⟨c1, c2, c3⟩, m⟩
  · exact ⟨[], [], Rd.none _, List.nil_sublist _, List.nil_sublist _, by simp only [List.length_nil]; omega⟩
  · exact ⟨[], [], Rd.none _, List.nil_sublist _, List.nil_sublist _, by simp only [List.length_nil]; omega⟩
  · obtain ⟨x, y, h1, h2, h3, h4⟩ := ih (n - 1) (by omega) (i - 1) j k (by omega) (by omega) hj hk
    obtain ⟨i', rfl⟩ : ∃ i', i = i' + 1 := ⟨i - 1, by omega⟩
    rw [Nat.add_sub_cancel] at h1 h4 m
    exact ⟨x, y, by rw [take_snoc (by omega)]; exact (h1.snoc _).1, h2, h3, by omega⟩
  · obtain ⟨x, y, h1, h2, h3, h4⟩ := ih (n - 1) (by omega) i (j - 1) k (by omega) hi (by omega) hk
    exact ⟨x, y, h1, sA c h2, h3, by omega⟩
  · obtain ⟨x, y, h1, h2, h3, h4⟩ := ih (n - 1) (by omega) i j (k - 1) (by omega) hi hj (by omega)
    exact ⟨x, y, h1, h2, sB c h3, by omega⟩
  · obtain ⟨x, y, h1, h2, h3, h4⟩ := ih (n - 2) (by omega) (i - 1) (j - 1) k (by omega) (by omega) (by omega) hk
    obtain ⟨i', rfl⟩ : ∃ i', i = i' + 1 := ⟨i - 1, by omega⟩
    obtain ⟨j', rfl⟩ : ∃ j', j = j' + 1 := ⟨j - 1, by omega⟩
    simp only [Nat.add_sub_cancel] at h1 h2 h4 m c3
    refine ⟨x ++ [H.getD i' 0], y, by rw [take_snoc (by omega)]; exact (h1.snoc _).2.1, ?_, h3, by rw [List.length_append, List.length_singleton]; omega⟩
    rw [take_snoc (by omega), c3]
    exact h2.append (List.Sublist.refl _)
  · obtain ⟨x, y, h1, h2, h3, h4⟩ := ih (n - 2) (by omega) (i - 1) j (k - 1) (by omega) (by omega) hj (by omega)
    obtain ⟨i', rfl⟩ : ∃ i', i = i' + 1 := ⟨i - 1, by omega⟩
    obtain ⟨k', rfl⟩ : ∃ k', k = k' + 1 := ⟨k - 1, by omega⟩
    simp only [Nat.add_sub_cancel] at h1 h3 h4 m c3
    refine ⟨x, y ++ [H.getD i' 0], by rw [take_snoc (by omega)]; exact (h1.snoc _).2.2, h2, ?_, by rw [List.length_append, List.length_singleton]; omega⟩
    rw [take_snoc (by omega), c3]
    exact h3.append (List.Sublist.refl _)
theorem fix_least {H A B : List Int} {v : Nat → Nat → Nat → Int} (hb : H.length + A.length + B.length ≤ 99) (hv : ∀ i a b, i ≤ H.length → a ≤ A.length → b ≤ B.length → v i a b = bndF H A B v i a b) : v H.length A.length B.length = leastV H A B := by
  obtain ⟨x, y, h1, h2, h3, h4⟩ := fix_ge hb hv _ H.length A.length B.length rfl (by omega) (by omega) (by omega)
  rw [List.take_length] at h1 h2 h3
  have g1 := leastV_le h1 h2 h3
  have g2 := holds_le (v := v) (fun i a b hi ha hb' => (le_bndF (by rw [hv i a b hi ha hb']; exact bndF_le i a b)).1 (by rw [← hv i a b hi ha hb']; exact Int.le_refl _))
  omega
end Go.Proofs.Ytfcnhnbnjdccfaa

namespace Go.Proofs.Ytfcnhnbnjdccfaa
set_option linter.all false
open Go

/-- Blocks that are frozen at once. -/
def frzM (M : Nat → Option Obj) (S : List Nat) (n : Nat) (w : World) : Nat → Option Obj := fun b => match M b with
  | some o => some o
  | none => if b ∈ S ∨ n ≤ b then (match w.heap[b]? with | some o => if isCel o then some o else none | none => none) else none
theorem frzM_mono {M : Nat → Option Obj} {S : List Nat} {n : Nat} {w : World} (b : Nat) (o : Obj) (h : M b = some o) : frzM M S n w b = some o := by
  unfold frzM; rw [h]
theorem frzM_new {M : Nat → Option Obj} {S : List Nat} {n : Nat} {w : World} {b : Nat} {cs : Array Value} {ty : TypeId} {z : Nat × Nat} (h : M b = none) (hb : b ∈ S ∨ n ≤ b) (hw : w.heap[b]? = some (.cells cs ty z)) : frzM M S n w b = some (.cells cs ty z) := by
  unfold frzM; rw [h]; simp only [if_pos hb, hw, isCel]; rfl
theorem frzM_inv {M : Nat → Option Obj} {S : List Nat} {n : Nat} {w : World} {b : Nat} {o : Obj} (h : frzM M S n w b = some o) : M b = some o ∨ (M b = none ∧ (b ∈ S ∨ n ≤ b) ∧ w.heap[b]? = some o ∧ isCel o = true) := by
  unfold frzM at h
  cases e : M b with
  | some o' => rw [e] at h; exact .inl h
  | none =>
    rw [e] at h
    dsimp only at h
    split at h
    · rename_i hb
      split at h
      · rename_i o' hw
        split at h
        · rename_i hc
          cases h
          exact .inr ⟨rfl, hb, hw, hc⟩
        · cases h
      · cases h
    · cases h
theorem has_mem {tm : Array Value} : ∀ (L : Tms), (∀ p ∈ L, tm.getD p.1 undef = p.2) → ∀ t v, L.lookup t = some v → tm.getD t undef = v
  | [], _, t, v, h => by simp at h
  | p :: L, hL, t, v, h => by
    rw [List.lookup_cons] at h
    split at h
    · rename_i e
      have := hL p (by simp)
      simp only [beq_iff_eq] at e
      rw [e]
      simp only [Option.some.injEq] at h
      rw [← h]; exact this
    · exact has_mem L (fun q hq => hL q (by simp [hq])) t v h
end Go.Proofs.Ytfcnhnbnjdccfaa
namespace Go.Proofs.Ytfcnhnbnjdccfaa
set_option linter.all false
open Go

theorem Upd.trans_old {S T : List Nat} {a b c : World} (h : Upd S a b) (k : Upd T b c) (hT : ∀ x ∈ T, a.heap.size ≤ x) : Upd S a c :=
  ⟨k.os.trans h.os, k.tape.trans h.tape, k.output.trans h.output, Nat.le_trans h.size k.size, fun i hi hs => (k.same i (Nat.lt_of_lt_of_le hi h.size) (fun hk => by have := hT i hk; omega)).trans (h.same i hi hs)⟩
end Go.Proofs.Ytfcnhnbnjdccfaa
namespace Go.Proofs.Ytfcnhnbnjdccfaa
set_option linter.all false
open Go

/-- Rows of our own, each in a block of its own, from lo on, one behind the other. -/
def RowsR (w : World) : Nat → Nat → List Value → List (List Int) → Prop
  | lo, hi, [], [] => lo ≤ hi
  | lo, hi, v :: vs, r :: F => ∃ b ty, v = .slice (some ⟨b, 0, none⟩) r.length r.length ∧ lo ≤ b ∧ (∀ x ∈ r, inR .i64 x) ∧ r.length ≤ 1000 ∧ Blk w b (r.map (.int .i64)) ty ∧ RowsR w (b + 1) hi vs F
  | _, _, _, _ => False
theorem RowsR.le {w : World} : ∀ {vs : List Value} {F : List (List Int)} {lo hi : Nat}, RowsR w lo hi vs F → lo ≤ hi
  | [], [], _, _, h => h
  | [], _ :: _, _, _, h => h.elim
  | _ :: _, [], _, _, h => h.elim
  | v :: vs, r :: F, lo, hi, ⟨b, ty, _, h1, _, _, _, h⟩ => by have := RowsR.le h; omega
theorem RowsR.len {w : World} : ∀ {vs : List Value} {F : List (List Int)} {lo hi : Nat}, RowsR w lo hi vs F → vs.length = F.length
  | [], [], _, _, _ => rfl
  | [], _ :: _, _, _, h => h.elim
  | _ :: _, [], _, _, h => h.elim
  | v :: vs, r :: F, lo, hi, ⟨b, ty, _, h1, _, _, _, h⟩ => by simp [RowsR.len h]
theorem RowsR.upd {w w' : World} {T : List Nat} (hu : Upd T w w') : ∀ {vs : List Value} {F : List (List Int)} {lo hi : Nat}, RowsR w lo hi vs F → (∀ k ∈ T, k < lo ∨ hi ≤ k) → RowsR w' lo hi vs F
  | [], [], _, _, h, _ => h
  | [], _ :: _, _, _, h, _ => h.elim
  | _ :: _, [], _, _, h, _ => h.elim
  | v :: vs, r :: F, lo, hi, ⟨b, ty, e, h1, h2, h3, h4, h⟩, hT => by
    have hle := RowsR.le h
    exact ⟨b, ty, e, h1, h2, h3, hu.blk h4 (fun hb => by have := hT b hb; omega), RowsR.upd hu h (fun k hk => by have := hT k hk; omega)⟩
theorem RowsR.hi {w : World} : ∀ {vs : List Value} {F : List (List Int)} {lo hi hi' : Nat}, RowsR w lo hi vs F → hi ≤ hi' → RowsR w lo hi' vs F
  | [], [], _, _, _, h, h' => Nat.le_trans h h'
  | [], _ :: _, _, _, _, h, _ => h.elim
  | _ :: _, [], _, _, _, h, _ => h.elim
  | v :: vs, r :: F, lo, hi, hi', ⟨b, ty, e, h1, h2, h3, h4, h⟩, h' => ⟨b, ty, e, h1, h2, h3, h4, RowsR.hi h h'⟩
theorem RowsR.snoc {w : World} {b : Nat} {ty : TypeId} {r : List Int} (hi2 : ∀ x ∈ r, inR .i64 x) (hr : r.length ≤ 1000) (hB : Blk w b (r.map (.int .i64)) ty) : ∀ {vs : List Value} {F : List (List Int)} {lo hi : Nat}, RowsR w lo hi vs F → hi ≤ b → RowsR w lo (b + 1) (vs ++ [.slice (some ⟨b, 0, none⟩) r.length r.length]) (F ++ [r])
  | [], [], lo, hi, h, hb => ⟨b, ty, rfl, Nat.le_trans h hb, hi2, hr, hB, Nat.le_refl _⟩
  | [], _ :: _, _, _, h, _ => h.elim
  | _ :: _, [], _, _, h, _ => h.elim
  | v :: vs, q :: F, lo, hi, ⟨b', ty', e, h1, h2, h3, h4, h⟩, hb => ⟨b', ty', e, h1, h2, h3, h4, RowsR.snoc hi2 hr hB h hb⟩
/-- One row. -/
theorem RowsR.at {w : World} : ∀ {vs : List Value} {F : List (List Int)} {lo hi a : Nat}, RowsR w lo hi vs F → a < F.length → ∃ b ty, vs[a]? = some (.slice (some ⟨b, 0, none⟩) (F.getD a []).length (F.getD a []).length) ∧ (lo ≤ b ∧ b < hi) ∧ (∀ x ∈ F.getD a [], inR .i64 x) ∧ (F.getD a []).length ≤ 1000 ∧ Blk w b ((F.getD a []).map (.int .i64)) ty ∧
    ∀ w' r', r'.length = (F.getD a []).length → (∀ x ∈ r', inR .i64 x) → Upd [b] w w' → Blk w' b (r'.map (.int .i64)) ty → RowsR w' lo hi vs (F.set a r')
  | [], [], _, _, _, _, h => by simp at h
  | [], _ :: _, _, _, _, h, _ => h.elim
  | _ :: _, [], _, _, _, h, _ => h.elim
  | v :: vs, r :: F, lo, hi, 0, ⟨b, ty, e, h1, h2, h3, h4, h⟩, _ => by
    have hle := RowsR.le h
    refine ⟨b, ty, by rw [e]; rfl, ⟨h1, by omega⟩, h2, h3, h4, fun w' r' hr hi' hu hB => ?_⟩
    have hr : r'.length = r.length := hr
    exact ⟨b, ty, by rw [e, hr], h1, hi', by omega, hB, RowsR.upd hu h (fun k hk => by simp at hk; omega)⟩
  | v :: vs, r :: F, lo, hi, a + 1, ⟨b, ty, e, h1, h2, h3, h4, h⟩, ha => by
    obtain ⟨b', ty', g1, g2, g3, g4, g5, g6⟩ := RowsR.at h (by simpa using ha : a < F.length)
    refine ⟨b', ty', g1, ⟨by omega, g2.2⟩, g3, g4, g5, fun w' r' hr hi' hu hB => ?_⟩
    exact ⟨b, ty, e, h1, h2, h3, hu.blk h4 (by simp; omega), g6 w' r' hr hi' hu hB⟩
/-- Lists of rows of our own. -/
def MidsR (w : World) : Nat → Nat → List Value → List (List (List Int)) → Prop
  | lo, hi, [], [] => lo ≤ hi
  | lo, hi, u :: us, F :: X => ∃ m vs mid ty, u = .slice (some ⟨m, 0, none⟩) F.length F.length ∧ lo ≤ m ∧ F.length ≤ 1000 ∧ Blk w m vs ty ∧ RowsR w (m + 1) mid vs F ∧ MidsR w mid hi us X
  | _, _, _, _ => False
theorem MidsR.le {w : World} : ∀ {us : List Value} {X : List (List (List Int))} {lo hi : Nat}, MidsR w lo hi us X → lo ≤ hi
  | [], [], _, _, h => h
  | [], _ :: _, _, _, h => h.elim
  | _ :: _, [], _, _, h => h.elim
  | u :: us, F :: X, lo, hi, ⟨m, vs, mid, ty, _, h1, _, _, h2, h⟩ => by have := RowsR.le h2; have := MidsR.le h; omega
theorem MidsR.len {w : World} : ∀ {us : List Value} {X : List (List (List Int))} {lo hi : Nat}, MidsR w lo hi us X → us.length = X.length
  | [], [], _, _, _ => rfl
  | [], _ :: _, _, _, h => h.elim
  | _ :: _, [], _, _, h => h.elim
  | u :: us, F :: X, lo, hi, ⟨m, vs, mid, ty, _, h1, _, _, h2, h⟩ => by simp [MidsR.len h]
theorem MidsR.upd {w w' : World} {T : List Nat} (hu : Upd T w w') : ∀ {us : List Value} {X : List (List (List Int))} {lo hi : Nat}, MidsR w lo hi us X → (∀ k ∈ T, k < lo ∨ hi ≤ k) → MidsR w' lo hi us X
  | [], [], _, _, h, _ => h
  | [], _ :: _, _, _, h, _ => h.elim
  | _ :: _, [], _, _, h, _ => h.elim
  | u :: us, F :: X, lo, hi, ⟨m, vs, mid, ty, e, h1, h2, h3, h4, h⟩, hT => by
    have l1 := RowsR.le h4
    have l2 := MidsR.le h
    exact ⟨m, vs, mid, ty, e, h1, h2, hu.blk h3 (fun hb => by have := hT m hb; omega), RowsR.upd hu h4 (fun k hk => by have := hT k hk; omega), MidsR.upd hu h (fun k hk => by have := hT k hk; omega)⟩
theorem MidsR.snoc {w : World} {m hi2 : Nat} {vs : List Value} {ty : TypeId} {F : List (List Int)} (hF : F.length ≤ 1000) (hB : Blk w m vs ty) (hR : RowsR w (m + 1) hi2 vs F) : ∀ {us : List Value} {X : List (List (List Int))} {lo hi : Nat}, MidsR w lo hi us X → hi ≤ m → MidsR w lo hi2 (us ++ [.slice (some ⟨m, 0, none⟩) F.length F.length]) (X ++ [F])
  | [], [], lo, hi, h, hb => ⟨m, vs, hi2, ty, rfl, Nat.le_trans h hb, hF, hB, hR, Nat.le_refl _⟩
  | [], _ :: _, _, _, h, _ => h.elim
  | _ :: _, [], _, _, h, _ => h.elim
  | u :: us, F' :: X, lo, hi, ⟨m', vs', mid, ty', e, h1, h2, h3, h4, h⟩, hb => ⟨m', vs', mid, ty', e, h1, h2, h3, h4, MidsR.snoc hF hB hR h hb⟩
/-- One list of rows. -/
theorem MidsR.at {w : World} : ∀ {us : List Value} {X : List (List (List Int))} {lo hi i : Nat}, MidsR w lo hi us X → i < X.length → ∃ m vs mid ty, us[i]? = some (.slice (some ⟨m, 0, none⟩) (X.getD i []).length (X.getD i []).length) ∧ (lo ≤ m ∧ mid ≤ hi) ∧ (X.getD i []).length ≤ 1000 ∧ Blk w m vs ty ∧ RowsR w (m + 1) mid vs (X.getD i []) ∧
    ∀ w' F' T, F'.length = (X.getD i []).length → Upd T w w' → (∀ k ∈ T, m < k ∧ k < mid) → RowsR w' (m + 1) mid vs F' → MidsR w' lo hi us (X.set i F')
  | [], [], _, _, _, _, h => by simp at h
  | [], _ :: _, _, _, _, h, _ => h.elim
  | _ :: _, [], _, _, _, h, _ => h.elim
  | u :: us, F :: X, lo, hi, 0, ⟨m, vs, mid, ty, e, h1, h2, h3, h4, h⟩, _ => by
    have l1 := RowsR.le h4
    have l2 := MidsR.le h
    refine ⟨m, vs, mid, ty, by rw [e]; rfl, ⟨h1, l2⟩, h2, h3, h4, fun w' F' T hF hu hT hR => ?_⟩
    have hF : F'.length = F.length := hF
    exact ⟨m, vs, mid, ty, by rw [e, hF], h1, by omega, hu.blk h3 (fun hb => by have := hT m hb; omega), hR, MidsR.upd hu h (fun k hk => by have := hT k hk; omega)⟩
  | u :: us, F :: X, lo, hi, i + 1, ⟨m, vs, mid, ty, e, h1, h2, h3, h4, h⟩, hi2 => by
    obtain ⟨m', vs', mid', ty', g1, g2, g3, g4, g5, g6⟩ := MidsR.at h (by simpa using hi2 : i < X.length)
    have l1 := RowsR.le h4
    refine ⟨m', vs', mid', ty', g1, ⟨by omega, g2.2⟩, g3, g4, g5, fun w' F' T hF hu hT hR => ?_⟩
    exact ⟨m, vs, mid, ty, e, h1, h2, hu.blk h3 (fun hb => by have := hT m hb; omega), RowsR.upd hu h4 (fun k hk => by have := hT k hk; omega), g6 w' F' T hF hu hT hR⟩
/-- Frozen, they are plain data. -/
theorem RowsR.rep {M : Nat → Option Obj} {n : Nat} {w : World} {F : List (List Int)} {vs : List Value} {m lo hi : Nat} {ty : TypeId} (h : RowsR w lo hi vs F) (hB : Blk w m vs ty) (hM : ∀ b o, M b = some o → b < n) (hn : n ≤ lo) (hm : n ≤ m) (hF : F.length ≤ 1000) :
    RepS (frzM M [] n w) 1 (RepC (frzM M [] n w) (.sl (.int .i64))) F (.slice (some ⟨m, 0, none⟩) F.length F.length) := by
  have nn : ∀ b, n ≤ b → M b = none := fun b hb => by
    cases e : M b with
    | none => rfl
    | some o => have := hM b o e; omega
  refine ⟨by omega, _, _, rfl, Nat.le_refl _, .inr ⟨m, 0, vs, (ty, (0, 0)), rfl, frzM_new (nn m hm) (.inr hm) hB, fun i x hx => ?_⟩⟩
  obtain ⟨hi', rfl⟩ := List.getElem?_eq_some_iff.1 hx
  obtain ⟨b, ty', g1, g2, g3, g4, g5, -⟩ := h.at hi'
  have e : F.getD i [] = F[i] := by simp [List.getD_eq_getElem?_getD, List.getElem?_eq_getElem hi']
  rw [e] at g1 g3 g4 g5
  refine ⟨[.slice (some ⟨b, 0, none⟩) F[i].length F[i].length], fun j u hj => ?_, _, rfl, ?_⟩
  · cases j with
    | zero =>
      simp only [List.getElem?_cons_zero, Option.some.injEq] at hj
      subst hj
      simpa using g1
    | succ j => simp at hj
  · refine ⟨by omega, _, _, rfl, Nat.le_refl _, .inr ⟨b, 0, _, (ty', (0, 0)), rfl, frzM_new (nn b (by omega)) (.inr (by omega)) g5, fun k x hk => ?_⟩⟩
    refine ⟨[.int .i64 x], fun j u hj => ?_, rfl, g3 x (List.mem_of_getElem? hk)⟩
    cases j with
    | zero =>
      simp only [List.getElem?_cons_zero, Option.some.injEq] at hj
      subst hj
      simp [Ty.cells, hk]
    | succ j => simp at hj
theorem MidsR.rep {M : Nat → Option Obj} {n : Nat} {w : World} {X : List (List (List Int))} {us : List Value} {bo lo hi : Nat} {ty : TypeId} (h : MidsR w lo hi us X) (hB : Blk w bo us ty) (hM : ∀ b o, M b = some o → b < n) (hn : n ≤ lo) (hm : n ≤ bo) (hX : X.length ≤ 1000) :
    RepS (frzM M [] n w) 1 (RepC (frzM M [] n w) (.sl (.sl (.int .i64)))) X (.slice (some ⟨bo, 0, none⟩) X.length X.length) := by
  have nn : ∀ b, n ≤ b → M b = none := fun b hb => by
    cases e : M b with
    | none => rfl
    | some o => have := hM b o e; omega
  refine ⟨by omega, _, _, rfl, Nat.le_refl _, .inr ⟨bo, 0, us, (ty, (0, 0)), rfl, frzM_new (nn bo hm) (.inr hm) hB, fun i x hx => ?_⟩⟩
  obtain ⟨hi', rfl⟩ := List.getElem?_eq_some_iff.1 hx
  obtain ⟨m, vs, mid, ty', g1, g2, g3, g4, g5, -⟩ := h.at hi'
  have e : X.getD i [] = X[i] := by simp [List.getD_eq_getElem?_getD, List.getElem?_eq_getElem hi']
  rw [e] at g1 g3 g5
  refine ⟨[.slice (some ⟨m, 0, none⟩) X[i].length X[i].length], fun j u hj => ?_, _, rfl, g5.rep g4 hM (by omega) (by omega) g3⟩
  cases j with
  | zero =>
    simp only [List.getElem?_cons_zero, Option.some.injEq] at hj
    subst hj
    simpa using g1
  | succ j => simp at hj
end Go.Proofs.Ytfcnhnbnjdccfaa

namespace Go.Proofs.Ytfcnhnbnjdccfaa
set_option linter.all false
open Go

noncomputable def c111 : Code := (Try.f111.body).getD .skip
noncomputable def K111_0 : List Item := [.code (sub c111 [0]), .code (sub c111 [1])]
noncomputable def K111_1 : List Item := [.code (sub c111 [1, 0]), .code (sub c111 [1, 1])]
noncomputable def K111_2 : List Item := [.code (sub c111 [1, 1, 0, 0]), .code (sub c111 [1, 1, 0, 1]), .code (sub c111 [1, 1, 1])]
noncomputable def K111_3 : List Item := [.code (sub c111 [1, 1, 0, 1, 0, 0, 0]), .code (sub c111 [1, 1, 0, 1, 0, 0, 1]), .inLoop (sub c111 [1, 1, 0, 1, 0, 0]), .inBlock 0, .code (sub c111 [1, 1, 1])]
noncomputable def K111_4 : List Item := [.code (sub c111 [1, 1, 0, 1, 0, 0, 1, 0]), .code (sub c111 [1, 1, 0, 1, 0, 0, 1, 1]), .inLoop (sub c111 [1, 1, 0, 1, 0, 0]), .inBlock 0, .code (sub c111 [1, 1, 1])]
noncomputable def K111_5 : List Item := [.code (sub c111 [1, 1, 0, 1, 0, 0, 1, 1, 0, 0, 0]), .code (sub c111 [1, 1, 0, 1, 0, 0, 1, 1, 0, 0, 1]), .inBlock 1, .code (sub c111 [1, 1, 0, 1, 0, 0, 1, 1, 1]), .inLoop (sub c111 [1, 1, 0, 1, 0, 0]), .inBlock 0, .code (sub c111 [1, 1, 1])]
noncomputable def K111_6 : List Item := [.code (sub c111 [1, 1, 1, 0]), .code (sub c111 [1, 1, 1, 1])]
noncomputable def K111_7 : List Item := [.code (sub c111 [1, 1, 0, 1, 0, 0, 1, 1, 0, 0, 1, 0]), .code (sub c111 [1, 1, 0, 1, 0, 0, 1, 1, 0, 0, 1, 1]), .inBlock 1, .code (sub c111 [1, 1, 0, 1, 0, 0, 1, 1, 1]), .inLoop (sub c111 [1, 1, 0, 1, 0, 0]), .inBlock 0, .code (sub c111 [1, 1, 1])]
noncomputable def K111_8 : List Item := [.code (sub c111 [1, 1, 1, 1])]
noncomputable def K111_9 : List Item := [.code (sub c111 [1, 1, 0, 1, 0, 0, 1, 1, 0, 0, 1, 1, 0]), .code (sub c111 [1, 1, 0, 1, 0, 0, 1, 1, 0, 0, 1, 1, 1]), .inBlock 1, .code (sub c111 [1, 1, 0, 1, 0, 0, 1, 1, 1]), .inLoop (sub c111 [1, 1, 0, 1, 0, 0]), .inBlock 0, .code (sub c111 [1, 1, 1])]
noncomputable def K111_10 : List Item := [.code (sub c111 [1, 1, 0, 1, 0, 0, 1, 1, 0, 0, 1, 1, 1, 0, 0, 0]), .code (sub c111 [1, 1, 0, 1, 0, 0, 1, 1, 0, 0, 1, 1, 1, 0, 0, 1]), .inLoop (sub c111 [1, 1, 0, 1, 0, 0, 1, 1, 0, 0, 1, 1, 1, 0, 0]), .inBlock 2, .inBlock 1, .code (sub c111 [1, 1, 0, 1, 0, 0, 1, 1, 1]), .inLoop (sub c111 [1, 1, 0, 1, 0, 0]), .inBlock 0, .code (sub c111 [1, 1, 1])]
noncomputable def K111_11 : List Item := [.code (sub c111 [1, 1, 0, 1, 0, 0, 1, 1, 0, 0, 1, 1, 1, 0, 0, 1, 0]), .code (sub c111 [1, 1, 0, 1, 0, 0, 1, 1, 0, 0, 1, 1, 1, 0, 0, 1, 1]), .inLoop (sub c111 [1, 1, 0, 1, 0, 0, 1, 1, 0, 0, 1, 1, 1, 0, 0]), .inBlock 2, .inBlock 1, .code (sub c111 [1, 1, 0, 1, 0, 0, 1, 1, 1]), .inLoop (sub c111 [1, 1, 0, 1, 0, 0]), .inBlock 0, .code (sub c111 [1, 1, 1])]
noncomputable def K111_12 : List Item := [.code (sub c111 [1, 1, 0, 1, 0, 0, 1, 1, 0, 0, 1, 1, 1, 0, 0, 1, 1, 0, 0, 0]), .code (sub c111 [1, 1, 0, 1, 0, 0, 1, 1, 0, 0, 1, 1, 1, 0, 0, 1, 1, 0, 0, 1]), .inBlock 3, .code (sub c111 [1, 1, 0, 1, 0, 0, 1, 1, 0, 0, 1, 1, 1, 0, 0, 1, 1, 1]), .inLoop (sub c111 [1, 1, 0, 1, 0, 0, 1, 1, 0, 0, 1, 1, 1, 0, 0]), .inBlock 2, .inBlock 1, .code (sub c111 [1, 1, 0, 1, 0, 0, 1, 1, 1]), .inLoop (sub c111 [1, 1, 0, 1, 0, 0]), .inBlock 0, .code (sub c111 [1, 1, 1])]
noncomputable def K111_13 : List Item := [.code (sub c111 [1, 1, 0, 1, 0, 0, 1, 1, 1]), .inLoop (sub c111 [1, 1, 0, 1, 0, 0]), .inBlock 0, .code (sub c111 [1, 1, 1])]
noncomputable def K111_14 : List Item := [.code (sub c111 [1, 1, 0, 1, 0, 0, 1, 1, 0, 0, 1, 1, 1, 0, 0, 1, 1, 0, 0, 1]), .inBlock 3, .code (sub c111 [1, 1, 0, 1, 0, 0, 1, 1, 0, 0, 1, 1, 1, 0, 0, 1, 1, 1]), .inLoop (sub c111 [1, 1, 0, 1, 0, 0, 1, 1, 0, 0, 1, 1, 1, 0, 0]), .inBlock 2, .inBlock 1, .code (sub c111 [1, 1, 0, 1, 0, 0, 1, 1, 1]), .inLoop (sub c111 [1, 1, 0, 1, 0, 0]), .inBlock 0, .code (sub c111 [1, 1, 1])]
noncomputable def K111_15 : List Item := [.code (sub c111 [1, 1, 0, 1, 0, 0, 1, 1, 0, 0, 1, 1, 1, 0, 0, 1, 1, 1]), .inLoop (sub c111 [1, 1, 0, 1, 0, 0, 1, 1, 0, 0, 1, 1, 1, 0, 0]), .inBlock 2, .inBlock 1, .code (sub c111 [1, 1, 0, 1, 0, 0, 1, 1, 1]), .inLoop (sub c111 [1, 1, 0, 1, 0, 0]), .inBlock 0, .code (sub c111 [1, 1, 1])]

def zeros2 (A B : Nat) : List (List Int) := List.replicate A (List.replicate B 0)
def zeros3 (I A B : Nat) : List (List (List Int)) := List.replicate I (zeros2 A B)
theorem zeros_in (B : Nat) : ∀ x ∈ List.replicate B (0 : Int), inR .i64 x := fun x hx => by
  rw [(List.mem_replicate.1 hx).2]; constructor <;> decide
theorem addI {n : Nat} (h : n ≤ 900) : Value.int .i64 (IntKind.i64.wrap ((n : Int) + 1)) = .int .i64 ((n + 1 : Nat) : Int) := by
  have := int64 (z := (n : Int) + 1) (by omega)
  rw [this]; congr 1
theorem flat_one {v : Value} (hv : v.cells.toList = [v]) (n : Nat) : (List.replicate n v.cells.toList).flatten = List.replicate n v := by
  rw [hv]
  induction n with
  | zero => rfl
  | succ k ih => rw [List.replicate_succ, List.flatten_cons, ih]; rfl
set_option maxHeartbeats 1000000 in
theorem sized_in {X : Ctx} {df : List Deferred} (bd od m bo nH nA nB cB i : Nat) (aB : Option Addr) (us : List Value) (tyM tyO : TypeId) (w0 : World) (hnB : nB ≤ 900) (hnA : nA ≤ 900) (hi : i < nH + 1) (hdm : bd ≠ m) (hom : bo ≠ m) (hcB : w0.cell? ⟨bd, od + 4, none⟩ = some (.slice aB nB cB)) (hO : Blk w0 bo us tyO) (hui : us[i]? = some (.slice (some ⟨m, 0, none⟩) (nA + 1) (nA + 1))) (hM : Blk w0 m (List.replicate (nA + 1) (.slice none 0 0)) tyM) (hsz : w0.heap.size = m + 1)
    (hk : ∀ vs w, Upd [m] w0 w → Blk w m vs tyM → RowsR w (m + 1) w.heap.size vs (zeros2 (nA + 1) (nB + 1)) → St Try.prog X 58 K111_13 [(0, (.pointer (some ⟨bd, od, none⟩))), (3, (.slice (some ⟨bo, 0, none⟩) (nH + 1) (nH + 1))), (20, (.int .i64 ((nH + 1 : Nat) : Int))), (21, (.int .i64 (i : Int)))] df w) :
    St Try.prog X 58 K111_10 [(39, .int .i64 0), (38, (.int .i64 ((nA + 1 : Nat) : Int))), (0, (.pointer (some ⟨bd, od, none⟩))), (3, (.slice (some ⟨bo, 0, none⟩) (nH + 1) (nH + 1))), (20, (.int .i64 ((nH + 1 : Nat) : Int))), (21, (.int .i64 (i : Int))), (4, (.int .i64 (i : Int)))] df w0 := by
  obtain ⟨-, -, by1, zv, hT, -⟩ := elemT_of (P := Try.prog) (t := 24) (e := 3) (y := .int .i64) (by kernel_rfl)
  have hT : ElemT Try.prog 24 3 1 by1 zv := hT
  have hz : zv = .int .i64 0 := by
    have h1 := hT.zero
    have h2 : Sem.pv Try.prog (zeroValue 3) = some (.int .i64 0) := by kernel_rfl
    rw [h2] at h1
    exact (Option.some.inj h1).symm
  subst hz
  have hbdl : bo < w0.heap.size := lt_of_blk hO
  have loop : ∀ (N a : Nat) (vs : List Value) (w : World), a ≤ nA + 1 → N = nA + 1 - a → Upd [m] w0 w → Blk w m (vs ++ List.replicate (nA + 1 - a) (.slice none 0 0)) tyM → RowsR w (m + 1) w.heap.size vs (zeros2 a (nB + 1)) →
      St Try.prog X 58 K111_10 [(39, (.int .i64 (a : Int))), (38, (.int .i64 ((nA + 1 : Nat) : Int))), (0, (.pointer (some ⟨bd, od, none⟩))), (3, (.slice (some ⟨bo, 0, none⟩) (nH + 1) (nH + 1))), (20, (.int .i64 ((nH + 1 : Nat) : Int))), (21, (.int .i64 (i : Int))), (4, (.int .i64 (i : Int)))] df w := by
    intro N
    induction N using Nat.strongRecOn with
    | ind N ih => ?_
    intro a vs w ha hN hu hb hR
    have hlen : vs.length = a := by rw [hR.len]; simp [zeros2]
    refine St.reg K111_11 [(0, true)] (by kernel_rfl) (by kernel_rfl) ?_
    refine RX.q 1 [] [(40, .bool (decide ((a : Int) < ((nA + 1 : Nat) : Int)))), (39, (.int .i64 (a : Int))), (38, (.int .i64 ((nA + 1 : Nat) : Int))), (0, (.pointer (some ⟨bd, od, none⟩))), (3, (.slice (some ⟨bo, 0, none⟩) (nH + 1) (nH + 1))), (20, (.int .i64 ((nH + 1 : Nat) : Int))), (21, (.int .i64 (i : Int))), (4, (.int .i64 (i : Int)))] [] (by kernel_rfl) trivial ?_
    refine RX.done [(40, .bool (decide ((a : Int) < ((nA + 1 : Nat) : Int)))), (39, (.int .i64 (a : Int))), (38, (.int .i64 ((nA + 1 : Nat) : Int))), (0, (.pointer (some ⟨bd, od, none⟩))), (3, (.slice (some ⟨bo, 0, none⟩) (nH + 1) (nH + 1))), (20, (.int .i64 ((nH + 1 : Nat) : Int))), (21, (.int .i64 (i : Int))), (4, (.int .i64 (i : Int)))] (by kernel_rfl) (by kernel_rfl) ?_
    refine St.cond (k1 := K111_12) (k2 := K111_13) (decide ((a : Int) < ((nA + 1 : Nat) : Int))) (by kernel_rfl) (fun hc => ?_) (fun hc => ?_)
    rotate_left
    · have hh : ((nA + 1 : Nat) : Int) ≤ (a : Int) := by simpa using hc
      clear hc
      obtain rfl : a = nA + 1 := by omega
      exact St.weak (L' := [(0, (.pointer (some ⟨bd, od, none⟩))), (3, (.slice (some ⟨bo, 0, none⟩) (nH + 1) (nH + 1))), (20, (.int .i64 ((nH + 1 : Nat) : Int))), (21, (.int .i64 (i : Int)))]) (by kernel_rfl) (hk vs w hu (by simpa using hb) hR)
    have hh : (a : Int) < ((nA + 1 : Nat) : Int) := by simpa using hc
    clear hc
    have hal : a < nA + 1 := by omega
    refine St.weak (L' := [(39, (.int .i64 (a : Int))), (38, (.int .i64 ((nA + 1 : Nat) : Int))), (0, (.pointer (some ⟨bd, od, none⟩))), (3, (.slice (some ⟨bo, 0, none⟩) (nH + 1) (nH + 1))), (20, (.int .i64 ((nH + 1 : Nat) : Int))), (21, (.int .i64 (i : Int))), (4, (.int .i64 (i : Int)))]) (by kernel_rfl) ?_
    refine St.reg K111_14 [(0, true), (1, true)] (by kernel_rfl) (by kernel_rfl) ?_
    refine RX.q 2 [] [(5, (.int .i64 (a : Int))), (39, (.int .i64 (a : Int))), (38, (.int .i64 ((nA + 1 : Nat) : Int))), (0, (.pointer (some ⟨bd, od, none⟩))), (3, (.slice (some ⟨bo, 0, none⟩) (nH + 1) (nH + 1))), (20, (.int .i64 ((nH + 1 : Nat) : Int))), (21, (.int .i64 (i : Int))), (4, (.int .i64 (i : Int)))] [] (by kernel_rfl) trivial ?_
    refine RX.done [(5, (.int .i64 (a : Int))), (39, (.int .i64 (a : Int))), (38, (.int .i64 ((nA + 1 : Nat) : Int))), (0, (.pointer (some ⟨bd, od, none⟩))), (3, (.slice (some ⟨bo, 0, none⟩) (nH + 1) (nH + 1))), (20, (.int .i64 ((nH + 1 : Nat) : Int))), (21, (.int .i64 (i : Int))), (4, (.int .i64 (i : Int)))] (by kernel_rfl) (by kernel_rfl) ?_
    refine St.drw K111_15 [] [(0, true), (1, true), (2, true), (3, true), (4, true), (5, true), (6, true), (7, true), (8, true), (9, true), (10, true), (11, false), (12, true), (13, false)] mixed (by kernel_rfl) (by kernel_rfl) ?_
    intro w1 hd hds
    have hu1 : Upd [m] w0 w1 := Upd.ext hu hd
    have hixI : ∀ w', (Instr.indexAt 100 (.slice (some ⟨bo, 0, none⟩) (nH + 1) (nH + 1)) (.int .i64 (i : Int))).run Try.prog w' = .ok (.pointer (some ⟨bo, 0 + i * 1, none⟩)) w' := fun w' => idx_sl (e := 23) (sz := 1) (by kernel_rfl) (by kernel_rfl) bo 0 (nH + 1) (nH + 1) i hi _
    have hixA : ∀ w', (Instr.indexAt 23 (.slice (some ⟨m, 0, none⟩) (nA + 1) (nA + 1)) (.int .i64 (a : Int))).run Try.prog w' = .ok (.pointer (some ⟨m, 0 + a * 1, none⟩)) w' := fun w' => idx_sl (e := 24) (sz := 1) (by kernel_rfl) (by kernel_rfl) m 0 (nA + 1) (nA + 1) a hal _
    have hcI : w1.cell? ⟨bo, 0 + i * 1, none⟩ = some (.slice (some ⟨m, 0, none⟩) (nA + 1) (nA + 1)) := by
      rw [show 0 + i * 1 = i by omega]
      exact Blk.cell (hu1.blk hO (by simp [hom])) hui
    have hcB1 : w1.cell? ⟨bd, od + 4, none⟩ = some (.slice aB nB cB) := hu1.cell hcB (by simp [hdm])
    refine RX.qd 11 [(2, true, (.pointer (some ⟨bo, 0 + i * 1, none⟩))), (3, true, (.slice (some ⟨m, 0, none⟩) (nA + 1) (nA + 1))), (8, true, (.slice aB nB cB)), (10, false, (.int .i64 ((nB + 1 : Nat) : Int)))] [(52, (.int .i64 ((nB + 1 : Nat) : Int))), (45, (.slice (some ⟨m, 0, none⟩) (nA + 1) (nA + 1))), (46, (.int .i64 (a : Int))), (39, (.int .i64 (a : Int))), (38, (.int .i64 ((nA + 1 : Nat) : Int))), (0, (.pointer (some ⟨bd, od, none⟩))), (3, (.slice (some ⟨bo, 0, none⟩) (nH + 1) (nH + 1))), (20, (.int .i64 ((nH + 1 : Nat) : Int))), (21, (.int .i64 (i : Int))), (4, (.int .i64 (i : Int)))] [.raw (Instr.indexAt 100 (.slice (some ⟨bo, 0, none⟩) (nH + 1) (nH + 1)) (.int .i64 (i : Int))) (.pointer (some ⟨bo, 0 + i * 1, none⟩)), .cell ⟨bo, 0 + i * 1, none⟩ (.slice (some ⟨m, 0, none⟩) (nA + 1) (nA + 1)), .cell ⟨bd, od + 4, none⟩ (.slice aB nB cB), .eq (.int .i64 (IntKind.i64.wrap ((nB : Int) + 1))) (.int .i64 ((nB + 1 : Nat) : Int))] (by kernel_rfl) ⟨hixI _, hcI, hcB1, addI hnB⟩ ⟨fun w' _ => hixI w', List.not_mem_nil, List.not_mem_nil, trivial⟩ ?_
    obtain ⟨b, w2, hr2, hn2⟩ := makeSlice_run hT (nB + 1) (by omega) w1
    have hs2 := hn2.size; have ha2 := hn2.at_
    have hx2 : Ext w w2 := hd.trans hn2.ext
    refine RX.runD 53 (Instr.makeSlice 24 (.int .i64 ((nB + 1 : Nat) : Int)) (.int .i64 ((nB + 1 : Nat) : Int))) [(52, (.int .i64 ((nB + 1 : Nat) : Int))), (45, (.slice (some ⟨m, 0, none⟩) (nA + 1) (nA + 1))), (46, (.int .i64 (a : Int))), (39, (.int .i64 (a : Int))), (38, (.int .i64 ((nA + 1 : Nat) : Int))), (0, (.pointer (some ⟨bd, od, none⟩))), (3, (.slice (some ⟨bo, 0, none⟩) (nH + 1) (nH + 1))), (20, (.int .i64 ((nH + 1 : Nat) : Int))), (21, (.int .i64 (i : Int))), (4, (.int .i64 (i : Int)))] (by kernel_rfl) hr2 hn2.ext ?_
    refine RX.qd 1 [(12, true, (.pointer (some ⟨m, 0 + a * 1, none⟩)))] [(54, (.pointer (some ⟨m, 0 + a * 1, none⟩))), (53, (.slice (some ⟨b, 0, none⟩) (nB + 1) (nB + 1))), (39, (.int .i64 (a : Int))), (38, (.int .i64 ((nA + 1 : Nat) : Int))), (0, (.pointer (some ⟨bd, od, none⟩))), (3, (.slice (some ⟨bo, 0, none⟩) (nH + 1) (nH + 1))), (20, (.int .i64 ((nH + 1 : Nat) : Int))), (21, (.int .i64 (i : Int))), (4, (.int .i64 (i : Int)))] [.raw (Instr.indexAt 23 (.slice (some ⟨m, 0, none⟩) (nA + 1) (nA + 1)) (.int .i64 (a : Int))) (.pointer (some ⟨m, 0 + a * 1, none⟩))] (by kernel_rfl) (hixA _) (fun w' _ => hixA w') ?_
    rw [show 0 + a * 1 = a by omega]
    have hb2 : Blk w2 m (vs ++ List.replicate (nA + 1 - a) (.slice none 0 0)) tyM := Ext.blk hx2 hb
    have hml := lt_of_blk hb
    refine RX.store1L m a (.slice (some ⟨b, 0, none⟩) (nB + 1) (nB + 1)) (vs ++ List.replicate (nA + 1 - a) (.slice none 0 0)) tyM (by kernel_rfl) rfl hb2 (by simp; omega) (by kernel_rfl) ?_
    intro w3 hp
    have hs3 := hp.size
    refine RX.done [(39, (.int .i64 (a : Int))), (38, (.int .i64 ((nA + 1 : Nat) : Int))), (0, (.pointer (some ⟨bd, od, none⟩))), (3, (.slice (some ⟨bo, 0, none⟩) (nH + 1) (nH + 1))), (20, (.int .i64 ((nH + 1 : Nat) : Int))), (21, (.int .i64 (i : Int))), (4, (.int .i64 (i : Int)))] (by kernel_rfl) (by kernel_rfl) ?_
    refine St.reg K111_10 [(0, true), (1, true)] (by kernel_rfl) (by kernel_rfl) ?_
    refine RX.q 2 [(0, false, .int .i64 ((a : Int) + 1))] [(39, .int .i64 ((a : Int) + 1)), (38, (.int .i64 ((nA + 1 : Nat) : Int))), (0, (.pointer (some ⟨bd, od, none⟩))), (3, (.slice (some ⟨bo, 0, none⟩) (nH + 1) (nH + 1))), (20, (.int .i64 ((nH + 1 : Nat) : Int))), (21, (.int .i64 (i : Int))), (4, (.int .i64 (i : Int)))] [.eq (.int .i64 (IntKind.i64.wrap ((a : Int) + 1))) (.int .i64 ((a : Int) + 1))] (by kernel_rfl) (int64 (by omega)) ?_
    refine RX.done [(39, .int .i64 ((a : Int) + 1)), (38, (.int .i64 ((nA + 1 : Nat) : Int))), (0, (.pointer (some ⟨bd, od, none⟩))), (3, (.slice (some ⟨bo, 0, none⟩) (nH + 1) (nH + 1))), (20, (.int .i64 ((nH + 1 : Nat) : Int))), (21, (.int .i64 (i : Int))), (4, (.int .i64 (i : Int)))] (by kernel_rfl) (by kernel_rfl) ?_
    have hds1 := hd.size
    have hR2 : RowsR w2 (m + 1) w.heap.size vs (zeros2 a (nB + 1)) := RowsR.upd hx2 hR (fun k hk => by cases hk)
    have hBb : Blk w2 b ((List.replicate (nB + 1) (0 : Int)).map (.int .i64)) 3 := by
      have h := hn2.blk
      rw [flat_one rfl, ← List.map_replicate (f := Value.int .i64)] at h
      exact h
    have hR3 := RowsR.snoc (zeros_in (nB + 1)) (by simp; omega) hBb hR2 (by omega)
    have hR4 : RowsR w3 (m + 1) w3.heap.size (vs ++ [(.slice (some ⟨b, 0, none⟩) (nB + 1) (nB + 1))]) (zeros2 (a + 1) (nB + 1)) := by
      have h := RowsR.upd hp.upd hR3 (fun k hk => by simp at hk; omega)
      rw [List.length_replicate] at h
      have e : zeros2 a (nB + 1) ++ [List.replicate (nB + 1) 0] = zeros2 (a + 1) (nB + 1) := List.replicate_succ'.symm
      rw [e] at h
      exact h.hi (by omega)
    have hb3 : Blk w3 m ((vs ++ [(.slice (some ⟨b, 0, none⟩) (nB + 1) (nB + 1))]) ++ List.replicate (nA + 1 - (a + 1)) (.slice none 0 0)) tyM := by
      have h := hp.blk
      rw [show (vs ++ List.replicate (nA + 1 - a) (Value.slice none 0 0)).set a (.slice (some ⟨b, 0, none⟩) (nB + 1) (nB + 1)) = (vs ++ [(.slice (some ⟨b, 0, none⟩) (nB + 1) (nB + 1))]) ++ List.replicate (nA + 1 - (a + 1)) (.slice none 0 0) from by
        rw [show nA + 1 - a = (nA + 1 - (a + 1)) + 1 by omega, List.replicate_succ, List.set_append_right _ _ (by omega), hlen, Nat.sub_self]
        simp] at h
      exact h
    exact St.weak (by kernel_rfl) (ih _ (by omega) (a + 1) (vs ++ [(.slice (some ⟨b, 0, none⟩) (nB + 1) (nB + 1))]) w3 (by omega) rfl ((Upd.ext hu hx2).trans hp.upd) hb3 hR4)
  exact St.weak (by kernel_rfl) (loop _ 0 [] w0 (by omega) rfl (Upd.refl _ _) (by simpa using hM) (by rw [hsz]; exact Nat.le_refl _))
set_option maxHeartbeats 1000000 in
theorem sized_out {X : Ctx} {df : List Deferred} (bd od bo nH nA nB cA cB : Nat) (aA aB : Option Addr) (tyO : TypeId) (w0 : World) (hnB : nB ≤ 900) (hnA : nA ≤ 900) (hnH : nH ≤ 900) (hdb : bd < bo) (hcA : w0.cell? ⟨bd, od + 3, none⟩ = some (.slice aA nA cA)) (hcB : w0.cell? ⟨bd, od + 4, none⟩ = some (.slice aB nB cB)) (hO : Blk w0 bo (List.replicate (nH + 1) (.slice none 0 0)) tyO) (hsz : w0.heap.size = bo + 1)
    (hk : ∀ us w, Upd [bo] w0 w → Blk w bo us tyO → MidsR w (bo + 1) w.heap.size us (zeros3 (nH + 1) (nA + 1) (nB + 1)) → St Try.prog X 58 K111_6 [(3, (.slice (some ⟨bo, 0, none⟩) (nH + 1) (nH + 1)))] df w) :
    St Try.prog X 58 K111_3 [(21, .int .i64 0), (0, (.pointer (some ⟨bd, od, none⟩))), (3, (.slice (some ⟨bo, 0, none⟩) (nH + 1) (nH + 1))), (20, (.int .i64 ((nH + 1 : Nat) : Int)))] df w0 := by
  obtain ⟨-, -, by1, zv, hT, -⟩ := elemT_of (P := Try.prog) (t := 23) (e := 24) (y := .sl (.int .i64)) (by kernel_rfl)
  have hT : ElemT Try.prog 23 24 1 by1 zv := hT
  have hz : zv = .slice none 0 0 := by
    have h1 := hT.zero
    have h2 : Sem.pv Try.prog (zeroValue 24) = some (.slice none 0 0) := by kernel_rfl
    rw [h2] at h1
    exact (Option.some.inj h1).symm
  subst hz
  have loop : ∀ (N i : Nat) (us : List Value) (w : World), i ≤ nH + 1 → N = nH + 1 - i → Upd [bo] w0 w → Blk w bo (us ++ List.replicate (nH + 1 - i) (.slice none 0 0)) tyO → MidsR w (bo + 1) w.heap.size us (zeros3 i (nA + 1) (nB + 1)) →
      St Try.prog X 58 K111_3 [(21, (.int .i64 (i : Int))), (0, (.pointer (some ⟨bd, od, none⟩))), (3, (.slice (some ⟨bo, 0, none⟩) (nH + 1) (nH + 1))), (20, (.int .i64 ((nH + 1 : Nat) : Int)))] df w := by
    intro N
    induction N using Nat.strongRecOn with
    | ind N ih => ?_
    intro i us w hi hN hu hb hR
    have hlen : us.length = i := by rw [hR.len]; simp [zeros3]
    have hws := hu.size
    refine St.reg K111_4 [(0, true)] (by kernel_rfl) (by kernel_rfl) ?_
    refine RX.q 1 [] [(22, .bool (decide ((i : Int) < ((nH + 1 : Nat) : Int)))), (21, (.int .i64 (i : Int))), (0, (.pointer (some ⟨bd, od, none⟩))), (3, (.slice (some ⟨bo, 0, none⟩) (nH + 1) (nH + 1))), (20, (.int .i64 ((nH + 1 : Nat) : Int)))] [] (by kernel_rfl) trivial ?_
    refine RX.done [(22, .bool (decide ((i : Int) < ((nH + 1 : Nat) : Int)))), (21, (.int .i64 (i : Int))), (0, (.pointer (some ⟨bd, od, none⟩))), (3, (.slice (some ⟨bo, 0, none⟩) (nH + 1) (nH + 1))), (20, (.int .i64 ((nH + 1 : Nat) : Int)))] (by kernel_rfl) (by kernel_rfl) ?_
    refine St.cond (k1 := K111_5) (k2 := K111_6) (decide ((i : Int) < ((nH + 1 : Nat) : Int))) (by kernel_rfl) (fun hc => ?_) (fun hc => ?_)
    rotate_left
    · have hh : ((nH + 1 : Nat) : Int) ≤ (i : Int) := by simpa using hc
      clear hc
      obtain rfl : i = nH + 1 := by omega
      exact St.weak (L' := [(3, (.slice (some ⟨bo, 0, none⟩) (nH + 1) (nH + 1)))]) (by kernel_rfl) (hk us w hu (by simpa using hb) hR)
    have hh : (i : Int) < ((nH + 1 : Nat) : Int) := by simpa using hc
    clear hc
    have hil : i < nH + 1 := by omega
    refine St.weak (L' := [(21, (.int .i64 (i : Int))), (0, (.pointer (some ⟨bd, od, none⟩))), (3, (.slice (some ⟨bo, 0, none⟩) (nH + 1) (nH + 1))), (20, (.int .i64 ((nH + 1 : Nat) : Int)))]) (by kernel_rfl) ?_
    refine St.reg K111_7 [(0, true), (1, true)] (by kernel_rfl) (by kernel_rfl) ?_
    refine RX.q 2 [] [(4, (.int .i64 (i : Int))), (21, (.int .i64 (i : Int))), (0, (.pointer (some ⟨bd, od, none⟩))), (3, (.slice (some ⟨bo, 0, none⟩) (nH + 1) (nH + 1))), (20, (.int .i64 ((nH + 1 : Nat) : Int)))] [] (by kernel_rfl) trivial ?_
    refine RX.done [(4, (.int .i64 (i : Int))), (21, (.int .i64 (i : Int))), (0, (.pointer (some ⟨bd, od, none⟩))), (3, (.slice (some ⟨bo, 0, none⟩) (nH + 1) (nH + 1))), (20, (.int .i64 ((nH + 1 : Nat) : Int)))] (by kernel_rfl) (by kernel_rfl) ?_
    have hcA1 : w.cell? ⟨bd, od + 3, none⟩ = some (.slice aA nA cA) := hu.cell hcA (by simp; omega)
    have hcB1 : w.cell? ⟨bd, od + 4, none⟩ = some (.slice aB nB cB) := hu.cell hcB (by simp; omega)
    have hixI : ∀ w', (Instr.indexAt 100 (.slice (some ⟨bo, 0, none⟩) (nH + 1) (nH + 1)) (.int .i64 (i : Int))).run Try.prog w' = .ok (.pointer (some ⟨bo, 0 + i * 1, none⟩)) w' := fun w' => idx_sl (e := 23) (sz := 1) (by kernel_rfl) (by kernel_rfl) bo 0 (nH + 1) (nH + 1) i hil _
    refine St.reg K111_9 [(0, true), (1, true), (2, true), (3, true), (4, true), (5, true), (6, true), (7, true), (8, false), (9, true), (10, false)] (by kernel_rfl) (by kernel_rfl) ?_
    refine RX.q 8 [(5, true, (.slice aA nA cA)), (7, false, (.int .i64 ((nA + 1 : Nat) : Int)))] [(31, (.int .i64 ((nA + 1 : Nat) : Int))), (24, (.slice (some ⟨bo, 0, none⟩) (nH + 1) (nH + 1))), (25, (.int .i64 (i : Int))), (4, (.int .i64 (i : Int))), (21, (.int .i64 (i : Int))), (0, (.pointer (some ⟨bd, od, none⟩))), (3, (.slice (some ⟨bo, 0, none⟩) (nH + 1) (nH + 1))), (20, (.int .i64 ((nH + 1 : Nat) : Int)))] [.cell ⟨bd, od + 3, none⟩ (.slice aA nA cA), .eq (.int .i64 (IntKind.i64.wrap ((nA : Int) + 1))) (.int .i64 ((nA + 1 : Nat) : Int))] (by kernel_rfl) ⟨hcA1, addI hnA⟩ ?_
    obtain ⟨m, w2, hr2, hn2⟩ := makeSlice_run hT (nA + 1) (by omega) w
    have hs2 := hn2.size; have ha2 := hn2.at_
    refine RX.run 32 (Instr.makeSlice 23 (.int .i64 ((nA + 1 : Nat) : Int)) (.int .i64 ((nA + 1 : Nat) : Int))) [(31, (.int .i64 ((nA + 1 : Nat) : Int))), (24, (.slice (some ⟨bo, 0, none⟩) (nH + 1) (nH + 1))), (25, (.int .i64 (i : Int))), (4, (.int .i64 (i : Int))), (21, (.int .i64 (i : Int))), (0, (.pointer (some ⟨bd, od, none⟩))), (3, (.slice (some ⟨bo, 0, none⟩) (nH + 1) (nH + 1))), (20, (.int .i64 ((nH + 1 : Nat) : Int)))] (by kernel_rfl) hr2 ?_
    refine RX.q 1 [(9, true, (.pointer (some ⟨bo, 0 + i * 1, none⟩)))] [(33, (.pointer (some ⟨bo, 0 + i * 1, none⟩))), (32, (.slice (some ⟨m, 0, none⟩) (nA + 1) (nA + 1))), (4, (.int .i64 (i : Int))), (21, (.int .i64 (i : Int))), (0, (.pointer (some ⟨bd, od, none⟩))), (3, (.slice (some ⟨bo, 0, none⟩) (nH + 1) (nH + 1))), (20, (.int .i64 ((nH + 1 : Nat) : Int)))] [.raw (Instr.indexAt 100 (.slice (some ⟨bo, 0, none⟩) (nH + 1) (nH + 1)) (.int .i64 (i : Int))) (.pointer (some ⟨bo, 0 + i * 1, none⟩))] (by kernel_rfl) (hixI _) ?_
    rw [show 0 + i * 1 = i by omega]
    have hb2 : Blk w2 bo (us ++ List.replicate (nH + 1 - i) (.slice none 0 0)) tyO := Ext.blk hn2.ext hb
    have hbl := lt_of_blk hb
    refine RX.store1 bo i (.slice (some ⟨m, 0, none⟩) (nA + 1) (nA + 1)) (us ++ List.replicate (nH + 1 - i) (.slice none 0 0)) tyO (by kernel_rfl) rfl hb2 (by simp; omega) ?_
    intro w3 hp
    have hs3 := hp.size
    refine RX.done [(4, (.int .i64 (i : Int))), (21, (.int .i64 (i : Int))), (0, (.pointer (some ⟨bd, od, none⟩))), (3, (.slice (some ⟨bo, 0, none⟩) (nH + 1) (nH + 1))), (20, (.int .i64 ((nH + 1 : Nat) : Int)))] (by kernel_rfl) (by kernel_rfl) ?_
    have hb3 : Blk w3 bo ((us ++ [(.slice (some ⟨m, 0, none⟩) (nA + 1) (nA + 1))]) ++ List.replicate (nH + 1 - (i + 1)) (.slice none 0 0)) tyO := by
      have h := hp.blk
      rw [show (us ++ List.replicate (nH + 1 - i) (Value.slice none 0 0)).set i (.slice (some ⟨m, 0, none⟩) (nA + 1) (nA + 1)) = (us ++ [(.slice (some ⟨m, 0, none⟩) (nA + 1) (nA + 1))]) ++ List.replicate (nH + 1 - (i + 1)) (.slice none 0 0) from by
        rw [show nH + 1 - i = (nH + 1 - (i + 1)) + 1 by omega, List.replicate_succ, List.set_append_right _ _ (by omega), hlen, Nat.sub_self]
        simp] at h
      exact h
    have hui : ((us ++ [(.slice (some ⟨m, 0, none⟩) (nA + 1) (nA + 1))]) ++ List.replicate (nH + 1 - (i + 1)) (Value.slice none 0 0))[i]? = some (.slice (some ⟨m, 0, none⟩) (nA + 1) (nA + 1)) := by
      rw [List.append_assoc, List.getElem?_append_right (by omega), hlen, Nat.sub_self]; rfl
    have hMb : Blk w3 m (List.replicate (nA + 1) (.slice none 0 0)) 24 := by
      have h := hn2.blk
      rw [flat_one rfl] at h
      exact hp.upd.blk h (by simp; omega)
    refine St.reg K111_10 [(0, true), (1, true), (2, true), (3, true), (4, true), (5, true)] (by kernel_rfl) (by kernel_rfl) ?_
    refine RX.q 6 [(2, true, (.pointer (some ⟨bo, 0 + i * 1, none⟩))), (3, true, (.slice (some ⟨m, 0, none⟩) (nA + 1) (nA + 1)))] [(39, .int .i64 0), (38, (.int .i64 ((nA + 1 : Nat) : Int))), (0, (.pointer (some ⟨bd, od, none⟩))), (3, (.slice (some ⟨bo, 0, none⟩) (nH + 1) (nH + 1))), (20, (.int .i64 ((nH + 1 : Nat) : Int))), (21, (.int .i64 (i : Int))), (4, (.int .i64 (i : Int)))] [.raw (Instr.indexAt 100 (.slice (some ⟨bo, 0, none⟩) (nH + 1) (nH + 1)) (.int .i64 (i : Int))) (.pointer (some ⟨bo, 0 + i * 1, none⟩)), .cell ⟨bo, 0 + i * 1, none⟩ (.slice (some ⟨m, 0, none⟩) (nA + 1) (nA + 1))] (by kernel_rfl) ⟨hixI _, by rw [show 0 + i * 1 = i by omega]; exact Blk.cell hb3 hui⟩ ?_
    refine RX.done [(39, .int .i64 0), (38, (.int .i64 ((nA + 1 : Nat) : Int))), (0, (.pointer (some ⟨bd, od, none⟩))), (3, (.slice (some ⟨bo, 0, none⟩) (nH + 1) (nH + 1))), (20, (.int .i64 ((nH + 1 : Nat) : Int))), (21, (.int .i64 (i : Int))), (4, (.int .i64 (i : Int)))] (by kernel_rfl) (by kernel_rfl) ?_
    refine sized_in bd od m bo nH nA nB cB i aB _ 24 tyO w3 hnB hnA hil (by omega) (by omega) (hp.upd.cell (Upd.cell hn2.ext hcB1 (by simp)) (by simp; omega)) hb3 hui hMb (by omega) ?_
    intro vs w4 hu4 hM4 hR4
    have hs4 := hu4.size
    refine St.reg K111_3 [(0, true), (1, true)] (by kernel_rfl) (by kernel_rfl) ?_
    refine RX.q 2 [(0, false, .int .i64 ((i : Int) + 1))] [(21, .int .i64 ((i : Int) + 1)), (0, (.pointer (some ⟨bd, od, none⟩))), (3, (.slice (some ⟨bo, 0, none⟩) (nH + 1) (nH + 1))), (20, (.int .i64 ((nH + 1 : Nat) : Int)))] [.eq (.int .i64 (IntKind.i64.wrap ((i : Int) + 1))) (.int .i64 ((i : Int) + 1))] (by kernel_rfl) (int64 (by omega)) ?_
    refine RX.done [(21, .int .i64 ((i : Int) + 1)), (0, (.pointer (some ⟨bd, od, none⟩))), (3, (.slice (some ⟨bo, 0, none⟩) (nH + 1) (nH + 1))), (20, (.int .i64 ((nH + 1 : Nat) : Int)))] (by kernel_rfl) (by kernel_rfl) ?_
    have hR2 : MidsR w4 (bo + 1) w.heap.size us (zeros3 i (nA + 1) (nB + 1)) := MidsR.upd hu4 (MidsR.upd hp.upd (MidsR.upd hn2.ext hR (fun k hk => by cases hk)) (fun k hk => by simp at hk; omega)) (fun k hk => by simp at hk; omega)
    have hF : (zeros2 (nA + 1) (nB + 1)).length = nA + 1 := by simp [zeros2]
    have hR5 := MidsR.snoc (by omega) hM4 hR4 hR2 (by omega)
    rw [hF, show zeros3 i (nA + 1) (nB + 1) ++ [zeros2 (nA + 1) (nB + 1)] = zeros3 (i + 1) (nA + 1) (nB + 1) from List.replicate_succ'.symm] at hR5
    exact St.weak (by kernel_rfl) (ih _ (by omega) (i + 1) _ w4 (by omega) rfl (((Upd.ext hu hn2.ext).trans hp.upd).trans_old hu4 (fun k hk => by simp at hk; omega)) (hu4.blk hb3 (by simp; omega)) hR5)
  exact St.weak (by kernel_rfl) (loop _ 0 [] w0 (by omega) rfl (Upd.refl _ _) (by simpa using hO) (by rw [hsz]; exact Nat.le_refl _))
set_option maxHeartbeats 1000000 in
theorem sized_fn (bd od nH nA nB cH cA cB : Nat) (aH aA aB : Option Addr) (w : World) (hnB : nB ≤ 900) (hnA : nA ≤ 900) (hnH : nH ≤ 900) (hbd : bd < w.heap.size) (hcH : w.cell? ⟨bd, od + 1, none⟩ = some (.slice aH nH cH)) (hcA : w.cell? ⟨bd, od + 3, none⟩ = some (.slice aA nA cA)) (hcB : w.cell? ⟨bd, od + 4, none⟩ = some (.slice aB nB cB)) :
    Fn Try.prog 111 #[(.pointer (some ⟨bd, od, none⟩))] w (fun v w' => Ext w w' ∧ ∃ bo us ty, v = (.slice (some ⟨bo, 0, none⟩) (nH + 1) (nH + 1)) ∧ w.heap.size ≤ bo ∧ Blk w' bo us ty ∧ MidsR w' (bo + 1) w'.heap.size us (zeros3 (nH + 1) (nA + 1) (nB + 1))) := by
  obtain ⟨-, -, by1, zv, hT, -⟩ := elemT_of (P := Try.prog) (t := 100) (e := 23) (y := .sl (.sl (.int .i64))) (by kernel_rfl)
  have hT : ElemT Try.prog 100 23 1 by1 zv := hT
  have hz : zv = .slice none 0 0 := by
    have h1 := hT.zero
    have h2 : Sem.pv Try.prog (zeroValue 23) = some (.slice none 0 0) := by kernel_rfl
    rw [h2] at h1
    exact (Option.some.inj h1).symm
  subst hz
  refine Fn.ofSt (c := c111) 58 K111_0 [(0, (.pointer (some ⟨bd, od, none⟩)))] Try.func111 (by kernel_rfl) ⟨⟨rfl, by kernel_rfl⟩, by kernel_rfl⟩ (by kernel_rfl) ?_
  intro cs
  refine St.reg K111_1 [(0, true)] (by kernel_rfl) (by kernel_rfl) ?_
  refine RX.q 1 [] [(0, (.pointer (some ⟨bd, od, none⟩)))] [] (by kernel_rfl) trivial ?_
  refine RX.done [(0, (.pointer (some ⟨bd, od, none⟩)))] (by kernel_rfl) (by kernel_rfl) ?_
  refine St.reg K111_2 [(0, true), (1, true), (2, true), (3, true), (4, true), (5, true), (6, true), (7, false), (8, true)] (by kernel_rfl) (by kernel_rfl) ?_
  refine RX.q 7 [(4, true, (.slice aH nH cH)), (6, false, (.int .i64 ((nH + 1 : Nat) : Int)))] [(12, (.int .i64 ((nH + 1 : Nat) : Int))), (0, (.pointer (some ⟨bd, od, none⟩)))] [.cell ⟨bd, od + 1, none⟩ (.slice aH nH cH), .eq (.int .i64 (IntKind.i64.wrap ((nH : Int) + 1))) (.int .i64 ((nH + 1 : Nat) : Int))] (by kernel_rfl) ⟨hcH, addI hnH⟩ ?_
  obtain ⟨bo, w2, hr2, hn2⟩ := makeSlice_run hT (nH + 1) (by omega) w
  have hs2 := hn2.size; have ha2 := hn2.at_
  refine RX.run 13 (Instr.makeSlice 100 (.int .i64 ((nH + 1 : Nat) : Int)) (.int .i64 ((nH + 1 : Nat) : Int))) [(12, (.int .i64 ((nH + 1 : Nat) : Int))), (0, (.pointer (some ⟨bd, od, none⟩)))] (by kernel_rfl) hr2 ?_
  refine RX.q 1 [] [(0, (.pointer (some ⟨bd, od, none⟩))), (3, (.slice (some ⟨bo, 0, none⟩) (nH + 1) (nH + 1)))] [] (by kernel_rfl) trivial ?_
  refine RX.done [(0, (.pointer (some ⟨bd, od, none⟩))), (3, (.slice (some ⟨bo, 0, none⟩) (nH + 1) (nH + 1)))] (by kernel_rfl) (by kernel_rfl) ?_
  refine St.reg K111_3 [(0, true), (1, true), (2, true), (3, true), (4, true), (5, true), (6, true), (7, true)] (by kernel_rfl) (by kernel_rfl) ?_
  refine RX.q 8 [(4, true, (.slice aH nH cH)), (6, false, (.int .i64 ((nH + 1 : Nat) : Int)))] [(21, .int .i64 0), (0, (.pointer (some ⟨bd, od, none⟩))), (3, (.slice (some ⟨bo, 0, none⟩) (nH + 1) (nH + 1))), (20, (.int .i64 ((nH + 1 : Nat) : Int)))] [.cell ⟨bd, od + 1, none⟩ (.slice aH nH cH), .eq (.int .i64 (IntKind.i64.wrap ((nH : Int) + 1))) (.int .i64 ((nH + 1 : Nat) : Int))] (by kernel_rfl) ⟨Upd.cell hn2.ext hcH (by simp), addI hnH⟩ ?_
  refine RX.done [(21, .int .i64 0), (0, (.pointer (some ⟨bd, od, none⟩))), (3, (.slice (some ⟨bo, 0, none⟩) (nH + 1) (nH + 1))), (20, (.int .i64 ((nH + 1 : Nat) : Int)))] (by kernel_rfl) (by kernel_rfl) ?_
  refine sized_out bd od bo nH nA nB cA cB aA aB 23 w2 hnB hnA hnH (by omega) (Upd.cell hn2.ext hcA (by simp)) (Upd.cell hn2.ext hcB (by simp)) (by have h := hn2.blk; rw [flat_one rfl] at h; exact h) (by omega) ?_
  intro us w3 hu3 hb3 hR3
  refine St.reg K111_8 [(0, true), (1, true)] (by kernel_rfl) (by kernel_rfl) ?_
  refine RX.q 2 [] [(2, (.slice (some ⟨bo, 0, none⟩) (nH + 1) (nH + 1)))] [] (by kernel_rfl) trivial ?_
  refine RX.done [(2, (.slice (some ⟨bo, 0, none⟩) (nH + 1) (nH + 1)))] (by kernel_rfl) (by kernel_rfl) ?_
  refine St.ret [.tmp 2] [(.slice (some ⟨bo, 0, none⟩) (nH + 1) (nH + 1))] (by kernel_rfl) Try.func111 (by kernel_rfl) (.cons (.tmp rfl) .nil) ?_
  refine ⟨?_, bo, us, 23, rfl, by omega, hb3, hR3⟩
  exact (Upd.trans_old hn2.ext hu3 (fun k hk => by simp at hk; omega))
end Go.Proofs.Ytfcnhnbnjdccfaa

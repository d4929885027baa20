/-
  Parts of a proof, put together: F4, FCo, F6, Fm3, FD1, FD2, FD3, FD4, FD5.
  Conditions: none.
-/
import Derived.Test.YthncjilcflilcaaZd
import Derived.Test.YthncjilcflilcaaZe
import Derived.Test.YthncjilcflilcaaZf
namespace Go.Proofs.Ythncjilcflilcaa
set_option linter.all false
open Go

def made1_S (N : Nat) (often : Int) (g : Li) (g2 : Int) (g3 : Int) : Option (Int × Li × Int × Int) :=
  (seldom_S N often g g2 g3).bind fun (x_1, y_2, y_3, y_4) =>
  br x_1
    (some (-1, y_2, y_3, y_4))
    ((stroke_S N 2 y_2 y_3 y_4).bind fun (x_5, y_6, y_7, y_8) =>
    some (x_5, y_6, y_7, y_8))
noncomputable def made1_sp (N : Nat) : List Spec := [sp_stroke N, sp_seldom N]
theorem made1_all (N : Nat) : AllP (SpecOK Try.prog) (made1_sp N) := ⟨sp_stroke_ok N, sp_seldom_ok N, trivial⟩
noncomputable def made1_c : Code := (Try.f70.body).getD .skip
noncomputable abbrev made1_B : Body := { c := made1_c, n := 9, res := [.tmp 3], outs := [⟨[shI], [.segs [.own 1 0], .segs [.sl (.int .u8), shI, .i .u32]]⟩], m0 := 2 }
abbrev made1_rt : altD made1_B.outs → Option (Int × Li × Int × Int) := fun r => some (r.1.1, r.2.2.1.1, r.2.2.1.2.1, r.2.2.1.2.2.1)
abbrev made1_st : Sta := ⟨[0, 1], ⟨[shI, .own 0 0], [.segs [.own 1 0], .segs [.sl (.int .u8), shI, .i .u32]]⟩⟩
theorem made1_eq (N : Nat) (often : Int) (g : Li) (g2 : Int) (g3 : Int) : ev (Z := Int × Li × Int × Int) Try.prog (made1_sp N) made1_B [] [] (some made1_rt) 400 false [.c [0], .c [1]] (stL made1_st ((often, (), ()), (((), ()), (g, g2, g3, ()), ()))) (stH made1_st ((often, (), ()), (((), ()), (g, g2, g3, ()), ()))) = made1_S N often g g2 g3 := by kernel_rfl
noncomputable def sp_made1 (N : Nat) : Spec := { f := 70, ins := ⟨[shI, .own 0 0], [.segs [.own 1 0], .segs [.sl (.int .u8), shI, .i .u32]]⟩, outs := [⟨[shI], [.segs [.own 1 0], .segs [.sl (.int .u8), shI, .i .u32]]⟩], run := fun p k => (made1_S N p.1.1 p.2.2.1.1 p.2.2.1.2.1 p.2.2.1.2.2.1).bind fun r => k ((r.1, ()), (((), ()), (r.2.1, r.2.2.1, r.2.2.2, ()), ())) }
theorem sp_made1_ok (N : Nat) : SpecOK Try.prog (sp_made1 N) := fn_sound (B := made1_B) (loops := []) (leaves := []) (fun p => made1_S N p.1.1 p.2.2.1.1 p.2.2.1.2.1 p.2.2.1.2.2.1) (fun r => ((r.1, ()), (((), ()), (r.2.1, r.2.2.1, r.2.2.2, ()), ()))) made1_rt (fun _ _ _ => rfl) (fun r z h => by cases h; rfl) Try.func70 (by kernel_rfl) (by kernel_rfl) (by kernel_rfl) rfl rfl (by kernel_rfl) (fun args w => Sem.pv_run _ _ _ (by kernel_rfl) w) (made1_all N) mixed trivial (fun z E Xc hE hX hret => trivial) (fun p => made1_eq N p.1.1 p.2.2.1.1 p.2.2.1.2.1 p.2.2.1.2.2.1)

def made_l1 (N : Nat) : Nat → Int → Int → Int → Li → Int → Int → Int → Int → Li → Option (Int × Li × Int × Int × Int × Int × Li)
  | 0, _, _, _, _, _, _, _, _, _ => none
  | n_ + 1, things, u, u2, b, b2, b3, g, d, d2 =>
    br (decide (u2 < u))
      ((strike_S N 1 9 b b2 b3).bind fun (x_9, y_10, y_11, y_12) =>
      lim (d2.length + [x_9].length) <|
      chk (u2 + 1) <|
      made_l1 N n_ things u (u2 + 1) y_10 y_11 y_12 g d (d2 ++ [x_9]))
      (some ((things, b, b2, b3, g, d, d2)))
def made_l3 (N : Nat) : Nat → Int → Int → Int → Int → Int → Int → Li → Int → Int → Int → Int → Li → Li → Ll → Li → Option (Int × Int × Int × Int × Li × Int × Int × Int × Int × Li × Li × Ll × Li)
  | 0, _, _, _, _, _, _, _, _, _, _, _, _, _, _, _ => none
  | n_ + 1, many, often, u, u2, u3, u4, b, b2, b3, g, d, l, d2, d3, d4 =>
    br (decide (u4 < u3))
      ((made1_S N often b b2 b3).bind fun (x_32, y_33, y_34, y_35) =>
      lim (l.length + [x_32].length) <|
      chk (u4 + 1) <|
      made_l3 N n_ many often u u2 u3 (u4 + 1) y_33 y_34 y_35 g d (l ++ [x_32]) d2 d3 d4)
      (some ((many, often, u, u2, b, b2, b3, g, d, l, d2, d3, d4)))
def made_l2 (N : Nat) : Nat → Int → Int → Int → Int → Li → Int → Int → Int → Int → Li → Ll → Li → Option (Int × Int × Li × Int × Int × Int × Int × Li × Ll × Li)
  | 0, _, _, _, _, _, _, _, _, _, _, _, _ => none
  | n_ + 1, many, often, u, u2, b, b2, b3, g, d, d2, d3, d4 =>
    br (decide (u2 < u))
      ((made_l3 N N many often u u2 (d2.length : Int) 0 b b2 b3 g d [] d2 d3 d4).bind fun (many_36, often_37, u_38, u2_39, b_40, b2_41, b3_42, g_43, d_44, l_45, d2_46, d3_47, d4_48) =>
      lim (d3_47.length + [l_45].length) <|
      (stroke_S N 30 b_40 b2_41 b3_42).bind fun (x_49, y_50, y_51, y_52) =>
      lim (d4_48.length + [x_49].length) <|
      chk (u2_39 + 1) <|
      made_l2 N n_ many_36 often_37 u_38 (u2_39 + 1) y_50 y_51 y_52 g_43 d_44 d2_46 (d3_47 ++ [l_45]) (d4_48 ++ [x_49]))
      (some ((many, often, b, b2, b3, g, d, d2, d3, d4)))
def made_l5 (N : Nat) : Nat → Int → Int → Int → Int → Int → Li → Int → Int → Int → Int → Li → Li → Ll → Ll → Li → Option (Int × Int × Int × Li × Int × Int × Int × Int × Li × Li × Ll × Ll × Li)
  | 0, _, _, _, _, _, _, _, _, _, _, _, _, _, _, _ => none
  | n_ + 1, often, u, u2, u3, u4, value, value2, value3, g, d, l, d2, d3, d4, d5 =>
    br (decide (u4 < u3))
      ((made1_S N often value value2 value3).bind fun (x_63, y_64, y_65, y_66) =>
      lim (l.length + [x_63].length) <|
      chk (u4 + 1) <|
      made_l5 N n_ often u u2 u3 (u4 + 1) y_64 y_65 y_66 g d (l ++ [x_63]) d2 d3 d4 d5)
      (some ((often, u, u2, value, value2, value3, g, d, l, d2, d3, d4, d5)))
def made_l4 (N : Nat) : Nat → Int → Int → Int → Li → Int → Int → Int → Int → Li → Ll → Ll → Li → Option (Li × Int × Int × Int × Int × Li × Ll × Ll × Li)
  | 0, _, _, _, _, _, _, _, _, _, _, _, _ => none
  | n_ + 1, often, u, u2, value, value2, value3, g, d, d2, d3, d4, d5 =>
    br (decide (u2 < u))
      ((made_l5 N N often u u2 (d2.length : Int) 0 value value2 value3 g d [] d2 d3 d4 d5).bind fun (often_67, u_68, u2_69, value_70, value2_71, value3_72, g_73, d_74, l_75, d2_76, d3_77, d4_78, d5_79) =>
      lim (d4_78.length + [l_75].length) <|
      chk (u2_69 + 1) <|
      made_l4 N n_ often_67 u_68 (u2_69 + 1) value_70 value2_71 value3_72 g_73 d_74 d2_76 d3_77 (d4_78 ++ [l_75]) d5_79)
      (some ((value, value2, value3, g, d, d2, d3, d4, d5)))
def made_S (N : Nat) (things : Int) (b : Li) (b2 : Int) (b3 : Int) : Option (Li × Int × Ll × Ll × Li × Li × Int × Int) :=
  (stroke_S N 2 b b2 b3).bind fun (x_1, y_2, y_3, y_4) =>
  (strike_S N 1 5 y_2 y_3 y_4).bind fun (x_5, y_6, y_7, y_8) =>
  (made_l1 N N things x_5 0 y_6 y_7 y_8 0 x_1 []).bind fun (things_13, b_14, b2_15, b3_16, g_17, d_18, d2_19) =>
  (stroke_S N things_13 b_14 b2_15 b3_16).bind fun (x_20, y_21, y_22, y_23) =>
  (strike_S N 2 5 y_21 y_22 y_23).bind fun (x_24, y_25, y_26, y_27) =>
  (stroke_S N things_13 y_25 y_26 y_27).bind fun (x_28, y_29, y_30, y_31) =>
  (made_l2 N N x_20 x_24 x_28 0 y_29 y_30 y_31 g_17 d_18 d2_19 [] []).bind fun (many_53, often_54, value_55, value2_56, value3_57, g_58, d_59, d2_60, d3_61, d4_62) =>
  (made_l4 N N often_54 many_53 0 value_55 value2_56 value3_57 g_58 d_59 d2_60 d3_61 [] d4_62).bind fun (g_80, g2_81, g3_82, g4_83, d_84, d2_85, d3_86, d4_87, d5_88) =>
  some (d2_85, d_84, d3_86, d4_87, d5_88, g_80, g2_81, g3_82)
noncomputable def made_sp (N : Nat) : List Spec := [sp_stroke N, sp_strike N, sp_made1 N]
theorem made_all (N : Nat) : AllP (SpecOK Try.prog) (made_sp N) := ⟨sp_stroke_ok N, sp_strike_ok N, sp_made1_ok N, trivial⟩
noncomputable def made_c : Code := (Try.f17.body).getD .skip
noncomputable abbrev made_B : Body := { c := made_c, n := 86, res := [.cell 4 26], outs := [⟨[shG], [.segs [.sl (.int .u8), shI, .i .u32]]⟩], m0 := 1 }
abbrev made_rt : altD made_B.outs → Option (Li × Int × Ll × Ll × Li × Li × Int × Int) := fun r => some (r.1.1.1, r.1.1.2.1, r.1.1.2.2.1, r.1.1.2.2.2.1, r.1.1.2.2.2.2.1, r.2.1.1, r.2.1.2.1, r.2.1.2.2.1)
abbrev made_l1_at : List PI := [.c [1, 1, 0, 1, 0, 0, 0], .c [1, 1, 0, 1, 0, 0, 1], .l [1, 1, 0, 1, 0, 0], .b 0, .c [1, 1, 1]]
abbrev made_l1_st : Sta := ⟨[1, 2, 4, 5, 15, 16], ⟨[shI, .own 1 0, .own 2 0, .own 3 0, shI, shI], [.segs [.sl (.int .u8), shI, .i .u32], .segs [.own 0 0], .segs [.nils, shI, .nils, .nils, .nils], .segs [.ols 4, shI, .nils, .nils, .nils], .lst (.int .i64)]⟩⟩
abbrev made_l1_h (rec : Int → Int → Int → Li → Int → Int → Int → Int → Li → Option (Int × Li × Int × Int × Int × Int × Li)) : Leaf (Int × Li × Int × Int × Int × Int × Li) := ⟨made_l1_at, made_l1_st, fun p => rec p.1.1 p.1.2.2.2.2.1 p.1.2.2.2.2.2.1 p.2.1.1 p.2.1.2.1 p.2.1.2.2.1 p.2.2.2.1.2.1 p.2.2.2.2.1.2.1 p.2.2.2.2.2.1⟩
abbrev made_l1_e0 : Leaf (Int × Li × Int × Int × Int × Int × Li) := ⟨[.c [1, 1, 1, 0], .c [1, 1, 1, 1]], ⟨[1, 2, 4, 5], ⟨[shI, .own 1 0, .own 2 0, .own 3 0], [.segs [.sl (.int .u8), shI, .i .u32], .segs [.own 0 0], .segs [.nils, shI, .nils, .nils, .nils], .segs [.ols 4, shI, .nils, .nils, .nils], .lst (.int .i64)]⟩⟩, fun p => some ((p.1.1, p.2.1.1, p.2.1.2.1, p.2.1.2.2.1, p.2.2.2.1.2.1, p.2.2.2.2.1.2.1, p.2.2.2.2.2.1))⟩
noncomputable def made_l1_L (N : Nat) : LoopS := { at_ := made_l1_at, sta := made_l1_st, exits := [([.c [1, 1, 1, 0], .c [1, 1, 1, 1]], ⟨[1, 2, 4, 5], ⟨[shI, .own 1 0, .own 2 0, .own 3 0], [.segs [.sl (.int .u8), shI, .i .u32], .segs [.own 0 0], .segs [.nils, shI, .nils, .nils, .nils], .segs [.ols 4, shI, .nils, .nils, .nils], .lst (.int .i64)]⟩⟩)], run := fun p k => (made_l1 N N p.1.1 p.1.2.2.2.2.1 p.1.2.2.2.2.2.1 p.2.1.1 p.2.1.2.1 p.2.1.2.2.1 p.2.2.2.1.2.1 p.2.2.2.2.1.2.1 p.2.2.2.2.2.1).bind fun e => k (.inl ((e.1, (), (), (), ()), ((e.2.1, e.2.2.1, e.2.2.2.1, ()), ((), ()), ((), e.2.2.2.2.1, (), (), (), ()), ((), e.2.2.2.2.2.1, (), (), (), ()), e.2.2.2.2.2.2, ()))) }
theorem made_l1_eq (N n_ : Nat) (things : Int) (u : Int) (u2 : Int) (b : Li) (b2 : Int) (b3 : Int) (g : Int) (d : Int) (d2 : Li) : ev (Z := Int × Li × Int × Int × Int × Int × Li) Try.prog (made_sp N) made_B [] [made_l1_h (made_l1 N n_), made_l1_e0] none 400 true made_l1_at (stL made_l1_st ((things, (), (), (), u, u2, ()), ((b, b2, b3, ()), ((), ()), ((), g, (), (), (), ()), ((), d, (), (), (), ()), d2, ()))) (stH made_l1_st ((things, (), (), (), u, u2, ()), ((b, b2, b3, ()), ((), ()), ((), g, (), (), (), ()), ((), d, (), (), (), ()), d2, ()))) = made_l1 N (n_ + 1) things u u2 b b2 b3 g d d2 := by kernel_rfl
theorem made_l1_ok (N : Nat) {top : Bool} : LoopOK Try.prog made_B.c made_B.n made_B.m0 top (made_l1_L N) := loop_of_ev (Z := Int × Li × Int × Int × Int × Int × Li) (N := N) (fun m p => made_l1 N m p.1.1 p.1.2.2.2.2.1 p.1.2.2.2.2.2.1 p.2.1.1 p.2.1.2.1 p.2.1.2.2.1 p.2.2.2.1.2.1 p.2.2.2.2.1.2.1 p.2.2.2.2.2.1) (fun e => .inl ((e.1, (), (), (), ()), ((e.2.1, e.2.2.1, e.2.2.2.1, ()), ((), ()), ((), e.2.2.2.2.1, (), (), (), ()), ((), e.2.2.2.2.2.1, (), (), (), ()), e.2.2.2.2.2.2, ()))) (fun _ _ _ => rfl) (fun _ => rfl) (fun m z E Xc hE hX hrec hx => leaf_of_ev (B := made_B) (loops := []) (leaves := [made_l1_h (made_l1 N m), made_l1_e0]) (made_all N) mixed trivial hE hX ⟨hrec, (fun p hp => by obtain rfl := Option.some.inj hp; exact hx), trivial⟩ RetOK.no (fun p => made_l1_eq N m p.1.1 p.1.2.2.2.2.1 p.1.2.2.2.2.2.1 p.2.1.1 p.2.1.2.1 p.2.1.2.2.1 p.2.2.2.1.2.1 p.2.2.2.2.1.2.1 p.2.2.2.2.2.1))
abbrev made_l3_at : List PI := [.c [1, 1, 1, 1, 1, 0, 1, 0, 0, 1, 1, 0, 0, 1, 0, 1, 0, 0, 0], .c [1, 1, 1, 1, 1, 0, 1, 0, 0, 1, 1, 0, 0, 1, 0, 1, 0, 0, 1], .l [1, 1, 1, 1, 1, 0, 1, 0, 0, 1, 1, 0, 0, 1, 0, 1, 0, 0], .b 4, .c [1, 1, 1, 1, 1, 0, 1, 0, 0, 1, 1, 0, 0, 1, 1], .b 3, .c [1, 1, 1, 1, 1, 0, 1, 0, 0, 1, 1, 1], .l [1, 1, 1, 1, 1, 0, 1, 0, 0], .b 2, .c [1, 1, 1, 1, 1, 1]]
abbrev made_l3_st : Sta := ⟨[2, 4, 5, 6, 7, 8, 9, 34, 35, 39, 40], ⟨[.own 1 0, .own 2 0, .own 3 0, .fn 70 [] [.own 1 0], shI, shI, .ols 4, shI, shI, shI, shI], [.segs [.sl (.int .u8), shI, .i .u32], .segs [.own 0 0], .segs [.nils, shI, .nils, .nils, .nils], .segs [.ols 5, shI, .ols 6, .nils, .ols 7], .lst (.int .i64), .lst (.int .i64), .lst (.sl (.int .i64)), .lst (.int .i64)]⟩⟩
abbrev made_l3_h (rec : Int → Int → Int → Int → Int → Int → Li → Int → Int → Int → Int → Li → Li → Ll → Li → Option (Int × Int × Int × Int × Li × Int × Int × Int × Int × Li × Li × Ll × Li)) : Leaf (Int × Int × Int × Int × Li × Int × Int × Int × Int × Li × Li × Ll × Li) := ⟨made_l3_at, made_l3_st, fun p => rec p.1.2.2.2.2.1 p.1.2.2.2.2.2.1 p.1.2.2.2.2.2.2.2.1 p.1.2.2.2.2.2.2.2.2.1 p.1.2.2.2.2.2.2.2.2.2.1 p.1.2.2.2.2.2.2.2.2.2.2.1 p.2.1.1 p.2.1.2.1 p.2.1.2.2.1 p.2.2.2.1.2.1 p.2.2.2.2.1.2.1 p.2.2.2.2.2.1 p.2.2.2.2.2.2.1 p.2.2.2.2.2.2.2.1 p.2.2.2.2.2.2.2.2.1⟩
abbrev made_l3_e0 : Leaf (Int × Int × Int × Int × Li × Int × Int × Int × Int × Li × Li × Ll × Li) := ⟨[.c [1, 1, 1, 1, 1, 0, 1, 0, 0, 1, 1, 0, 0, 1, 1], .b 3, .c [1, 1, 1, 1, 1, 0, 1, 0, 0, 1, 1, 1], .l [1, 1, 1, 1, 1, 0, 1, 0, 0], .b 2, .c [1, 1, 1, 1, 1, 1]], ⟨[2, 4, 5, 6, 7, 8, 9, 34, 35], ⟨[.own 1 0, .own 2 0, .own 3 0, .fn 70 [] [.own 1 0], shI, shI, .ols 4, shI, shI], [.segs [.sl (.int .u8), shI, .i .u32], .segs [.own 0 0], .segs [.nils, shI, .nils, .nils, .nils], .segs [.ols 5, shI, .ols 6, .nils, .ols 7], .lst (.int .i64), .lst (.int .i64), .lst (.sl (.int .i64)), .lst (.int .i64)]⟩⟩, fun p => some ((p.1.2.2.2.2.1, p.1.2.2.2.2.2.1, p.1.2.2.2.2.2.2.2.1, p.1.2.2.2.2.2.2.2.2.1, p.2.1.1, p.2.1.2.1, p.2.1.2.2.1, p.2.2.2.1.2.1, p.2.2.2.2.1.2.1, p.2.2.2.2.2.1, p.2.2.2.2.2.2.1, p.2.2.2.2.2.2.2.1, p.2.2.2.2.2.2.2.2.1))⟩
noncomputable def made_l3_L (N : Nat) : LoopS := { at_ := made_l3_at, sta := made_l3_st, exits := [([.c [1, 1, 1, 1, 1, 0, 1, 0, 0, 1, 1, 0, 0, 1, 1], .b 3, .c [1, 1, 1, 1, 1, 0, 1, 0, 0, 1, 1, 1], .l [1, 1, 1, 1, 1, 0, 1, 0, 0], .b 2, .c [1, 1, 1, 1, 1, 1]], ⟨[2, 4, 5, 6, 7, 8, 9, 34, 35], ⟨[.own 1 0, .own 2 0, .own 3 0, .fn 70 [] [.own 1 0], shI, shI, .ols 4, shI, shI], [.segs [.sl (.int .u8), shI, .i .u32], .segs [.own 0 0], .segs [.nils, shI, .nils, .nils, .nils], .segs [.ols 5, shI, .ols 6, .nils, .ols 7], .lst (.int .i64), .lst (.int .i64), .lst (.sl (.int .i64)), .lst (.int .i64)]⟩⟩)], run := fun p k => (made_l3 N N p.1.2.2.2.2.1 p.1.2.2.2.2.2.1 p.1.2.2.2.2.2.2.2.1 p.1.2.2.2.2.2.2.2.2.1 p.1.2.2.2.2.2.2.2.2.2.1 p.1.2.2.2.2.2.2.2.2.2.2.1 p.2.1.1 p.2.1.2.1 p.2.1.2.2.1 p.2.2.2.1.2.1 p.2.2.2.2.1.2.1 p.2.2.2.2.2.1 p.2.2.2.2.2.2.1 p.2.2.2.2.2.2.2.1 p.2.2.2.2.2.2.2.2.1).bind fun e => k (.inl (((), (), (), ((), ((), ())), e.1, e.2.1, (), e.2.2.1, e.2.2.2.1, ()), ((e.2.2.2.2.1, e.2.2.2.2.2.1, e.2.2.2.2.2.2.1, ()), ((), ()), ((), e.2.2.2.2.2.2.2.1, (), (), (), ()), ((), e.2.2.2.2.2.2.2.2.1, (), (), (), ()), e.2.2.2.2.2.2.2.2.2.1, e.2.2.2.2.2.2.2.2.2.2.1, e.2.2.2.2.2.2.2.2.2.2.2.1, e.2.2.2.2.2.2.2.2.2.2.2.2, ()))) }
theorem made_l3_eq (N n_ : Nat) (many : Int) (often : Int) (u : Int) (u2 : Int) (u3 : Int) (u4 : Int) (b : Li) (b2 : Int) (b3 : Int) (g : Int) (d : Int) (l : Li) (d2 : Li) (d3 : Ll) (d4 : Li) : ev (Z := Int × Int × Int × Int × Li × Int × Int × Int × Int × Li × Li × Ll × Li) Try.prog (made_sp N) made_B [made_l1_L N] [made_l3_h (made_l3 N n_), made_l3_e0] none 400 true made_l3_at (stL made_l3_st (((), (), (), ((), ((), ())), many, often, (), u, u2, u3, u4, ()), ((b, b2, b3, ()), ((), ()), ((), g, (), (), (), ()), ((), d, (), (), (), ()), l, d2, d3, d4, ()))) (stH made_l3_st (((), (), (), ((), ((), ())), many, often, (), u, u2, u3, u4, ()), ((b, b2, b3, ()), ((), ()), ((), g, (), (), (), ()), ((), d, (), (), (), ()), l, d2, d3, d4, ()))) = made_l3 N (n_ + 1) many often u u2 u3 u4 b b2 b3 g d l d2 d3 d4 := by kernel_rfl
theorem made_l3_ok (N : Nat) {top : Bool} : LoopOK Try.prog made_B.c made_B.n made_B.m0 top (made_l3_L N) := loop_of_ev (Z := Int × Int × Int × Int × Li × Int × Int × Int × Int × Li × Li × Ll × Li) (N := N) (fun m p => made_l3 N m p.1.2.2.2.2.1 p.1.2.2.2.2.2.1 p.1.2.2.2.2.2.2.2.1 p.1.2.2.2.2.2.2.2.2.1 p.1.2.2.2.2.2.2.2.2.2.1 p.1.2.2.2.2.2.2.2.2.2.2.1 p.2.1.1 p.2.1.2.1 p.2.1.2.2.1 p.2.2.2.1.2.1 p.2.2.2.2.1.2.1 p.2.2.2.2.2.1 p.2.2.2.2.2.2.1 p.2.2.2.2.2.2.2.1 p.2.2.2.2.2.2.2.2.1) (fun e => .inl (((), (), (), ((), ((), ())), e.1, e.2.1, (), e.2.2.1, e.2.2.2.1, ()), ((e.2.2.2.2.1, e.2.2.2.2.2.1, e.2.2.2.2.2.2.1, ()), ((), ()), ((), e.2.2.2.2.2.2.2.1, (), (), (), ()), ((), e.2.2.2.2.2.2.2.2.1, (), (), (), ()), e.2.2.2.2.2.2.2.2.2.1, e.2.2.2.2.2.2.2.2.2.2.1, e.2.2.2.2.2.2.2.2.2.2.2.1, e.2.2.2.2.2.2.2.2.2.2.2.2, ()))) (fun _ _ _ => rfl) (fun _ => rfl) (fun m z E Xc hE hX hrec hx => leaf_of_ev (B := made_B) (loops := [made_l1_L N]) (leaves := [made_l3_h (made_l3 N m), made_l3_e0]) (made_all N) mixed ⟨made_l1_ok N, trivial⟩ hE hX ⟨hrec, (fun p hp => by obtain rfl := Option.some.inj hp; exact hx), trivial⟩ RetOK.no (fun p => made_l3_eq N m p.1.2.2.2.2.1 p.1.2.2.2.2.2.1 p.1.2.2.2.2.2.2.2.1 p.1.2.2.2.2.2.2.2.2.1 p.1.2.2.2.2.2.2.2.2.2.1 p.1.2.2.2.2.2.2.2.2.2.2.1 p.2.1.1 p.2.1.2.1 p.2.1.2.2.1 p.2.2.2.1.2.1 p.2.2.2.2.1.2.1 p.2.2.2.2.2.1 p.2.2.2.2.2.2.1 p.2.2.2.2.2.2.2.1 p.2.2.2.2.2.2.2.2.1))
abbrev made_l2_at : List PI := [.c [1, 1, 1, 1, 1, 0, 1, 0, 0, 0], .c [1, 1, 1, 1, 1, 0, 1, 0, 0, 1], .l [1, 1, 1, 1, 1, 0, 1, 0, 0], .b 2, .c [1, 1, 1, 1, 1, 1]]
abbrev made_l2_st : Sta := ⟨[2, 4, 5, 6, 7, 8, 34, 35], ⟨[.own 1 0, .own 2 0, .own 3 0, .fn 70 [] [.own 1 0], shI, shI, shI, shI], [.segs [.sl (.int .u8), shI, .i .u32], .segs [.own 0 0], .segs [.nils, shI, .nils, .nils, .nils], .segs [.ols 4, shI, .ols 5, .nils, .ols 6], .lst (.int .i64), .lst (.sl (.int .i64)), .lst (.int .i64)]⟩⟩
abbrev made_l2_h (rec : Int → Int → Int → Int → Li → Int → Int → Int → Int → Li → Ll → Li → Option (Int × Int × Li × Int × Int × Int × Int × Li × Ll × Li)) : Leaf (Int × Int × Li × Int × Int × Int × Int × Li × Ll × Li) := ⟨made_l2_at, made_l2_st, fun p => rec p.1.2.2.2.2.1 p.1.2.2.2.2.2.1 p.1.2.2.2.2.2.2.1 p.1.2.2.2.2.2.2.2.1 p.2.1.1 p.2.1.2.1 p.2.1.2.2.1 p.2.2.2.1.2.1 p.2.2.2.2.1.2.1 p.2.2.2.2.2.1 p.2.2.2.2.2.2.1 p.2.2.2.2.2.2.2.1⟩
abbrev made_l2_e0 : Leaf (Int × Int × Li × Int × Int × Int × Int × Li × Ll × Li) := ⟨[.c [1, 1, 1, 1, 1, 1, 0, 0], .c [1, 1, 1, 1, 1, 1, 0, 1], .c [1, 1, 1, 1, 1, 1, 1]], ⟨[4, 5, 6, 7, 8], ⟨[.own 1 0, .own 2 0, .fn 70 [] [.own 3 0], shI, shI], [.segs [.sl (.int .u8), shI, .i .u32], .segs [.nils, shI, .nils, .nils, .nils], .segs [.ols 4, shI, .ols 5, .nils, .ols 6], .segs [.own 0 0], .lst (.int .i64), .lst (.sl (.int .i64)), .lst (.int .i64)]⟩⟩, fun p => some ((p.1.2.2.2.1, p.1.2.2.2.2.1, p.2.1.1, p.2.1.2.1, p.2.1.2.2.1, p.2.2.1.2.1, p.2.2.2.1.2.1, p.2.2.2.2.2.1, p.2.2.2.2.2.2.1, p.2.2.2.2.2.2.2.1))⟩
noncomputable def made_l2_L (N : Nat) : LoopS := { at_ := made_l2_at, sta := made_l2_st, exits := [([.c [1, 1, 1, 1, 1, 1, 0, 0], .c [1, 1, 1, 1, 1, 1, 0, 1], .c [1, 1, 1, 1, 1, 1, 1]], ⟨[4, 5, 6, 7, 8], ⟨[.own 1 0, .own 2 0, .fn 70 [] [.own 3 0], shI, shI], [.segs [.sl (.int .u8), shI, .i .u32], .segs [.nils, shI, .nils, .nils, .nils], .segs [.ols 4, shI, .ols 5, .nils, .ols 6], .segs [.own 0 0], .lst (.int .i64), .lst (.sl (.int .i64)), .lst (.int .i64)]⟩⟩)], run := fun p k => (made_l2 N N p.1.2.2.2.2.1 p.1.2.2.2.2.2.1 p.1.2.2.2.2.2.2.1 p.1.2.2.2.2.2.2.2.1 p.2.1.1 p.2.1.2.1 p.2.1.2.2.1 p.2.2.2.1.2.1 p.2.2.2.2.1.2.1 p.2.2.2.2.2.1 p.2.2.2.2.2.2.1 p.2.2.2.2.2.2.2.1).bind fun e => k (.inl (((), (), ((), ((), ())), e.1, e.2.1, ()), ((e.2.2.1, e.2.2.2.1, e.2.2.2.2.1, ()), ((), e.2.2.2.2.2.1, (), (), (), ()), ((), e.2.2.2.2.2.2.1, (), (), (), ()), ((), ()), e.2.2.2.2.2.2.2.1, e.2.2.2.2.2.2.2.2.1, e.2.2.2.2.2.2.2.2.2, ()))) }
theorem made_l2_eq (N n_ : Nat) (many : Int) (often : Int) (u : Int) (u2 : Int) (b : Li) (b2 : Int) (b3 : Int) (g : Int) (d : Int) (d2 : Li) (d3 : Ll) (d4 : Li) : ev (Z := Int × Int × Li × Int × Int × Int × Int × Li × Ll × Li) Try.prog (made_sp N) made_B [made_l1_L N, made_l3_L N] [made_l2_h (made_l2 N n_), made_l2_e0] none 400 true made_l2_at (stL made_l2_st (((), (), (), ((), ((), ())), many, often, u, u2, ()), ((b, b2, b3, ()), ((), ()), ((), g, (), (), (), ()), ((), d, (), (), (), ()), d2, d3, d4, ()))) (stH made_l2_st (((), (), (), ((), ((), ())), many, often, u, u2, ()), ((b, b2, b3, ()), ((), ()), ((), g, (), (), (), ()), ((), d, (), (), (), ()), d2, d3, d4, ()))) = made_l2 N (n_ + 1) many often u u2 b b2 b3 g d d2 d3 d4 := by kernel_rfl
theorem made_l2_ok (N : Nat) {top : Bool} : LoopOK Try.prog made_B.c made_B.n made_B.m0 top (made_l2_L N) := loop_of_ev (Z := Int × Int × Li × Int × Int × Int × Int × Li × Ll × Li) (N := N) (fun m p => made_l2 N m p.1.2.2.2.2.1 p.1.2.2.2.2.2.1 p.1.2.2.2.2.2.2.1 p.1.2.2.2.2.2.2.2.1 p.2.1.1 p.2.1.2.1 p.2.1.2.2.1 p.2.2.2.1.2.1 p.2.2.2.2.1.2.1 p.2.2.2.2.2.1 p.2.2.2.2.2.2.1 p.2.2.2.2.2.2.2.1) (fun e => .inl (((), (), ((), ((), ())), e.1, e.2.1, ()), ((e.2.2.1, e.2.2.2.1, e.2.2.2.2.1, ()), ((), e.2.2.2.2.2.1, (), (), (), ()), ((), e.2.2.2.2.2.2.1, (), (), (), ()), ((), ()), e.2.2.2.2.2.2.2.1, e.2.2.2.2.2.2.2.2.1, e.2.2.2.2.2.2.2.2.2, ()))) (fun _ _ _ => rfl) (fun _ => rfl) (fun m z E Xc hE hX hrec hx => leaf_of_ev (B := made_B) (loops := [made_l1_L N, made_l3_L N]) (leaves := [made_l2_h (made_l2 N m), made_l2_e0]) (made_all N) mixed ⟨made_l1_ok N, made_l3_ok N, trivial⟩ hE hX ⟨hrec, (fun p hp => by obtain rfl := Option.some.inj hp; exact hx), trivial⟩ RetOK.no (fun p => made_l2_eq N m p.1.2.2.2.2.1 p.1.2.2.2.2.2.1 p.1.2.2.2.2.2.2.1 p.1.2.2.2.2.2.2.2.1 p.2.1.1 p.2.1.2.1 p.2.1.2.2.1 p.2.2.2.1.2.1 p.2.2.2.2.1.2.1 p.2.2.2.2.2.1 p.2.2.2.2.2.2.1 p.2.2.2.2.2.2.2.1))
abbrev made_l5_at : List PI := [.c [1, 1, 1, 1, 1, 1, 0, 1, 0, 0, 1, 1, 0, 0, 1, 0, 1, 0, 0, 0], .c [1, 1, 1, 1, 1, 1, 0, 1, 0, 0, 1, 1, 0, 0, 1, 0, 1, 0, 0, 1], .l [1, 1, 1, 1, 1, 1, 0, 1, 0, 0, 1, 1, 0, 0, 1, 0, 1, 0, 0], .b 8, .c [1, 1, 1, 1, 1, 1, 0, 1, 0, 0, 1, 1, 0, 0, 1, 1], .b 7, .c [1, 1, 1, 1, 1, 1, 0, 1, 0, 0, 1, 1, 1], .l [1, 1, 1, 1, 1, 1, 0, 1, 0, 0], .b 6, .c [1, 1, 1, 1, 1, 1, 1]]
abbrev made_l5_st : Sta := ⟨[4, 5, 6, 8, 10, 63, 64, 68, 69], ⟨[.own 1 0, .own 2 0, .fn 70 [] [.own 3 0], shI, .ols 4, shI, shI, shI, shI], [.segs [.sl (.int .u8), shI, .i .u32], .segs [.nils, shI, .nils, .nils, .nils], .segs [.ols 5, shI, .ols 6, .ols 7, .ols 8], .segs [.own 0 0], .lst (.int .i64), .lst (.int .i64), .lst (.sl (.int .i64)), .lst (.sl (.int .i64)), .lst (.int .i64)]⟩⟩
abbrev made_l5_h (rec : Int → Int → Int → Int → Int → Li → Int → Int → Int → Int → Li → Li → Ll → Ll → Li → Option (Int × Int × Int × Li × Int × Int × Int × Int × Li × Li × Ll × Ll × Li)) : Leaf (Int × Int × Int × Li × Int × Int × Int × Int × Li × Li × Ll × Ll × Li) := ⟨made_l5_at, made_l5_st, fun p => rec p.1.2.2.2.1 p.1.2.2.2.2.2.1 p.1.2.2.2.2.2.2.1 p.1.2.2.2.2.2.2.2.1 p.1.2.2.2.2.2.2.2.2.1 p.2.1.1 p.2.1.2.1 p.2.1.2.2.1 p.2.2.1.2.1 p.2.2.2.1.2.1 p.2.2.2.2.2.1 p.2.2.2.2.2.2.1 p.2.2.2.2.2.2.2.1 p.2.2.2.2.2.2.2.2.1 p.2.2.2.2.2.2.2.2.2.1⟩
abbrev made_l5_e0 : Leaf (Int × Int × Int × Li × Int × Int × Int × Int × Li × Li × Ll × Ll × Li) := ⟨[.c [1, 1, 1, 1, 1, 1, 0, 1, 0, 0, 1, 1, 0, 0, 1, 1], .b 7, .c [1, 1, 1, 1, 1, 1, 0, 1, 0, 0, 1, 1, 1], .l [1, 1, 1, 1, 1, 1, 0, 1, 0, 0], .b 6, .c [1, 1, 1, 1, 1, 1, 1]], ⟨[4, 5, 6, 8, 10, 63, 64], ⟨[.own 1 0, .own 2 0, .fn 70 [] [.own 3 0], shI, .ols 4, shI, shI], [.segs [.sl (.int .u8), shI, .i .u32], .segs [.nils, shI, .nils, .nils, .nils], .segs [.ols 5, shI, .ols 6, .ols 7, .ols 8], .segs [.own 0 0], .lst (.int .i64), .lst (.int .i64), .lst (.sl (.int .i64)), .lst (.sl (.int .i64)), .lst (.int .i64)]⟩⟩, fun p => some ((p.1.2.2.2.1, p.1.2.2.2.2.2.1, p.1.2.2.2.2.2.2.1, p.2.1.1, p.2.1.2.1, p.2.1.2.2.1, p.2.2.1.2.1, p.2.2.2.1.2.1, p.2.2.2.2.2.1, p.2.2.2.2.2.2.1, p.2.2.2.2.2.2.2.1, p.2.2.2.2.2.2.2.2.1, p.2.2.2.2.2.2.2.2.2.1))⟩
noncomputable def made_l5_L (N : Nat) : LoopS := { at_ := made_l5_at, sta := made_l5_st, exits := [([.c [1, 1, 1, 1, 1, 1, 0, 1, 0, 0, 1, 1, 0, 0, 1, 1], .b 7, .c [1, 1, 1, 1, 1, 1, 0, 1, 0, 0, 1, 1, 1], .l [1, 1, 1, 1, 1, 1, 0, 1, 0, 0], .b 6, .c [1, 1, 1, 1, 1, 1, 1]], ⟨[4, 5, 6, 8, 10, 63, 64], ⟨[.own 1 0, .own 2 0, .fn 70 [] [.own 3 0], shI, .ols 4, shI, shI], [.segs [.sl (.int .u8), shI, .i .u32], .segs [.nils, shI, .nils, .nils, .nils], .segs [.ols 5, shI, .ols 6, .ols 7, .ols 8], .segs [.own 0 0], .lst (.int .i64), .lst (.int .i64), .lst (.sl (.int .i64)), .lst (.sl (.int .i64)), .lst (.int .i64)]⟩⟩)], run := fun p k => (made_l5 N N p.1.2.2.2.1 p.1.2.2.2.2.2.1 p.1.2.2.2.2.2.2.1 p.1.2.2.2.2.2.2.2.1 p.1.2.2.2.2.2.2.2.2.1 p.2.1.1 p.2.1.2.1 p.2.1.2.2.1 p.2.2.1.2.1 p.2.2.2.1.2.1 p.2.2.2.2.2.1 p.2.2.2.2.2.2.1 p.2.2.2.2.2.2.2.1 p.2.2.2.2.2.2.2.2.1 p.2.2.2.2.2.2.2.2.2.1).bind fun e => k (.inl (((), (), ((), ((), ())), e.1, (), e.2.1, e.2.2.1, ()), ((e.2.2.2.1, e.2.2.2.2.1, e.2.2.2.2.2.1, ()), ((), e.2.2.2.2.2.2.1, (), (), (), ()), ((), e.2.2.2.2.2.2.2.1, (), (), (), ()), ((), ()), e.2.2.2.2.2.2.2.2.1, e.2.2.2.2.2.2.2.2.2.1, e.2.2.2.2.2.2.2.2.2.2.1, e.2.2.2.2.2.2.2.2.2.2.2.1, e.2.2.2.2.2.2.2.2.2.2.2.2, ()))) }
theorem made_l5_eq (N n_ : Nat) (often : Int) (u : Int) (u2 : Int) (u3 : Int) (u4 : Int) (value : Li) (value2 : Int) (value3 : Int) (g : Int) (d : Int) (l : Li) (d2 : Li) (d3 : Ll) (d4 : Ll) (d5 : Li) : ev (Z := Int × Int × Int × Li × Int × Int × Int × Int × Li × Li × Ll × Ll × Li) Try.prog (made_sp N) made_B [made_l1_L N, made_l3_L N, made_l2_L N] [made_l5_h (made_l5 N n_), made_l5_e0] none 400 true made_l5_at (stL made_l5_st (((), (), ((), ((), ())), often, (), u, u2, u3, u4, ()), ((value, value2, value3, ()), ((), g, (), (), (), ()), ((), d, (), (), (), ()), ((), ()), l, d2, d3, d4, d5, ()))) (stH made_l5_st (((), (), ((), ((), ())), often, (), u, u2, u3, u4, ()), ((value, value2, value3, ()), ((), g, (), (), (), ()), ((), d, (), (), (), ()), ((), ()), l, d2, d3, d4, d5, ()))) = made_l5 N (n_ + 1) often u u2 u3 u4 value value2 value3 g d l d2 d3 d4 d5 := by kernel_rfl
theorem made_l5_ok (N : Nat) {top : Bool} : LoopOK Try.prog made_B.c made_B.n made_B.m0 top (made_l5_L N) := loop_of_ev (Z := Int × Int × Int × Li × Int × Int × Int × Int × Li × Li × Ll × Ll × Li) (N := N) (fun m p => made_l5 N m p.1.2.2.2.1 p.1.2.2.2.2.2.1 p.1.2.2.2.2.2.2.1 p.1.2.2.2.2.2.2.2.1 p.1.2.2.2.2.2.2.2.2.1 p.2.1.1 p.2.1.2.1 p.2.1.2.2.1 p.2.2.1.2.1 p.2.2.2.1.2.1 p.2.2.2.2.2.1 p.2.2.2.2.2.2.1 p.2.2.2.2.2.2.2.1 p.2.2.2.2.2.2.2.2.1 p.2.2.2.2.2.2.2.2.2.1) (fun e => .inl (((), (), ((), ((), ())), e.1, (), e.2.1, e.2.2.1, ()), ((e.2.2.2.1, e.2.2.2.2.1, e.2.2.2.2.2.1, ()), ((), e.2.2.2.2.2.2.1, (), (), (), ()), ((), e.2.2.2.2.2.2.2.1, (), (), (), ()), ((), ()), e.2.2.2.2.2.2.2.2.1, e.2.2.2.2.2.2.2.2.2.1, e.2.2.2.2.2.2.2.2.2.2.1, e.2.2.2.2.2.2.2.2.2.2.2.1, e.2.2.2.2.2.2.2.2.2.2.2.2, ()))) (fun _ _ _ => rfl) (fun _ => rfl) (fun m z E Xc hE hX hrec hx => leaf_of_ev (B := made_B) (loops := [made_l1_L N, made_l3_L N, made_l2_L N]) (leaves := [made_l5_h (made_l5 N m), made_l5_e0]) (made_all N) mixed ⟨made_l1_ok N, made_l3_ok N, made_l2_ok N, trivial⟩ hE hX ⟨hrec, (fun p hp => by obtain rfl := Option.some.inj hp; exact hx), trivial⟩ RetOK.no (fun p => made_l5_eq N m p.1.2.2.2.1 p.1.2.2.2.2.2.1 p.1.2.2.2.2.2.2.1 p.1.2.2.2.2.2.2.2.1 p.1.2.2.2.2.2.2.2.2.1 p.2.1.1 p.2.1.2.1 p.2.1.2.2.1 p.2.2.1.2.1 p.2.2.2.1.2.1 p.2.2.2.2.2.1 p.2.2.2.2.2.2.1 p.2.2.2.2.2.2.2.1 p.2.2.2.2.2.2.2.2.1 p.2.2.2.2.2.2.2.2.2.1))
abbrev made_l4_at : List PI := [.c [1, 1, 1, 1, 1, 1, 0, 1, 0, 0, 0], .c [1, 1, 1, 1, 1, 1, 0, 1, 0, 0, 1], .l [1, 1, 1, 1, 1, 1, 0, 1, 0, 0], .b 6, .c [1, 1, 1, 1, 1, 1, 1]]
abbrev made_l4_st : Sta := ⟨[4, 5, 6, 8, 63, 64], ⟨[.own 1 0, .own 2 0, .fn 70 [] [.own 3 0], shI, shI, shI], [.segs [.sl (.int .u8), shI, .i .u32], .segs [.nils, shI, .nils, .nils, .nils], .segs [.ols 4, shI, .ols 5, .ols 6, .ols 7], .segs [.own 0 0], .lst (.int .i64), .lst (.sl (.int .i64)), .lst (.sl (.int .i64)), .lst (.int .i64)]⟩⟩
abbrev made_l4_h (rec : Int → Int → Int → Li → Int → Int → Int → Int → Li → Ll → Ll → Li → Option (Li × Int × Int × Int × Int × Li × Ll × Ll × Li)) : Leaf (Li × Int × Int × Int × Int × Li × Ll × Ll × Li) := ⟨made_l4_at, made_l4_st, fun p => rec p.1.2.2.2.1 p.1.2.2.2.2.1 p.1.2.2.2.2.2.1 p.2.1.1 p.2.1.2.1 p.2.1.2.2.1 p.2.2.1.2.1 p.2.2.2.1.2.1 p.2.2.2.2.2.1 p.2.2.2.2.2.2.1 p.2.2.2.2.2.2.2.1 p.2.2.2.2.2.2.2.2.1⟩
abbrev made_l4_e0 : Leaf (Li × Int × Int × Int × Int × Li × Ll × Ll × Li) := ⟨[.c [1, 1, 1, 1, 1, 1, 1, 0], .c [1, 1, 1, 1, 1, 1, 1, 1]], ⟨[4, 5], ⟨[.own 1 0, .own 2 0], [.segs [.sl (.int .u8), shI, .i .u32], .segs [.nils, shI, .nils, .nils, .nils], .segs [.ols 3, shI, .ols 4, .ols 5, .ols 6], .lst (.int .i64), .lst (.sl (.int .i64)), .lst (.sl (.int .i64)), .lst (.int .i64)]⟩⟩, fun p => some ((p.2.1.1, p.2.1.2.1, p.2.1.2.2.1, p.2.2.1.2.1, p.2.2.2.1.2.1, p.2.2.2.2.1, p.2.2.2.2.2.1, p.2.2.2.2.2.2.1, p.2.2.2.2.2.2.2.1))⟩
noncomputable def made_l4_L (N : Nat) : LoopS := { at_ := made_l4_at, sta := made_l4_st, exits := [([.c [1, 1, 1, 1, 1, 1, 1, 0], .c [1, 1, 1, 1, 1, 1, 1, 1]], ⟨[4, 5], ⟨[.own 1 0, .own 2 0], [.segs [.sl (.int .u8), shI, .i .u32], .segs [.nils, shI, .nils, .nils, .nils], .segs [.ols 3, shI, .ols 4, .ols 5, .ols 6], .lst (.int .i64), .lst (.sl (.int .i64)), .lst (.sl (.int .i64)), .lst (.int .i64)]⟩⟩)], run := fun p k => (made_l4 N N p.1.2.2.2.1 p.1.2.2.2.2.1 p.1.2.2.2.2.2.1 p.2.1.1 p.2.1.2.1 p.2.1.2.2.1 p.2.2.1.2.1 p.2.2.2.1.2.1 p.2.2.2.2.2.1 p.2.2.2.2.2.2.1 p.2.2.2.2.2.2.2.1 p.2.2.2.2.2.2.2.2.1).bind fun e => k (.inl (((), (), ()), ((e.1, e.2.1, e.2.2.1, ()), ((), e.2.2.2.1, (), (), (), ()), ((), e.2.2.2.2.1, (), (), (), ()), e.2.2.2.2.2.1, e.2.2.2.2.2.2.1, e.2.2.2.2.2.2.2.1, e.2.2.2.2.2.2.2.2, ()))) }
theorem made_l4_eq (N n_ : Nat) (often : Int) (u : Int) (u2 : Int) (value : Li) (value2 : Int) (value3 : Int) (g : Int) (d : Int) (d2 : Li) (d3 : Ll) (d4 : Ll) (d5 : Li) : ev (Z := Li × Int × Int × Int × Int × Li × Ll × Ll × Li) Try.prog (made_sp N) made_B [made_l1_L N, made_l3_L N, made_l2_L N, made_l5_L N] [made_l4_h (made_l4 N n_), made_l4_e0] none 400 true made_l4_at (stL made_l4_st (((), (), ((), ((), ())), often, u, u2, ()), ((value, value2, value3, ()), ((), g, (), (), (), ()), ((), d, (), (), (), ()), ((), ()), d2, d3, d4, d5, ()))) (stH made_l4_st (((), (), ((), ((), ())), often, u, u2, ()), ((value, value2, value3, ()), ((), g, (), (), (), ()), ((), d, (), (), (), ()), ((), ()), d2, d3, d4, d5, ()))) = made_l4 N (n_ + 1) often u u2 value value2 value3 g d d2 d3 d4 d5 := by kernel_rfl
theorem made_l4_ok (N : Nat) {top : Bool} : LoopOK Try.prog made_B.c made_B.n made_B.m0 top (made_l4_L N) := loop_of_ev (Z := Li × Int × Int × Int × Int × Li × Ll × Ll × Li) (N := N) (fun m p => made_l4 N m p.1.2.2.2.1 p.1.2.2.2.2.1 p.1.2.2.2.2.2.1 p.2.1.1 p.2.1.2.1 p.2.1.2.2.1 p.2.2.1.2.1 p.2.2.2.1.2.1 p.2.2.2.2.2.1 p.2.2.2.2.2.2.1 p.2.2.2.2.2.2.2.1 p.2.2.2.2.2.2.2.2.1) (fun e => .inl (((), (), ()), ((e.1, e.2.1, e.2.2.1, ()), ((), e.2.2.2.1, (), (), (), ()), ((), e.2.2.2.2.1, (), (), (), ()), e.2.2.2.2.2.1, e.2.2.2.2.2.2.1, e.2.2.2.2.2.2.2.1, e.2.2.2.2.2.2.2.2, ()))) (fun _ _ _ => rfl) (fun _ => rfl) (fun m z E Xc hE hX hrec hx => leaf_of_ev (B := made_B) (loops := [made_l1_L N, made_l3_L N, made_l2_L N, made_l5_L N]) (leaves := [made_l4_h (made_l4 N m), made_l4_e0]) (made_all N) mixed ⟨made_l1_ok N, made_l3_ok N, made_l2_ok N, made_l5_ok N, trivial⟩ hE hX ⟨hrec, (fun p hp => by obtain rfl := Option.some.inj hp; exact hx), trivial⟩ RetOK.no (fun p => made_l4_eq N m p.1.2.2.2.1 p.1.2.2.2.2.1 p.1.2.2.2.2.2.1 p.2.1.1 p.2.1.2.1 p.2.1.2.2.1 p.2.2.1.2.1 p.2.2.2.1.2.1 p.2.2.2.2.2.1 p.2.2.2.2.2.2.1 p.2.2.2.2.2.2.2.1 p.2.2.2.2.2.2.2.2.1))
abbrev made_st : Sta := ⟨[0, 1], ⟨[.own 0 0, shI], [.segs [.sl (.int .u8), shI, .i .u32]]⟩⟩
theorem made_eq (N : Nat) (things : Int) (b : Li) (b2 : Int) (b3 : Int) : ev (Z := Li × Int × Ll × Ll × Li × Li × Int × Int) Try.prog (made_sp N) made_B [made_l1_L N, made_l3_L N, made_l2_L N, made_l5_L N, made_l4_L N] [] (some made_rt) 400 false [.c [0], .c [1]] (stL made_st (((), things, ()), ((b, b2, b3, ()), ()))) (stH made_st (((), things, ()), ((b, b2, b3, ()), ()))) = made_S N things b b2 b3 := by kernel_rfl
noncomputable def sp_made (N : Nat) : Spec := { f := 17, ins := ⟨[.own 0 0, shI], [.segs [.sl (.int .u8), shI, .i .u32]]⟩, outs := [⟨[shG], [.segs [.sl (.int .u8), shI, .i .u32]]⟩], run := fun p k => (made_S N p.1.2.1 p.2.1.1 p.2.1.2.1 p.2.1.2.2.1).bind fun r => k (((r.1, r.2.1, r.2.2.1, r.2.2.2.1, r.2.2.2.2.1, ()), ()), ((r.2.2.2.2.2.1, r.2.2.2.2.2.2.1, r.2.2.2.2.2.2.2, ()), ())) }
theorem sp_made_ok (N : Nat) : SpecOK Try.prog (sp_made N) := fn_sound (B := made_B) (loops := [made_l1_L N, made_l3_L N, made_l2_L N, made_l5_L N, made_l4_L N]) (leaves := []) (fun p => made_S N p.1.2.1 p.2.1.1 p.2.1.2.1 p.2.1.2.2.1) (fun r => (((r.1, r.2.1, r.2.2.1, r.2.2.2.1, r.2.2.2.2.1, ()), ()), ((r.2.2.2.2.2.1, r.2.2.2.2.2.2.1, r.2.2.2.2.2.2.2, ()), ()))) made_rt (fun _ _ _ => rfl) (fun r z h => by cases h; rfl) Try.func17 (by kernel_rfl) (by kernel_rfl) (by kernel_rfl) rfl rfl (by kernel_rfl) (fun args w => Sem.pv_run _ _ _ (by kernel_rfl) w) (made_all N) mixed ⟨made_l1_ok N, made_l3_ok N, made_l2_ok N, made_l5_ok N, made_l4_ok N, trivial⟩ (fun z E Xc hE hX hret => trivial) (fun p => made_eq N p.1.2.1 p.2.1.1 p.2.1.2.1 p.2.1.2.2.1)

def lpair_j1 (N : Nat) (rec : Int → Int → Int → Li → Int → Int → Li → Int → Ll → Ll → Li → Option (Int × Int × Li × Int × Ll × Ll × Li)) (found : Int) (n : Int) (slips : Int) (u : Li) (u2 : Int) (u3 : Int) (d : Li) (d2 : Int) (d3 : Ll) (d4 : Ll) (d5 : Li) : Option (Int × Int × Li × Int × Ll × Ll × Li) :=
  chk (u3 + 1) <|
  rec found n slips u u2 (u3 + 1) d d2 d3 d4 d5
def lpair_l1 (N : Nat) : Nat → Int → Int → Int → Li → Int → Int → Li → Int → Ll → Ll → Li → Option (Int × Int × Li × Int × Ll × Ll × Li)
  | 0, _, _, _, _, _, _, _, _, _, _, _ => none
  | n_ + 1, found, n, slips, u, u2, u3, d, d2, d3, d4, d5 =>
    br (decide (u3 < u2))
      (idx u u3 fun x_2 =>
      idx d4 found fun x_3 =>
      idx x_3 u3 fun x_4 =>
      br (decide (x_2 = -1))
        (lpair_j1 N (lpair_l1 N n_) found n slips u u2 u3 d d2 d3 d4 d5)
        (br (decide (x_4 = -1))
          (lpair_j1 N (lpair_l1 N n_) found n slips u u2 u3 d d2 d3 d4 d5)
          (br (decide (x_2 = x_4))
            (idx d u3 fun x_5 =>
            chk (n + x_5) <|
            lpair_j1 N (lpair_l1 N n_) found (n + x_5) slips u u2 u3 d d2 d3 d4 d5)
            (chk (slips + 1) <|
            lpair_j1 N (lpair_l1 N n_) found n (slips + 1) u u2 u3 d d2 d3 d4 d5))))
      (some ((n, slips, d, d2, d3, d4, d5)))
def lpair_S (N : Nat) (d : Li) (d2 : Int) (d3 : Ll) (d4 : Ll) (d5 : Li) (lost : Int) (found : Int) : Option (Int × Bool) :=
  idx d3 lost fun x_1 =>
  (lpair_l1 N N found 0 0 x_1 (x_1.length : Int) 0 d d2 d3 d4 d5).bind fun (n_6, slips_7, d_8, d2_9, d3_10, d4_11, d5_12) =>
  br (decide (0 < n_6))
    (some (n_6, (decide (slips_7 ≤ d2_9))))
    (some (n_6, false))
noncomputable def lpair_sp (N : Nat) : List Spec := []
theorem lpair_all (N : Nat) : AllP (SpecOK Try.prog) (lpair_sp N) := trivial
noncomputable def lpair_c : Code := (Try.f37.body).getD .skip
noncomputable abbrev lpair_B : Body := { c := lpair_c, n := 62, res := [.tmp 6, .tmp 7], outs := [⟨[shI, .b], []⟩], m0 := 0 }
abbrev lpair_rt : altD lpair_B.outs → Option (Int × Bool) := fun r => some (r.1.1, r.1.2.1)
abbrev lpair_l1_at : List PI := [.c [1, 1, 0, 1, 0, 0, 0], .c [1, 1, 0, 1, 0, 0, 1], .l [1, 1, 0, 1, 0, 0], .b 0, .c [1, 1, 1]]
abbrev lpair_l1_st : Sta := ⟨[2, 3, 8, 9, 17, 18, 19], ⟨[shI, .own 0 0, shI, shI, shL, shI, shI], [.segs [shL, shI, shQ, shQ, shL]]⟩⟩
abbrev lpair_l1_h (rec : Int → Int → Int → Li → Int → Int → Li → Int → Ll → Ll → Li → Option (Int × Int × Li × Int × Ll × Ll × Li)) : Leaf (Int × Int × Li × Int × Ll × Ll × Li) := ⟨lpair_l1_at, lpair_l1_st, fun p => rec p.1.1 p.1.2.2.1 p.1.2.2.2.1 p.1.2.2.2.2.1 p.1.2.2.2.2.2.1 p.1.2.2.2.2.2.2.1 p.2.1.1 p.2.1.2.1 p.2.1.2.2.1 p.2.1.2.2.2.1 p.2.1.2.2.2.2.1⟩
abbrev lpair_l1_e0 : Leaf (Int × Int × Li × Int × Ll × Ll × Li) := ⟨[.c [1, 1, 1, 0], .c [1, 1, 1, 1]], ⟨[3, 8, 9], ⟨[.own 0 0, shI, shI], [.segs [shL, shI, shQ, shQ, shL]]⟩⟩, fun p => some ((p.1.2.1, p.1.2.2.1, p.2.1.1, p.2.1.2.1, p.2.1.2.2.1, p.2.1.2.2.2.1, p.2.1.2.2.2.2.1))⟩
abbrev lpair_j1_at : List PI := [.c [1, 1, 0, 1, 0, 0, 1, 1, 1], .l [1, 1, 0, 1, 0, 0], .b 0, .c [1, 1, 1]]
abbrev lpair_j1_st : Sta := ⟨[2, 3, 8, 9, 17, 18, 19], ⟨[shI, .own 0 0, shI, shI, shL, shI, shI], [.segs [shL, shI, shQ, shQ, shL]]⟩⟩
abbrev lpair_j1_k (N : Nat) (rec : Int → Int → Int → Li → Int → Int → Li → Int → Ll → Ll → Li → Option (Int × Int × Li × Int × Ll × Ll × Li)) : Leaf (Int × Int × Li × Int × Ll × Ll × Li) := ⟨lpair_j1_at, lpair_j1_st, fun p => lpair_j1 N rec p.1.1 p.1.2.2.1 p.1.2.2.2.1 p.1.2.2.2.2.1 p.1.2.2.2.2.2.1 p.1.2.2.2.2.2.2.1 p.2.1.1 p.2.1.2.1 p.2.1.2.2.1 p.2.1.2.2.2.1 p.2.1.2.2.2.2.1⟩
theorem lpair_j1_eq (N : Nat) (rec : Int → Int → Int → Li → Int → Int → Li → Int → Ll → Ll → Li → Option (Int × Int × Li × Int × Ll × Ll × Li)) (found : Int) (n : Int) (slips : Int) (u : Li) (u2 : Int) (u3 : Int) (d : Li) (d2 : Int) (d3 : Ll) (d4 : Ll) (d5 : Li) : ev (Z := Int × Int × Li × Int × Ll × Ll × Li) Try.prog (lpair_sp N) lpair_B [] [lpair_l1_h rec, lpair_l1_e0] none 400 true lpair_j1_at (stL lpair_j1_st ((found, (), n, slips, u, u2, u3, ()), ((d, d2, d3, d4, d5, ()), ()))) (stH lpair_j1_st ((found, (), n, slips, u, u2, u3, ()), ((d, d2, d3, d4, d5, ()), ()))) = lpair_j1 N rec found n slips u u2 u3 d d2 d3 d4 d5 := by kernel_rfl
theorem lpair_j1_lf (N : Nat) (rec : Int → Int → Int → Li → Int → Int → Li → Int → Ll → Ll → Li → Option (Int × Int × Li × Int × Ll × Ll × Li)) {z : Int × Int × Li × Int × Ll × Ll × Li} {top : Bool} {E : EE} {Xc : Ctx} (hE : EOK lpair_B.m0 E) (hX : CxOK top Xc) (hrec : LeafOK Try.prog lpair_B.c lpair_B.n lpair_B.m0 E Xc z (lpair_l1_h rec)) (h0 : LeafOK Try.prog lpair_B.c lpair_B.n lpair_B.m0 E Xc z lpair_l1_e0) : LeafOK Try.prog lpair_B.c lpair_B.n lpair_B.m0 E Xc z (lpair_j1_k N rec) := leaf_of_ev (B := lpair_B) (loops := []) (leaves := [lpair_l1_h rec, lpair_l1_e0]) (lpair_all N) mixed trivial hE hX ⟨hrec, h0, trivial⟩ RetOK.no (fun p => lpair_j1_eq N rec p.1.1 p.1.2.2.1 p.1.2.2.2.1 p.1.2.2.2.2.1 p.1.2.2.2.2.2.1 p.1.2.2.2.2.2.2.1 p.2.1.1 p.2.1.2.1 p.2.1.2.2.1 p.2.1.2.2.2.1 p.2.1.2.2.2.2.1)
noncomputable def lpair_l1_L (N : Nat) : LoopS := { at_ := lpair_l1_at, sta := lpair_l1_st, exits := [([.c [1, 1, 1, 0], .c [1, 1, 1, 1]], ⟨[3, 8, 9], ⟨[.own 0 0, shI, shI], [.segs [shL, shI, shQ, shQ, shL]]⟩⟩)], run := fun p k => (lpair_l1 N N p.1.1 p.1.2.2.1 p.1.2.2.2.1 p.1.2.2.2.2.1 p.1.2.2.2.2.2.1 p.1.2.2.2.2.2.2.1 p.2.1.1 p.2.1.2.1 p.2.1.2.2.1 p.2.1.2.2.2.1 p.2.1.2.2.2.2.1).bind fun e => k (.inl (((), e.1, e.2.1, ()), ((e.2.2.1, e.2.2.2.1, e.2.2.2.2.1, e.2.2.2.2.2.1, e.2.2.2.2.2.2, ()), ()))) }
theorem lpair_l1_eq (N n_ : Nat) (found : Int) (n : Int) (slips : Int) (u : Li) (u2 : Int) (u3 : Int) (d : Li) (d2 : Int) (d3 : Ll) (d4 : Ll) (d5 : Li) : ev (Z := Int × Int × Li × Int × Ll × Ll × Li) Try.prog (lpair_sp N) lpair_B [] [lpair_l1_h (lpair_l1 N n_), lpair_l1_e0, lpair_j1_k N (lpair_l1 N n_)] none 400 true lpair_l1_at (stL lpair_l1_st ((found, (), n, slips, u, u2, u3, ()), ((d, d2, d3, d4, d5, ()), ()))) (stH lpair_l1_st ((found, (), n, slips, u, u2, u3, ()), ((d, d2, d3, d4, d5, ()), ()))) = lpair_l1 N (n_ + 1) found n slips u u2 u3 d d2 d3 d4 d5 := by kernel_rfl
theorem lpair_l1_ok (N : Nat) {top : Bool} : LoopOK Try.prog lpair_B.c lpair_B.n lpair_B.m0 top (lpair_l1_L N) := loop_of_ev (Z := Int × Int × Li × Int × Ll × Ll × Li) (N := N) (fun m p => lpair_l1 N m p.1.1 p.1.2.2.1 p.1.2.2.2.1 p.1.2.2.2.2.1 p.1.2.2.2.2.2.1 p.1.2.2.2.2.2.2.1 p.2.1.1 p.2.1.2.1 p.2.1.2.2.1 p.2.1.2.2.2.1 p.2.1.2.2.2.2.1) (fun e => .inl (((), e.1, e.2.1, ()), ((e.2.2.1, e.2.2.2.1, e.2.2.2.2.1, e.2.2.2.2.2.1, e.2.2.2.2.2.2, ()), ()))) (fun _ _ _ => rfl) (fun _ => rfl) (fun m z E Xc hE hX hrec hx => leaf_of_ev (B := lpair_B) (loops := []) (leaves := [lpair_l1_h (lpair_l1 N m), lpair_l1_e0, lpair_j1_k N (lpair_l1 N m)]) (lpair_all N) mixed trivial hE hX ⟨hrec, (fun p hp => by obtain rfl := Option.some.inj hp; exact hx), lpair_j1_lf N _ hE hX hrec (fun p hp => by obtain rfl := Option.some.inj hp; exact hx), trivial⟩ RetOK.no (fun p => lpair_l1_eq N m p.1.1 p.1.2.2.1 p.1.2.2.2.1 p.1.2.2.2.2.1 p.1.2.2.2.2.2.1 p.1.2.2.2.2.2.2.1 p.2.1.1 p.2.1.2.1 p.2.1.2.2.1 p.2.1.2.2.2.1 p.2.1.2.2.2.2.1))
abbrev lpair_st : Sta := ⟨[0, 1, 2], ⟨[shG, shI, shI], []⟩⟩
theorem lpair_eq (N : Nat) (d : Li) (d2 : Int) (d3 : Ll) (d4 : Ll) (d5 : Li) (lost : Int) (found : Int) : ev (Z := Int × Bool) Try.prog (lpair_sp N) lpair_B [lpair_l1_L N] [] (some lpair_rt) 400 false [.c [0], .c [1]] (stL lpair_st (((d, d2, d3, d4, d5, ()), lost, found, ()), ())) (stH lpair_st (((d, d2, d3, d4, d5, ()), lost, found, ()), ())) = lpair_S N d d2 d3 d4 d5 lost found := by kernel_rfl
noncomputable def sp_lpair (N : Nat) : Spec := { f := 37, ins := ⟨[shG, shI, shI], []⟩, outs := [⟨[shI, .b], []⟩], run := fun p k => (lpair_S N p.1.1.1 p.1.1.2.1 p.1.1.2.2.1 p.1.1.2.2.2.1 p.1.1.2.2.2.2.1 p.1.2.1 p.1.2.2.1).bind fun r => k ((r.1, r.2, ()), ()) }
theorem sp_lpair_ok (N : Nat) : SpecOK Try.prog (sp_lpair N) := fn_sound (B := lpair_B) (loops := [lpair_l1_L N]) (leaves := []) (fun p => lpair_S N p.1.1.1 p.1.1.2.1 p.1.1.2.2.1 p.1.1.2.2.2.1 p.1.1.2.2.2.2.1 p.1.2.1 p.1.2.2.1) (fun r => ((r.1, r.2, ()), ())) lpair_rt (fun _ _ _ => rfl) (fun r z h => by cases h; rfl) Try.func37 (by kernel_rfl) (by kernel_rfl) (by kernel_rfl) rfl rfl (by kernel_rfl) (fun args w => Sem.pv_run _ _ _ (by kernel_rfl) w) (lpair_all N) mixed ⟨lpair_l1_ok N, trivial⟩ (fun z E Xc hE hX hret => trivial) (fun p => lpair_eq N p.1.1.1 p.1.1.2.1 p.1.1.2.2.1 p.1.1.2.2.2.1 p.1.1.2.2.2.2.1 p.1.2.1 p.1.2.2.1)

def rung_l1 (N : Nat) : Nat → Int → Int → Li → Int → Int → Li → Option (Li × Int × Int × Li)
  | 0, _, _, _, _, _, _ => none
  | n_ + 1, u, u2, b, b2, b3, out =>
    br (decide (u2 < u))
      ((stroke_S N u2 b b2 b3).bind fun (x_1, y_2, y_3, y_4) =>
      lim (out.length + [u2].length) <|
      rng u2 (out ++ [u2]).length <|
      get (out ++ [u2]) u2.toNat fun x_5 =>
      rng x_1 (out ++ [u2]).length <|
      get (out ++ [u2]) x_1.toNat fun x_6 =>
      rng x_1 (out ++ [u2]).length <|
      get (out ++ [u2]) x_1.toNat fun _ =>
      rng u2 ((out ++ [u2]).set x_1.toNat x_5).length <|
      get ((out ++ [u2]).set x_1.toNat x_5) u2.toNat fun _ =>
      chk (u2 + 1) <|
      rung_l1 N n_ u (u2 + 1) y_2 y_3 y_4 (((out ++ [u2]).set x_1.toNat x_5).set u2.toNat x_6))
      (some ((b, b2, b3, out)))
def rung_S (N : Nat) (n : Int) (b : Li) (b2 : Int) (b3 : Int) : Option (Li × Li × Int × Int) :=
  (rung_l1 N N (max 0 n) 0 b b2 b3 []).bind fun (g_9, g2_10, g3_11, out_12) =>
  some (out_12, g_9, g2_10, g3_11)
noncomputable def rung_sp (N : Nat) : List Spec := [sp_stroke N]
theorem rung_all (N : Nat) : AllP (SpecOK Try.prog) (rung_sp N) := ⟨sp_stroke_ok N, trivial⟩
noncomputable def rung_c : Code := (Try.f39.body).getD .skip
noncomputable abbrev rung_B : Body := { c := rung_c, n := 36, res := [.tmp 4], outs := [⟨[shL], [.segs [.sl (.int .u8), shI, .i .u32]]⟩], m0 := 1 }
abbrev rung_rt : altD rung_B.outs → Option (Li × Li × Int × Int) := fun r => some (r.1.1, r.2.1.1, r.2.1.2.1, r.2.1.2.2.1)
abbrev rung_l1_at : List PI := [.c [1, 1, 0, 1, 0, 0, 0], .c [1, 1, 0, 1, 0, 0, 1], .l [1, 1, 0, 1, 0, 0], .b 0, .c [1, 1, 1]]
abbrev rung_l1_st : Sta := ⟨[0, 5, 9, 10], ⟨[.own 0 0, .ols 1, shI, shI], [.segs [.sl (.int .u8), shI, .i .u32], .lst (.int .i64)]⟩⟩
abbrev rung_l1_h (rec : Int → Int → Li → Int → Int → Li → Option (Li × Int × Int × Li)) : Leaf (Li × Int × Int × Li) := ⟨rung_l1_at, rung_l1_st, fun p => rec p.1.2.2.1 p.1.2.2.2.1 p.2.1.1 p.2.1.2.1 p.2.1.2.2.1 p.2.2.1⟩
abbrev rung_l1_e0 : Leaf (Li × Int × Int × Li) := ⟨[.c [1, 1, 1, 0], .c [1, 1, 1, 1]], ⟨[5], ⟨[.ols 1], [.segs [.sl (.int .u8), shI, .i .u32], .lst (.int .i64)]⟩⟩, fun p => some ((p.2.1.1, p.2.1.2.1, p.2.1.2.2.1, p.2.2.1))⟩
noncomputable def rung_l1_L (N : Nat) : LoopS := { at_ := rung_l1_at, sta := rung_l1_st, exits := [([.c [1, 1, 1, 0], .c [1, 1, 1, 1]], ⟨[5], ⟨[.ols 1], [.segs [.sl (.int .u8), shI, .i .u32], .lst (.int .i64)]⟩⟩)], run := fun p k => (rung_l1 N N p.1.2.2.1 p.1.2.2.2.1 p.2.1.1 p.2.1.2.1 p.2.1.2.2.1 p.2.2.1).bind fun e => k (.inl (((), ()), ((e.1, e.2.1, e.2.2.1, ()), e.2.2.2, ()))) }
theorem rung_l1_eq (N n_ : Nat) (u : Int) (u2 : Int) (b : Li) (b2 : Int) (b3 : Int) (out : Li) : ev (Z := Li × Int × Int × Li) Try.prog (rung_sp N) rung_B [] [rung_l1_h (rung_l1 N n_), rung_l1_e0] none 400 true rung_l1_at (stL rung_l1_st (((), (), u, u2, ()), ((b, b2, b3, ()), out, ()))) (stH rung_l1_st (((), (), u, u2, ()), ((b, b2, b3, ()), out, ()))) = rung_l1 N (n_ + 1) u u2 b b2 b3 out := by kernel_rfl
theorem rung_l1_ok (N : Nat) {top : Bool} : LoopOK Try.prog rung_B.c rung_B.n rung_B.m0 top (rung_l1_L N) := loop_of_ev (Z := Li × Int × Int × Li) (N := N) (fun m p => rung_l1 N m p.1.2.2.1 p.1.2.2.2.1 p.2.1.1 p.2.1.2.1 p.2.1.2.2.1 p.2.2.1) (fun e => .inl (((), ()), ((e.1, e.2.1, e.2.2.1, ()), e.2.2.2, ()))) (fun _ _ _ => rfl) (fun _ => rfl) (fun m z E Xc hE hX hrec hx => leaf_of_ev (B := rung_B) (loops := []) (leaves := [rung_l1_h (rung_l1 N m), rung_l1_e0]) (rung_all N) mixed trivial hE hX ⟨hrec, (fun p hp => by obtain rfl := Option.some.inj hp; exact hx), trivial⟩ RetOK.no (fun p => rung_l1_eq N m p.1.2.2.1 p.1.2.2.2.1 p.2.1.1 p.2.1.2.1 p.2.1.2.2.1 p.2.2.1))
abbrev rung_st : Sta := ⟨[0, 1], ⟨[.own 0 0, shI], [.segs [.sl (.int .u8), shI, .i .u32]]⟩⟩
theorem rung_eq (N : Nat) (n : Int) (b : Li) (b2 : Int) (b3 : Int) : ev (Z := Li × Li × Int × Int) Try.prog (rung_sp N) rung_B [rung_l1_L N] [] (some rung_rt) 400 false [.c [0], .c [1]] (stL rung_st (((), n, ()), ((b, b2, b3, ()), ()))) (stH rung_st (((), n, ()), ((b, b2, b3, ()), ()))) = rung_S N n b b2 b3 := by kernel_rfl
noncomputable def sp_rung (N : Nat) : Spec := { f := 39, ins := ⟨[.own 0 0, shI], [.segs [.sl (.int .u8), shI, .i .u32]]⟩, outs := [⟨[shL], [.segs [.sl (.int .u8), shI, .i .u32]]⟩], run := fun p k => (rung_S N p.1.2.1 p.2.1.1 p.2.1.2.1 p.2.1.2.2.1).bind fun r => k ((r.1, ()), ((r.2.1, r.2.2.1, r.2.2.2, ()), ())) }
theorem sp_rung_ok (N : Nat) : SpecOK Try.prog (sp_rung N) := fn_sound (B := rung_B) (loops := [rung_l1_L N]) (leaves := []) (fun p => rung_S N p.1.2.1 p.2.1.1 p.2.1.2.1 p.2.1.2.2.1) (fun r => ((r.1, ()), ((r.2.1, r.2.2.1, r.2.2.2, ()), ()))) rung_rt (fun _ _ _ => rfl) (fun r z h => by cases h; rfl) Try.func39 (by kernel_rfl) (by kernel_rfl) (by kernel_rfl) rfl rfl (by kernel_rfl) (fun args w => Sem.pv_run _ _ _ (by kernel_rfl) w) (rung_all N) mixed ⟨rung_l1_ok N, trivial⟩ (fun z E Xc hE hX hret => trivial) (fun p => rung_eq N p.1.2.1 p.2.1.1 p.2.1.2.1 p.2.1.2.2.1)

def tried_l1 (N : Nat) : Nat → Int → Int → Li → Int → Int → Li → Int → Ll → Ll → Li → Li → Option (Li × Int × Int × Li × Int × Ll × Ll × Li × Li)
  | 0, _, _, _, _, _, _, _, _, _, _, _ => none
  | n_ + 1, u, u2, b, b2, b3, d, d2, d3, d4, d5, out =>
    br (decide (u2 < u))
      (rng u2 out.length <|
      get out u2.toNat fun _ =>
      chk (u2 + 1) <|
      tried_l1 N n_ u (u2 + 1) b b2 b3 d d2 d3 d4 d5 (out.set u2.toNat (-1)))
      (some ((b, b2, b3, d, d2, d3, d4, d5, out)))
def tried_l3 (N : Nat) : Nat → Int → Li → Int → Int → Li → Int → Int → Li → Int → Int → Li → Int → Ll → Ll → Li → Li → Option ((Int × Int × Li × Int × Int × Li × Int × Int × Li × Int × Ll × Ll × Li × Li) ⊕ (Li × Int × Int × Li × Int × Int × Li × Int × Ll × Ll × Li × Li))
  | 0, _, _, _, _, _, _, _, _, _, _, _, _, _, _, _, _ => none
  | n_ + 1, i, u, u2, u3, u4, u5, u6, b, b2, b3, d, d2, d3, d4, d5, out =>
    br (decide (u6 < u5))
      (idx u4 u6 fun x_20 =>
      (lpair_S N d d2 d3 d4 d5 i x_20).bind fun (x_21, y_22) =>
      br y_22
        ((containsi_S N out x_20).bind fun x_23 =>
        br (!x_23)
          ((seldom_S N 4 b b2 b3).bind fun (x_24, y_25, y_26, y_27) =>
          br (!x_24)
            (some (.inl (i, x_20, u, u2, u3, y_25, y_26, y_27, d, d2, d3, d4, d5, out)))
            (chk (u6 + 1) <|
            tried_l3 N n_ i u u2 u3 u4 u5 (u6 + 1) y_25 y_26 y_27 d d2 d3 d4 d5 out))
          (chk (u6 + 1) <|
          tried_l3 N n_ i u u2 u3 u4 u5 (u6 + 1) b b2 b3 d d2 d3 d4 d5 out))
        (chk (u6 + 1) <|
        tried_l3 N n_ i u u2 u3 u4 u5 (u6 + 1) b b2 b3 d d2 d3 d4 d5 out))
      (some (.inr (u, u2, u3, b, b2, b3, d, d2, d3, d4, d5, out)))
def tried_j1 (N : Nat) (rec : Li → Int → Int → Li → Int → Int → Li → Int → Ll → Ll → Li → Li → Option (Li × Int × Int × Li)) (u : Li) (u2 : Int) (u3 : Int) (b : Li) (b2 : Int) (b3 : Int) (d : Li) (d2 : Int) (d3 : Ll) (d4 : Ll) (d5 : Li) (out : Li) : Option (Li × Int × Int × Li) :=
  chk (u3 + 1) <|
  rec u u2 (u3 + 1) b b2 b3 d d2 d3 d4 d5 out
def tried_l2 (N : Nat) : Nat → Li → Int → Int → Li → Int → Int → Li → Int → Ll → Ll → Li → Li → Option (Li × Int × Int × Li)
  | 0, _, _, _, _, _, _, _, _, _, _, _, _ => none
  | n_ + 1, u, u2, u3, b, b2, b3, d, d2, d3, d4, d5, out =>
    br (decide (u3 < u2))
      (idx u u3 fun x_15 =>
      (rung_S N (d4.length : Int) b b2 b3).bind fun (x_16, y_17, y_18, y_19) =>
      (tried_l3 N N x_15 u u2 u3 x_16 (x_16.length : Int) 0 y_17 y_18 y_19 d d2 d3 d4 d5 out).bind fun e => match e with
      | .inl (i_28, k_29, u_30, u2_31, u3_32, b_33, b2_34, b3_35, d_36, d2_37, d3_38, d4_39, d5_40, out_41) =>
        rng i_28 out_41.length <|
        get out_41 i_28.toNat fun _ =>
        tried_j1 N (tried_l2 N n_) u_30 u2_31 u3_32 b_33 b2_34 b3_35 d_36 d2_37 d3_38 d4_39 d5_40 (out_41.set i_28.toNat k_29)
      | .inr (u_43, u2_44, u3_45, b_46, b2_47, b3_48, d_49, d2_50, d3_51, d4_52, d5_53, out_54) =>
        tried_j1 N (tried_l2 N n_) u_43 u2_44 u3_45 b_46 b2_47 b3_48 d_49 d2_50 d3_51 d4_52 d5_53 out_54)
      (some ((b, b2, b3, out)))
def tried_S (N : Nat) (d : Li) (d2 : Int) (d3 : Ll) (d4 : Ll) (d5 : Li) (b : Li) (b2 : Int) (b3 : Int) : Option (Li × Li × Int × Int) :=
  grd (lmI (d3.length : Int)) <|
  (tried_l1 N N ((List.replicate (d3.length : Int).toNat (0 : Int)).length : Int) 0 b b2 b3 d d2 d3 d4 d5 (List.replicate (d3.length : Int).toNat (0 : Int))).bind fun (b_2, b2_3, b3_4, d_5, d2_6, d3_7, d4_8, d5_9, out_10) =>
  (rung_S N (d3_7.length : Int) b_2 b2_3 b3_4).bind fun (x_11, y_12, y_13, y_14) =>
  (tried_l2 N N x_11 (x_11.length : Int) 0 y_12 y_13 y_14 d_5 d2_6 d3_7 d4_8 d5_9 out_10).bind fun (g_55, g2_56, g3_57, out_58) =>
  some (out_58, g_55, g2_56, g3_57)
noncomputable def tried_sp (N : Nat) : List Spec := [sp_seldom N, sp_containsi N, sp_lpair N, sp_rung N]
theorem tried_all (N : Nat) : AllP (SpecOK Try.prog) (tried_sp N) := ⟨sp_seldom_ok N, sp_containsi_ok N, sp_lpair_ok N, sp_rung_ok N, trivial⟩
noncomputable def tried_c : Code := (Try.f20.body).getD .skip
noncomputable abbrev tried_B : Body := { c := tried_c, n := 72, res := [.tmp 4], outs := [⟨[shL], [.segs [.sl (.int .u8), shI, .i .u32]]⟩], m0 := 1 }
abbrev tried_rt : altD tried_B.outs → Option (Li × Li × Int × Int) := fun r => some (r.1.1, r.2.1.1, r.2.1.2.1, r.2.1.2.2.1)
abbrev tried_l1_at : List PI := [.c [1, 1, 0, 1, 0, 0, 0], .c [1, 1, 0, 1, 0, 0, 1], .l [1, 1, 0, 1, 0, 0], .b 0, .c [1, 1, 1]]
abbrev tried_l1_st : Sta := ⟨[0, 3, 5, 18, 19], ⟨[.own 0 0, .own 1 0, .ols 2, shI, shI], [.segs [.sl (.int .u8), shI, .i .u32], .segs [shL, shI, shQ, shQ, shL], .lst (.int .i64)]⟩⟩
abbrev tried_l1_h (rec : Int → Int → Li → Int → Int → Li → Int → Ll → Ll → Li → Li → Option (Li × Int × Int × Li × Int × Ll × Ll × Li × Li)) : Leaf (Li × Int × Int × Li × Int × Ll × Ll × Li × Li) := ⟨tried_l1_at, tried_l1_st, fun p => rec p.1.2.2.2.1 p.1.2.2.2.2.1 p.2.1.1 p.2.1.2.1 p.2.1.2.2.1 p.2.2.1.1 p.2.2.1.2.1 p.2.2.1.2.2.1 p.2.2.1.2.2.2.1 p.2.2.1.2.2.2.2.1 p.2.2.2.1⟩
abbrev tried_l1_e0 : Leaf (Li × Int × Int × Li × Int × Ll × Ll × Li × Li) := ⟨[.c [1, 1, 1, 0, 0], .c [1, 1, 1, 0, 1], .c [1, 1, 1, 1]], ⟨[0, 3, 5], ⟨[.own 0 0, .own 1 0, .ols 2], [.segs [.sl (.int .u8), shI, .i .u32], .segs [shL, shI, shQ, shQ, shL], .lst (.int .i64)]⟩⟩, fun p => some ((p.2.1.1, p.2.1.2.1, p.2.1.2.2.1, p.2.2.1.1, p.2.2.1.2.1, p.2.2.1.2.2.1, p.2.2.1.2.2.2.1, p.2.2.1.2.2.2.2.1, p.2.2.2.1))⟩
noncomputable def tried_l1_L (N : Nat) : LoopS := { at_ := tried_l1_at, sta := tried_l1_st, exits := [([.c [1, 1, 1, 0, 0], .c [1, 1, 1, 0, 1], .c [1, 1, 1, 1]], ⟨[0, 3, 5], ⟨[.own 0 0, .own 1 0, .ols 2], [.segs [.sl (.int .u8), shI, .i .u32], .segs [shL, shI, shQ, shQ, shL], .lst (.int .i64)]⟩⟩)], run := fun p k => (tried_l1 N N p.1.2.2.2.1 p.1.2.2.2.2.1 p.2.1.1 p.2.1.2.1 p.2.1.2.2.1 p.2.2.1.1 p.2.2.1.2.1 p.2.2.1.2.2.1 p.2.2.1.2.2.2.1 p.2.2.1.2.2.2.2.1 p.2.2.2.1).bind fun e => k (.inl (((), (), (), ()), ((e.1, e.2.1, e.2.2.1, ()), (e.2.2.2.1, e.2.2.2.2.1, e.2.2.2.2.2.1, e.2.2.2.2.2.2.1, e.2.2.2.2.2.2.2.1, ()), e.2.2.2.2.2.2.2.2, ()))) }
theorem tried_l1_eq (N n_ : Nat) (u : Int) (u2 : Int) (b : Li) (b2 : Int) (b3 : Int) (d : Li) (d2 : Int) (d3 : Ll) (d4 : Ll) (d5 : Li) (out : Li) : ev (Z := Li × Int × Int × Li × Int × Ll × Ll × Li × Li) Try.prog (tried_sp N) tried_B [] [tried_l1_h (tried_l1 N n_), tried_l1_e0] none 400 true tried_l1_at (stL tried_l1_st (((), (), (), u, u2, ()), ((b, b2, b3, ()), (d, d2, d3, d4, d5, ()), out, ()))) (stH tried_l1_st (((), (), (), u, u2, ()), ((b, b2, b3, ()), (d, d2, d3, d4, d5, ()), out, ()))) = tried_l1 N (n_ + 1) u u2 b b2 b3 d d2 d3 d4 d5 out := by kernel_rfl
theorem tried_l1_ok (N : Nat) {top : Bool} : LoopOK Try.prog tried_B.c tried_B.n tried_B.m0 top (tried_l1_L N) := loop_of_ev (Z := Li × Int × Int × Li × Int × Ll × Ll × Li × Li) (N := N) (fun m p => tried_l1 N m p.1.2.2.2.1 p.1.2.2.2.2.1 p.2.1.1 p.2.1.2.1 p.2.1.2.2.1 p.2.2.1.1 p.2.2.1.2.1 p.2.2.1.2.2.1 p.2.2.1.2.2.2.1 p.2.2.1.2.2.2.2.1 p.2.2.2.1) (fun e => .inl (((), (), (), ()), ((e.1, e.2.1, e.2.2.1, ()), (e.2.2.2.1, e.2.2.2.2.1, e.2.2.2.2.2.1, e.2.2.2.2.2.2.1, e.2.2.2.2.2.2.2.1, ()), e.2.2.2.2.2.2.2.2, ()))) (fun _ _ _ => rfl) (fun _ => rfl) (fun m z E Xc hE hX hrec hx => leaf_of_ev (B := tried_B) (loops := []) (leaves := [tried_l1_h (tried_l1 N m), tried_l1_e0]) (tried_all N) mixed trivial hE hX ⟨hrec, (fun p hp => by obtain rfl := Option.some.inj hp; exact hx), trivial⟩ RetOK.no (fun p => tried_l1_eq N m p.1.2.2.2.1 p.1.2.2.2.2.1 p.2.1.1 p.2.1.2.1 p.2.1.2.2.1 p.2.2.1.1 p.2.2.1.2.1 p.2.2.1.2.2.1 p.2.2.1.2.2.2.1 p.2.2.1.2.2.2.2.1 p.2.2.2.1))
abbrev tried_l3_at : List PI := [.c [1, 1, 1, 0, 1, 0, 0, 1, 1, 0, 0, 1, 1, 0, 0, 0], .c [1, 1, 1, 0, 1, 0, 0, 1, 1, 0, 0, 1, 1, 0, 0, 1], .l [1, 1, 1, 0, 1, 0, 0, 1, 1, 0, 0, 1, 1, 0, 0], .b 4, .b 3, .c [1, 1, 1, 0, 1, 0, 0, 1, 1, 1], .l [1, 1, 1, 0, 1, 0, 0], .b 2, .c [1, 1, 1, 1]]
abbrev tried_l3_st : Sta := ⟨[0, 3, 5, 8, 30, 31, 32, 40, 41, 42], ⟨[.own 0 0, .own 1 0, .ols 2, shI, shL, shI, shI, shL, shI, shI], [.segs [.sl (.int .u8), shI, .i .u32], .segs [shL, shI, shQ, shQ, shL], .lst (.int .i64)]⟩⟩
abbrev tried_l3_h (rec : Int → Li → Int → Int → Li → Int → Int → Li → Int → Int → Li → Int → Ll → Ll → Li → Li → Option ((Int × Int × Li × Int × Int × Li × Int × Int × Li × Int × Ll × Ll × Li × Li) ⊕ (Li × Int × Int × Li × Int × Int × Li × Int × Ll × Ll × Li × Li))) : Leaf ((Int × Int × Li × Int × Int × Li × Int × Int × Li × Int × Ll × Ll × Li × Li) ⊕ (Li × Int × Int × Li × Int × Int × Li × Int × Ll × Ll × Li × Li)) := ⟨tried_l3_at, tried_l3_st, fun p => rec p.1.2.2.2.1 p.1.2.2.2.2.1 p.1.2.2.2.2.2.1 p.1.2.2.2.2.2.2.1 p.1.2.2.2.2.2.2.2.1 p.1.2.2.2.2.2.2.2.2.1 p.1.2.2.2.2.2.2.2.2.2.1 p.2.1.1 p.2.1.2.1 p.2.1.2.2.1 p.2.2.1.1 p.2.2.1.2.1 p.2.2.1.2.2.1 p.2.2.1.2.2.2.1 p.2.2.1.2.2.2.2.1 p.2.2.2.1⟩
abbrev tried_l3_e0 : Leaf ((Int × Int × Li × Int × Int × Li × Int × Int × Li × Int × Ll × Ll × Li × Li) ⊕ (Li × Int × Int × Li × Int × Int × Li × Int × Ll × Ll × Li × Li)) := ⟨[.c [1, 1, 1, 0, 1, 0, 0, 1, 1, 0, 0, 1, 1, 0, 0, 1, 1, 0, 0, 1, 1, 1, 0, 0], .c [1, 1, 1, 0, 1, 0, 0, 1, 1, 0, 0, 1, 1, 0, 0, 1, 1, 0, 0, 1, 1, 1, 0, 1], .b 5, .c [1, 1, 1, 0, 1, 0, 0, 1, 1, 0, 0, 1, 1, 0, 0, 1, 1, 1], .l [1, 1, 1, 0, 1, 0, 0, 1, 1, 0, 0, 1, 1, 0, 0], .b 4, .b 3, .c [1, 1, 1, 0, 1, 0, 0, 1, 1, 1], .l [1, 1, 1, 0, 1, 0, 0], .b 2, .c [1, 1, 1, 1]], ⟨[0, 3, 5, 8, 10, 30, 31, 32], ⟨[.own 0 0, .own 1 0, .ols 2, shI, shI, shL, shI, shI], [.segs [.sl (.int .u8), shI, .i .u32], .segs [shL, shI, shQ, shQ, shL], .lst (.int .i64)]⟩⟩, fun p => some (.inl (p.1.2.2.2.1, p.1.2.2.2.2.1, p.1.2.2.2.2.2.1, p.1.2.2.2.2.2.2.1, p.1.2.2.2.2.2.2.2.1, p.2.1.1, p.2.1.2.1, p.2.1.2.2.1, p.2.2.1.1, p.2.2.1.2.1, p.2.2.1.2.2.1, p.2.2.1.2.2.2.1, p.2.2.1.2.2.2.2.1, p.2.2.2.1))⟩
abbrev tried_l3_e1 : Leaf ((Int × Int × Li × Int × Int × Li × Int × Int × Li × Int × Ll × Ll × Li × Li) ⊕ (Li × Int × Int × Li × Int × Int × Li × Int × Ll × Ll × Li × Li)) := ⟨[.c [1, 1, 1, 0, 1, 0, 0, 1, 1, 1], .l [1, 1, 1, 0, 1, 0, 0], .b 2, .c [1, 1, 1, 1]], ⟨[0, 3, 5, 30, 31, 32], ⟨[.own 0 0, .own 1 0, .ols 2, shL, shI, shI], [.segs [.sl (.int .u8), shI, .i .u32], .segs [shL, shI, shQ, shQ, shL], .lst (.int .i64)]⟩⟩, fun p => some (.inr (p.1.2.2.2.1, p.1.2.2.2.2.1, p.1.2.2.2.2.2.1, p.2.1.1, p.2.1.2.1, p.2.1.2.2.1, p.2.2.1.1, p.2.2.1.2.1, p.2.2.1.2.2.1, p.2.2.1.2.2.2.1, p.2.2.1.2.2.2.2.1, p.2.2.2.1))⟩
noncomputable def tried_l3_L (N : Nat) : LoopS := { at_ := tried_l3_at, sta := tried_l3_st, exits := [([.c [1, 1, 1, 0, 1, 0, 0, 1, 1, 0, 0, 1, 1, 0, 0, 1, 1, 0, 0, 1, 1, 1, 0, 0], .c [1, 1, 1, 0, 1, 0, 0, 1, 1, 0, 0, 1, 1, 0, 0, 1, 1, 0, 0, 1, 1, 1, 0, 1], .b 5, .c [1, 1, 1, 0, 1, 0, 0, 1, 1, 0, 0, 1, 1, 0, 0, 1, 1, 1], .l [1, 1, 1, 0, 1, 0, 0, 1, 1, 0, 0, 1, 1, 0, 0], .b 4, .b 3, .c [1, 1, 1, 0, 1, 0, 0, 1, 1, 1], .l [1, 1, 1, 0, 1, 0, 0], .b 2, .c [1, 1, 1, 1]], ⟨[0, 3, 5, 8, 10, 30, 31, 32], ⟨[.own 0 0, .own 1 0, .ols 2, shI, shI, shL, shI, shI], [.segs [.sl (.int .u8), shI, .i .u32], .segs [shL, shI, shQ, shQ, shL], .lst (.int .i64)]⟩⟩), ([.c [1, 1, 1, 0, 1, 0, 0, 1, 1, 1], .l [1, 1, 1, 0, 1, 0, 0], .b 2, .c [1, 1, 1, 1]], ⟨[0, 3, 5, 30, 31, 32], ⟨[.own 0 0, .own 1 0, .ols 2, shL, shI, shI], [.segs [.sl (.int .u8), shI, .i .u32], .segs [shL, shI, shQ, shQ, shL], .lst (.int .i64)]⟩⟩)], run := fun p k => (tried_l3 N N p.1.2.2.2.1 p.1.2.2.2.2.1 p.1.2.2.2.2.2.1 p.1.2.2.2.2.2.2.1 p.1.2.2.2.2.2.2.2.1 p.1.2.2.2.2.2.2.2.2.1 p.1.2.2.2.2.2.2.2.2.2.1 p.2.1.1 p.2.1.2.1 p.2.1.2.2.1 p.2.2.1.1 p.2.2.1.2.1 p.2.2.1.2.2.1 p.2.2.1.2.2.2.1 p.2.2.1.2.2.2.2.1 p.2.2.2.1).bind fun e => match e with | .inl x => k (.inl (((), (), (), x.1, x.2.1, x.2.2.1, x.2.2.2.1, x.2.2.2.2.1, ()), ((x.2.2.2.2.2.1, x.2.2.2.2.2.2.1, x.2.2.2.2.2.2.2.1, ()), (x.2.2.2.2.2.2.2.2.1, x.2.2.2.2.2.2.2.2.2.1, x.2.2.2.2.2.2.2.2.2.2.1, x.2.2.2.2.2.2.2.2.2.2.2.1, x.2.2.2.2.2.2.2.2.2.2.2.2.1, ()), x.2.2.2.2.2.2.2.2.2.2.2.2.2, ()))) | .inr x => k (.inr (.inl (((), (), (), x.1, x.2.1, x.2.2.1, ()), ((x.2.2.2.1, x.2.2.2.2.1, x.2.2.2.2.2.1, ()), (x.2.2.2.2.2.2.1, x.2.2.2.2.2.2.2.1, x.2.2.2.2.2.2.2.2.1, x.2.2.2.2.2.2.2.2.2.1, x.2.2.2.2.2.2.2.2.2.2.1, ()), x.2.2.2.2.2.2.2.2.2.2.2, ())))) }
theorem tried_l3_eq (N n_ : Nat) (i : Int) (u : Li) (u2 : Int) (u3 : Int) (u4 : Li) (u5 : Int) (u6 : Int) (b : Li) (b2 : Int) (b3 : Int) (d : Li) (d2 : Int) (d3 : Ll) (d4 : Ll) (d5 : Li) (out : Li) : ev (Z := (Int × Int × Li × Int × Int × Li × Int × Int × Li × Int × Ll × Ll × Li × Li) ⊕ (Li × Int × Int × Li × Int × Int × Li × Int × Ll × Ll × Li × Li)) Try.prog (tried_sp N) tried_B [tried_l1_L N] [tried_l3_h (tried_l3 N n_), tried_l3_e0, tried_l3_e1] none 400 true tried_l3_at (stL tried_l3_st (((), (), (), i, u, u2, u3, u4, u5, u6, ()), ((b, b2, b3, ()), (d, d2, d3, d4, d5, ()), out, ()))) (stH tried_l3_st (((), (), (), i, u, u2, u3, u4, u5, u6, ()), ((b, b2, b3, ()), (d, d2, d3, d4, d5, ()), out, ()))) = tried_l3 N (n_ + 1) i u u2 u3 u4 u5 u6 b b2 b3 d d2 d3 d4 d5 out := by kernel_rfl
theorem tried_l3_ok (N : Nat) {top : Bool} : LoopOK Try.prog tried_B.c tried_B.n tried_B.m0 top (tried_l3_L N) := loop_of_ev (Z := (Int × Int × Li × Int × Int × Li × Int × Int × Li × Int × Ll × Ll × Li × Li) ⊕ (Li × Int × Int × Li × Int × Int × Li × Int × Ll × Ll × Li × Li)) (N := N) (fun m p => tried_l3 N m p.1.2.2.2.1 p.1.2.2.2.2.1 p.1.2.2.2.2.2.1 p.1.2.2.2.2.2.2.1 p.1.2.2.2.2.2.2.2.1 p.1.2.2.2.2.2.2.2.2.1 p.1.2.2.2.2.2.2.2.2.2.1 p.2.1.1 p.2.1.2.1 p.2.1.2.2.1 p.2.2.1.1 p.2.2.1.2.1 p.2.2.1.2.2.1 p.2.2.1.2.2.2.1 p.2.2.1.2.2.2.2.1 p.2.2.2.1) (fun e => match e with | .inl x => .inl (((), (), (), x.1, x.2.1, x.2.2.1, x.2.2.2.1, x.2.2.2.2.1, ()), ((x.2.2.2.2.2.1, x.2.2.2.2.2.2.1, x.2.2.2.2.2.2.2.1, ()), (x.2.2.2.2.2.2.2.2.1, x.2.2.2.2.2.2.2.2.2.1, x.2.2.2.2.2.2.2.2.2.2.1, x.2.2.2.2.2.2.2.2.2.2.2.1, x.2.2.2.2.2.2.2.2.2.2.2.2.1, ()), x.2.2.2.2.2.2.2.2.2.2.2.2.2, ())) | .inr x => .inr (.inl (((), (), (), x.1, x.2.1, x.2.2.1, ()), ((x.2.2.2.1, x.2.2.2.2.1, x.2.2.2.2.2.1, ()), (x.2.2.2.2.2.2.1, x.2.2.2.2.2.2.2.1, x.2.2.2.2.2.2.2.2.1, x.2.2.2.2.2.2.2.2.2.1, x.2.2.2.2.2.2.2.2.2.2.1, ()), x.2.2.2.2.2.2.2.2.2.2.2, ())))) (fun _ p k => bind_congr_ (tried_l3 N N p.1.2.2.2.1 p.1.2.2.2.2.1 p.1.2.2.2.2.2.1 p.1.2.2.2.2.2.2.1 p.1.2.2.2.2.2.2.2.1 p.1.2.2.2.2.2.2.2.2.1 p.1.2.2.2.2.2.2.2.2.2.1 p.2.1.1 p.2.1.2.1 p.2.1.2.2.1 p.2.2.1.1 p.2.2.1.2.1 p.2.2.1.2.2.1 p.2.2.1.2.2.2.1 p.2.2.1.2.2.2.2.1 p.2.2.2.1) _ _ (fun e => by rcases e with x | x <;> rfl)) (fun _ => rfl) (fun m z E Xc hE hX hrec hx => leaf_of_ev (B := tried_B) (loops := [tried_l1_L N]) (leaves := [tried_l3_h (tried_l3 N m), tried_l3_e0, tried_l3_e1]) (tried_all N) mixed ⟨tried_l1_ok N, trivial⟩ hE hX ⟨hrec, (fun p hp => by obtain rfl := Option.some.inj hp; exact hx), (fun p hp => by obtain rfl := Option.some.inj hp; exact hx), trivial⟩ RetOK.no (fun p => tried_l3_eq N m p.1.2.2.2.1 p.1.2.2.2.2.1 p.1.2.2.2.2.2.1 p.1.2.2.2.2.2.2.1 p.1.2.2.2.2.2.2.2.1 p.1.2.2.2.2.2.2.2.2.1 p.1.2.2.2.2.2.2.2.2.2.1 p.2.1.1 p.2.1.2.1 p.2.1.2.2.1 p.2.2.1.1 p.2.2.1.2.1 p.2.2.1.2.2.1 p.2.2.1.2.2.2.1 p.2.2.1.2.2.2.2.1 p.2.2.2.1))
abbrev tried_l2_at : List PI := [.c [1, 1, 1, 0, 1, 0, 0, 0], .c [1, 1, 1, 0, 1, 0, 0, 1], .l [1, 1, 1, 0, 1, 0, 0], .b 2, .c [1, 1, 1, 1]]
abbrev tried_l2_st : Sta := ⟨[0, 3, 5, 30, 31, 32], ⟨[.own 0 0, .own 1 0, .ols 2, shL, shI, shI], [.segs [.sl (.int .u8), shI, .i .u32], .segs [shL, shI, shQ, shQ, shL], .lst (.int .i64)]⟩⟩
abbrev tried_l2_h (rec : Li → Int → Int → Li → Int → Int → Li → Int → Ll → Ll → Li → Li → Option (Li × Int × Int × Li)) : Leaf (Li × Int × Int × Li) := ⟨tried_l2_at, tried_l2_st, fun p => rec p.1.2.2.2.1 p.1.2.2.2.2.1 p.1.2.2.2.2.2.1 p.2.1.1 p.2.1.2.1 p.2.1.2.2.1 p.2.2.1.1 p.2.2.1.2.1 p.2.2.1.2.2.1 p.2.2.1.2.2.2.1 p.2.2.1.2.2.2.2.1 p.2.2.2.1⟩
abbrev tried_l2_e0 : Leaf (Li × Int × Int × Li) := ⟨[.c [1, 1, 1, 1, 0], .c [1, 1, 1, 1, 1]], ⟨[5], ⟨[.ols 1], [.segs [.sl (.int .u8), shI, .i .u32], .lst (.int .i64)]⟩⟩, fun p => some ((p.2.1.1, p.2.1.2.1, p.2.1.2.2.1, p.2.2.1))⟩
abbrev tried_j1_at : List PI := [.c [1, 1, 1, 0, 1, 0, 0, 1, 1, 1], .l [1, 1, 1, 0, 1, 0, 0], .b 2, .c [1, 1, 1, 1]]
abbrev tried_j1_st : Sta := ⟨[0, 3, 5, 30, 31, 32], ⟨[.own 0 0, .own 1 0, .ols 2, shL, shI, shI], [.segs [.sl (.int .u8), shI, .i .u32], .segs [shL, shI, shQ, shQ, shL], .lst (.int .i64)]⟩⟩
abbrev tried_j1_k (N : Nat) (rec : Li → Int → Int → Li → Int → Int → Li → Int → Ll → Ll → Li → Li → Option (Li × Int × Int × Li)) : Leaf (Li × Int × Int × Li) := ⟨tried_j1_at, tried_j1_st, fun p => tried_j1 N rec p.1.2.2.2.1 p.1.2.2.2.2.1 p.1.2.2.2.2.2.1 p.2.1.1 p.2.1.2.1 p.2.1.2.2.1 p.2.2.1.1 p.2.2.1.2.1 p.2.2.1.2.2.1 p.2.2.1.2.2.2.1 p.2.2.1.2.2.2.2.1 p.2.2.2.1⟩
theorem tried_j1_eq (N : Nat) (rec : Li → Int → Int → Li → Int → Int → Li → Int → Ll → Ll → Li → Li → Option (Li × Int × Int × Li)) (u : Li) (u2 : Int) (u3 : Int) (b : Li) (b2 : Int) (b3 : Int) (d : Li) (d2 : Int) (d3 : Ll) (d4 : Ll) (d5 : Li) (out : Li) : ev (Z := Li × Int × Int × Li) Try.prog (tried_sp N) tried_B [tried_l1_L N, tried_l3_L N] [tried_l2_h rec, tried_l2_e0] none 400 true tried_j1_at (stL tried_j1_st (((), (), (), u, u2, u3, ()), ((b, b2, b3, ()), (d, d2, d3, d4, d5, ()), out, ()))) (stH tried_j1_st (((), (), (), u, u2, u3, ()), ((b, b2, b3, ()), (d, d2, d3, d4, d5, ()), out, ()))) = tried_j1 N rec u u2 u3 b b2 b3 d d2 d3 d4 d5 out := by kernel_rfl
theorem tried_j1_lf (N : Nat) (rec : Li → Int → Int → Li → Int → Int → Li → Int → Ll → Ll → Li → Li → Option (Li × Int × Int × Li)) {z : Li × Int × Int × Li} {top : Bool} {E : EE} {Xc : Ctx} (hE : EOK tried_B.m0 E) (hX : CxOK top Xc) (hrec : LeafOK Try.prog tried_B.c tried_B.n tried_B.m0 E Xc z (tried_l2_h rec)) (h0 : LeafOK Try.prog tried_B.c tried_B.n tried_B.m0 E Xc z tried_l2_e0) : LeafOK Try.prog tried_B.c tried_B.n tried_B.m0 E Xc z (tried_j1_k N rec) := leaf_of_ev (B := tried_B) (loops := [tried_l1_L N, tried_l3_L N]) (leaves := [tried_l2_h rec, tried_l2_e0]) (tried_all N) mixed ⟨tried_l1_ok N, tried_l3_ok N, trivial⟩ hE hX ⟨hrec, h0, trivial⟩ RetOK.no (fun p => tried_j1_eq N rec p.1.2.2.2.1 p.1.2.2.2.2.1 p.1.2.2.2.2.2.1 p.2.1.1 p.2.1.2.1 p.2.1.2.2.1 p.2.2.1.1 p.2.2.1.2.1 p.2.2.1.2.2.1 p.2.2.1.2.2.2.1 p.2.2.1.2.2.2.2.1 p.2.2.2.1)
noncomputable def tried_l2_L (N : Nat) : LoopS := { at_ := tried_l2_at, sta := tried_l2_st, exits := [([.c [1, 1, 1, 1, 0], .c [1, 1, 1, 1, 1]], ⟨[5], ⟨[.ols 1], [.segs [.sl (.int .u8), shI, .i .u32], .lst (.int .i64)]⟩⟩)], run := fun p k => (tried_l2 N N p.1.2.2.2.1 p.1.2.2.2.2.1 p.1.2.2.2.2.2.1 p.2.1.1 p.2.1.2.1 p.2.1.2.2.1 p.2.2.1.1 p.2.2.1.2.1 p.2.2.1.2.2.1 p.2.2.1.2.2.2.1 p.2.2.1.2.2.2.2.1 p.2.2.2.1).bind fun e => k (.inl (((), ()), ((e.1, e.2.1, e.2.2.1, ()), e.2.2.2, ()))) }
theorem tried_l2_eq (N n_ : Nat) (u : Li) (u2 : Int) (u3 : Int) (b : Li) (b2 : Int) (b3 : Int) (d : Li) (d2 : Int) (d3 : Ll) (d4 : Ll) (d5 : Li) (out : Li) : ev (Z := Li × Int × Int × Li) Try.prog (tried_sp N) tried_B [tried_l1_L N, tried_l3_L N] [tried_l2_h (tried_l2 N n_), tried_l2_e0, tried_j1_k N (tried_l2 N n_)] none 400 true tried_l2_at (stL tried_l2_st (((), (), (), u, u2, u3, ()), ((b, b2, b3, ()), (d, d2, d3, d4, d5, ()), out, ()))) (stH tried_l2_st (((), (), (), u, u2, u3, ()), ((b, b2, b3, ()), (d, d2, d3, d4, d5, ()), out, ()))) = tried_l2 N (n_ + 1) u u2 u3 b b2 b3 d d2 d3 d4 d5 out := by kernel_rfl
theorem tried_l2_ok (N : Nat) {top : Bool} : LoopOK Try.prog tried_B.c tried_B.n tried_B.m0 top (tried_l2_L N) := loop_of_ev (Z := Li × Int × Int × Li) (N := N) (fun m p => tried_l2 N m p.1.2.2.2.1 p.1.2.2.2.2.1 p.1.2.2.2.2.2.1 p.2.1.1 p.2.1.2.1 p.2.1.2.2.1 p.2.2.1.1 p.2.2.1.2.1 p.2.2.1.2.2.1 p.2.2.1.2.2.2.1 p.2.2.1.2.2.2.2.1 p.2.2.2.1) (fun e => .inl (((), ()), ((e.1, e.2.1, e.2.2.1, ()), e.2.2.2, ()))) (fun _ _ _ => rfl) (fun _ => rfl) (fun m z E Xc hE hX hrec hx => leaf_of_ev (B := tried_B) (loops := [tried_l1_L N, tried_l3_L N]) (leaves := [tried_l2_h (tried_l2 N m), tried_l2_e0, tried_j1_k N (tried_l2 N m)]) (tried_all N) mixed ⟨tried_l1_ok N, tried_l3_ok N, trivial⟩ hE hX ⟨hrec, (fun p hp => by obtain rfl := Option.some.inj hp; exact hx), tried_j1_lf N _ hE hX hrec (fun p hp => by obtain rfl := Option.some.inj hp; exact hx), trivial⟩ RetOK.no (fun p => tried_l2_eq N m p.1.2.2.2.1 p.1.2.2.2.2.1 p.1.2.2.2.2.2.1 p.2.1.1 p.2.1.2.1 p.2.1.2.2.1 p.2.2.1.1 p.2.2.1.2.1 p.2.2.1.2.2.1 p.2.2.1.2.2.2.1 p.2.2.1.2.2.2.2.1 p.2.2.2.1))
abbrev tried_st : Sta := ⟨[0, 1], ⟨[.own 0 0, shG], [.segs [.sl (.int .u8), shI, .i .u32]]⟩⟩
theorem tried_eq (N : Nat) (d : Li) (d2 : Int) (d3 : Ll) (d4 : Ll) (d5 : Li) (b : Li) (b2 : Int) (b3 : Int) : ev (Z := Li × Li × Int × Int) Try.prog (tried_sp N) tried_B [tried_l1_L N, tried_l3_L N, tried_l2_L N] [] (some tried_rt) 400 false [.c [0], .c [1]] (stL tried_st (((), (d, d2, d3, d4, d5, ()), ()), ((b, b2, b3, ()), ()))) (stH tried_st (((), (d, d2, d3, d4, d5, ()), ()), ((b, b2, b3, ()), ()))) = tried_S N d d2 d3 d4 d5 b b2 b3 := by kernel_rfl
noncomputable def sp_tried (N : Nat) : Spec := { f := 20, ins := ⟨[.own 0 0, shG], [.segs [.sl (.int .u8), shI, .i .u32]]⟩, outs := [⟨[shL], [.segs [.sl (.int .u8), shI, .i .u32]]⟩], run := fun p k => (tried_S N p.1.2.1.1 p.1.2.1.2.1 p.1.2.1.2.2.1 p.1.2.1.2.2.2.1 p.1.2.1.2.2.2.2.1 p.2.1.1 p.2.1.2.1 p.2.1.2.2.1).bind fun r => k ((r.1, ()), ((r.2.1, r.2.2.1, r.2.2.2, ()), ())) }
theorem sp_tried_ok (N : Nat) : SpecOK Try.prog (sp_tried N) := fn_sound (B := tried_B) (loops := [tried_l1_L N, tried_l3_L N, tried_l2_L N]) (leaves := []) (fun p => tried_S N p.1.2.1.1 p.1.2.1.2.1 p.1.2.1.2.2.1 p.1.2.1.2.2.2.1 p.1.2.1.2.2.2.2.1 p.2.1.1 p.2.1.2.1 p.2.1.2.2.1) (fun r => ((r.1, ()), ((r.2.1, r.2.2.1, r.2.2.2, ()), ()))) tried_rt (fun _ _ _ => rfl) (fun r z h => by cases h; rfl) Try.func20 (by kernel_rfl) (by kernel_rfl) (by kernel_rfl) rfl rfl (by kernel_rfl) (fun args w => Sem.pv_run _ _ _ (by kernel_rfl) w) (tried_all N) mixed ⟨tried_l1_ok N, tried_l3_ok N, tried_l2_ok N, trivial⟩ (fun z E Xc hE hX hret => trivial) (fun p => tried_eq N p.1.2.1.1 p.1.2.1.2.1 p.1.2.1.2.2.1 p.1.2.1.2.2.2.1 p.1.2.1.2.2.2.2.1 p.2.1.1 p.2.1.2.1 p.2.1.2.2.1)

def lworth_j1 (N : Nat) (rec : Li → Int → Li → Int → Int → Li → Int → Ll → Ll → Li → Option ((Unit) ⊕ ((Unit) ⊕ (Li × Int × Li × Int × Ll × Ll × Li)))) (l : Li) (sum : Int) (u : Li) (u2 : Int) (u3 : Int) (d : Li) (d2 : Int) (d3 : Ll) (d4 : Ll) (d5 : Li) : Option ((Unit) ⊕ ((Unit) ⊕ (Li × Int × Li × Int × Ll × Ll × Li))) :=
  chk (u3 + 1) <|
  rec l sum u u2 (u3 + 1) d d2 d3 d4 d5
def lworth_l1 (N : Nat) : Nat → Li → Int → Li → Int → Int → Li → Int → Ll → Ll → Li → Option ((Unit) ⊕ ((Unit) ⊕ (Li × Int × Li × Int × Ll × Ll × Li)))
  | 0, _, _, _, _, _, _, _, _, _, _ => none
  | n_ + 1, l, sum, u, u2, u3, d, d2, d3, d4, d5 =>
    br (decide (u3 < u2))
      (idx u u3 fun x_1 =>
      br (decide (x_1 = -1))
        (lworth_j1 N (lworth_l1 N n_) l sum u u2 u3 d d2 d3 d4 d5)
        (br (decide (x_1 < 0))
          (some (.inl ()))
          (br (decide ((d4.length : Int) ≤ x_1))
            (some (.inl ()))
            (br (decide ((d3.length : Int) ≤ u3))
              (some (.inl ()))
              (grd (decide ((0 : Int) ≤ u3 ∧ u3 ≤ (l.length : Int))) <|
              (containsi_S N (l.take u3.toNat) x_1).bind fun x_2 =>
              br x_2
                (some (.inl ()))
                ((lpair_S N d d2 d3 d4 d5 u3 x_1).bind fun (x_3, y_4) =>
                br (!y_4)
                  (some (.inr (.inl ())))
                  (chk (sum + x_3) <|
                  lworth_j1 N (lworth_l1 N n_) l (sum + x_3) u u2 u3 d d2 d3 d4 d5)))))))
      (some (.inr (.inr (l, sum, d, d2, d3, d4, d5))))
def lworth_S (N : Nat) (d : Li) (d2 : Int) (d3 : Ll) (d4 : Ll) (d5 : Li) (l : Li) : Option (Int × Bool) :=
  (lworth_l1 N N l 0 l (l.length : Int) 0 d d2 d3 d4 d5).bind fun e => match e with
  | .inl _ =>
    some (0, false)
  | .inr (.inl _) =>
    some (0, false)
  | .inr (.inr (l_5, sum_6, d_7, d2_8, d3_9, d4_10, d5_11)) =>
    some (sum_6, (decide ((l_5.length : Int) = (d3_9.length : Int))))
noncomputable def lworth_sp (N : Nat) : List Spec := [sp_containsi N, sp_lpair N]
theorem lworth_all (N : Nat) : AllP (SpecOK Try.prog) (lworth_sp N) := ⟨sp_containsi_ok N, sp_lpair_ok N, trivial⟩
noncomputable def lworth_c : Code := (Try.f21.body).getD .skip
noncomputable abbrev lworth_B : Body := { c := lworth_c, n := 63, res := [.tmp 4, .tmp 5], outs := [⟨[shI, .b], []⟩], m0 := 0 }
abbrev lworth_rt : altD lworth_B.outs → Option (Int × Bool) := fun r => some (r.1.1, r.1.2.1)
abbrev lworth_l1_at : List PI := [.c [1, 1, 0, 1, 0, 0, 0], .c [1, 1, 0, 1, 0, 0, 1], .l [1, 1, 0, 1, 0, 0], .b 0, .c [1, 1, 1]]
abbrev lworth_l1_st : Sta := ⟨[1, 2, 6, 11, 12, 13], ⟨[shL, .own 0 0, shI, shL, shI, shI], [.segs [shL, shI, shQ, shQ, shL]]⟩⟩
abbrev lworth_l1_h (rec : Li → Int → Li → Int → Int → Li → Int → Ll → Ll → Li → Option ((Unit) ⊕ ((Unit) ⊕ (Li × Int × Li × Int × Ll × Ll × Li)))) : Leaf ((Unit) ⊕ ((Unit) ⊕ (Li × Int × Li × Int × Ll × Ll × Li))) := ⟨lworth_l1_at, lworth_l1_st, fun p => rec p.1.1 p.1.2.2.1 p.1.2.2.2.1 p.1.2.2.2.2.1 p.1.2.2.2.2.2.1 p.2.1.1 p.2.1.2.1 p.2.1.2.2.1 p.2.1.2.2.2.1 p.2.1.2.2.2.2.1⟩
abbrev lworth_l1_e0 : Leaf ((Unit) ⊕ ((Unit) ⊕ (Li × Int × Li × Int × Ll × Ll × Li))) := ⟨[.c [1, 1, 0, 1, 0, 0, 1, 1, 0, 0, 1, 1, 0, 1, 0, 0], .c [1, 1, 0, 1, 0, 0, 1, 1, 0, 0, 1, 1, 0, 1, 0, 1], .c [1, 1, 0, 1, 0, 0, 1, 1, 0, 0, 1, 1, 1], .b 1, .c [1, 1, 0, 1, 0, 0, 1, 1, 1], .l [1, 1, 0, 1, 0, 0], .b 0, .c [1, 1, 1]], ⟨[], ⟨[], []⟩⟩, fun p => some (.inl ())⟩
abbrev lworth_l1_e1 : Leaf ((Unit) ⊕ ((Unit) ⊕ (Li × Int × Li × Int × Ll × Ll × Li))) := ⟨[.c [1, 1, 0, 1, 0, 0, 1, 1, 0, 0, 1, 1, 1, 1, 0, 1, 0, 0], .c [1, 1, 0, 1, 0, 0, 1, 1, 0, 0, 1, 1, 1, 1, 0, 1, 0, 1], .c [1, 1, 0, 1, 0, 0, 1, 1, 0, 0, 1, 1, 1, 1, 1], .b 1, .c [1, 1, 0, 1, 0, 0, 1, 1, 1], .l [1, 1, 0, 1, 0, 0], .b 0, .c [1, 1, 1]], ⟨[], ⟨[], []⟩⟩, fun p => some (.inr (.inl ()))⟩
abbrev lworth_l1_e2 : Leaf ((Unit) ⊕ ((Unit) ⊕ (Li × Int × Li × Int × Ll × Ll × Li))) := ⟨[.c [1, 1, 1, 0], .c [1, 1, 1, 1]], ⟨[1, 2, 6], ⟨[shL, .own 0 0, shI], [.segs [shL, shI, shQ, shQ, shL]]⟩⟩, fun p => some (.inr (.inr (p.1.1, p.1.2.2.1, p.2.1.1, p.2.1.2.1, p.2.1.2.2.1, p.2.1.2.2.2.1, p.2.1.2.2.2.2.1)))⟩
abbrev lworth_j1_at : List PI := [.c [1, 1, 0, 1, 0, 0, 1, 1, 1], .l [1, 1, 0, 1, 0, 0], .b 0, .c [1, 1, 1]]
abbrev lworth_j1_st : Sta := ⟨[1, 2, 6, 11, 12, 13], ⟨[shL, .own 0 0, shI, shL, shI, shI], [.segs [shL, shI, shQ, shQ, shL]]⟩⟩
abbrev lworth_j1_k (N : Nat) (rec : Li → Int → Li → Int → Int → Li → Int → Ll → Ll → Li → Option ((Unit) ⊕ ((Unit) ⊕ (Li × Int × Li × Int × Ll × Ll × Li)))) : Leaf ((Unit) ⊕ ((Unit) ⊕ (Li × Int × Li × Int × Ll × Ll × Li))) := ⟨lworth_j1_at, lworth_j1_st, fun p => lworth_j1 N rec p.1.1 p.1.2.2.1 p.1.2.2.2.1 p.1.2.2.2.2.1 p.1.2.2.2.2.2.1 p.2.1.1 p.2.1.2.1 p.2.1.2.2.1 p.2.1.2.2.2.1 p.2.1.2.2.2.2.1⟩
theorem lworth_j1_eq (N : Nat) (rec : Li → Int → Li → Int → Int → Li → Int → Ll → Ll → Li → Option ((Unit) ⊕ ((Unit) ⊕ (Li × Int × Li × Int × Ll × Ll × Li)))) (l : Li) (sum : Int) (u : Li) (u2 : Int) (u3 : Int) (d : Li) (d2 : Int) (d3 : Ll) (d4 : Ll) (d5 : Li) : ev (Z := (Unit) ⊕ ((Unit) ⊕ (Li × Int × Li × Int × Ll × Ll × Li))) Try.prog (lworth_sp N) lworth_B [] [lworth_l1_h rec, lworth_l1_e0, lworth_l1_e1, lworth_l1_e2] none 400 true lworth_j1_at (stL lworth_j1_st ((l, (), sum, u, u2, u3, ()), ((d, d2, d3, d4, d5, ()), ()))) (stH lworth_j1_st ((l, (), sum, u, u2, u3, ()), ((d, d2, d3, d4, d5, ()), ()))) = lworth_j1 N rec l sum u u2 u3 d d2 d3 d4 d5 := by kernel_rfl
theorem lworth_j1_lf (N : Nat) (rec : Li → Int → Li → Int → Int → Li → Int → Ll → Ll → Li → Option ((Unit) ⊕ ((Unit) ⊕ (Li × Int × Li × Int × Ll × Ll × Li)))) {z : (Unit) ⊕ ((Unit) ⊕ (Li × Int × Li × Int × Ll × Ll × Li))} {top : Bool} {E : EE} {Xc : Ctx} (hE : EOK lworth_B.m0 E) (hX : CxOK top Xc) (hrec : LeafOK Try.prog lworth_B.c lworth_B.n lworth_B.m0 E Xc z (lworth_l1_h rec)) (h0 : LeafOK Try.prog lworth_B.c lworth_B.n lworth_B.m0 E Xc z lworth_l1_e0) (h1 : LeafOK Try.prog lworth_B.c lworth_B.n lworth_B.m0 E Xc z lworth_l1_e1) (h2 : LeafOK Try.prog lworth_B.c lworth_B.n lworth_B.m0 E Xc z lworth_l1_e2) : LeafOK Try.prog lworth_B.c lworth_B.n lworth_B.m0 E Xc z (lworth_j1_k N rec) := leaf_of_ev (B := lworth_B) (loops := []) (leaves := [lworth_l1_h rec, lworth_l1_e0, lworth_l1_e1, lworth_l1_e2]) (lworth_all N) mixed trivial hE hX ⟨hrec, h0, h1, h2, trivial⟩ RetOK.no (fun p => lworth_j1_eq N rec p.1.1 p.1.2.2.1 p.1.2.2.2.1 p.1.2.2.2.2.1 p.1.2.2.2.2.2.1 p.2.1.1 p.2.1.2.1 p.2.1.2.2.1 p.2.1.2.2.2.1 p.2.1.2.2.2.2.1)
noncomputable def lworth_l1_L (N : Nat) : LoopS := { at_ := lworth_l1_at, sta := lworth_l1_st, exits := [([.c [1, 1, 0, 1, 0, 0, 1, 1, 0, 0, 1, 1, 0, 1, 0, 0], .c [1, 1, 0, 1, 0, 0, 1, 1, 0, 0, 1, 1, 0, 1, 0, 1], .c [1, 1, 0, 1, 0, 0, 1, 1, 0, 0, 1, 1, 1], .b 1, .c [1, 1, 0, 1, 0, 0, 1, 1, 1], .l [1, 1, 0, 1, 0, 0], .b 0, .c [1, 1, 1]], ⟨[], ⟨[], []⟩⟩), ([.c [1, 1, 0, 1, 0, 0, 1, 1, 0, 0, 1, 1, 1, 1, 0, 1, 0, 0], .c [1, 1, 0, 1, 0, 0, 1, 1, 0, 0, 1, 1, 1, 1, 0, 1, 0, 1], .c [1, 1, 0, 1, 0, 0, 1, 1, 0, 0, 1, 1, 1, 1, 1], .b 1, .c [1, 1, 0, 1, 0, 0, 1, 1, 1], .l [1, 1, 0, 1, 0, 0], .b 0, .c [1, 1, 1]], ⟨[], ⟨[], []⟩⟩), ([.c [1, 1, 1, 0], .c [1, 1, 1, 1]], ⟨[1, 2, 6], ⟨[shL, .own 0 0, shI], [.segs [shL, shI, shQ, shQ, shL]]⟩⟩)], run := fun p k => (lworth_l1 N N p.1.1 p.1.2.2.1 p.1.2.2.2.1 p.1.2.2.2.2.1 p.1.2.2.2.2.2.1 p.2.1.1 p.2.1.2.1 p.2.1.2.2.1 p.2.1.2.2.2.1 p.2.1.2.2.2.2.1).bind fun e => match e with | .inl x => k (.inl ((), ())) | .inr (.inl x) => k (.inr (.inl ((), ()))) | .inr (.inr x) => k (.inr (.inr (.inl ((x.1, (), x.2.1, ()), ((x.2.2.1, x.2.2.2.1, x.2.2.2.2.1, x.2.2.2.2.2.1, x.2.2.2.2.2.2, ()), ()))))) }
theorem lworth_l1_eq (N n_ : Nat) (l : Li) (sum : Int) (u : Li) (u2 : Int) (u3 : Int) (d : Li) (d2 : Int) (d3 : Ll) (d4 : Ll) (d5 : Li) : ev (Z := (Unit) ⊕ ((Unit) ⊕ (Li × Int × Li × Int × Ll × Ll × Li))) Try.prog (lworth_sp N) lworth_B [] [lworth_l1_h (lworth_l1 N n_), lworth_l1_e0, lworth_l1_e1, lworth_l1_e2, lworth_j1_k N (lworth_l1 N n_)] none 400 true lworth_l1_at (stL lworth_l1_st ((l, (), sum, u, u2, u3, ()), ((d, d2, d3, d4, d5, ()), ()))) (stH lworth_l1_st ((l, (), sum, u, u2, u3, ()), ((d, d2, d3, d4, d5, ()), ()))) = lworth_l1 N (n_ + 1) l sum u u2 u3 d d2 d3 d4 d5 := by kernel_rfl
theorem lworth_l1_ok (N : Nat) {top : Bool} : LoopOK Try.prog lworth_B.c lworth_B.n lworth_B.m0 top (lworth_l1_L N) := loop_of_ev (Z := (Unit) ⊕ ((Unit) ⊕ (Li × Int × Li × Int × Ll × Ll × Li))) (N := N) (fun m p => lworth_l1 N m p.1.1 p.1.2.2.1 p.1.2.2.2.1 p.1.2.2.2.2.1 p.1.2.2.2.2.2.1 p.2.1.1 p.2.1.2.1 p.2.1.2.2.1 p.2.1.2.2.2.1 p.2.1.2.2.2.2.1) (fun e => match e with | .inl x => .inl ((), ()) | .inr (.inl x) => .inr (.inl ((), ())) | .inr (.inr x) => .inr (.inr (.inl ((x.1, (), x.2.1, ()), ((x.2.2.1, x.2.2.2.1, x.2.2.2.2.1, x.2.2.2.2.2.1, x.2.2.2.2.2.2, ()), ()))))) (fun _ p k => bind_congr_ (lworth_l1 N N p.1.1 p.1.2.2.1 p.1.2.2.2.1 p.1.2.2.2.2.1 p.1.2.2.2.2.2.1 p.2.1.1 p.2.1.2.1 p.2.1.2.2.1 p.2.1.2.2.2.1 p.2.1.2.2.2.2.1) _ _ (fun e => by rcases e with x | x | x <;> rfl)) (fun _ => rfl) (fun m z E Xc hE hX hrec hx => leaf_of_ev (B := lworth_B) (loops := []) (leaves := [lworth_l1_h (lworth_l1 N m), lworth_l1_e0, lworth_l1_e1, lworth_l1_e2, lworth_j1_k N (lworth_l1 N m)]) (lworth_all N) mixed trivial hE hX ⟨hrec, (fun p hp => by obtain rfl := Option.some.inj hp; exact hx), (fun p hp => by obtain rfl := Option.some.inj hp; exact hx), (fun p hp => by obtain rfl := Option.some.inj hp; exact hx), lworth_j1_lf N _ hE hX hrec (fun p hp => by obtain rfl := Option.some.inj hp; exact hx) (fun p hp => by obtain rfl := Option.some.inj hp; exact hx) (fun p hp => by obtain rfl := Option.some.inj hp; exact hx), trivial⟩ RetOK.no (fun p => lworth_l1_eq N m p.1.1 p.1.2.2.1 p.1.2.2.2.1 p.1.2.2.2.2.1 p.1.2.2.2.2.2.1 p.2.1.1 p.2.1.2.1 p.2.1.2.2.1 p.2.1.2.2.2.1 p.2.1.2.2.2.2.1))
abbrev lworth_st : Sta := ⟨[0, 1], ⟨[shG, shL], []⟩⟩
theorem lworth_eq (N : Nat) (d : Li) (d2 : Int) (d3 : Ll) (d4 : Ll) (d5 : Li) (l : Li) : ev (Z := Int × Bool) Try.prog (lworth_sp N) lworth_B [lworth_l1_L N] [] (some lworth_rt) 400 false [.c [0], .c [1]] (stL lworth_st (((d, d2, d3, d4, d5, ()), l, ()), ())) (stH lworth_st (((d, d2, d3, d4, d5, ()), l, ()), ())) = lworth_S N d d2 d3 d4 d5 l := by kernel_rfl
noncomputable def sp_lworth (N : Nat) : Spec := { f := 21, ins := ⟨[shG, shL], []⟩, outs := [⟨[shI, .b], []⟩], run := fun p k => (lworth_S N p.1.1.1 p.1.1.2.1 p.1.1.2.2.1 p.1.1.2.2.2.1 p.1.1.2.2.2.2.1 p.1.2.1).bind fun r => k ((r.1, r.2, ()), ()) }
theorem sp_lworth_ok (N : Nat) : SpecOK Try.prog (sp_lworth N) := fn_sound (B := lworth_B) (loops := [lworth_l1_L N]) (leaves := []) (fun p => lworth_S N p.1.1.1 p.1.1.2.1 p.1.1.2.2.1 p.1.1.2.2.2.1 p.1.1.2.2.2.2.1 p.1.2.1) (fun r => ((r.1, r.2, ()), ())) lworth_rt (fun _ _ _ => rfl) (fun r z h => by cases h; rfl) Try.func21 (by kernel_rfl) (by kernel_rfl) (by kernel_rfl) rfl rfl (by kernel_rfl) (fun args w => Sem.pv_run _ _ _ (by kernel_rfl) w) (lworth_all N) mixed ⟨lworth_l1_ok N, trivial⟩ (fun z E Xc hE hX hret => trivial) (fun p => lworth_eq N p.1.1.1 p.1.1.2.1 p.1.1.2.2.1 p.1.1.2.2.2.1 p.1.1.2.2.2.2.1 p.1.2.1)

end Go.Proofs.Ythncjilcflilcaa

namespace Go.Proofs.Ythncjilcflilcaa
set_option linter.all false
open Go

set_option maxHeartbeats 400000 in
theorem may1_up (l bd od bc oc bl ol : Nat) (vd vd2 : Addr) (lost : Int) (m : Nat) (fs : Option Addr) (fc : Nat) (R : Nat → Bool) (S : List Nat) (J : List Nat → World → Prop) (Q : World → Prop) (w : World)
    (hbd : ∀ w', Upd (l :: S) w w' → Cl w' bd od [.pointer (some vd)]) (hbc : ∀ w', Upd (l :: S) w w' → Cl w' bc oc [(.func (.func 111) #[.pointer (some vd2)] #[])]) (hbl : ∀ w', Upd (l :: S) w w' → Cl w' bl ol [.int .i64 lost])
    (hfo : ∀ w', Upd (l :: S) w w' → w'.cell? (vd.add 3) = some (.slice fs m fc))
    (hcan : ∀ (k : Nat) w', k < m → Upd (l :: S) w w' → Fn Try.prog 111 #[.pointer (some vd2), .int .i64 lost, .int .i64 (↑k : Int)] w' (fun v w2 => Ext w' w2 ∧ v = .bool (R k)))
    (hm : m ≤ 1000000) (hJ : J (mayF R m 0) w) (hxJ : ∀ r, Stays w.heap.size (J r))
    (hy : ∀ k r w1, k ∈ mayF R m 0 → J (k :: r) w1 → Upd (l :: S) w w1 → Yield Try.prog l #[.int .i64 ↑k] w1 (fun v w2 => Upd (l :: S) w w2 ∧ ((v = .bool true ∧ J r w2) ∨ (v = .bool false ∧ Q w2)))) :
    Fn Try.prog 123 #[(.func (.yield l) #[] #[]), (.pointer (some ⟨bd, od, none⟩)), (.pointer (some ⟨bc, oc, none⟩)), (.pointer (some ⟨bl, ol, none⟩))] w (fun _ w' => Upd (l :: S) w w' ∧ (J [] w' ∨ Q w')) := by
  refine Fn.ofSt (c := c123) 26 K123_0 [(0, (.func (.yield l) #[] #[])), (1, (.pointer (some ⟨bd, od, none⟩))), (2, (.pointer (some ⟨bc, oc, none⟩))), (3, (.pointer (some ⟨bl, ol, none⟩)))] Try.func123 (by kernel_rfl) ⟨⟨rfl, by kernel_rfl⟩, by kernel_rfl⟩ (by kernel_rfl) ?_
  intro cs
  refine St.reg K123_1 [(0, true), (1, true), (2, true), (3, true), (4, true), (5, true), (6, true)] (by kernel_rfl) (by kernel_rfl) ?_
  refine RX.q 7 [(0, true, (.pointer (some vd))), (4, true, (.slice fs m fc))] [(0, (.func (.yield l) #[] #[])), (1, (.pointer (some ⟨bd, od, none⟩))), (2, (.pointer (some ⟨bc, oc, none⟩))), (3, (.pointer (some ⟨bl, ol, none⟩))), (11, (.int .i64 (↑m : Int))), (12, (.int .i64 0))] [.cell ⟨bd, od + 0, none⟩ (.pointer (some vd)), .cell (vd.add 3) (.slice fs m fc)] (by kernel_rfl) ⟨Cl.cell (hbd w (Upd.refl _ w)) rfl, hfo w (Upd.refl _ w)⟩ ?_
  refine RX.done [(0, (.func (.yield l) #[] #[])), (1, (.pointer (some ⟨bd, od, none⟩))), (2, (.pointer (some ⟨bc, oc, none⟩))), (3, (.pointer (some ⟨bl, ol, none⟩))), (11, (.int .i64 (↑m : Int))), (12, (.int .i64 0))] (by kernel_rfl) (by kernel_rfl) ?_
  have loop1 : ∀ (N : Nat) (k : Nat) (w2 : World), k ≤ m → (J (mayF R m k) w2) → (Upd (l :: S) w w2) → N = m - k → St Try.prog (fctx Try.prog 123 (fun _ w' => Upd (l :: S) w w' ∧ (J [] w' ∨ Q w')) cs) 26 K123_1 [(12, (.int .i64 (↑k : Int))), (11, (.int .i64 (↑m : Int))), (0, (.func (.yield l) #[] #[])), (1, (.pointer (some ⟨bd, od, none⟩))), (2, (.pointer (some ⟨bc, oc, none⟩))), (3, (.pointer (some ⟨bl, ol, none⟩)))] [] w2 := by
    intro N3
    induction N3 using Nat.strongRecOn with
    | ind N3 ih4 => ?_
    intro k w2 hk hJk hE hN5
    refine St.reg K123_2 [(0, true)] (by kernel_rfl) (by kernel_rfl) ?_
    refine RX.q 1 [] [(0, (.func (.yield l) #[] #[])), (1, (.pointer (some ⟨bd, od, none⟩))), (2, (.pointer (some ⟨bc, oc, none⟩))), (3, (.pointer (some ⟨bl, ol, none⟩))), (11, (.int .i64 (↑m : Int))), (12, (.int .i64 (↑k : Int))), (13, (.bool (decide ((↑k : Int) < (↑m : Int)))))] [] (by kernel_rfl) trivial ?_
    refine RX.done [(0, (.func (.yield l) #[] #[])), (1, (.pointer (some ⟨bd, od, none⟩))), (2, (.pointer (some ⟨bc, oc, none⟩))), (3, (.pointer (some ⟨bl, ol, none⟩))), (11, (.int .i64 (↑m : Int))), (12, (.int .i64 (↑k : Int))), (13, (.bool (decide ((↑k : Int) < (↑m : Int)))))] (by kernel_rfl) (by kernel_rfl) ?_
    refine St.cond (k1 := K123_3) (k2 := K123_4) (decide ((↑k : Int) < (↑m : Int))) (by kernel_rfl) (fun hc7 => ?_) (fun hc7 => ?_)
    · have hh8 : (↑k : Int) < (↑m : Int) := by simpa using hc7
      clear hc7
      refine St.weak (L' := [(12, (.int .i64 (↑k : Int))), (11, (.int .i64 (↑m : Int))), (0, (.func (.yield l) #[] #[])), (1, (.pointer (some ⟨bd, od, none⟩))), (2, (.pointer (some ⟨bc, oc, none⟩))), (3, (.pointer (some ⟨bl, ol, none⟩)))]) (by kernel_rfl) ?_
      refine St.reg K123_5 [(0, true), (1, true)] (by kernel_rfl) (by kernel_rfl) ?_
      refine RX.q 2 [] [(0, (.func (.yield l) #[] #[])), (1, (.pointer (some ⟨bd, od, none⟩))), (2, (.pointer (some ⟨bc, oc, none⟩))), (3, (.pointer (some ⟨bl, ol, none⟩))), (11, (.int .i64 (↑m : Int))), (12, (.int .i64 (↑k : Int))), (5, (.int .i64 (↑k : Int)))] [] (by kernel_rfl) trivial ?_
      refine RX.done [(0, (.func (.yield l) #[] #[])), (1, (.pointer (some ⟨bd, od, none⟩))), (2, (.pointer (some ⟨bc, oc, none⟩))), (3, (.pointer (some ⟨bl, ol, none⟩))), (11, (.int .i64 (↑m : Int))), (12, (.int .i64 (↑k : Int))), (5, (.int .i64 (↑k : Int)))] (by kernel_rfl) (by kernel_rfl) ?_
      refine St.reg K123_6 [(0, true), (1, true), (2, true), (3, false), (4, true), (5, true), (6, true), (7, false), (8, true), (9, true)] (by kernel_rfl) (by kernel_rfl) ?_
      refine RX.q 3 [(0, true, (.func (.func 111) #[.pointer (some vd2)] #[])), (1, true, (.int .i64 lost))] [(0, (.func (.yield l) #[] #[])), (1, (.pointer (some ⟨bd, od, none⟩))), (2, (.pointer (some ⟨bc, oc, none⟩))), (3, (.pointer (some ⟨bl, ol, none⟩))), (11, (.int .i64 (↑m : Int))), (12, (.int .i64 (↑k : Int))), (5, (.int .i64 (↑k : Int))), (15, (.func (.func 111) #[.pointer (some vd2)] #[])), (16, (.int .i64 lost)), (17, (.int .i64 (↑k : Int)))] [.cell ⟨bc, oc + 0, none⟩ (.func (.func 111) #[.pointer (some vd2)] #[]), .cell ⟨bl, ol + 0, none⟩ (.int .i64 lost)] (by kernel_rfl) ⟨Cl.cell (hbc w2 hE) rfl, Cl.cell (hbl w2 hE) rfl⟩ ?_
      refine RX.call 18 111 #[.pointer (some vd2), (.int .i64 lost), (.int .i64 (↑k : Int))] [(0, (.func (.yield l) #[] #[])), (1, (.pointer (some ⟨bd, od, none⟩))), (2, (.pointer (some ⟨bc, oc, none⟩))), (3, (.pointer (some ⟨bl, ol, none⟩))), (11, (.int .i64 (↑m : Int))), (12, (.int .i64 (↑k : Int))), (5, (.int .i64 (↑k : Int))), (15, (.func (.func 111) #[.pointer (some vd2)] #[])), (16, (.int .i64 lost)), (17, (.int .i64 (↑k : Int)))] (fun _ => by kernel_rfl) (by kernel_rfl) ?_
      refine Fn.mono (hcan k w2 (by omega) hE) ?_
      rintro _ w4 ⟨hx4, rfl⟩
      have hE4 : Upd (l :: S) w w4 := Upd.ext hE hx4
      have hJ4 : J (mayF R m k) w4 := Stays.ext (hxJ _) hJk hx4
      cases hR : R k with
      | true =>
        refine RX.q 3 [] [(0, (.func (.yield l) #[] #[])), (1, (.pointer (some ⟨bd, od, none⟩))), (2, (.pointer (some ⟨bc, oc, none⟩))), (3, (.pointer (some ⟨bl, ol, none⟩))), (11, (.int .i64 (↑m : Int))), (12, (.int .i64 (↑k : Int))), (19, (.bool true)), (20, (.func (.yield l) #[] #[])), (21, (.int .i64 (↑k : Int)))] [] (by kernel_rfl) trivial ?_
        rw [mayF_yes (by omega) hR] at hJ4
        refine RX.yield 22 l #[(.int .i64 (↑k : Int))] [(0, (.func (.yield l) #[] #[])), (1, (.pointer (some ⟨bd, od, none⟩))), (2, (.pointer (some ⟨bc, oc, none⟩))), (3, (.pointer (some ⟨bl, ol, none⟩))), (11, (.int .i64 (↑m : Int))), (12, (.int .i64 (↑k : Int))), (19, (.bool true)), (20, (.func (.yield l) #[] #[])), (21, (.int .i64 (↑k : Int)))] (by kernel_rfl) ?_
        refine Yield.mono (hy k _ w4 (mem_mayF.2 ⟨by omega, by omega, hR⟩) hJ4 hE4) ?_
        rintro _ w5 ⟨hu5, ⟨rfl, hv⟩ | ⟨rfl, hv⟩⟩
        · refine RX.q 2 [] [(0, (.func (.yield l) #[] #[])), (1, (.pointer (some ⟨bd, od, none⟩))), (2, (.pointer (some ⟨bc, oc, none⟩))), (3, (.pointer (some ⟨bl, ol, none⟩))), (11, (.int .i64 (↑m : Int))), (12, (.int .i64 (↑k : Int))), (24, (.bool false))] [] (by kernel_rfl) trivial ?_
          refine RX.done [(0, (.func (.yield l) #[] #[])), (1, (.pointer (some ⟨bd, od, none⟩))), (2, (.pointer (some ⟨bc, oc, none⟩))), (3, (.pointer (some ⟨bl, ol, none⟩))), (11, (.int .i64 (↑m : Int))), (12, (.int .i64 (↑k : Int))), (24, (.bool false))] (by kernel_rfl) (by kernel_rfl) ?_
          refine St.cond (k1 := K123_7) (k2 := K123_8) false (by kernel_rfl) (fun hc => ?_) (fun hc => ?_)
          · cases hc
          · clear hc
            refine St.weak (L' := [(12, (.int .i64 (↑k : Int))), (11, (.int .i64 (↑m : Int))), (0, (.func (.yield l) #[] #[])), (1, (.pointer (some ⟨bd, od, none⟩))), (2, (.pointer (some ⟨bc, oc, none⟩))), (3, (.pointer (some ⟨bl, ol, none⟩)))]) (by kernel_rfl) ?_
            refine St.reg K123_1 [(0, true), (1, true)] (by kernel_rfl) (by kernel_rfl) ?_
            refine RX.q 2 [(0, false, (.int .i64 ((↑k : Int) + 1)))] [(0, (.func (.yield l) #[] #[])), (1, (.pointer (some ⟨bd, od, none⟩))), (2, (.pointer (some ⟨bc, oc, none⟩))), (3, (.pointer (some ⟨bl, ol, none⟩))), (11, (.int .i64 (↑m : Int))), (12, (.int .i64 ((↑k : Int) + 1)))] [.eq (.int .i64 (IntKind.i64.wrap ((↑k : Int) + 1))) (.int .i64 ((↑k : Int) + 1))] (by kernel_rfl) (int64 (by omega)) ?_
            refine RX.done [(0, (.func (.yield l) #[] #[])), (1, (.pointer (some ⟨bd, od, none⟩))), (2, (.pointer (some ⟨bc, oc, none⟩))), (3, (.pointer (some ⟨bl, ol, none⟩))), (11, (.int .i64 (↑m : Int))), (12, (.int .i64 ((↑k : Int) + 1)))] (by kernel_rfl) (by kernel_rfl) ?_
            refine St.weak (by kernel_rfl) (ih4 _ ?_ (k + 1) w5 (by omega) hv hu5 rfl)
            omega
        · refine RX.q 2 [] [(0, (.func (.yield l) #[] #[])), (1, (.pointer (some ⟨bd, od, none⟩))), (2, (.pointer (some ⟨bc, oc, none⟩))), (3, (.pointer (some ⟨bl, ol, none⟩))), (11, (.int .i64 (↑m : Int))), (12, (.int .i64 (↑k : Int))), (24, (.bool true))] [] (by kernel_rfl) trivial ?_
          refine RX.done [(0, (.func (.yield l) #[] #[])), (1, (.pointer (some ⟨bd, od, none⟩))), (2, (.pointer (some ⟨bc, oc, none⟩))), (3, (.pointer (some ⟨bl, ol, none⟩))), (11, (.int .i64 (↑m : Int))), (12, (.int .i64 (↑k : Int))), (24, (.bool true))] (by kernel_rfl) (by kernel_rfl) ?_
          refine St.cond (k1 := K123_7) (k2 := K123_8) true (by kernel_rfl) (fun hc => ?_) (fun hc => ?_)
          · clear hc
            refine St.weak (L' := []) (by kernel_rfl) ?_
            refine St.ret [] [] (by kernel_rfl) Try.func123 (by kernel_rfl) .nil ?_
            exact ⟨hu5, .inr hv⟩
          · cases hc
      | false =>
        refine RX.q 3 [] [(0, (.func (.yield l) #[] #[])), (1, (.pointer (some ⟨bd, od, none⟩))), (2, (.pointer (some ⟨bc, oc, none⟩))), (3, (.pointer (some ⟨bl, ol, none⟩))), (11, (.int .i64 (↑m : Int))), (12, (.int .i64 (↑k : Int))), (19, (.bool false)), (20, undef), (21, undef)] [] (by kernel_rfl) trivial ?_
        refine RX.skip [(0, (.func (.yield l) #[] #[])), (1, (.pointer (some ⟨bd, od, none⟩))), (2, (.pointer (some ⟨bc, oc, none⟩))), (3, (.pointer (some ⟨bl, ol, none⟩))), (11, (.int .i64 (↑m : Int))), (12, (.int .i64 (↑k : Int))), (19, (.bool false)), (20, undef), (21, undef), (22, undef)] (by kernel_rfl) ?_
        refine RX.q 2 [] [(0, (.func (.yield l) #[] #[])), (1, (.pointer (some ⟨bd, od, none⟩))), (2, (.pointer (some ⟨bc, oc, none⟩))), (3, (.pointer (some ⟨bl, ol, none⟩))), (11, (.int .i64 (↑m : Int))), (12, (.int .i64 (↑k : Int))), (24, (.bool false))] [] (by kernel_rfl) trivial ?_
        refine RX.done [(0, (.func (.yield l) #[] #[])), (1, (.pointer (some ⟨bd, od, none⟩))), (2, (.pointer (some ⟨bc, oc, none⟩))), (3, (.pointer (some ⟨bl, ol, none⟩))), (11, (.int .i64 (↑m : Int))), (12, (.int .i64 (↑k : Int))), (24, (.bool false))] (by kernel_rfl) (by kernel_rfl) ?_
        refine St.cond (k1 := K123_7) (k2 := K123_8) false (by kernel_rfl) (fun hc => ?_) (fun hc => ?_)
        · cases hc
        · clear hc
          refine St.weak (L' := [(12, (.int .i64 (↑k : Int))), (11, (.int .i64 (↑m : Int))), (0, (.func (.yield l) #[] #[])), (1, (.pointer (some ⟨bd, od, none⟩))), (2, (.pointer (some ⟨bc, oc, none⟩))), (3, (.pointer (some ⟨bl, ol, none⟩)))]) (by kernel_rfl) ?_
          refine St.reg K123_1 [(0, true), (1, true)] (by kernel_rfl) (by kernel_rfl) ?_
          refine RX.q 2 [(0, false, (.int .i64 ((↑k : Int) + 1)))] [(0, (.func (.yield l) #[] #[])), (1, (.pointer (some ⟨bd, od, none⟩))), (2, (.pointer (some ⟨bc, oc, none⟩))), (3, (.pointer (some ⟨bl, ol, none⟩))), (11, (.int .i64 (↑m : Int))), (12, (.int .i64 ((↑k : Int) + 1)))] [.eq (.int .i64 (IntKind.i64.wrap ((↑k : Int) + 1))) (.int .i64 ((↑k : Int) + 1))] (by kernel_rfl) (int64 (by omega)) ?_
          refine RX.done [(0, (.func (.yield l) #[] #[])), (1, (.pointer (some ⟨bd, od, none⟩))), (2, (.pointer (some ⟨bc, oc, none⟩))), (3, (.pointer (some ⟨bl, ol, none⟩))), (11, (.int .i64 (↑m : Int))), (12, (.int .i64 ((↑k : Int) + 1)))] (by kernel_rfl) (by kernel_rfl) ?_
          refine St.weak (by kernel_rfl) (ih4 _ ?_ (k + 1) w4 (by omega) (by rw [← mayF_no (by omega) hR]; exact hJ4) hE4 rfl)
          omega
    · have hh52 : (↑m : Int) ≤ (↑k : Int) := by simpa using hc7
      clear hc7
      refine St.weak (L' := []) (by kernel_rfl) ?_
      refine St.ret [] [] (by kernel_rfl) Try.func123 (by kernel_rfl) .nil ?_
      refine ⟨hE, .inl ?_⟩
      rw [← mayF_end (R := R) (m := m) (k := k) (by omega)]; exact hJk
  exact St.weak (by kernel_rfl) (loop1 _ 0 w (by omega) hJ (Upd.refl (l :: S) w) rfl)
/-- As the contract of may, but rounds may write what was new when the range began. -/
theorem is_may_up : ∀ (p : Shs.den is_may.cap) (es : List (Shs.den is_may.elem)), is_may.run p = some es → ∀ (g : Gh) (vs : List Value), RepVs g (encs id is_may.cap p) vs →
    ∀ (l : Nat) (S : List Nat) (J : List (Shs.den is_may.elem) → World → Prop) (Q : World → Prop) (w : World), (∀ b o, g.M b = some o → b ∉ l :: S ∧ w.heap[b]? = some o) → (∀ k ∈ l :: S, k < w.heap.size) → J es w → (∀ r, Stays w.heap.size (J r)) → Stays w.heap.size Q →
      (∀ m r w1 us, J (m :: r) w1 → Upd (l :: S) w w1 → RepVs g00 (encs id is_may.elem m) us → Yield Try.prog l us.toArray w1 (fun v w2 => Upd (l :: S) w w2 ∧ ((v = .bool true ∧ J r w2) ∨ (v = .bool false ∧ Q w2)))) →
      Fn Try.prog 123 (#[.func (.yield l) #[] #[]] ++ vs.toArray) w (fun _ w' => Upd (l :: S) w w' ∧ (J [] w' ∨ Q w')) := by
  intro p es hes g vs hvs l S J Q w hM hS hJ hxJ hxQ hy
  obtain ⟨⟨d, ⟨⟩⟩, ⟨⟨⟨d', ⟨⟩⟩, ⟨⟩⟩, ⟨⟩⟩, lost, ⟨⟩⟩ := p
  simp only [mayR] at hes
  split at hes
  rotate_left
  · cases hes
  rename_i hc
  simp only [Option.some.injEq] at hes
  subst hes
  obtain ⟨⟨ha0, ha1⟩, hf, hA, hS'⟩ := hc
  obtain ⟨i, rfl⟩ : ∃ n : Nat, lost = n := ⟨lost.toNat, (Int.toNat_of_nonneg ha0).symm⟩
  simp only [Int.toNat_natCast] at hJ ⊢
  simp only [encs, enc, RepVs, RepV] at hvs
  obtain ⟨v1, r1, rfl, ⟨bd, od, wd, td, ud, rfl, hbd, hsd, hcd⟩, v2, r2, rfl, ⟨bc, oc, wc, tc, uc, rfl, hbc, hsc, hcc⟩, v3, r3, rfl, ⟨bl, ol, wl, tl, ul, rfl, hbl, hsl, hcl⟩, rfl⟩ := hvs
  obtain ⟨rfl, hin⟩ := hcl
  obtain ⟨x1, x2, rfl, ⟨x3, rfl, hx⟩, rfl⟩ := hcd
  simp only [RepV] at hx
  obtain ⟨bo, oo, wo, to, uo, rfl, hbo, hso, hco⟩ := hx
  obtain ⟨y1, y2, rfl, ⟨y3, rfl, hy'⟩, rfl⟩ := hcc
  simp only [RepV, RepVs] at hy'
  obtain ⟨va, vc, rfl, ⟨z1, z2, rfl, ⟨be, oe, we, te, ue, rfl, hbe, hse, hce⟩, rfl⟩, rfl⟩ := hy'
  simp only [RepPs, PartOf, RepV] at hco
  obtain ⟨p1, q1, rfl, ⟨e1, rfl, h1⟩, p2, q2, rfl, ⟨e2, rfl, h2⟩, p3, q3, rfl, ⟨e3, rfl, h3⟩, p4, q4, rfl, ⟨e4, rfl, h4⟩, hrest⟩ := hco
  obtain ⟨hl4, fa, fc, rfl, hfc, hf4⟩ := h4
  have hmem : ∀ w', Upd (l :: S) w w' → ∀ b o, g.M b = some o → w'.heap[b]? = some o := fun w' hu b o hb => hu.blk (hM b o hb).2 (hM b o hb).1
  have hrd : RepV ⟨fun _ => none, g.M⟩ (enc id shD d') (.pointer (some ⟨be, oe, none⟩)) := ⟨be, oe, we, te, ue, rfl, hbe, hse, hce⟩
  have hfn := may1_up l bd od bc oc bl ol ⟨bo, oo, none⟩ ⟨be, oe, none⟩ (i : Int) d.2.2.2.1.length fa fc (canD d' i) S (fun r => J (r.map fun (j : Nat) => ((j : Int), ()))) Q w
    (fun w' hu => Cl.of_seg (hmem w' hu _ _ hbd) hsd) (fun w' hu => Cl.of_seg (hmem w' hu _ _ hbc) hsc) (fun w' hu => Cl.of_seg (hmem w' hu _ _ hbl) hsl)
    (fun w' hu => Cl.cell (Cl.of_seg (hmem w' hu _ _ hbo) hso) (i := 3) rfl)
    (fun k w' h1 hu => Fn.mono (call_pure (sp_can_ok 200) rfl (p := ((d', ((i : Int), ((k : Int), ()))), ())) (r := ((canD d' i k, ()), ())) (by
        show ((can_S 200 d' i k).bind fun r => some ((r, ()), ())) = _
        rw [can_v hA hS' (by omega) (by omega)]; rfl) (hmem w' hu) ⟨_, _, rfl, hrd, _, _, rfl, ⟨rfl, (show inR .i64 (i : Int) from inR_small (by omega))⟩, _, _, rfl, ⟨rfl, (show inR .i64 (k : Int) from inR_small (by omega))⟩, rfl⟩) (fun v w2 ⟨h1, g', h2⟩ => ⟨h1, by
      simp only [altOf, encs, enc, resVal, RepV] at h2
      exact h2⟩))
    (by omega) hJ (fun r => hxJ _) (fun m r w1 hm hj hu => hy ((m : Int), ()) (r.map fun (j : Nat) => ((j : Int), ())) w1 [.int .i64 (m : Int)] hj hu ⟨_, _, rfl, ⟨rfl, inR_small (by have := (mem_mayF.1 hm).2.1; omega)⟩, rfl⟩)
  exact hfn
noncomputable def c128 : Code := (Try.f128.body).getD .skip
noncomputable def K128_0 : List Item := [.code (sub c128 [0]), .code (sub c128 [1])]
noncomputable def K128_1 : List Item := [.code (sub c128 [1, 0, 0]), .code (sub c128 [1, 0, 1]), .code (sub c128 [1, 1])]
noncomputable def K128_2 : List Item := [.code (sub c128 [1, 0, 1, 0]), .inBlock 0, .code (sub c128 [1, 1])]
noncomputable def K128_3 : List Item := [.code (sub c128 [1, 1, 0]), .code (sub c128 [1, 1, 1])]
noncomputable def K128_4 : List Item := [.code (sub c128 [1, 1, 1])]
noncomputable def K128_a : List Item := [.code (sub c128 [1, 0, 1, 0, 0]), .beginRound, .code (sub c128 [1, 0, 1, 0, 1])]
noncomputable def K128_b : List Item := [.beginRound, .code (sub c128 [1, 0, 1, 0, 1])]
noncomputable def K128_c : List Item := [.code (sub c128 [1, 0, 1, 0, 1, 0]), .inBlock 1]
/-- What has been appended, and what is still to come. -/
def AppJ (all : List Int) (bc D lo : Nat) (tm : Array Value) (w0 : World) (es : List Int) (w : World) : Prop :=
  ∃ (l : List Int) (v : Value) (ab : List Nat), all = l ++ es ∧ Blk w bc [v] 23 ∧ Acc 3 1 lo w v l.length (l.map (.int .i64)) ab ∧
    w.heap[D + 1]? = some (.loop (lrec 128 tm #[7] (sub c128 [1, 0, 1, 0, 0]) (sub c128 [1, 0, 1, 0, 1]) D .ready none))
set_option maxHeartbeats 1000000 in
theorem appseq_fn {p : Shs.den is_may.cap} {es : List (Int × Unit)} (hes : is_may.run p = some es) (hlen : es.length ≤ 1000000) (g : Gh) (vc : List Value) (hvc : RepVs g (encs id is_may.cap p) vc) (w : World) (hM : ∀ b o, g.M b = some o → w.heap[b]? = some o) :
    Fn Try.prog 128 #[.slice none 0 0, .func (.func 123) #[] vc.toArray] w (fun v w' => Ext w w' ∧ ∃ ab, Acc 3 1 w.heap.size w' v es.length ((es.map (·.1)).map (.int .i64)) ab) := by
  have hMb : ∀ b o, g.M b = some o → b < w.heap.size := fun b o h => lt_of_blk (hM b o h)
  obtain ⟨hue, hel, by_, zv, hT, hZ⟩ := elemT_of (P := Try.prog) (t := 23) (e := 3) (y := .int .i64) (by kernel_rfl)
  have hT : ElemT Try.prog 23 3 1 by_ zv := hT
  refine Fn.ofSt (c := c128) 13 K128_0 [(0, .slice none 0 0), (1, .func (.func 123) #[] vc.toArray)] Try.func128 (by kernel_rfl) ⟨⟨rfl, by kernel_rfl⟩, by kernel_rfl⟩ (by kernel_rfl) ?_
  intro cs
  refine St.reg K128_1 [(0, false), (1, true)] (by kernel_rfl) (by kernel_rfl) ?_
  refine RX.new 2 (.cells #[.slice none 0 0] 23) .ptr [(0, .slice none 0 0), (1, .func (.func 123) #[] vc.toArray)] (by kernel_rfl) ?_
  intro bc w1 hn1
  have hsz1 := hn1.size; have hat1 := hn1.at_
  have hb1 : Blk w1 bc [.slice none 0 0] 23 := hn1.blk
  refine RX.q 1 [] [(1, .func (.func 123) #[] vc.toArray), (2, .pointer (some ⟨bc, 0, none⟩))] [] (by kernel_rfl) trivial ?_
  refine RX.done [(1, .func (.func 123) #[] vc.toArray), (2, .pointer (some ⟨bc, 0, none⟩))] (by kernel_rfl) (by kernel_rfl) ?_
  refine St.reg K128_2 [(0, true)] (by kernel_rfl) (by kernel_rfl) ?_
  refine RX.q 1 [] [(6, .func (.func 123) #[] vc.toArray), (2, .pointer (some ⟨bc, 0, none⟩))] [] (by kernel_rfl) trivial ?_
  refine RX.done [(6, .func (.func 123) #[] vc.toArray), (2, .pointer (some ⟨bc, 0, none⟩))] (by kernel_rfl) (by kernel_rfl) ?_
  refine St.rangeFunc (g := .tmp 6) (ps := #[7]) (assign := (sub c128 [1, 0, 1, 0, 0])) (body := (sub c128 [1, 0, 1, 0, 1])) (k := K128_2.tail) 123 #[] vc.toArray rfl (by kernel_rfl) (by kernel_rfl) (fun _ => by kernel_rfl) ?_
  intro tm w2 htm hx2 hsz2 hD hL
  obtain ⟨D, hDe⟩ : ∃ D, D = w1.heap.size := ⟨_, rfl⟩
  rw [← hDe] at hsz2 hD hL ⊢
  have hl : w2.heap[D + 1]? = some (.loop (lrec 128 tm #[7] (sub c128 [1, 0, 1, 0, 0]) (sub c128 [1, 0, 1, 0, 1]) D .ready none)) := hL
  have hb2 : Blk w2 bc [.slice none 0 0] 23 := Ext.blk hx2 hb1
  have hE2 : Ext w w2 := hn1.ext.trans hx2
  have hsz := hE2.size
  have hfn := is_may_up p es hes g vc hvc (D + 1) [bc] (fun r wv => AppJ (es.map (·.1)) bc D w2.heap.size tm w2 (r.map (·.1)) wv) (fun _ => False) w2
    (fun b o h => ⟨fun hm => by have := hMb b o h; simp at hm; omega, Ext.blk hE2 (hM b o h)⟩) (fun k hk => by simp at hk; omega)
    ⟨[], .slice none 0 0, [], rfl, hb2, Acc.nil 3 1 _ _, hl⟩ ?_ (fun _ _ _ h _ _ => h) ?_
  rotate_left
  · -- blocks that the function that is ranged over may change
    rintro r wa wb T ⟨l, v, ab, e1, h1, h2, h3⟩ hu hT
    refine ⟨l, v, ab, e1, hu.blk h1 (fun hk => by have := (hT _ hk).1; omega), h2.upd hu (fun k hk hkT => ?_), hu.blk h3 (fun hk => by have := (hT _ hk).1; omega)⟩
    obtain ⟨h4, h5⟩ := h2
    rcases h5 with ⟨_, _, rfl⟩ | ⟨b, cap, rest, _, rfl, _, _, _, ty, hB⟩
    · cases hk
    · simp at hk
      subst hk
      exact (hT _ hkT).2 _ _ _ hB
  · -- a round
    rintro ⟨x, ⟨⟩⟩ r wa us ⟨l, v, ab, e1, h1, h2, h3⟩ hU hus
    simp only [encs, enc, RepVs, RepV] at hus
    obtain ⟨v1, us', rfl, ⟨rfl, hx⟩, rfl⟩ := hus
    have hszU := hU.size
    have habl := h2.lt
    refine Yield.one K128_a [(7, .int .i64 x), (6, .func (.func 123) #[] vc.toArray), (2, .pointer (some ⟨bc, 0, none⟩))] h3 htm (by kernel_rfl) (by kernel_rfl) (fun c cs => ?_)
    refine St.reg K128_b [(0, true)] (by kernel_rfl) (by kernel_rfl) ?_
    refine RX.q 1 [] [(5, .int .i64 x), (2, .pointer (some ⟨bc, 0, none⟩))] [] (by kernel_rfl) trivial ?_
    refine RX.done [(5, .int .i64 x), (2, .pointer (some ⟨bc, 0, none⟩))] (by kernel_rfl) (by kernel_rfl) ?_
    refine St.beginRound (k' := K128_c) h3 rfl (by kernel_rfl) ?_
    intro wb hp
    have hlb : wb.heap[D + 1]? = some (.loop (lrec 128 tm #[7] (sub c128 [1, 0, 1, 0, 0]) (sub c128 [1, 0, 1, 0, 1]) D .busy none)) := hp.blk
    have hszb := hp.size
    have hab : ∀ k ∈ ab, k ∉ [D + 1] := fun k hk hk2 => by
      have h4 := (habl k hk).1
      simp at hk2; omega
    have hB1 : Blk wb bc [v] 23 := hp.upd.blk h1 (by simp; omega)
    have hA1 := h2.upd hp.upd hab
    refine St.reg [] [(0, true), (1, true), (2, false), (3, false), (4, false)] (by kernel_rfl) (by kernel_rfl) ?_
    refine RX.q 2 [(0, true, v)] [(8, v), (9, .int .i64 x), (2, .pointer (some ⟨bc, 0, none⟩))] [.cell ⟨bc, 0, none⟩ v] (by kernel_rfl) (Blk.cell hB1 rfl) ?_
    refine RX.new 10 (.cells #[.int .i64 x] 3) (.sl 1) [(8, v), (9, .int .i64 x), (2, .pointer (some ⟨bc, 0, none⟩))] (by kernel_rfl) ?_
    intro bx wc hnc
    have hszc := hnc.size; have hatc := hnc.at_
    have hBx : Blk wc bx [.int .i64 x] 3 := hnc.blk
    have hA2 := hA1.ext hnc.ext
    have hall : l.length + 1 ≤ 1000000 := by
      have : (es.map (·.1)).length = l.length + (x :: r.map (·.1)).length := by rw [e1]; simp
      simp at this; omega
    obtain ⟨v', wd, ab', hr, hA3, hU3, hab', -⟩ := append_run (P := Try.prog) (u := 23) (ty := 23) (lo2 := 0) (x := .slice (some ⟨bx, 0, none⟩) 1 1) (m := 1) (xs := [.int .i64 x]) hT (by kernel_rfl) hA2
      ⟨_, 1, rfl, Nat.le_refl _, rfl, .inr ⟨bx, 0, rfl, Nat.zero_le _, lt_of_blk hBx, fun i u hi => by rw [addr_add, Nat.zero_add]; exact Blk.cell hBx hi⟩⟩ (fun c hc => by simp at hc; subst hc; rfl) (by omega) (by omega)
    obtain ⟨av, cv, rfl⟩ := hA3.shape
    refine RX.run 11 (Builtin.append_ #[23, 23] 23 #[v, .slice (some ⟨bx, 0, none⟩) 1 1]) [(10, .slice (some ⟨bx, 0, none⟩) 1 1), (8, v), (9, .int .i64 x), (2, .pointer (some ⟨bc, 0, none⟩))] (by kernel_rfl) hr ?_
    have habc : ∀ k ∈ ab, k ∉ [bc] := fun k hk hk2 => by
      have h4 := (habl k hk).1
      simp at hk2; omega
    have hB3 : Blk wd bc [v] 23 := hU3.blk (Ext.blk hnc.ext hB1) (fun hk => habc _ hk (by simp))
    have hlc : wd.heap[D + 1]? = some (.loop (lrec 128 tm #[7] (sub c128 [1, 0, 1, 0, 0]) (sub c128 [1, 0, 1, 0, 1]) D .busy none)) := hU3.blk (Ext.blk hnc.ext hlb) (fun hk => hab _ hk (by simp))
    have hszd := hU3.size
    refine RX.store1 bc 0 (.slice av (l.length + 1) cv) [v] 23 (by kernel_rfl) rfl hB3 (by simp) ?_
    intro we hpe
    have hsze := hpe.size
    refine RX.done [] (by kernel_rfl) (by kernel_rfl) ?_
    have hab3 : ∀ k ∈ ab', w2.heap.size ≤ k := fun k hk => hA3.lt k hk |>.1
    have hBe : Blk we bc [.slice av (l.length + 1) cv] 23 := hpe.blk
    have hAe := hA3.upd hpe.upd (fun k hk hk2 => by have := hab3 k hk; simp at hk2; omega)
    have hle : we.heap[D + 1]? = some (.loop (lrec 128 tm #[7] (sub c128 [1, 0, 1, 0, 0]) (sub c128 [1, 0, 1, 0, 1]) D .busy none)) := hpe.upd.blk hlc (by simp; omega)
    refine St.roundEnd hle ?_
    intro wf hpf
    have hUf : Upd [D + 1, bc] w2 wf := by
      have u1 : Upd [D + 1, bc] w2 wd := ((hU.trans (hp.upd.mono (fun k hk => by simp at hk; simp [hk]))).trans hnc.ext.up).trans_old hU3 (fun k hk => (habl k hk).1)
      exact (u1.trans (hpe.upd.mono (fun k hk => by simp at hk; simp [hk]))).trans (hpf.upd.mono (fun k hk => by simp at hk; simp [hk]))
    refine ⟨hUf, .inl ⟨rfl, l ++ [x], .slice av (l.length + 1) cv, ab', by rw [e1]; simp, hpf.upd.blk hBe (by simp; omega), ?_, hpf.blk⟩⟩
    have := hAe.upd hpf.upd (fun k hk hk2 => by have := hab3 k hk; simp at hk2; omega)
    simpa using this
  refine Fn.mono hfn ?_
  rintro _ w3 ⟨hU3, ⟨l, v, ab, e1, h1, h2, h3⟩ | h⟩
  rotate_left
  · exact h.elim
  simp only [List.map_nil, List.append_nil] at e1
  subst e1
  refine ⟨_, h3, by simp [lrec], fun w4 hp4 => ?_⟩
  have hsz3 := hU3.size; have hsz4 := hp4.size
  have habl := h2.lt
  have hD4 : w4.heap[D]? = some (.deferred (some [])) := hp4.upd.blk (hU3.blk hD (by simp; omega)) (by simp)
  have hb4 : Blk w4 bc [v] 23 := hp4.upd.blk h1 (by simp; omega)
  have hA4 := h2.upd hp4.upd (fun k hk hk2 => by have := (habl k hk).1; simp at hk2; omega)
  refine At.norm 99 (k' := K128_3) (by kernel_rfl) ?_
  refine St.toAt (n := 13) (L := [(6, .func (.func 123) #[] vc.toArray), (2, .pointer (some ⟨bc, 0, none⟩))]) ?_ htm
  refine St.reg K128_4 [(0, true), (1, true)] (by kernel_rfl) (by kernel_rfl) ?_
  refine RX.q 2 [(0, true, v)] [(4, v)] [.cell ⟨bc, 0, none⟩ v] (by kernel_rfl) (Blk.cell hb4 rfl) ?_
  refine RX.done [(4, v)] (by kernel_rfl) (by kernel_rfl) ?_
  refine St.retMarks [D] [.tmp 4] [v] (by kernel_rfl) Try.func128 (by kernel_rfl) (by simp) (by simpa using hD4) (fun w5 hu5 hsz5 => ⟨.cons (.tmp (by kernel_rfl)) .nil, ?_, ab, ?_⟩)
  · exact (((hE2.trans_old hU3 (fun k hk => by simp at hk; omega)).trans_old hp4.upd (fun k hk => by simp at hk; omega))).trans_old hu5 (fun k hk => by simp at hk; omega)
  · have := hA4.upd hu5 (fun k hk hk2 => by have := (habl k hk).1; simp at hk2; omega)
    obtain ⟨q1, q2⟩ := this
    refine ⟨by simpa using q1, ?_⟩
    rcases q2 with ⟨q2, q3, q4⟩ | ⟨b, cap, rest, q2, q3, q4, q5⟩
    · exact .inl ⟨q2, by simpa using q3, q4⟩
    · exact .inr ⟨b, cap, rest, by rw [List.length_map] at q2; exact q2, q3, by omega, by simpa using q5⟩
def appseq_S (_N : Nat) (d d' : Dk) (i : Int) : Option Li := (mayR d d' i).map fun es => es.map (·.1)
noncomputable def sp_appseq (N : Nat) : Spec := { f := 128, ins := ⟨[.nils, .fn 123 [] is_may.cap], []⟩, outs := [⟨[.ols 0], [.lst (.int .i64)]⟩], run := fun p k => (appseq_S N p.1.2.1.2.1.1 p.1.2.1.2.2.1.1.1.1 p.1.2.1.2.2.2.1).bind fun r => k (((), ()), (r, ())) }
theorem mayR_small {d d' : Dk} {i : Int} {es : List (Int × Unit)} (h : mayR d d' i = some es) : es.length ≤ 6 ∧ ∀ x ∈ es.map (·.1), inR .i64 x := by
  unfold mayR at h
  split at h
  rotate_left
  · cases h
  rename_i hc
  simp only [Option.some.injEq] at h
  subst h
  refine ⟨?_, fun x hx => ?_⟩
  · have h1 := List.length_filter_le (canD d' i.toNat) (List.range' 0 (d.2.2.2.1.length - 0))
    rw [List.length_map]
    unfold mayF
    rw [List.length_range'] at h1
    omega
  · rw [List.map_map, List.mem_map] at hx
    obtain ⟨k, hk, rfl⟩ := hx
    have := (mem_mayF.1 hk).2.1
    exact inR_small (by show -1000000 ≤ (k : Int) ∧ (k : Int) ≤ 1000000; omega)
theorem sp_appseq_ok (N : Nat) : SpecOK Try.prog (sp_appseq N) := by
  refine ⟨fun Z p κ => ?_, fun args w => Sem.pv_run _ _ _ (by kernel_rfl) w, fun p r hpr g w vs hv hs hρ => ?_⟩
  · show ((appseq_S N _ _ _).bind _) = ((appseq_S N _ _ _).bind _).bind κ
    cases appseq_S N p.1.2.1.2.1.1 p.1.2.1.2.2.1.1.1.1 p.1.2.1.2.2.2.1 <;> rfl
  · obtain ⟨⟨⟨⟩, ⟨⟨⟩, q⟩, ⟨⟩⟩, ⟨⟩⟩ := p
    have hpr' : ((mayR q.1.1 q.2.1.1.1.1 q.2.2.1).map fun es => es.map (·.1)).bind (fun r : Li => some ((((), ()), (r, ())) : (Unit × Unit) × (Li × Unit))) = some r := hpr
    cases hes : mayR q.1.1 q.2.1.1.1.1 q.2.2.1 with
    | none => rw [hes] at hpr'; cases hpr'
    | some es =>
      rw [hes] at hpr'
      have e : ((((), ()), (es.map (·.1), ())) : (Unit × Unit) × (Li × Unit)) = r := Option.some.inj hpr'
      subst e
      have hv : RepVs g [.nils, .fn 123 [] (encs id is_may.cap q)] vs := hv
      simp only [RepVs] at hv
      obtain ⟨v, us, rfl, hv0, v2, us2, rfl, hv2, rfl⟩ := hv
      simp only [RepV, RepVs] at hv0 hv2
      obtain ⟨va, vc, rfl, rfl, hvc⟩ := hv2
      subst hv0
      obtain ⟨hl, hin⟩ := mayR_small hes
      refine Fn.mono (appseq_fn (p := q) hes (by omega) g vc hvc w hs.mem) ?_
      rintro v w' ⟨hE, ab, h1, h2⟩
      refine own_new (y := .int .i64) (l := es.map (·.1)) hs (fun i => hρ i (Nat.zero_le _)) hE (by show (es.map (·.1)).length ≤ 1000000; rw [List.length_map]; omega) ?_
      rcases h2 with ⟨rfl, h3, _⟩ | ⟨b, cap, rest, rfl, _, h3, h4, h5, ty, h6⟩
      · refine .inl ⟨rfl, ?_⟩
        have : es = [] := List.eq_nil_of_length_eq_zero h3
        rw [this]; rfl
      · refine .inr ⟨b, cap, (es.map (·.1)).map (.int .i64), rest, ty, ?_, h3, h6, (repL_i2 _ _).2 ⟨rfl, hin⟩, ?_, ?_⟩
        · show _ = Value.slice (some ⟨b, 0, none⟩) (es.map (·.1)).length cap
          rw [List.length_map]
        · show (es.map (·.1)).length ≤ cap ∧ _
          rw [List.length_map]; exact h4
        · show rest.length = (cap - (es.map (·.1)).length) * 1
          rw [List.length_map]; exact h5
end Go.Proofs.Ythncjilcflilcaa

namespace Go.Proofs.Ythncjilcflilcaa
set_option linter.all false
open Go

def concat_j1 (N : Nat) (rec : Ll → Int → Ll → Int → Int → Option (Ll × Int)) (slices : Ll) (size : Int) (u : Ll) (u2 : Int) (u3 : Int) : Option (Ll × Int) :=
  chk (u3 + 1) <|
  rec slices size u u2 (u3 + 1)
def concat_l1 (N : Nat) : Nat → Ll → Int → Ll → Int → Int → Option (Ll × Int)
  | 0, _, _, _, _, _ => none
  | n_ + 1, slices, size, u, u2, u3 =>
    br (decide (u3 < u2))
      (idx u u3 fun x_1 =>
      chk (size + (x_1.length : Int)) <|
      br (decide ((size + (x_1.length : Int)) < 0))
        (none)
        (concat_j1 N (concat_l1 N n_) slices (size + (x_1.length : Int)) u u2 u3))
      (some ((slices, size)))
def concat_l2 (N : Nat) : Nat → Ll → Int → Int → Li → Option Li
  | 0, _, _, _, _ => none
  | n_ + 1, u, u2, u3, newslice =>
    br (decide (u3 < u2))
      (idx u u3 fun x_5 =>
      lim (newslice.length + x_5.length) <|
      chk (u3 + 1) <|
      concat_l2 N n_ u u2 (u3 + 1) (newslice ++ x_5))
      (some (newslice))
def concat_S (N : Nat) (slices : Ll) : Option Li :=
  (concat_l1 N N slices 0 slices (slices.length : Int) 0).bind fun (slices_2, size_3) =>
  (grow_S N size_3).bind fun x_4 =>
  (concat_l2 N N slices_2 (slices_2.length : Int) 0 x_4).bind fun newslice_6 =>
  some newslice_6
noncomputable def concat_sp (N : Nat) : List Spec := [sp_grow N]
theorem concat_all (N : Nat) : AllP (SpecOK Try.prog) (concat_sp N) := ⟨sp_grow_ok N, trivial⟩
noncomputable def concat_c : Code := (Try.f60.body).getD .skip
noncomputable abbrev concat_B : Body := { c := concat_c, n := 36, res := [.tmp 2], outs := [⟨[shL], []⟩], m0 := 0 }
abbrev concat_rt : altD concat_B.outs → Option Li := fun r => some r.1.1
abbrev concat_l1_at : List PI := [.c [1, 1, 0, 1, 0, 0, 0], .c [1, 1, 0, 1, 0, 0, 1], .l [1, 1, 0, 1, 0, 0], .b 0, .c [1, 1, 1]]
abbrev concat_l1_st : Sta := ⟨[0, 3, 9, 10, 11], ⟨[shQ, shI, shQ, shI, shI], []⟩⟩
abbrev concat_l1_h (rec : Ll → Int → Ll → Int → Int → Option (Ll × Int)) : Leaf (Ll × Int) := ⟨concat_l1_at, concat_l1_st, fun p => rec p.1.1 p.1.2.1 p.1.2.2.1 p.1.2.2.2.1 p.1.2.2.2.2.1⟩
abbrev concat_l1_e0 : Leaf (Ll × Int) := ⟨[.c [1, 1, 1, 0], .c [1, 1, 1, 1]], ⟨[0, 3], ⟨[shQ, shI], []⟩⟩, fun p => some ((p.1.1, p.1.2.1))⟩
abbrev concat_j1_at : List PI := [.c [1, 1, 0, 1, 0, 0, 1, 1, 1], .l [1, 1, 0, 1, 0, 0], .b 0, .c [1, 1, 1]]
abbrev concat_j1_st : Sta := ⟨[0, 3, 9, 10, 11], ⟨[shQ, shI, shQ, shI, shI], []⟩⟩
abbrev concat_j1_k (N : Nat) (rec : Ll → Int → Ll → Int → Int → Option (Ll × Int)) : Leaf (Ll × Int) := ⟨concat_j1_at, concat_j1_st, fun p => concat_j1 N rec p.1.1 p.1.2.1 p.1.2.2.1 p.1.2.2.2.1 p.1.2.2.2.2.1⟩
theorem concat_j1_eq (N : Nat) (rec : Ll → Int → Ll → Int → Int → Option (Ll × Int)) (slices : Ll) (size : Int) (u : Ll) (u2 : Int) (u3 : Int) : ev (Z := Ll × Int) Try.prog (concat_sp N) concat_B [] [concat_l1_h rec, concat_l1_e0] none 400 true concat_j1_at (stL concat_j1_st ((slices, size, u, u2, u3, ()), ())) (stH concat_j1_st ((slices, size, u, u2, u3, ()), ())) = concat_j1 N rec slices size u u2 u3 := by kernel_rfl
theorem concat_j1_lf (N : Nat) (rec : Ll → Int → Ll → Int → Int → Option (Ll × Int)) {z : Ll × Int} {top : Bool} {E : EE} {Xc : Ctx} (hE : EOK concat_B.m0 E) (hX : CxOK top Xc) (hrec : LeafOK Try.prog concat_B.c concat_B.n concat_B.m0 E Xc z (concat_l1_h rec)) (h0 : LeafOK Try.prog concat_B.c concat_B.n concat_B.m0 E Xc z concat_l1_e0) : LeafOK Try.prog concat_B.c concat_B.n concat_B.m0 E Xc z (concat_j1_k N rec) := leaf_of_ev (B := concat_B) (loops := []) (leaves := [concat_l1_h rec, concat_l1_e0]) (concat_all N) mixed trivial hE hX ⟨hrec, h0, trivial⟩ RetOK.no (fun p => concat_j1_eq N rec p.1.1 p.1.2.1 p.1.2.2.1 p.1.2.2.2.1 p.1.2.2.2.2.1)
noncomputable def concat_l1_L (N : Nat) : LoopS := { at_ := concat_l1_at, sta := concat_l1_st, exits := [([.c [1, 1, 1, 0], .c [1, 1, 1, 1]], ⟨[0, 3], ⟨[shQ, shI], []⟩⟩)], run := fun p k => (concat_l1 N N p.1.1 p.1.2.1 p.1.2.2.1 p.1.2.2.2.1 p.1.2.2.2.2.1).bind fun e => k (.inl ((e.1, e.2, ()), ())) }
theorem concat_l1_eq (N n_ : Nat) (slices : Ll) (size : Int) (u : Ll) (u2 : Int) (u3 : Int) : ev (Z := Ll × Int) Try.prog (concat_sp N) concat_B [] [concat_l1_h (concat_l1 N n_), concat_l1_e0, concat_j1_k N (concat_l1 N n_)] none 400 true concat_l1_at (stL concat_l1_st ((slices, size, u, u2, u3, ()), ())) (stH concat_l1_st ((slices, size, u, u2, u3, ()), ())) = concat_l1 N (n_ + 1) slices size u u2 u3 := by kernel_rfl
theorem concat_l1_ok (N : Nat) {top : Bool} : LoopOK Try.prog concat_B.c concat_B.n concat_B.m0 top (concat_l1_L N) := loop_of_ev (Z := Ll × Int) (N := N) (fun m p => concat_l1 N m p.1.1 p.1.2.1 p.1.2.2.1 p.1.2.2.2.1 p.1.2.2.2.2.1) (fun e => .inl ((e.1, e.2, ()), ())) (fun _ _ _ => rfl) (fun _ => rfl) (fun m z E Xc hE hX hrec hx => leaf_of_ev (B := concat_B) (loops := []) (leaves := [concat_l1_h (concat_l1 N m), concat_l1_e0, concat_j1_k N (concat_l1 N m)]) (concat_all N) mixed trivial hE hX ⟨hrec, (fun p hp => by obtain rfl := Option.some.inj hp; exact hx), concat_j1_lf N _ hE hX hrec (fun p hp => by obtain rfl := Option.some.inj hp; exact hx), trivial⟩ RetOK.no (fun p => concat_l1_eq N m p.1.1 p.1.2.1 p.1.2.2.1 p.1.2.2.2.1 p.1.2.2.2.2.1))
abbrev concat_l2_at : List PI := [.c [1, 1, 1, 1, 0, 1, 0, 0, 0], .c [1, 1, 1, 1, 0, 1, 0, 0, 1], .l [1, 1, 1, 1, 0, 1, 0, 0], .b 2, .c [1, 1, 1, 1, 1]]
abbrev concat_l2_st : Sta := ⟨[6, 25, 26, 27], ⟨[.ols 0, shQ, shI, shI], [.lst (.int .i64)]⟩⟩
abbrev concat_l2_h (rec : Ll → Int → Int → Li → Option Li) : Leaf Li := ⟨concat_l2_at, concat_l2_st, fun p => rec p.1.2.1 p.1.2.2.1 p.1.2.2.2.1 p.2.1⟩
abbrev concat_l2_e0 : Leaf Li := ⟨[.c [1, 1, 1, 1, 1, 0], .c [1, 1, 1, 1, 1, 1]], ⟨[6], ⟨[.ols 0], [.lst (.int .i64)]⟩⟩, fun p => some (p.2.1)⟩
noncomputable def concat_l2_L (N : Nat) : LoopS := { at_ := concat_l2_at, sta := concat_l2_st, exits := [([.c [1, 1, 1, 1, 1, 0], .c [1, 1, 1, 1, 1, 1]], ⟨[6], ⟨[.ols 0], [.lst (.int .i64)]⟩⟩)], run := fun p k => (concat_l2 N N p.1.2.1 p.1.2.2.1 p.1.2.2.2.1 p.2.1).bind fun e => k (.inl (((), ()), (e, ()))) }
theorem concat_l2_eq (N n_ : Nat) (u : Ll) (u2 : Int) (u3 : Int) (newslice : Li) : ev (Z := Li) Try.prog (concat_sp N) concat_B [concat_l1_L N] [concat_l2_h (concat_l2 N n_), concat_l2_e0] none 400 true concat_l2_at (stL concat_l2_st (((), u, u2, u3, ()), (newslice, ()))) (stH concat_l2_st (((), u, u2, u3, ()), (newslice, ()))) = concat_l2 N (n_ + 1) u u2 u3 newslice := by kernel_rfl
theorem concat_l2_ok (N : Nat) {top : Bool} : LoopOK Try.prog concat_B.c concat_B.n concat_B.m0 top (concat_l2_L N) := loop_of_ev (Z := Li) (N := N) (fun m p => concat_l2 N m p.1.2.1 p.1.2.2.1 p.1.2.2.2.1 p.2.1) (fun e => .inl (((), ()), (e, ()))) (fun _ _ _ => rfl) (fun _ => rfl) (fun m z E Xc hE hX hrec hx => leaf_of_ev (B := concat_B) (loops := [concat_l1_L N]) (leaves := [concat_l2_h (concat_l2 N m), concat_l2_e0]) (concat_all N) mixed ⟨concat_l1_ok N, trivial⟩ hE hX ⟨hrec, (fun p hp => by obtain rfl := Option.some.inj hp; exact hx), trivial⟩ RetOK.no (fun p => concat_l2_eq N m p.1.2.1 p.1.2.2.1 p.1.2.2.2.1 p.2.1))
abbrev concat_st : Sta := ⟨[0], ⟨[shQ], []⟩⟩
theorem concat_eq (N : Nat) (slices : Ll) : ev (Z := Li) Try.prog (concat_sp N) concat_B [concat_l1_L N, concat_l2_L N] [] (some concat_rt) 400 false [.c [0], .c [1]] (stL concat_st ((slices, ()), ())) (stH concat_st ((slices, ()), ())) = concat_S N slices := by kernel_rfl
noncomputable def sp_concat (N : Nat) : Spec := { f := 60, ins := ⟨[shQ], []⟩, outs := [⟨[shL], []⟩], run := fun p k => (concat_S N p.1.1).bind fun r => k ((r, ()), ()) }
theorem sp_concat_ok (N : Nat) : SpecOK Try.prog (sp_concat N) := fn_sound (B := concat_B) (loops := [concat_l1_L N, concat_l2_L N]) (leaves := []) (fun p => concat_S N p.1.1) (fun r => ((r, ()), ())) concat_rt (fun _ _ _ => rfl) (fun r z h => by cases h; rfl) Try.func60 (by kernel_rfl) (by kernel_rfl) (by kernel_rfl) rfl rfl (by kernel_rfl) (fun args w => Sem.pv_run _ _ _ (by kernel_rfl) w) (concat_all N) mixed ⟨concat_l1_ok N, concat_l2_ok N, trivial⟩ (fun z E Xc hE hX hret => trivial) (fun p => concat_eq N p.1.1)

def fjoined_l1 (N : Nat) : Nat → Li → Int → Li → Li → Int → Li → Int → Int → Li → Int → Ll → Ll → Li → Li → Int → Int → Option ((Unit) ⊕ (Li × Int × Li × Li × Int × Li × Int × Ll × Ll × Li × Li × Int × Int))
  | 0, _, _, _, _, _, _, _, _, _, _, _, _, _, _, _, _ => none
  | n_ + 1, l, n, a, b, sum, u, u2, u3, d, d2, d3, d4, d5, q, q2, q3 =>
    br (decide (u3 < u2))
      (idx u u3 fun x_25 =>
      br (decide (x_25 < 0))
        (some (.inl ()))
        (br (decide (999 < x_25))
          (some (.inl ()))
          (chk (sum + x_25) <|
          chk (u3 + 1) <|
          fjoined_l1 N n_ l n a b (sum + x_25) u u2 (u3 + 1) d d2 d3 d4 d5 q q2 q3)))
      (some (.inr (l, n, a, b, sum, d, d2, d3, d4, d5, q, q2, q3)))
def fjoined_l3 (N : Nat) : Nat → Li → Int → Li → Li → Int → Int → Int → Int → Int → Int → Li → Int → Ll → Ll → Li → Li → Int → Int → Option ((Unit) ⊕ (Li × Int × Li × Li × Int × Int × Int × Li × Int × Ll × Ll × Li × Li × Int × Int))
  | 0, _, _, _, _, _, _, _, _, _, _, _, _, _, _, _, _, _, _ => none
  | n_ + 1, l, n, a, b, sum, i, u, u2, u3, u4, d, d2, d3, d4, d5, q, q2, q3 =>
    br (decide (u4 < u3))
      ((lpair_S N d d2 d3 d4 d5 i u4).bind fun (x_39, y_40) =>
      br y_40
        (idx a i fun x_41 =>
        idx b u4 fun x_42 =>
        chk (x_41 + x_42) <|
        br (decide ((x_41 + x_42) < x_39))
          (some (.inl ()))
          (idx l i fun x_43 =>
          br (decide (x_43 = -1))
            ((containsi_S N l u4).bind fun x_44 =>
            br (!x_44)
              (some (.inl ()))
              (chk (u4 + 1) <|
              fjoined_l3 N n_ l n a b sum i u u2 u3 (u4 + 1) d d2 d3 d4 d5 q q2 q3))
            (chk (u4 + 1) <|
            fjoined_l3 N n_ l n a b sum i u u2 u3 (u4 + 1) d d2 d3 d4 d5 q q2 q3)))
        (chk (u4 + 1) <|
        fjoined_l3 N n_ l n a b sum i u u2 u3 (u4 + 1) d d2 d3 d4 d5 q q2 q3))
      (some (.inr (l, n, a, b, sum, u, u2, d, d2, d3, d4, d5, q, q2, q3)))
def fjoined_l2 (N : Nat) : Nat → Li → Int → Li → Li → Int → Int → Int → Li → Int → Ll → Ll → Li → Li → Int → Int → Option ((Unit) ⊕ (Int × Int × Li × Int × Ll × Ll × Li × Li × Int × Int))
  | 0, _, _, _, _, _, _, _, _, _, _, _, _, _, _, _ => none
  | n_ + 1, l, n, a, b, sum, u, u2, d, d2, d3, d4, d5, q, q2, q3 =>
    br (decide (u2 < u))
      ((fjoined_l3 N N l n a b sum u2 u u2 (d4.length : Int) 0 d d2 d3 d4 d5 q q2 q3).bind fun e => match e with
      | .inl _ =>
        some (.inl ())
      | .inr (l_45, n_46, a_47, b_48, sum_49, u_50, u2_51, d_52, d2_53, d3_54, d4_55, d5_56, q_57, q2_58, q3_59) =>
        chk (u2_51 + 1) <|
        fjoined_l2 N n_ l_45 n_46 a_47 b_48 sum_49 u_50 (u2_51 + 1) d_52 d2_53 d3_54 d4_55 d5_56 q_57 q2_58 q3_59)
      (some (.inr (n, sum, d, d2, d3, d4, d5, q, q2, q3)))
def fjoined_l4 (N : Nat) : Nat → Int → Int → Li → Int → Ll → Ll → Li → Li → Int → Int → Option ((Unit) ⊕ (Unit))
  | 0, _, _, _, _, _, _, _, _, _, _ => none
  | n_ + 1, n, u, d, d2, d3, d4, d5, q, q2, q3 =>
    br (decide (u < 8))
      ((tried_S N d d2 d3 d4 d5 q q2 q3).bind fun (x_70, y_71, y_72, y_73) =>
      (lworth__S N d d2 d3 d4 d5 x_70).bind fun (x_74, y_75) =>
      (lworth_S N d d2 d3 d4 d5 x_70).bind fun (x_76, y_77) =>
      br (!decide (y_75 = 0))
        (some (.inl ()))
        (br (!y_77)
          (some (.inl ()))
          (br (!decide (x_74 = x_76))
            (some (.inl ()))
            (br (decide (n < x_74))
              (some (.inl ()))
              (chk (u + 1) <|
              fjoined_l4 N n_ n (u + 1) d d2 d3 d4 d5 y_71 y_72 y_73)))))
      (some (.inr ()))
def fjoined_S (N : Nat) (numbers : Li) (tries : Li) : Option Bool :=
  (hang_S N numbers).bind fun (x_1, y_2, y_3) =>
  (made_S N 6 x_1 y_2 y_3).bind fun (x_4, y_5, y_6, y_7, y_8, y_9, y_10, y_11) =>
  (hang_S N tries).bind fun (x_12, y_13, y_14) =>
  (best_S N x_4 y_5 y_6 y_7 y_8).bind fun (x_15, y_16, y_17) =>
  (prices_S N x_4 y_5 y_6 y_7 y_8).bind fun (x_18, y_19, y_20) =>
  (check_S N x_4 y_5 y_6 y_7 y_8).bind fun x_21 =>
  br (!decide (x_21 = 0))
    (some false)
    (br (!decide (y_17 = 0))
      (some false)
      (br (!decide (y_20 = 0))
        (some false)
        (br (!decide ((x_18.length : Int) = (y_6.length : Int)))
          (some false)
          (br (!decide ((y_19.length : Int) = (y_7.length : Int)))
            (some false)
            ((lworth_S N x_4 y_5 y_6 y_7 y_8 x_15).bind fun (x_22, y_23) =>
            br (!y_23)
              (some false)
              (br (!decide (x_22 = y_16))
                (some false)
                ((concat_S N [x_18, y_19]).bind fun x_24 =>
                (fjoined_l1 N N x_15 y_16 x_18 y_19 0 x_24 (x_24.length : Int) 0 x_4 y_5 y_6 y_7 y_8 x_12 y_13 y_14).bind fun e => match e with
                | .inl _ =>
                  some false
                | .inr (l_26, n_27, a_28, b_29, sum_30, d_31, d2_32, d3_33, d4_34, d5_35, q_36, q2_37, q3_38) =>
                  (fjoined_l2 N N l_26 n_27 a_28 b_29 sum_30 (d3_33.length : Int) 0 d_31 d2_32 d3_33 d4_34 d5_35 q_36 q2_37 q3_38).bind fun e => match e with
                  | .inl _ =>
                    some false
                  | .inr (n_60, sum_61, d_62, d2_63, d3_64, d4_65, d5_66, q_67, q2_68, q3_69) =>
                    br (!decide (sum_61 = n_60))
                      (some false)
                      ((fjoined_l4 N N n_60 0 d_62 d2_63 d3_64 d4_65 d5_66 q_67 q2_68 q3_69).bind fun e => match e with
                      | .inl _ =>
                        some false
                      | .inr _ =>
                        (awake_S N).bind fun x_78 =>
                        some x_78))))))))
noncomputable def fjoined_sp (N : Nat) : List Spec := [sp_hang N, sp_check N, sp_containsi N, sp_lworth_ N, sp_best N, sp_prices N, sp_awake N, sp_made N, sp_lpair N, sp_tried N, sp_lworth N, sp_concat N]
theorem fjoined_all (N : Nat) : AllP (SpecOK Try.prog) (fjoined_sp N) := ⟨sp_hang_ok N, sp_check_ok N, sp_containsi_ok N, sp_lworth__ok N, sp_best_ok N, sp_prices_ok N, sp_awake_ok N, sp_made_ok N, sp_lpair_ok N, sp_tried_ok N, sp_lworth_ok N, sp_concat_ok N, trivial⟩
noncomputable def fjoined_c : Code := (Try.f14.body).getD .skip
noncomputable abbrev fjoined_B : Body := { c := fjoined_c, n := 189, res := [.tmp 4], outs := [⟨[.b], []⟩], m0 := 0 }
abbrev fjoined_rt : altD fjoined_B.outs → Option Bool := fun r => some r.1.1
abbrev fjoined_l1_at : List PI := [.c [1, 1, 1, 1, 1, 1, 1, 1, 0, 1, 0, 0, 0], .c [1, 1, 1, 1, 1, 1, 1, 1, 0, 1, 0, 0, 1], .l [1, 1, 1, 1, 1, 1, 1, 1, 0, 1, 0, 0], .b 0, .c [1, 1, 1, 1, 1, 1, 1, 1, 1]]
abbrev fjoined_l1_st : Sta := ⟨[5, 6, 7, 8, 10, 11, 15, 87, 88, 89], ⟨[.own 0 0, .own 1 0, shL, shI, shL, shL, shI, shL, shI, shI], [.segs [shL, shI, shQ, shQ, shL], .segs [.sl (.int .u8), shI, .i .u32]]⟩⟩
abbrev fjoined_l1_h (rec : Li → Int → Li → Li → Int → Li → Int → Int → Li → Int → Ll → Ll → Li → Li → Int → Int → Option ((Unit) ⊕ (Li × Int × Li × Li × Int × Li × Int × Ll × Ll × Li × Li × Int × Int))) : Leaf ((Unit) ⊕ (Li × Int × Li × Li × Int × Li × Int × Ll × Ll × Li × Li × Int × Int)) := ⟨fjoined_l1_at, fjoined_l1_st, fun p => rec p.1.2.2.1 p.1.2.2.2.1 p.1.2.2.2.2.1 p.1.2.2.2.2.2.1 p.1.2.2.2.2.2.2.1 p.1.2.2.2.2.2.2.2.1 p.1.2.2.2.2.2.2.2.2.1 p.1.2.2.2.2.2.2.2.2.2.1 p.2.1.1 p.2.1.2.1 p.2.1.2.2.1 p.2.1.2.2.2.1 p.2.1.2.2.2.2.1 p.2.2.1.1 p.2.2.1.2.1 p.2.2.1.2.2.1⟩
abbrev fjoined_l1_e0 : Leaf ((Unit) ⊕ (Li × Int × Li × Li × Int × Li × Int × Ll × Ll × Li × Li × Int × Int)) := ⟨[.c [1, 1, 1, 1, 1, 1, 1, 1, 0, 1, 0, 0, 1, 1, 0, 0, 1, 0, 1, 0, 0], .c [1, 1, 1, 1, 1, 1, 1, 1, 0, 1, 0, 0, 1, 1, 0, 0, 1, 0, 1, 0, 1], .c [1, 1, 1, 1, 1, 1, 1, 1, 0, 1, 0, 0, 1, 1, 0, 0, 1, 1], .b 1, .c [1, 1, 1, 1, 1, 1, 1, 1, 0, 1, 0, 0, 1, 1, 1], .l [1, 1, 1, 1, 1, 1, 1, 1, 0, 1, 0, 0], .b 0, .c [1, 1, 1, 1, 1, 1, 1, 1, 1]], ⟨[], ⟨[], []⟩⟩, fun p => some (.inl ())⟩
abbrev fjoined_l1_e1 : Leaf ((Unit) ⊕ (Li × Int × Li × Li × Int × Li × Int × Ll × Ll × Li × Li × Int × Int)) := ⟨[.c [1, 1, 1, 1, 1, 1, 1, 1, 1, 0, 0], .c [1, 1, 1, 1, 1, 1, 1, 1, 1, 0, 1], .c [1, 1, 1, 1, 1, 1, 1, 1, 1, 1]], ⟨[5, 6, 7, 8, 10, 11, 15], ⟨[.own 0 0, .own 1 0, shL, shI, shL, shL, shI], [.segs [shL, shI, shQ, shQ, shL], .segs [.sl (.int .u8), shI, .i .u32]]⟩⟩, fun p => some (.inr (p.1.2.2.1, p.1.2.2.2.1, p.1.2.2.2.2.1, p.1.2.2.2.2.2.1, p.1.2.2.2.2.2.2.1, p.2.1.1, p.2.1.2.1, p.2.1.2.2.1, p.2.1.2.2.2.1, p.2.1.2.2.2.2.1, p.2.2.1.1, p.2.2.1.2.1, p.2.2.1.2.2.1))⟩
noncomputable def fjoined_l1_L (N : Nat) : LoopS := { at_ := fjoined_l1_at, sta := fjoined_l1_st, exits := [([.c [1, 1, 1, 1, 1, 1, 1, 1, 0, 1, 0, 0, 1, 1, 0, 0, 1, 0, 1, 0, 0], .c [1, 1, 1, 1, 1, 1, 1, 1, 0, 1, 0, 0, 1, 1, 0, 0, 1, 0, 1, 0, 1], .c [1, 1, 1, 1, 1, 1, 1, 1, 0, 1, 0, 0, 1, 1, 0, 0, 1, 1], .b 1, .c [1, 1, 1, 1, 1, 1, 1, 1, 0, 1, 0, 0, 1, 1, 1], .l [1, 1, 1, 1, 1, 1, 1, 1, 0, 1, 0, 0], .b 0, .c [1, 1, 1, 1, 1, 1, 1, 1, 1]], ⟨[], ⟨[], []⟩⟩), ([.c [1, 1, 1, 1, 1, 1, 1, 1, 1, 0, 0], .c [1, 1, 1, 1, 1, 1, 1, 1, 1, 0, 1], .c [1, 1, 1, 1, 1, 1, 1, 1, 1, 1]], ⟨[5, 6, 7, 8, 10, 11, 15], ⟨[.own 0 0, .own 1 0, shL, shI, shL, shL, shI], [.segs [shL, shI, shQ, shQ, shL], .segs [.sl (.int .u8), shI, .i .u32]]⟩⟩)], run := fun p k => (fjoined_l1 N N p.1.2.2.1 p.1.2.2.2.1 p.1.2.2.2.2.1 p.1.2.2.2.2.2.1 p.1.2.2.2.2.2.2.1 p.1.2.2.2.2.2.2.2.1 p.1.2.2.2.2.2.2.2.2.1 p.1.2.2.2.2.2.2.2.2.2.1 p.2.1.1 p.2.1.2.1 p.2.1.2.2.1 p.2.1.2.2.2.1 p.2.1.2.2.2.2.1 p.2.2.1.1 p.2.2.1.2.1 p.2.2.1.2.2.1).bind fun e => match e with | .inl x => k (.inl ((), ())) | .inr x => k (.inr (.inl (((), (), x.1, x.2.1, x.2.2.1, x.2.2.2.1, x.2.2.2.2.1, ()), ((x.2.2.2.2.2.1, x.2.2.2.2.2.2.1, x.2.2.2.2.2.2.2.1, x.2.2.2.2.2.2.2.2.1, x.2.2.2.2.2.2.2.2.2.1, ()), (x.2.2.2.2.2.2.2.2.2.2.1, x.2.2.2.2.2.2.2.2.2.2.2.1, x.2.2.2.2.2.2.2.2.2.2.2.2, ()), ())))) }
theorem fjoined_l1_eq (N n_ : Nat) (l : Li) (n : Int) (a : Li) (b : Li) (sum : Int) (u : Li) (u2 : Int) (u3 : Int) (d : Li) (d2 : Int) (d3 : Ll) (d4 : Ll) (d5 : Li) (q : Li) (q2 : Int) (q3 : Int) : ev (Z := (Unit) ⊕ (Li × Int × Li × Li × Int × Li × Int × Ll × Ll × Li × Li × Int × Int)) Try.prog (fjoined_sp N) fjoined_B [] [fjoined_l1_h (fjoined_l1 N n_), fjoined_l1_e0, fjoined_l1_e1] none 400 true fjoined_l1_at (stL fjoined_l1_st (((), (), l, n, a, b, sum, u, u2, u3, ()), ((d, d2, d3, d4, d5, ()), (q, q2, q3, ()), ()))) (stH fjoined_l1_st (((), (), l, n, a, b, sum, u, u2, u3, ()), ((d, d2, d3, d4, d5, ()), (q, q2, q3, ()), ()))) = fjoined_l1 N (n_ + 1) l n a b sum u u2 u3 d d2 d3 d4 d5 q q2 q3 := by kernel_rfl
theorem fjoined_l1_ok (N : Nat) {top : Bool} : LoopOK Try.prog fjoined_B.c fjoined_B.n fjoined_B.m0 top (fjoined_l1_L N) := loop_of_ev (Z := (Unit) ⊕ (Li × Int × Li × Li × Int × Li × Int × Ll × Ll × Li × Li × Int × Int)) (N := N) (fun m p => fjoined_l1 N m p.1.2.2.1 p.1.2.2.2.1 p.1.2.2.2.2.1 p.1.2.2.2.2.2.1 p.1.2.2.2.2.2.2.1 p.1.2.2.2.2.2.2.2.1 p.1.2.2.2.2.2.2.2.2.1 p.1.2.2.2.2.2.2.2.2.2.1 p.2.1.1 p.2.1.2.1 p.2.1.2.2.1 p.2.1.2.2.2.1 p.2.1.2.2.2.2.1 p.2.2.1.1 p.2.2.1.2.1 p.2.2.1.2.2.1) (fun e => match e with | .inl x => .inl ((), ()) | .inr x => .inr (.inl (((), (), x.1, x.2.1, x.2.2.1, x.2.2.2.1, x.2.2.2.2.1, ()), ((x.2.2.2.2.2.1, x.2.2.2.2.2.2.1, x.2.2.2.2.2.2.2.1, x.2.2.2.2.2.2.2.2.1, x.2.2.2.2.2.2.2.2.2.1, ()), (x.2.2.2.2.2.2.2.2.2.2.1, x.2.2.2.2.2.2.2.2.2.2.2.1, x.2.2.2.2.2.2.2.2.2.2.2.2, ()), ())))) (fun _ p k => bind_congr_ (fjoined_l1 N N p.1.2.2.1 p.1.2.2.2.1 p.1.2.2.2.2.1 p.1.2.2.2.2.2.1 p.1.2.2.2.2.2.2.1 p.1.2.2.2.2.2.2.2.1 p.1.2.2.2.2.2.2.2.2.1 p.1.2.2.2.2.2.2.2.2.2.1 p.2.1.1 p.2.1.2.1 p.2.1.2.2.1 p.2.1.2.2.2.1 p.2.1.2.2.2.2.1 p.2.2.1.1 p.2.2.1.2.1 p.2.2.1.2.2.1) _ _ (fun e => by rcases e with x | x <;> rfl)) (fun _ => rfl) (fun m z E Xc hE hX hrec hx => leaf_of_ev (B := fjoined_B) (loops := []) (leaves := [fjoined_l1_h (fjoined_l1 N m), fjoined_l1_e0, fjoined_l1_e1]) (fjoined_all N) mixed trivial hE hX ⟨hrec, (fun p hp => by obtain rfl := Option.some.inj hp; exact hx), (fun p hp => by obtain rfl := Option.some.inj hp; exact hx), trivial⟩ RetOK.no (fun p => fjoined_l1_eq N m p.1.2.2.1 p.1.2.2.2.1 p.1.2.2.2.2.1 p.1.2.2.2.2.2.1 p.1.2.2.2.2.2.2.1 p.1.2.2.2.2.2.2.2.1 p.1.2.2.2.2.2.2.2.2.1 p.1.2.2.2.2.2.2.2.2.2.1 p.2.1.1 p.2.1.2.1 p.2.1.2.2.1 p.2.1.2.2.2.1 p.2.1.2.2.2.2.1 p.2.2.1.1 p.2.2.1.2.1 p.2.2.1.2.2.1))
abbrev fjoined_l3_at : List PI := [.c [1, 1, 1, 1, 1, 1, 1, 1, 1, 0, 1, 0, 0, 1, 1, 0, 0, 1, 1, 0, 0, 0], .c [1, 1, 1, 1, 1, 1, 1, 1, 1, 0, 1, 0, 0, 1, 1, 0, 0, 1, 1, 0, 0, 1], .l [1, 1, 1, 1, 1, 1, 1, 1, 1, 0, 1, 0, 0, 1, 1, 0, 0, 1, 1, 0, 0], .b 4, .b 3, .c [1, 1, 1, 1, 1, 1, 1, 1, 1, 0, 1, 0, 0, 1, 1, 1], .l [1, 1, 1, 1, 1, 1, 1, 1, 1, 0, 1, 0, 0], .b 2, .c [1, 1, 1, 1, 1, 1, 1, 1, 1, 1]]
abbrev fjoined_l3_st : Sta := ⟨[5, 6, 7, 8, 10, 11, 15, 18, 105, 106, 111, 112], ⟨[.own 0 0, .own 1 0, shL, shI, shL, shL, shI, shI, shI, shI, shI, shI], [.segs [shL, shI, shQ, shQ, shL], .segs [.sl (.int .u8), shI, .i .u32]]⟩⟩
abbrev fjoined_l3_h (rec : Li → Int → Li → Li → Int → Int → Int → Int → Int → Int → Li → Int → Ll → Ll → Li → Li → Int → Int → Option ((Unit) ⊕ (Li × Int × Li × Li × Int × Int × Int × Li × Int × Ll × Ll × Li × Li × Int × Int))) : Leaf ((Unit) ⊕ (Li × Int × Li × Li × Int × Int × Int × Li × Int × Ll × Ll × Li × Li × Int × Int)) := ⟨fjoined_l3_at, fjoined_l3_st, fun p => rec p.1.2.2.1 p.1.2.2.2.1 p.1.2.2.2.2.1 p.1.2.2.2.2.2.1 p.1.2.2.2.2.2.2.1 p.1.2.2.2.2.2.2.2.1 p.1.2.2.2.2.2.2.2.2.1 p.1.2.2.2.2.2.2.2.2.2.1 p.1.2.2.2.2.2.2.2.2.2.2.1 p.1.2.2.2.2.2.2.2.2.2.2.2.1 p.2.1.1 p.2.1.2.1 p.2.1.2.2.1 p.2.1.2.2.2.1 p.2.1.2.2.2.2.1 p.2.2.1.1 p.2.2.1.2.1 p.2.2.1.2.2.1⟩
abbrev fjoined_l3_e0 : Leaf ((Unit) ⊕ (Li × Int × Li × Li × Int × Int × Int × Li × Int × Ll × Ll × Li × Li × Int × Int)) := ⟨[.c [1, 1, 1, 1, 1, 1, 1, 1, 1, 0, 1, 0, 0, 1, 1, 0, 0, 1, 1, 0, 0, 1, 1, 0, 0, 1, 1, 1, 0, 0], .c [1, 1, 1, 1, 1, 1, 1, 1, 1, 0, 1, 0, 0, 1, 1, 0, 0, 1, 1, 0, 0, 1, 1, 0, 0, 1, 1, 1, 0, 1], .b 5, .c [1, 1, 1, 1, 1, 1, 1, 1, 1, 0, 1, 0, 0, 1, 1, 0, 0, 1, 1, 0, 0, 1, 1, 1], .l [1, 1, 1, 1, 1, 1, 1, 1, 1, 0, 1, 0, 0, 1, 1, 0, 0, 1, 1, 0, 0], .b 4, .b 3, .c [1, 1, 1, 1, 1, 1, 1, 1, 1, 0, 1, 0, 0, 1, 1, 1], .l [1, 1, 1, 1, 1, 1, 1, 1, 1, 0, 1, 0, 0], .b 2, .c [1, 1, 1, 1, 1, 1, 1, 1, 1, 1]], ⟨[], ⟨[], []⟩⟩, fun p => some (.inl ())⟩
abbrev fjoined_l3_e1 : Leaf ((Unit) ⊕ (Li × Int × Li × Li × Int × Int × Int × Li × Int × Ll × Ll × Li × Li × Int × Int)) := ⟨[.c [1, 1, 1, 1, 1, 1, 1, 1, 1, 0, 1, 0, 0, 1, 1, 1], .l [1, 1, 1, 1, 1, 1, 1, 1, 1, 0, 1, 0, 0], .b 2, .c [1, 1, 1, 1, 1, 1, 1, 1, 1, 1]], ⟨[5, 6, 7, 8, 10, 11, 15, 105, 106], ⟨[.own 0 0, .own 1 0, shL, shI, shL, shL, shI, shI, shI], [.segs [shL, shI, shQ, shQ, shL], .segs [.sl (.int .u8), shI, .i .u32]]⟩⟩, fun p => some (.inr (p.1.2.2.1, p.1.2.2.2.1, p.1.2.2.2.2.1, p.1.2.2.2.2.2.1, p.1.2.2.2.2.2.2.1, p.1.2.2.2.2.2.2.2.1, p.1.2.2.2.2.2.2.2.2.1, p.2.1.1, p.2.1.2.1, p.2.1.2.2.1, p.2.1.2.2.2.1, p.2.1.2.2.2.2.1, p.2.2.1.1, p.2.2.1.2.1, p.2.2.1.2.2.1))⟩
noncomputable def fjoined_l3_L (N : Nat) : LoopS := { at_ := fjoined_l3_at, sta := fjoined_l3_st, exits := [([.c [1, 1, 1, 1, 1, 1, 1, 1, 1, 0, 1, 0, 0, 1, 1, 0, 0, 1, 1, 0, 0, 1, 1, 0, 0, 1, 1, 1, 0, 0], .c [1, 1, 1, 1, 1, 1, 1, 1, 1, 0, 1, 0, 0, 1, 1, 0, 0, 1, 1, 0, 0, 1, 1, 0, 0, 1, 1, 1, 0, 1], .b 5, .c [1, 1, 1, 1, 1, 1, 1, 1, 1, 0, 1, 0, 0, 1, 1, 0, 0, 1, 1, 0, 0, 1, 1, 1], .l [1, 1, 1, 1, 1, 1, 1, 1, 1, 0, 1, 0, 0, 1, 1, 0, 0, 1, 1, 0, 0], .b 4, .b 3, .c [1, 1, 1, 1, 1, 1, 1, 1, 1, 0, 1, 0, 0, 1, 1, 1], .l [1, 1, 1, 1, 1, 1, 1, 1, 1, 0, 1, 0, 0], .b 2, .c [1, 1, 1, 1, 1, 1, 1, 1, 1, 1]], ⟨[], ⟨[], []⟩⟩), ([.c [1, 1, 1, 1, 1, 1, 1, 1, 1, 0, 1, 0, 0, 1, 1, 1], .l [1, 1, 1, 1, 1, 1, 1, 1, 1, 0, 1, 0, 0], .b 2, .c [1, 1, 1, 1, 1, 1, 1, 1, 1, 1]], ⟨[5, 6, 7, 8, 10, 11, 15, 105, 106], ⟨[.own 0 0, .own 1 0, shL, shI, shL, shL, shI, shI, shI], [.segs [shL, shI, shQ, shQ, shL], .segs [.sl (.int .u8), shI, .i .u32]]⟩⟩)], run := fun p k => (fjoined_l3 N N p.1.2.2.1 p.1.2.2.2.1 p.1.2.2.2.2.1 p.1.2.2.2.2.2.1 p.1.2.2.2.2.2.2.1 p.1.2.2.2.2.2.2.2.1 p.1.2.2.2.2.2.2.2.2.1 p.1.2.2.2.2.2.2.2.2.2.1 p.1.2.2.2.2.2.2.2.2.2.2.1 p.1.2.2.2.2.2.2.2.2.2.2.2.1 p.2.1.1 p.2.1.2.1 p.2.1.2.2.1 p.2.1.2.2.2.1 p.2.1.2.2.2.2.1 p.2.2.1.1 p.2.2.1.2.1 p.2.2.1.2.2.1).bind fun e => match e with | .inl x => k (.inl ((), ())) | .inr x => k (.inr (.inl (((), (), x.1, x.2.1, x.2.2.1, x.2.2.2.1, x.2.2.2.2.1, x.2.2.2.2.2.1, x.2.2.2.2.2.2.1, ()), ((x.2.2.2.2.2.2.2.1, x.2.2.2.2.2.2.2.2.1, x.2.2.2.2.2.2.2.2.2.1, x.2.2.2.2.2.2.2.2.2.2.1, x.2.2.2.2.2.2.2.2.2.2.2.1, ()), (x.2.2.2.2.2.2.2.2.2.2.2.2.1, x.2.2.2.2.2.2.2.2.2.2.2.2.2.1, x.2.2.2.2.2.2.2.2.2.2.2.2.2.2, ()), ())))) }
theorem fjoined_l3_eq (N n_ : Nat) (l : Li) (n : Int) (a : Li) (b : Li) (sum : Int) (i : Int) (u : Int) (u2 : Int) (u3 : Int) (u4 : Int) (d : Li) (d2 : Int) (d3 : Ll) (d4 : Ll) (d5 : Li) (q : Li) (q2 : Int) (q3 : Int) : ev (Z := (Unit) ⊕ (Li × Int × Li × Li × Int × Int × Int × Li × Int × Ll × Ll × Li × Li × Int × Int)) Try.prog (fjoined_sp N) fjoined_B [fjoined_l1_L N] [fjoined_l3_h (fjoined_l3 N n_), fjoined_l3_e0, fjoined_l3_e1] none 400 true fjoined_l3_at (stL fjoined_l3_st (((), (), l, n, a, b, sum, i, u, u2, u3, u4, ()), ((d, d2, d3, d4, d5, ()), (q, q2, q3, ()), ()))) (stH fjoined_l3_st (((), (), l, n, a, b, sum, i, u, u2, u3, u4, ()), ((d, d2, d3, d4, d5, ()), (q, q2, q3, ()), ()))) = fjoined_l3 N (n_ + 1) l n a b sum i u u2 u3 u4 d d2 d3 d4 d5 q q2 q3 := by kernel_rfl
theorem fjoined_l3_ok (N : Nat) {top : Bool} : LoopOK Try.prog fjoined_B.c fjoined_B.n fjoined_B.m0 top (fjoined_l3_L N) := loop_of_ev (Z := (Unit) ⊕ (Li × Int × Li × Li × Int × Int × Int × Li × Int × Ll × Ll × Li × Li × Int × Int)) (N := N) (fun m p => fjoined_l3 N m p.1.2.2.1 p.1.2.2.2.1 p.1.2.2.2.2.1 p.1.2.2.2.2.2.1 p.1.2.2.2.2.2.2.1 p.1.2.2.2.2.2.2.2.1 p.1.2.2.2.2.2.2.2.2.1 p.1.2.2.2.2.2.2.2.2.2.1 p.1.2.2.2.2.2.2.2.2.2.2.1 p.1.2.2.2.2.2.2.2.2.2.2.2.1 p.2.1.1 p.2.1.2.1 p.2.1.2.2.1 p.2.1.2.2.2.1 p.2.1.2.2.2.2.1 p.2.2.1.1 p.2.2.1.2.1 p.2.2.1.2.2.1) (fun e => match e with | .inl x => .inl ((), ()) | .inr x => .inr (.inl (((), (), x.1, x.2.1, x.2.2.1, x.2.2.2.1, x.2.2.2.2.1, x.2.2.2.2.2.1, x.2.2.2.2.2.2.1, ()), ((x.2.2.2.2.2.2.2.1, x.2.2.2.2.2.2.2.2.1, x.2.2.2.2.2.2.2.2.2.1, x.2.2.2.2.2.2.2.2.2.2.1, x.2.2.2.2.2.2.2.2.2.2.2.1, ()), (x.2.2.2.2.2.2.2.2.2.2.2.2.1, x.2.2.2.2.2.2.2.2.2.2.2.2.2.1, x.2.2.2.2.2.2.2.2.2.2.2.2.2.2, ()), ())))) (fun _ p k => bind_congr_ (fjoined_l3 N N p.1.2.2.1 p.1.2.2.2.1 p.1.2.2.2.2.1 p.1.2.2.2.2.2.1 p.1.2.2.2.2.2.2.1 p.1.2.2.2.2.2.2.2.1 p.1.2.2.2.2.2.2.2.2.1 p.1.2.2.2.2.2.2.2.2.2.1 p.1.2.2.2.2.2.2.2.2.2.2.1 p.1.2.2.2.2.2.2.2.2.2.2.2.1 p.2.1.1 p.2.1.2.1 p.2.1.2.2.1 p.2.1.2.2.2.1 p.2.1.2.2.2.2.1 p.2.2.1.1 p.2.2.1.2.1 p.2.2.1.2.2.1) _ _ (fun e => by rcases e with x | x <;> rfl)) (fun _ => rfl) (fun m z E Xc hE hX hrec hx => leaf_of_ev (B := fjoined_B) (loops := [fjoined_l1_L N]) (leaves := [fjoined_l3_h (fjoined_l3 N m), fjoined_l3_e0, fjoined_l3_e1]) (fjoined_all N) mixed ⟨fjoined_l1_ok N, trivial⟩ hE hX ⟨hrec, (fun p hp => by obtain rfl := Option.some.inj hp; exact hx), (fun p hp => by obtain rfl := Option.some.inj hp; exact hx), trivial⟩ RetOK.no (fun p => fjoined_l3_eq N m p.1.2.2.1 p.1.2.2.2.1 p.1.2.2.2.2.1 p.1.2.2.2.2.2.1 p.1.2.2.2.2.2.2.1 p.1.2.2.2.2.2.2.2.1 p.1.2.2.2.2.2.2.2.2.1 p.1.2.2.2.2.2.2.2.2.2.1 p.1.2.2.2.2.2.2.2.2.2.2.1 p.1.2.2.2.2.2.2.2.2.2.2.2.1 p.2.1.1 p.2.1.2.1 p.2.1.2.2.1 p.2.1.2.2.2.1 p.2.1.2.2.2.2.1 p.2.2.1.1 p.2.2.1.2.1 p.2.2.1.2.2.1))
abbrev fjoined_l2_at : List PI := [.c [1, 1, 1, 1, 1, 1, 1, 1, 1, 0, 1, 0, 0, 0], .c [1, 1, 1, 1, 1, 1, 1, 1, 1, 0, 1, 0, 0, 1], .l [1, 1, 1, 1, 1, 1, 1, 1, 1, 0, 1, 0, 0], .b 2, .c [1, 1, 1, 1, 1, 1, 1, 1, 1, 1]]
abbrev fjoined_l2_st : Sta := ⟨[5, 6, 7, 8, 10, 11, 15, 105, 106], ⟨[.own 0 0, .own 1 0, shL, shI, shL, shL, shI, shI, shI], [.segs [shL, shI, shQ, shQ, shL], .segs [.sl (.int .u8), shI, .i .u32]]⟩⟩
abbrev fjoined_l2_h (rec : Li → Int → Li → Li → Int → Int → Int → Li → Int → Ll → Ll → Li → Li → Int → Int → Option ((Unit) ⊕ (Int × Int × Li × Int × Ll × Ll × Li × Li × Int × Int))) : Leaf ((Unit) ⊕ (Int × Int × Li × Int × Ll × Ll × Li × Li × Int × Int)) := ⟨fjoined_l2_at, fjoined_l2_st, fun p => rec p.1.2.2.1 p.1.2.2.2.1 p.1.2.2.2.2.1 p.1.2.2.2.2.2.1 p.1.2.2.2.2.2.2.1 p.1.2.2.2.2.2.2.2.1 p.1.2.2.2.2.2.2.2.2.1 p.2.1.1 p.2.1.2.1 p.2.1.2.2.1 p.2.1.2.2.2.1 p.2.1.2.2.2.2.1 p.2.2.1.1 p.2.2.1.2.1 p.2.2.1.2.2.1⟩
abbrev fjoined_l2_e0 : Leaf ((Unit) ⊕ (Int × Int × Li × Int × Ll × Ll × Li × Li × Int × Int)) := ⟨[.c [1, 1, 1, 1, 1, 1, 1, 1, 1, 0, 1, 0, 0, 1, 1, 0, 0, 1, 1, 0, 0, 1, 1, 0, 0, 1, 1, 1, 0, 0], .c [1, 1, 1, 1, 1, 1, 1, 1, 1, 0, 1, 0, 0, 1, 1, 0, 0, 1, 1, 0, 0, 1, 1, 0, 0, 1, 1, 1, 0, 1], .b 5, .c [1, 1, 1, 1, 1, 1, 1, 1, 1, 0, 1, 0, 0, 1, 1, 0, 0, 1, 1, 0, 0, 1, 1, 1], .l [1, 1, 1, 1, 1, 1, 1, 1, 1, 0, 1, 0, 0, 1, 1, 0, 0, 1, 1, 0, 0], .b 4, .b 3, .c [1, 1, 1, 1, 1, 1, 1, 1, 1, 0, 1, 0, 0, 1, 1, 1], .l [1, 1, 1, 1, 1, 1, 1, 1, 1, 0, 1, 0, 0], .b 2, .c [1, 1, 1, 1, 1, 1, 1, 1, 1, 1]], ⟨[], ⟨[], []⟩⟩, fun p => some (.inl ())⟩
abbrev fjoined_l2_e1 : Leaf ((Unit) ⊕ (Int × Int × Li × Int × Ll × Ll × Li × Li × Int × Int)) := ⟨[.c [1, 1, 1, 1, 1, 1, 1, 1, 1, 1, 0, 0], .c [1, 1, 1, 1, 1, 1, 1, 1, 1, 1, 0, 1], .c [1, 1, 1, 1, 1, 1, 1, 1, 1, 1, 1]], ⟨[5, 6, 8, 15], ⟨[.own 0 0, .own 1 0, shI, shI], [.segs [shL, shI, shQ, shQ, shL], .segs [.sl (.int .u8), shI, .i .u32]]⟩⟩, fun p => some (.inr (p.1.2.2.1, p.1.2.2.2.1, p.2.1.1, p.2.1.2.1, p.2.1.2.2.1, p.2.1.2.2.2.1, p.2.1.2.2.2.2.1, p.2.2.1.1, p.2.2.1.2.1, p.2.2.1.2.2.1))⟩
noncomputable def fjoined_l2_L (N : Nat) : LoopS := { at_ := fjoined_l2_at, sta := fjoined_l2_st, exits := [([.c [1, 1, 1, 1, 1, 1, 1, 1, 1, 0, 1, 0, 0, 1, 1, 0, 0, 1, 1, 0, 0, 1, 1, 0, 0, 1, 1, 1, 0, 0], .c [1, 1, 1, 1, 1, 1, 1, 1, 1, 0, 1, 0, 0, 1, 1, 0, 0, 1, 1, 0, 0, 1, 1, 0, 0, 1, 1, 1, 0, 1], .b 5, .c [1, 1, 1, 1, 1, 1, 1, 1, 1, 0, 1, 0, 0, 1, 1, 0, 0, 1, 1, 0, 0, 1, 1, 1], .l [1, 1, 1, 1, 1, 1, 1, 1, 1, 0, 1, 0, 0, 1, 1, 0, 0, 1, 1, 0, 0], .b 4, .b 3, .c [1, 1, 1, 1, 1, 1, 1, 1, 1, 0, 1, 0, 0, 1, 1, 1], .l [1, 1, 1, 1, 1, 1, 1, 1, 1, 0, 1, 0, 0], .b 2, .c [1, 1, 1, 1, 1, 1, 1, 1, 1, 1]], ⟨[], ⟨[], []⟩⟩), ([.c [1, 1, 1, 1, 1, 1, 1, 1, 1, 1, 0, 0], .c [1, 1, 1, 1, 1, 1, 1, 1, 1, 1, 0, 1], .c [1, 1, 1, 1, 1, 1, 1, 1, 1, 1, 1]], ⟨[5, 6, 8, 15], ⟨[.own 0 0, .own 1 0, shI, shI], [.segs [shL, shI, shQ, shQ, shL], .segs [.sl (.int .u8), shI, .i .u32]]⟩⟩)], run := fun p k => (fjoined_l2 N N p.1.2.2.1 p.1.2.2.2.1 p.1.2.2.2.2.1 p.1.2.2.2.2.2.1 p.1.2.2.2.2.2.2.1 p.1.2.2.2.2.2.2.2.1 p.1.2.2.2.2.2.2.2.2.1 p.2.1.1 p.2.1.2.1 p.2.1.2.2.1 p.2.1.2.2.2.1 p.2.1.2.2.2.2.1 p.2.2.1.1 p.2.2.1.2.1 p.2.2.1.2.2.1).bind fun e => match e with | .inl x => k (.inl ((), ())) | .inr x => k (.inr (.inl (((), (), x.1, x.2.1, ()), ((x.2.2.1, x.2.2.2.1, x.2.2.2.2.1, x.2.2.2.2.2.1, x.2.2.2.2.2.2.1, ()), (x.2.2.2.2.2.2.2.1, x.2.2.2.2.2.2.2.2.1, x.2.2.2.2.2.2.2.2.2, ()), ())))) }
theorem fjoined_l2_eq (N n_ : Nat) (l : Li) (n : Int) (a : Li) (b : Li) (sum : Int) (u : Int) (u2 : Int) (d : Li) (d2 : Int) (d3 : Ll) (d4 : Ll) (d5 : Li) (q : Li) (q2 : Int) (q3 : Int) : ev (Z := (Unit) ⊕ (Int × Int × Li × Int × Ll × Ll × Li × Li × Int × Int)) Try.prog (fjoined_sp N) fjoined_B [fjoined_l1_L N, fjoined_l3_L N] [fjoined_l2_h (fjoined_l2 N n_), fjoined_l2_e0, fjoined_l2_e1] none 400 true fjoined_l2_at (stL fjoined_l2_st (((), (), l, n, a, b, sum, u, u2, ()), ((d, d2, d3, d4, d5, ()), (q, q2, q3, ()), ()))) (stH fjoined_l2_st (((), (), l, n, a, b, sum, u, u2, ()), ((d, d2, d3, d4, d5, ()), (q, q2, q3, ()), ()))) = fjoined_l2 N (n_ + 1) l n a b sum u u2 d d2 d3 d4 d5 q q2 q3 := by kernel_rfl
theorem fjoined_l2_ok (N : Nat) {top : Bool} : LoopOK Try.prog fjoined_B.c fjoined_B.n fjoined_B.m0 top (fjoined_l2_L N) := loop_of_ev (Z := (Unit) ⊕ (Int × Int × Li × Int × Ll × Ll × Li × Li × Int × Int)) (N := N) (fun m p => fjoined_l2 N m p.1.2.2.1 p.1.2.2.2.1 p.1.2.2.2.2.1 p.1.2.2.2.2.2.1 p.1.2.2.2.2.2.2.1 p.1.2.2.2.2.2.2.2.1 p.1.2.2.2.2.2.2.2.2.1 p.2.1.1 p.2.1.2.1 p.2.1.2.2.1 p.2.1.2.2.2.1 p.2.1.2.2.2.2.1 p.2.2.1.1 p.2.2.1.2.1 p.2.2.1.2.2.1) (fun e => match e with | .inl x => .inl ((), ()) | .inr x => .inr (.inl (((), (), x.1, x.2.1, ()), ((x.2.2.1, x.2.2.2.1, x.2.2.2.2.1, x.2.2.2.2.2.1, x.2.2.2.2.2.2.1, ()), (x.2.2.2.2.2.2.2.1, x.2.2.2.2.2.2.2.2.1, x.2.2.2.2.2.2.2.2.2, ()), ())))) (fun _ p k => bind_congr_ (fjoined_l2 N N p.1.2.2.1 p.1.2.2.2.1 p.1.2.2.2.2.1 p.1.2.2.2.2.2.1 p.1.2.2.2.2.2.2.1 p.1.2.2.2.2.2.2.2.1 p.1.2.2.2.2.2.2.2.2.1 p.2.1.1 p.2.1.2.1 p.2.1.2.2.1 p.2.1.2.2.2.1 p.2.1.2.2.2.2.1 p.2.2.1.1 p.2.2.1.2.1 p.2.2.1.2.2.1) _ _ (fun e => by rcases e with x | x <;> rfl)) (fun _ => rfl) (fun m z E Xc hE hX hrec hx => leaf_of_ev (B := fjoined_B) (loops := [fjoined_l1_L N, fjoined_l3_L N]) (leaves := [fjoined_l2_h (fjoined_l2 N m), fjoined_l2_e0, fjoined_l2_e1]) (fjoined_all N) mixed ⟨fjoined_l1_ok N, fjoined_l3_ok N, trivial⟩ hE hX ⟨hrec, (fun p hp => by obtain rfl := Option.some.inj hp; exact hx), (fun p hp => by obtain rfl := Option.some.inj hp; exact hx), trivial⟩ RetOK.no (fun p => fjoined_l2_eq N m p.1.2.2.1 p.1.2.2.2.1 p.1.2.2.2.2.1 p.1.2.2.2.2.2.1 p.1.2.2.2.2.2.2.1 p.1.2.2.2.2.2.2.2.1 p.1.2.2.2.2.2.2.2.2.1 p.2.1.1 p.2.1.2.1 p.2.1.2.2.1 p.2.1.2.2.2.1 p.2.1.2.2.2.2.1 p.2.2.1.1 p.2.2.1.2.1 p.2.2.1.2.2.1))
abbrev fjoined_l4_at : List PI := [.c [1, 1, 1, 1, 1, 1, 1, 1, 1, 1, 1, 0, 1, 0, 0, 0], .c [1, 1, 1, 1, 1, 1, 1, 1, 1, 1, 1, 0, 1, 0, 0, 1], .l [1, 1, 1, 1, 1, 1, 1, 1, 1, 1, 1, 0, 1, 0, 0], .b 6, .c [1, 1, 1, 1, 1, 1, 1, 1, 1, 1, 1, 1]]
abbrev fjoined_l4_st : Sta := ⟨[5, 6, 8, 154], ⟨[.own 0 0, .own 1 0, shI, shI], [.segs [shL, shI, shQ, shQ, shL], .segs [.sl (.int .u8), shI, .i .u32]]⟩⟩
abbrev fjoined_l4_h (rec : Int → Int → Li → Int → Ll → Ll → Li → Li → Int → Int → Option ((Unit) ⊕ (Unit))) : Leaf ((Unit) ⊕ (Unit)) := ⟨fjoined_l4_at, fjoined_l4_st, fun p => rec p.1.2.2.1 p.1.2.2.2.1 p.2.1.1 p.2.1.2.1 p.2.1.2.2.1 p.2.1.2.2.2.1 p.2.1.2.2.2.2.1 p.2.2.1.1 p.2.2.1.2.1 p.2.2.1.2.2.1⟩
abbrev fjoined_l4_e0 : Leaf ((Unit) ⊕ (Unit)) := ⟨[.c [1, 1, 1, 1, 1, 1, 1, 1, 1, 1, 1, 0, 1, 0, 0, 1, 1, 0, 0, 1, 1, 1, 1, 0, 0], .c [1, 1, 1, 1, 1, 1, 1, 1, 1, 1, 1, 0, 1, 0, 0, 1, 1, 0, 0, 1, 1, 1, 1, 0, 1], .b 7, .c [1, 1, 1, 1, 1, 1, 1, 1, 1, 1, 1, 0, 1, 0, 0, 1, 1, 1], .l [1, 1, 1, 1, 1, 1, 1, 1, 1, 1, 1, 0, 1, 0, 0], .b 6, .c [1, 1, 1, 1, 1, 1, 1, 1, 1, 1, 1, 1]], ⟨[], ⟨[], []⟩⟩, fun p => some (.inl ())⟩
abbrev fjoined_l4_e1 : Leaf ((Unit) ⊕ (Unit)) := ⟨[.c [1, 1, 1, 1, 1, 1, 1, 1, 1, 1, 1, 1, 0], .c [1, 1, 1, 1, 1, 1, 1, 1, 1, 1, 1, 1, 1]], ⟨[], ⟨[], []⟩⟩, fun p => some (.inr ())⟩
noncomputable def fjoined_l4_L (N : Nat) : LoopS := { at_ := fjoined_l4_at, sta := fjoined_l4_st, exits := [([.c [1, 1, 1, 1, 1, 1, 1, 1, 1, 1, 1, 0, 1, 0, 0, 1, 1, 0, 0, 1, 1, 1, 1, 0, 0], .c [1, 1, 1, 1, 1, 1, 1, 1, 1, 1, 1, 0, 1, 0, 0, 1, 1, 0, 0, 1, 1, 1, 1, 0, 1], .b 7, .c [1, 1, 1, 1, 1, 1, 1, 1, 1, 1, 1, 0, 1, 0, 0, 1, 1, 1], .l [1, 1, 1, 1, 1, 1, 1, 1, 1, 1, 1, 0, 1, 0, 0], .b 6, .c [1, 1, 1, 1, 1, 1, 1, 1, 1, 1, 1, 1]], ⟨[], ⟨[], []⟩⟩), ([.c [1, 1, 1, 1, 1, 1, 1, 1, 1, 1, 1, 1, 0], .c [1, 1, 1, 1, 1, 1, 1, 1, 1, 1, 1, 1, 1]], ⟨[], ⟨[], []⟩⟩)], run := fun p k => (fjoined_l4 N N p.1.2.2.1 p.1.2.2.2.1 p.2.1.1 p.2.1.2.1 p.2.1.2.2.1 p.2.1.2.2.2.1 p.2.1.2.2.2.2.1 p.2.2.1.1 p.2.2.1.2.1 p.2.2.1.2.2.1).bind fun e => match e with | .inl x => k (.inl ((), ())) | .inr x => k (.inr (.inl ((), ()))) }
theorem fjoined_l4_eq (N n_ : Nat) (n : Int) (u : Int) (d : Li) (d2 : Int) (d3 : Ll) (d4 : Ll) (d5 : Li) (q : Li) (q2 : Int) (q3 : Int) : ev (Z := (Unit) ⊕ (Unit)) Try.prog (fjoined_sp N) fjoined_B [fjoined_l1_L N, fjoined_l3_L N, fjoined_l2_L N] [fjoined_l4_h (fjoined_l4 N n_), fjoined_l4_e0, fjoined_l4_e1] none 400 true fjoined_l4_at (stL fjoined_l4_st (((), (), n, u, ()), ((d, d2, d3, d4, d5, ()), (q, q2, q3, ()), ()))) (stH fjoined_l4_st (((), (), n, u, ()), ((d, d2, d3, d4, d5, ()), (q, q2, q3, ()), ()))) = fjoined_l4 N (n_ + 1) n u d d2 d3 d4 d5 q q2 q3 := by kernel_rfl
theorem fjoined_l4_ok (N : Nat) {top : Bool} : LoopOK Try.prog fjoined_B.c fjoined_B.n fjoined_B.m0 top (fjoined_l4_L N) := loop_of_ev (Z := (Unit) ⊕ (Unit)) (N := N) (fun m p => fjoined_l4 N m p.1.2.2.1 p.1.2.2.2.1 p.2.1.1 p.2.1.2.1 p.2.1.2.2.1 p.2.1.2.2.2.1 p.2.1.2.2.2.2.1 p.2.2.1.1 p.2.2.1.2.1 p.2.2.1.2.2.1) (fun e => match e with | .inl x => .inl ((), ()) | .inr x => .inr (.inl ((), ()))) (fun _ p k => bind_congr_ (fjoined_l4 N N p.1.2.2.1 p.1.2.2.2.1 p.2.1.1 p.2.1.2.1 p.2.1.2.2.1 p.2.1.2.2.2.1 p.2.1.2.2.2.2.1 p.2.2.1.1 p.2.2.1.2.1 p.2.2.1.2.2.1) _ _ (fun e => by rcases e with x | x <;> rfl)) (fun _ => rfl) (fun m z E Xc hE hX hrec hx => leaf_of_ev (B := fjoined_B) (loops := [fjoined_l1_L N, fjoined_l3_L N, fjoined_l2_L N]) (leaves := [fjoined_l4_h (fjoined_l4 N m), fjoined_l4_e0, fjoined_l4_e1]) (fjoined_all N) mixed ⟨fjoined_l1_ok N, fjoined_l3_ok N, fjoined_l2_ok N, trivial⟩ hE hX ⟨hrec, (fun p hp => by obtain rfl := Option.some.inj hp; exact hx), (fun p hp => by obtain rfl := Option.some.inj hp; exact hx), trivial⟩ RetOK.no (fun p => fjoined_l4_eq N m p.1.2.2.1 p.1.2.2.2.1 p.2.1.1 p.2.1.2.1 p.2.1.2.2.1 p.2.1.2.2.2.1 p.2.1.2.2.2.2.1 p.2.2.1.1 p.2.2.1.2.1 p.2.2.1.2.2.1))
abbrev fjoined_st : Sta := ⟨[0, 1], ⟨[.sl (.int .u8), .sl (.int .u8)], []⟩⟩
theorem fjoined_eq (N : Nat) (numbers : Li) (tries : Li) : ev (Z := Bool) Try.prog (fjoined_sp N) fjoined_B [fjoined_l1_L N, fjoined_l3_L N, fjoined_l2_L N, fjoined_l4_L N] [] (some fjoined_rt) 400 false [.c [0], .c [1]] (stL fjoined_st ((numbers, tries, ()), ())) (stH fjoined_st ((numbers, tries, ()), ())) = fjoined_S N numbers tries := by kernel_rfl
noncomputable def sp_fjoined (N : Nat) : Spec := { f := 14, ins := ⟨[.sl (.int .u8), .sl (.int .u8)], []⟩, outs := [⟨[.b], []⟩], run := fun p k => (fjoined_S N p.1.1 p.1.2.1).bind fun r => k ((r, ()), ()) }
theorem sp_fjoined_ok (N : Nat) : SpecOK Try.prog (sp_fjoined N) := fn_sound (B := fjoined_B) (loops := [fjoined_l1_L N, fjoined_l3_L N, fjoined_l2_L N, fjoined_l4_L N]) (leaves := []) (fun p => fjoined_S N p.1.1 p.1.2.1) (fun r => ((r, ()), ())) fjoined_rt (fun _ _ _ => rfl) (fun r z h => by cases h; rfl) Try.func14 (by kernel_rfl) (by kernel_rfl) (by kernel_rfl) rfl rfl (by kernel_rfl) (fun args w => Sem.pv_run _ _ _ (by kernel_rfl) w) (fjoined_all N) mixed ⟨fjoined_l1_ok N, fjoined_l3_ok N, fjoined_l2_ok N, fjoined_l4_ok N, trivial⟩ (fun z E Xc hE hX hret => trivial) (fun p => fjoined_eq N p.1.1 p.1.2.1)

end Go.Proofs.Ythncjilcflilcaa

namespace Go.Proofs.Ythncjilcflilcaa
set_option linter.all false
open Go

/-! ### Numbers without one -/
def up (i x : Nat) : Nat := if x < i then x else x + 1
section
variable {n m : Nat} {can : Nat → Nat → Bool} {t : Nat → Nat → Int}
theorem Mt.bd {J : Nat → Int} (h : Mt n m can J) {i : Nat} (hi : i < n) : -1 ≤ J i ∧ J i < m := by
  rcases h.ok i hi with e | ⟨k, e, hk, _⟩ <;> omega
/-! ### Without a found thing -/
theorem IsMax.congr {fr fr' : Nat → Prop} {v : Int} (h : IsMax n m can t fr v) (hf : ∀ k, fr k ↔ fr' k) : IsMax n m can t fr' v := by
  have : fr = fr' := funext fun k => propext (hf k)
  rw [← this]; exact h
/-! ### Without a lost thing -/
/-! ### How many joins join two things -/
theorem mem_joins {l : List Int} {u : Nat} : l ∈ joinsL can m n 0 u ↔ l.length = n ∧ Mt n m can (fnJ l) ∧ ∀ k, u.testBit k = true → ¬ Usd n (fnJ l) k := by
  constructor
  · intro h
    obtain ⟨h1, h2, _⟩ := list_mt (t := fun _ _ => 0) h
    exact ⟨(mem_joinsL.1 h).1, h1, h2⟩
  · rintro ⟨h1, h2⟩
    exact mem_joinsL.2 ⟨h1, okJ_mt.2 (by rw [h1]; exact h2)⟩
theorem val_joins {l : List Int} (h : l.length = n) : valJ t 0 l = wt t n (fnJ l) := by rw [valJ_wt, h]
theorem Mt.congr {J J' : Nat → Int} (h : Mt n m can J) (he : ∀ i, i < n → J i = J' i) : Mt n m can J' := by
  refine ⟨fun i hi => by rw [← he i hi]; exact h.ok i hi, fun i j hi hj hij e => ?_⟩
  rw [← he i hi, ← he j hj] at e
  rw [← he i hi]
  exact h.inj i j hi hj hij e
end
end Go.Proofs.Ythncjilcflilcaa

namespace Go.Proofs.Ythncjilcflilcaa
set_option linter.all false
open Go

theorem drop_cons {α : Type} {l : List α} {k : Nat} (h : k < l.length) (d : α) : l.drop k = l.getD k d :: l.drop (k + 1) := by
  rw [List.drop_eq_getElem_cons h]; simp [List.getD, h]
theorem gets {α : Type} {l : List α} {k : Nat} (h : k < l.length) (d : α) : l[((k : Nat) : Int).toNat]? = some (l.getD k d) := by simp [List.getD, h]
theorem getD_mem {α : Type} {l : List α} {i : Nat} {d : α} (h : i < l.length) : l.getD i d ∈ l := by
  simp [List.getD, h]
theorem nat_succ (k : Nat) : ((k + 1 : Nat) : Int) = (k : Int) + 1 := by omega
theorem in_v (N : Nat) (n lo hi : Int) : in__S N n lo hi = some (decide (lo ≤ n ∧ n ≤ hi)) := by
  unfold in__S br
  by_cases h : lo ≤ n <;> simp [h]
theorem every_gen {α : Type} {f : α → Option Bool} {p : α → Bool} {s : List α} {N : Nat} (hf : ∀ x ∈ s, f x = some (p x)) (hs : s.length ≤ 1000000) (hN : s.length < N) :
    (((ixS (fun x => (f x).bind fun c => some (!c)) N s).bind fun x => some (decide (0 ≤ x))).bind fun x => some (!x)) = some (s.all p) := by
  rw [ixS_any (p := fun x => !p x) (fun x hx => by rw [hf x hx]; rfl) hs hN]
  simp only [Option.bind_some, any_not]
/-- The limits of a desk's numbers. -/
def okv (x : Int) : Bool := decide (-1 ≤ x ∧ x ≤ 5)
def okw (x : Int) : Bool := decide (1 ≤ x ∧ x ≤ 9)
def okr (x : Int) : Bool := decide (0 ≤ x ∧ x ≤ 99)
def okp (x : Int) : Bool := decide (0 ≤ x ∧ x ≤ 999)
def okl (n : Nat) (r : List Int) : Bool := decide (r.length = n)
/-- What is looked at is small. -/
structure Sm (W : List Int) (L F : List (List Int)) (R : List Int) : Prop where
  w : W.length ≤ 100
  l : L.length ≤ 100
  f : F.length ≤ 100
  r : R.length ≤ 100
  lr : ∀ x ∈ L, x.length ≤ 100
  fr : ∀ x ∈ F, x.length ≤ 100
section
variable (N : Nat)
theorem ixfv_gen : ∀ (n : Nat) (s : List Int) (u u2 : Int), ixfv_l1 N n s u u2 = ixL (every1v_S N) n s u u2
  | 0, _, _, _ => rfl
  | n + 1, s, u, u2 => by unfold ixfv_l1 ixL; simp only [ixfv_gen n]
theorem ixfva_gen : ∀ (n : Nat) (s : List (List Int)) (u u2 : Int), ixfva_l1 N n s u u2 = ixL (every1va_S N) n s u u2
  | 0, _, _, _ => rfl
  | n + 1, s, u, u2 => by unfold ixfva_l1 ixL; simp only [ixfva_gen n]
theorem ixfw_gen : ∀ (n : Nat) (s : List Int) (u u2 : Int), ixfw_l1 N n s u u2 = ixL (every1w_S N) n s u u2
  | 0, _, _, _ => rfl
  | n + 1, s, u, u2 => by unfold ixfw_l1 ixL; simp only [ixfw_gen n]
theorem ixfr_gen : ∀ (n : Nat) (s : List Int) (u u2 : Int), ixfr_l1 N n s u u2 = ixL (every1r_S N) n s u u2
  | 0, _, _, _ => rfl
  | n + 1, s, u, u2 => by unfold ixfr_l1 ixL; simp only [ixfr_gen n]
end
section
variable {N : Nat} {W : List Int} {s : Int} {L F : List (List Int)} {R : List Int}
theorem everyv_v {l : List Int} (h : l.length ≤ 1000000) (hN : l.length < N) : everyv_S N l = some (l.all okv) := by
  unfold everyv_S cofv_S ixfv_S
  rw [← every_gen (f := check21_S N) (p := okv) (s := l) (N := N) (fun x _ => ?_) h hN]
  · unfold ixS
    rw [ixfv_gen]
    rfl
  · unfold check21_S okv
    rw [in_v]; rfl
theorem everyw_v {l : List Int} (h : l.length ≤ 1000000) (hN : l.length < N) : everyw_S N l = some (l.all okw) := by
  unfold everyw_S cofw_S ixfw_S
  rw [← every_gen (f := check3_S N) (p := okw) (s := l) (N := N) (fun x _ => ?_) h hN]
  · unfold ixS
    rw [ixfw_gen]
    rfl
  · unfold check3_S okw
    rw [in_v]; rfl
theorem everyr_v {l : List Int} (h : l.length ≤ 1000000) (hN : l.length < N) : everyr_S N l = some (l.all okr) := by
  unfold everyr_S cofr_S ixfr_S
  rw [← every_gen (f := check4_S N) (p := okr) (s := l) (N := N) (fun x _ => ?_) h hN]
  · unfold ixS
    rw [ixfr_gen]
    rfl
  · unfold check4_S okr
    rw [in_v]; rfl
theorem everyva_v {l : List (List Int)} (h : l.length ≤ 1000000) (hN : l.length < N) (hr : ∀ x ∈ l, x.length ≤ 1000000 ∧ x.length < N) : everyva_S N l = some (l.all fun r => r.all okv) := by
  unfold everyva_S cofva_S ixfva_S
  rw [← every_gen (f := check2_S N) (p := fun r => r.all okv) (s := l) (N := N) (fun x hx => ?_) h hN]
  · unfold ixS
    rw [ixfva_gen]
    rfl
  · unfold check2_S
    rw [everyv_v (hr x hx).1 (hr x hx).2]; rfl
theorem ixflo_gen : ∀ (n : Nat) (l : List (List Int)) (u u2 : Int), ixflo_l1 N n l u u2 (W, s, L, F, R) = (ixL (fun x => some (!okl W.length x)) n l u u2).map fun r => match r with | .inl i => .inl (i, (W, s, L, F, R)) | .inr _ => .inr (W, s, L, F, R)
  | 0, _, _, _ => rfl
  | n + 1, l, u, u2 => by
    have e : ∀ x, every1lo_S N x (W, s, L, F, R) = some (!okl W.length x, (W, s, L, F, R)) := fun x => by
      unfold every1lo_S check1_S okl
      simp only [Option.bind_some]
      congr 3
      exact decide_eq_decide.2 (by omega)
    unfold ixflo_l1 ixL
    simp only [e, Option.bind_some, ixflo_gen n]
    unfold br
    split
    · unfold idx
      split
      · cases l[u2.toNat]? with
        | none => rfl
        | some a =>
          dsimp only
          cases okl W.length a
          · rfl
          · simp only [Bool.not_true, Bool.false_eq_true, if_false]
            unfold chk
            split <;> rfl
      · rfl
    · rfl
theorem everylo_v {l : List (List Int)} (h : l.length ≤ 1000000) (hN : l.length < N) : everylo_S N l (W, s, L, F, R) = some (l.all (okl W.length)) := by
  unfold everylo_S coflo_S ixflo_S
  rw [← every_gen (f := fun x => some (okl W.length x)) (p := okl W.length) (s := l) (N := N) (fun x _ => rfl) h hN]
  unfold ixS
  rw [ixflo_gen]
  simp only [Option.bind_some]
  cases ixL (fun x => some (!okl W.length x)) N l l.length 0 with
  | none => rfl
  | some r => cases r <;> rfl
end
/-- The error of a desk. -/
def errD (W : List Int) (s : Int) (L F : List (List Int)) (R : List Int) : Int :=
  if ¬ (1 ≤ (W.length : Int) ∧ (W.length : Int) ≤ 5) then 2 else if 6 < (L.length : Int) then 2 else if 6 < (F.length : Int) then 2 else if L.all (okl W.length) = false then 2 else if F.all (okl W.length) = false then 2 else
  if ¬ ((R.length : Int) = (L.length : Int)) then 2 else if (W.all okw && decide (0 ≤ s ∧ s ≤ 3) && R.all okr && (L.all fun r => r.all okv) && F.all fun r => r.all okv) = true then 0 else 3
section
variable {N : Nat} {W : List Int} {s : Int} {L F : List (List Int)} {R : List Int}
theorem check_v (hN : 110 ≤ N) (h : Sm W L F R) : check_S N W s L F R = some (errD W s L F R) := by
  obtain ⟨hw, hl, hf, hr, hlr, hfr⟩ := h
  unfold check_S errD
  rw [in_v]
  simp only [Option.bind_some]
  by_cases c1 : 1 ≤ (W.length : Int) ∧ (W.length : Int) ≤ 5
  rotate_left
  · rw [br_nnd c1, if_pos c1]
  rw [br_nd c1, if_neg (by simpa using c1)]
  by_cases c2 : 6 < (L.length : Int)
  · rw [br_dec c2, if_pos c2]
  rw [br_ndec c2, if_neg c2]
  by_cases c3 : 6 < (F.length : Int)
  · rw [br_dec c3, if_pos c3]
  rw [br_ndec c3, if_neg c3, everylo_v (by omega) (by omega), everylo_v (by omega) (by omega), everyw_v (by omega) (by omega), in_v, everyr_v (by omega) (by omega),
    everyva_v (by omega) (by omega) (fun x hx => ⟨by have := hlr x hx; omega, by have := hlr x hx; omega⟩), everyva_v (by omega) (by omega) (fun x hx => ⟨by have := hfr x hx; omega, by have := hfr x hx; omega⟩)]
  simp only [Option.bind_some]
  cases L.all (okl W.length)
  · rfl
  cases F.all (okl W.length)
  · rfl
  by_cases c4 : (R.length : Int) = (L.length : Int)
  rotate_left
  · simp only [Bool.not_true, br_false, Bool.true_eq_false, if_false]
    rw [br_nnd c4, if_pos c4]
  simp only [Bool.not_true, br_false, Bool.true_eq_false, if_false]
  rw [br_nd c4, if_neg (not_not_intro c4)]
  cases W.all okw <;> cases decide (0 ≤ s ∧ s ≤ 3) <;> cases R.all okr <;> cases (L.all fun r => r.all okv) <;> cases (F.all fun r => r.all okv) <;> rfl
end
section
variable {N : Nat}
theorem take_succ' {α : Type} {l : List α} {k : Nat} (c : k < l.length) (d : α) : l.take (k + 1) = l.take k ++ [l.getD k d] := by
  rw [List.take_add_one]; simp [List.getD, c]
end
end Go.Proofs.Ythncjilcflilcaa

namespace Go.Proofs.Ythncjilcflilcaa
set_option linter.all false
open Go

def tabA (g : Nat → Int) : List Int := (List.range 36).map g
theorem tabA_len (g : Nat → Int) : (tabA g).length = 36 := by simp [tabA]
theorem tabA_get {g : Nat → Int} {x : Nat} (h : x < 36) : (tabA g).getD x 0 = g x := by simp [tabA, List.getD, h]
theorem tabA_set (g : Nat → Int) (x : Nat) (v : Int) : (tabA g).set x v = tabA (upd g x v) := by
  refine List.ext_getElem (by simp [tabA]) fun i h1 h2 => ?_
  simp only [tabA, List.getElem_set, List.getElem_map, List.getElem_range, upd]
  by_cases e : x = i
  · rw [if_pos e, if_pos e.symm]
  · rw [if_neg e, if_neg (Ne.symm e)]
/-- What two descriptions agree in, and how often they slip, up to a trait. -/
def agA (W a b : List Int) (t : Nat) : Int := if a.getD t 0 = b.getD t 0 ∧ a.getD t 0 ≠ -1 then W.getD t 0 else 0
def slA (a b : List Int) (t : Nat) : Int := if a.getD t 0 ≠ -1 ∧ b.getD t 0 ≠ -1 ∧ a.getD t 0 ≠ b.getD t 0 then 1 else 0
def agP (W a b : List Int) (k : Nat) : Int := sumN (agA W a b) k
def slP (a b : List Int) (k : Nat) : Int := sumN (slA a b) k
def agF (W : List Int) (L F : List (List Int)) (i k : Nat) : Int := if i < L.length ∧ k < F.length then agP W (L.getD i []) (F.getD k []) W.length else 0
def slF (W : List Int) (L F : List (List Int)) (i k : Nat) : Int := if i < L.length ∧ k < F.length then slP (L.getD i []) (F.getD k []) W.length else 0
theorem sumN_bound {f : Nat → Int} {m : Int} (h : ∀ i, 0 ≤ f i ∧ f i ≤ m) (hm : 0 ≤ m ∧ m ≤ 10) : ∀ n : Nat, n ≤ 1000 → 0 ≤ sumN f n ∧ sumN f n ≤ 10 * n
  | 0, _ => by simp [sumN]
  | n + 1, hn => by
    have h1 := sumN_bound h hm n (by omega)
    have h2 := h n
    rw [sumN]; omega
/-- A desk without an error. -/
structure Fine (W : List Int) (s : Int) (L F : List (List Int)) (R : List Int) : Prop where
  w1 : 1 ≤ W.length
  w5 : W.length ≤ 5
  l6 : L.length ≤ 6
  f6 : F.length ≤ 6
  lw : ∀ x ∈ L, x.length = W.length
  fw : ∀ x ∈ F, x.length = W.length
  rl : R.length = L.length
  w : ∀ x ∈ W, 1 ≤ x ∧ x ≤ 9
  s : 0 ≤ s ∧ s ≤ 3
  r : ∀ x ∈ R, 0 ≤ x ∧ x ≤ 99
  lv : ∀ r ∈ L, ∀ x ∈ r, -1 ≤ x ∧ x ≤ 5
  fv : ∀ r ∈ F, ∀ x ∈ r, -1 ≤ x ∧ x ≤ 5
section
variable {W : List Int} {s : Int} {L F : List (List Int)} {R : List Int}
theorem errD_iff : errD W s L F R = 0 ↔ Fine W s L F R := by
  unfold errD
  constructor
  · intro h
    split at h
    · cases h
    rename_i c1
    split at h
    · cases h
    rename_i c2
    split at h
    · cases h
    rename_i c3
    split at h
    · cases h
    rename_i c4
    split at h
    · cases h
    rename_i c5
    split at h
    · cases h
    rename_i c6
    split at h
    rotate_left
    · cases h
    rename_i c7
    simp only [Bool.and_eq_true, List.all_eq_true, okw, okr, okv, decide_eq_true_eq] at c7
    simp only [Bool.not_eq_false, List.all_eq_true, okl, decide_eq_true_eq] at c4 c5
    exact ⟨by omega, by omega, by omega, by omega, c4, c5, by omega, c7.1.1.1.1, c7.1.1.1.2, c7.1.1.2, c7.1.2, c7.2⟩
  · intro h
    have c4 : L.all (okl W.length) = true := by simpa [okl] using h.lw
    have c5 : F.all (okl W.length) = true := by simpa [okl] using h.fw
    have h1 := h.w1; have h2 := h.w5; have h3 := h.l6; have h4 := h.f6; have h5 := h.rl
    rw [if_neg (by omega), if_neg (by omega), if_neg (by omega), if_neg (by simp [c4]), if_neg (by simp [c5]), if_neg (by omega), if_pos]
    simp only [Bool.and_eq_true, List.all_eq_true, okw, okr, okv, decide_eq_true_eq]
    exact ⟨⟨⟨⟨h.w, h.s⟩, h.r⟩, h.lv⟩, h.fv⟩
theorem Fine.sm (h : Fine W s L F R) : Sm W L F R := by
  have h1 := h.w1; have h2 := h.w5; have h3 := h.l6; have h4 := h.f6; have h5 := h.rl
  exact ⟨by omega, by omega, by omega, by omega, fun x hx => by have := h.lw x hx; omega, fun x hx => by have := h.fw x hx; omega⟩
/-- The desk at work. -/
def dkT (W : List Int) (s : Int) (L F : List (List Int)) (R : List Int) (A B : Nat → Nat → Int) : Dk := (W, s, L, F, R, tabA (fun x => A (x / 6) (x % 6)), tabA (fun x => B (x / 6) (x % 6)), ())
def dkO (W : List Int) (s : Int) (L F : List (List Int)) (R : List Int) : Dk := dkT W s L F R (agF W L F) (slF W L F)
theorem getD_W (hw : ∀ x ∈ W, 1 ≤ x ∧ x ≤ 9) (t : Nat) : 0 ≤ W.getD t 0 ∧ W.getD t 0 ≤ 9 := by
  by_cases h : t < W.length
  · have := hw _ (getD_mem (d := 0) h); omega
  · have : W.getD t 0 = 0 := by simp [List.getD, List.getElem?_eq_none (show W.length ≤ t by omega)]
    omega
theorem agA_bound (hw : ∀ x ∈ W, 1 ≤ x ∧ x ≤ 9) (a b : List Int) (t : Nat) : 0 ≤ agA W a b t ∧ agA W a b t ≤ 9 := by
  have := getD_W hw t
  unfold agA; split <;> omega
theorem slA_bound (a b : List Int) (t : Nat) : 0 ≤ slA a b t ∧ slA a b t ≤ 1 := by unfold slA; split <;> omega
theorem agP_bound (hw : ∀ x ∈ W, 1 ≤ x ∧ x ≤ 9) (a b : List Int) {t : Nat} (ht : t ≤ 5) : 0 ≤ agP W a b t ∧ agP W a b t ≤ 50 := by
  have := sumN_bound (agA_bound hw a b) (by omega) t (by omega)
  unfold agP; omega
theorem slP_bound (a b : List Int) {t : Nat} (ht : t ≤ 5) : 0 ≤ slP a b t ∧ slP a b t ≤ 50 := by
  have := sumN_bound (slA_bound a b) (by omega) t (by omega)
  unfold slP; omega
theorem upd_upd {α : Type} (J : Nat → α) (i : Nat) (v w : α) : upd (upd J i v) i w = upd J i w := by
  funext x; unfold upd; split <;> rfl
theorem upd_id {α : Type} (J : Nat → α) (i : Nat) : upd J i (J i) = J := by
  funext x; unfold upd; split
  · rename_i e; rw [e]
  · rfl
theorem opened_l3_p {N : Nat} (h : Fine W s L F R) {i k : Nat} (hi : i < 6) (hk : k < 6) {a b : List Int} (ha : a.length = W.length) (hb : b.length = W.length) {u u4 : List (List Int)} {u2 u3 u5 u6 : Int} {o1 o5 : List Int} {o2 : Int} {o3 o4 : List (List Int)} :
    ∀ (n t : Nat) (g g' : Nat → Int), W.length < n + t → t ≤ W.length → g (i * 6 + k) = agP W a b t → g' (i * 6 + k) = slP a b t →
      opened_l3 N n i a k b u u2 u3 u4 u5 u6 a a.length t W s L F R o1 o2 o3 o4 o5 (tabA g) (tabA g') = some ((i : Int), a, u, u2, u3, u4, u5, u6, W, s, L, F, R, o1, o2, o3, o4, o5, tabA (upd g (i * 6 + k) (agP W a b W.length)), tabA (upd g' (i * 6 + k) (slP a b W.length)))
  | 0, t, _, _, hn, ht, _, _ => by omega
  | n + 1, t, g, g', hn, ht, e1, e2 => by
    unfold opened_l3
    have hw5 := h.w5
    by_cases c : t < W.length
    · have hx : i * 6 + k < 36 := by omega
      have hj : ∀ g g' : Nat → Int, opened_j1 N (opened_l3 N n) i a k b u u2 u3 u4 u5 u6 a a.length t W s L F R o1 o2 o3 o4 o5 (tabA g) (tabA g') = opened_l3 N n i a k b u u2 u3 u4 u5 u6 a a.length ((t + 1 : Nat) : Int) W s L F R o1 o2 o3 o4 o5 (tabA g) (tabA g') := fun g g' => by
        unfold opened_j1
        rw [chk_eq (by omega)]; rfl
      have b1 := agP_bound h.w a b (t := t) (by omega)
      have b2 := slP_bound a b (t := t) (by omega)
      have b3 := getD_W h.w t
      have s1 : agP W a b (t + 1) = agP W a b t + agA W a b t := rfl
      have s2 : slP a b (t + 1) = slP a b t + slA a b t := rfl
      rw [br_dec (by omega), idx_eq (by omega) (gets (by omega) 0)]
      unfold agA at s1
      unfold slA at s2
      by_cases c1 : a.getD t 0 = -1
      · rw [if_neg (by omega)] at s1 s2
        rw [br_dec c1, hj, opened_l3_p h hi hk ha hb n (t + 1) g g' (by omega) (by omega) (by omega) (by omega)]
      rw [br_ndec c1, idx_eq (by omega) (gets (by omega) 0)]
      by_cases c2 : b.getD t 0 = -1
      · rw [if_neg (by omega)] at s1 s2
        rw [br_dec c2, hj, opened_l3_p h hi hk ha hb n (t + 1) g g' (by omega) (by omega) (by omega) (by omega)]
      rw [br_ndec c2, idx_eq (by omega) (gets (by omega) 0)]
      by_cases c3 : a.getD t 0 = b.getD t 0
      · rw [if_pos ⟨c3, c1⟩] at s1
        rw [if_neg (by omega)] at s2
        rw [br_dec c3, rng_eq (by omega), rng_eq (by omega)]
        simp only [Int.toNat_natCast]
        rw [get_get 0 (by rw [tabA_len]; exact hx), tabA_get hx, e1, idx_eq (by omega) (gets (k := t) (l := W) (by omega) 0), chk_eq (by omega), rng_eq (by omega), rng_eq (by omega), get_get 0 (by rw [tabA_len]; exact hx), tabA_set, hj,
          opened_l3_p h hi hk ha hb n (t + 1) _ _ (by omega) (by omega) (by rw [upd_self]; omega) (by omega), upd_upd]
      · rw [if_neg (by omega)] at s1
        rw [if_pos ⟨c1, c2, c3⟩] at s2
        rw [br_ndec c3, rng_eq (by omega), rng_eq (by omega)]
        simp only [Int.toNat_natCast]
        rw [get_get 0 (by rw [tabA_len]; exact hx), tabA_get hx, e2, chk_eq (by omega), rng_eq (by omega), rng_eq (by omega), get_get 0 (by rw [tabA_len]; exact hx), tabA_set, hj,
          opened_l3_p h hi hk ha hb n (t + 1) _ _ (by omega) (by omega) (by omega) (by rw [upd_self]; omega), upd_upd]
    · obtain rfl : t = W.length := by omega
      rw [br_ndec (by omega), ← e1, ← e2, upd_id, upd_id]
/-- Tables that are filled up to a pair. -/
def gK (A : Nat → Nat → Int) (i k : Nat) : Nat → Int := fun x => if x / 6 < i ∨ (x / 6 = i ∧ x % 6 < k) then A (x / 6) (x % 6) else 0
theorem gK_step (A : Nat → Nat → Int) {i k : Nat} (hk : k < 6) : upd (gK A i k) (i * 6 + k) (A i k) = gK A i (k + 1) := by
  funext x
  unfold upd gK
  by_cases e : x = i * 6 + k
  · rw [if_pos e, if_pos (by omega), show x / 6 = i by omega, show x % 6 = k by omega]
  · rw [if_neg e]
    by_cases c : x / 6 < i ∨ (x / 6 = i ∧ x % 6 < k)
    · rw [if_pos c, if_pos (by omega)]
    · rw [if_neg c, if_neg (by omega)]
theorem gK_self (A : Nat → Nat → Int) {i k : Nat} (hk : k < 6) : gK A i k (i * 6 + k) = 0 := if_neg (by omega)
theorem gK_row {A : Nat → Nat → Int} {i m : Nat} (h : ∀ k, m ≤ k → A i k = 0) : gK A i m = gK A (i + 1) 0 := by
  funext x
  unfold gK
  by_cases c : x / 6 < i ∨ (x / 6 = i ∧ x % 6 < m)
  · rw [if_pos c, if_pos (by omega)]
  · rw [if_neg c]
    by_cases d : x / 6 = i
    · rw [if_pos (by omega), d, h _ (by omega)]
    · rw [if_neg (by omega)]
theorem gK_all {A : Nat → Nat → Int} {n : Nat} (h : ∀ i k, n ≤ i → A i k = 0) : gK A n 0 = fun x => A (x / 6) (x % 6) := by
  funext x
  unfold gK
  by_cases c : x / 6 < n
  · rw [if_pos (.inl c)]
  · rw [if_neg (by omega), h _ _ (by omega)]
theorem opened_l2_p {N : Nat} (hN : 110 ≤ N) (h : Fine W s L F R) {i : Nat} (hi : i < L.length) {u : List (List Int)} {u2 u3 : Int} {o1 o5 : List Int} {o2 : Int} {o3 o4 : List (List Int)} :
    ∀ (n k : Nat), F.length < n + k → k ≤ F.length →
      opened_l2 N n i (L.getD i []) u u2 u3 F F.length k W s L F R o1 o2 o3 o4 o5 (tabA (gK (agF W L F) i k)) (tabA (gK (slF W L F) i k)) = some (u, u2, u3, W, s, L, F, R, o1, o2, o3, o4, o5, tabA (gK (agF W L F) (i + 1) 0), tabA (gK (slF W L F) (i + 1) 0))
  | 0, k, hn, hk => by omega
  | n + 1, k, hn, hk => by
    unfold opened_l2
    have hl6 := h.l6; have hf6 := h.f6; have hw5 := h.w5
    by_cases c : k < F.length
    · have ih := opened_l2_p hN h hi (u := u) (u2 := u2) (u3 := u3) (o1 := o1) (o5 := o5) (o2 := o2) (o3 := o3) (o4 := o4) n (k + 1) (by omega) (by omega)
      rw [nat_succ] at ih
      have e := opened_l3_p (N := N) h (i := i) (k := k) (by omega) (by omega) (h.lw _ (getD_mem (d := []) hi)) (h.fw _ (getD_mem (d := []) c)) (u := u) (u4 := F) (u2 := u2) (u3 := u3) (u5 := F.length) (u6 := k) (o1 := o1) (o5 := o5) (o2 := o2) (o3 := o3) (o4 := o4)
        N 0 (gK (agF W L F) i k) (gK (slF W L F) i k) (by omega) (by omega) (gK_self _ (by omega)) (gK_self _ (by omega))
      have a1 : agP W (L.getD i []) (F.getD k []) W.length = agF W L F i k := (if_pos ⟨hi, c⟩).symm
      have a2 : slP (L.getD i []) (F.getD k []) W.length = slF W L F i k := (if_pos ⟨hi, c⟩).symm
      rw [a1, a2, gK_step _ (by omega), gK_step _ (by omega), show ((0 : Nat) : Int) = 0 from rfl] at e
      rw [br_dec (by omega), idx_eq (by omega) (gets c []), e]
      simp only [Option.bind_some]
      rw [chk_eq (by omega)]
      exact ih
    · obtain rfl : k = F.length := by omega
      rw [br_ndec (by omega), gK_row (A := agF W L F) (i := i) (m := F.length) (fun k hk => by unfold agF; exact if_neg (by omega)), gK_row (A := slF W L F) (i := i) (m := F.length) (fun k hk => by unfold slF; exact if_neg (by omega))]
theorem opened_l1_p {N : Nat} (hN : 110 ≤ N) (h : Fine W s L F R) {o1 o5 : List Int} {o2 : Int} {o3 o4 : List (List Int)} :
    ∀ (n i : Nat), L.length < n + i → i ≤ L.length →
      opened_l1 N n L L.length i W s L F R o1 o2 o3 o4 o5 (tabA (gK (agF W L F) i 0)) (tabA (gK (slF W L F) i 0)) = some (o1, o2, o3, o4, o5, tabA (fun x => agF W L F (x / 6) (x % 6)), tabA (fun x => slF W L F (x / 6) (x % 6)))
  | 0, i, hn, hi => by omega
  | n + 1, i, hn, hi => by
    unfold opened_l1
    have hl6 := h.l6; have hf6 := h.f6
    by_cases c : i < L.length
    · have ih := opened_l1_p hN h (o1 := o1) (o5 := o5) (o2 := o2) (o3 := o3) (o4 := o4) n (i + 1) (by omega) (by omega)
      rw [nat_succ] at ih
      have e := opened_l2_p hN h c (u := L) (u2 := L.length) (u3 := i) (o1 := o1) (o5 := o5) (o2 := o2) (o3 := o3) (o4 := o4) N 0 (by omega) (by omega)
      rw [show ((0 : Nat) : Int) = 0 from rfl] at e
      rw [br_dec (by omega), idx_eq (by omega) (gets c []), e]
      simp only [Option.bind_some]
      rw [chk_eq (by omega)]
      exact ih
    · obtain rfl : i = L.length := by omega
      rw [br_ndec (by omega), gK_all (A := agF W L F) (fun i k hi => by unfold agF; exact if_neg (by omega)), gK_all (A := slF W L F) (fun i k hi => by unfold slF; exact if_neg (by omega))]
theorem opened_v {N : Nat} (hN : 110 ≤ N) (h : Sm W L F R) : opened_S N W s L F R = some (if errD W s L F R = 0 then .inl (dkO W s L F R, 0) else .inr (errD W s L F R)) := by
  unfold opened_S
  rw [check_v hN h]
  simp only [Option.bind_some]
  by_cases c : errD W s L F R = 0
  · have hF := errD_iff.1 c
    have e := opened_l1_p hN hF (o1 := W) (o2 := s) (o3 := L) (o4 := F) (o5 := R) N 0 (by have := hF.l6; omega) (by omega)
    have z : ∀ A : Nat → Nat → Int, tabA (gK A 0 0) = List.replicate 36 (0 : Int) := fun A => by
      rw [show gK A 0 0 = fun _ => 0 by funext x; exact if_neg (by omega)]; rfl
    rw [z, z, show ((0 : Nat) : Int) = 0 from rfl] at e
    rw [br_nd c, if_pos c, e]; rfl
  · rw [br_nnd c, if_neg c]
end
end Go.Proofs.Ythncjilcflilcaa

namespace Go.Proofs.Ythncjilcflilcaa
set_option linter.all false
open Go

/-! ### All of some numbers -/
def alI (p : Nat → Bool) (n : Nat) : Bool := (List.range' 0 n).all p
theorem alI_iff {p : Nat → Bool} {n : Nat} : alI p n = true ↔ ∀ i, i < n → p i = true := by
  unfold alI
  rw [List.all_eq_true]
  constructor
  · exact fun h i hi => h i (by simp [List.mem_range'_1, hi])
  · exact fun h i hi => h i (by have := List.mem_range'_1.1 hi; omega)
def allI {β : Type} (p : Nat → Bool) (n k : Nat) (b : β) : Option (Unit ⊕ β) := some (if (List.range' k (n - k)).all p then .inr b else .inl ())
theorem allI_0 {β : Type} (p : Nat → Bool) (n : Nat) (b : β) : allI p n 0 b = some (if alI p n then .inr b else .inl ()) := rfl
theorem allI_yes {β : Type} {p : Nat → Bool} {n k : Nat} {b : β} (h : k < n) (hp : p k = true) : allI p n k b = allI p n (k + 1) b := by
  unfold allI
  rw [show n - k = (n - (k + 1)) + 1 by omega, List.range'_succ, List.all_cons, hp, Bool.true_and]
theorem allI_no {β : Type} {p : Nat → Bool} {n k : Nat} {b : β} (h : k < n) (hp : p k = false) : allI p n k b = some (.inl ()) := by
  unfold allI
  rw [show n - k = (n - (k + 1)) + 1 by omega, List.range'_succ, List.all_cons, hp, Bool.false_and]; rfl
theorem allI_end {β : Type} {p : Nat → Bool} {n k : Nat} {b : β} (h : n ≤ k) : allI p n k b = some (.inr b) := by
  unfold allI
  rw [show n - k = 0 by omega]; rfl
/-! ### Tables -/
def canT (A B : Nat → Nat → Int) (s : Int) (i k : Nat) : Bool := decide (0 < A i k) && decide (B i k ≤ s)
section
variable {W : List Int} {s : Int} {L F : List (List Int)} {R : List Int} {A B : Nat → Nat → Int} {N : Nat}
theorem agD_T {i k : Nat} (hi : i < 6) (hk : k < 6) : agD (dkT W s L F R A B) i k = A i k := by
  unfold agD dkT
  rw [tabA_get (by omega), show (i * 6 + k) / 6 = i by omega, show (i * 6 + k) % 6 = k by omega]
theorem slD_T {i k : Nat} (hi : i < 6) (hk : k < 6) : slD (dkT W s L F R A B) i k = B i k := by
  unfold slD dkT
  rw [tabA_get (by omega), show (i * 6 + k) / 6 = i by omega, show (i * 6 + k) % 6 = k by omega]
theorem can_T {i k : Nat} (hi : i < 6) (hk : k < 6) : can_S N (dkT W s L F R A B) i k = some (canT A B s i k) := by
  rw [can_v (tabA_len _) (tabA_len _) hi hk]
  unfold canD canT
  rw [agD_T hi hk, slD_T hi hk]; rfl
theorem get_T {i k : Nat} (hi : i < 6) (hk : k < 6) {Z : Type} {f : Int → Option Z} : get (dkT W s L F R A B).2.2.2.2.2.1 (i * 6 + k) f = f (A i k) := by
  have e := agD_T (W := W) (s := s) (L := L) (F := F) (R := R) (A := A) (B := B) hi hk
  unfold agD at e
  rw [get_get 0 (by unfold dkT; rw [tabA_len]; omega), e]
theorem agF_bound (h : Fine W s L F R) (i k : Nat) : 0 ≤ agF W L F i k ∧ agF W L F i k ≤ 50 := by
  unfold agF
  split
  · exact agP_bound h.w _ _ h.w5
  · omega
abbrev canF (W : List Int) (s : Int) (L F : List (List Int)) : Nat → Nat → Bool := canT (agF W L F) (slF W L F) s
/-! ### A pair -/
/-! ### Joins -/
def inm (m : Nat) (x : Int) : Bool := decide (-1 ≤ x ∧ x ≤ (m : Int) - 1)
def hasB (l : List Int) (x : Int) : Bool := l.any fun y => decide (x = y)
theorem hasB_iff {l : List Int} {x : Int} : hasB l x = true ↔ x ∈ l := by simp [hasB]
def dupI (l : List Int) (i : Nat) : Bool := decide (l.getD i 0 = -1) || !hasB (l.take i) (l.getD i 0)
def cnI (can : Nat → Nat → Bool) (l : List Int) (i : Nat) : Bool := decide (l.getD i 0 = -1) || can i (l.getD i 0).toNat
/-- The error of joins, e that of the desk. -/
def errJ (e : Int) (n m : Nat) (can : Nat → Nat → Bool) (l : List Int) : Int :=
  if ¬ e = 0 then e else if ¬ (l.length : Int) = (n : Int) then 2 else if l.all (inm m) = false then 1 else if alI (dupI l) l.length = false then 5 else if alI (cnI can l) l.length = false then 8 else 0
theorem dfound_v (h : F.length ≤ 1000000) (x : Int) : dfound_S N (dkT W s L F R A B) x = some (decide (0 ≤ x ∧ x ≤ (F.length : Int) - 1)) := by
  unfold dfound_S
  rw [in_v]
  exact chk_eq (by simp only [dkT]; omega)
theorem joined1_v (h : F.length ≤ 1000000) (x : Int) : joined1_S N x (dkT W s L F R A B) = some (inm F.length x) := by
  unfold joined1_S inm
  rw [dfound_v h]
  by_cases c : x = -1
  · rw [br_dec c, decide_eq_true (by omega)]
  · rw [br_ndec c]
    simp only [Option.bind_some]
    congr 1
    exact decide_eq_decide.2 (by omega)
theorem ixfj_gen (h : F.length ≤ 1000000) : ∀ (n : Nat) (l : List Int) (u u2 : Int), ixfj_l1 N n l u u2 (dkT W s L F R A B) = (ixL (fun x => some (!inm F.length x)) n l u u2).map fun r => match r with | .inl i => .inl (i, dkT W s L F R A B) | .inr _ => .inr (dkT W s L F R A B)
  | 0, _, _, _ => rfl
  | n + 1, l, u, u2 => by
    unfold ixfj_l1 ixL every1j_S
    simp only [joined1_v h, Option.bind_some, ixfj_gen h n]
    unfold br
    split
    · unfold idx
      split
      · cases l[u2.toNat]? with
        | none => rfl
        | some a =>
          dsimp only
          cases inm F.length a
          · rfl
          · simp only [Bool.not_true, Bool.false_eq_true, if_false]
            unfold chk
            split <;> rfl
      · rfl
    · rfl
theorem everyj_v (h : F.length ≤ 1000000) {l : List Int} (hl : l.length ≤ 1000000) (hN : l.length < N) : everyj_S N l (dkT W s L F R A B) = some (l.all (inm F.length)) := by
  unfold everyj_S cofj_S ixfj_S
  rw [← every_gen (f := fun x => some (inm F.length x)) (p := inm F.length) (s := l) (N := N) (fun x _ => rfl) hl hN]
  unfold ixS
  rw [ixfj_gen h]
  simp only [Option.bind_some]
  cases ixL (fun x => some (!inm F.length x)) N l l.length 0 with
  | none => rfl
  | some r => cases r <;> rfl
theorem indexi_gen (v : Int) : ∀ (n : Nat) (l : List Int) (u u2 : Int), indexi_l1 N n l v u u2 = ixL (fun x => some (decide (v = x))) n l u u2
  | 0, _, _, _ => rfl
  | n + 1, l, u, u2 => by unfold indexi_l1 ixL; simp only [indexi_gen v n, Option.bind_some]
theorem containsi_v {l : List Int} (hl : l.length ≤ 1000000) (hN : l.length < N) (v : Int) : containsi_S N l v = some (hasB l v) := by
  unfold containsi_S indexi_S hasB
  rw [← ixS_any (f := fun x => some (decide (v = x))) (s := l) (N := N) (fun x _ => rfl) hl hN]
  unfold ixS
  rw [indexi_gen] <;> rfl
theorem joined_l1_p {d : Dk} {l : List Int} (hl : l.length ≤ 1000000) (hN : l.length < N) : ∀ (n k : Nat), l.length < n + k → k ≤ l.length → joined_l1 N n l l l.length k d = allI (dupI l) l.length k (l, d)
  | 0, k, h, _ => by omega
  | n + 1, k, h, hk => by
    unfold joined_l1
    by_cases c : k < l.length
    · have ih := joined_l1_p (d := d) hl hN n (k + 1) (by omega) (by omega)
      rw [nat_succ] at ih
      have y := allI_yes (p := dupI l) (b := (l, d)) c
      have no := allI_no (p := dupI l) (b := (l, d)) c
      have ec : dupI l k = (decide (l.getD k 0 = -1) || !hasB (l.take k) (l.getD k 0)) := rfl
      rw [br_dec (by omega), idx_eq (by omega) (gets c 0)]
      by_cases c1 : l.getD k 0 = -1
      · rw [br_nd c1, chk_eq (by omega), ih, y (by rw [ec, decide_eq_true c1]; rfl)]
      · rw [br_nnd c1, grd_eq (by rw [decide_eq_true_eq]; omega), containsi_v (by simp; omega) (by simp; omega)]
        simp only [Option.bind_some, Int.toNat_natCast]
        rw [decide_eq_false c1, Bool.false_or] at ec
        cases hb : hasB (l.take k) (l.getD k 0)
        · rw [br_false, chk_eq (by omega), ih, y (by rw [ec, hb]; rfl)]
        · rw [br_true]
          exact (no (by rw [ec, hb]; rfl)).symm
    · rw [br_ndec (by omega), allI_end (by omega)]
theorem joined_l2_p {l : List Int} (hl : l.length ≤ 6) (hF : F.length ≤ 6) (hm : l.all (inm F.length) = true) : ∀ (n k : Nat), l.length < n + k → k ≤ l.length → joined_l2 N n l l.length k (dkT W s L F R A B) = allI (cnI (canT A B s) l) l.length k (dkT W s L F R A B)
  | 0, k, h, _ => by omega
  | n + 1, k, h, hk => by
    unfold joined_l2
    by_cases c : k < l.length
    · have ih := joined_l2_p hl hF hm n (k + 1) (by omega) (by omega)
      rw [nat_succ] at ih
      have y := allI_yes (p := cnI (canT A B s) l) (b := dkT W s L F R A B) c
      have no := allI_no (p := cnI (canT A B s) l) (b := dkT W s L F R A B) c
      have hx := List.all_eq_true.1 hm _ (getD_mem (d := 0) c)
      unfold inm at hx
      rw [decide_eq_true_eq] at hx
      have ec : cnI (canT A B s) l k = (decide (l.getD k 0 = -1) || canT A B s k (l.getD k 0).toNat) := rfl
      rw [br_dec (by omega), idx_eq (by omega) (gets c 0)]
      by_cases c1 : l.getD k 0 = -1
      · rw [br_nd c1, chk_eq (by omega), ih, y (by rw [ec, decide_eq_true c1]; rfl)]
      · obtain ⟨q, hq⟩ : ∃ q : Nat, l.getD k 0 = q := ⟨(l.getD k 0).toNat, by omega⟩
        rw [decide_eq_false c1, Bool.false_or] at ec
        rw [br_nnd c1]
        rw [hq] at hx ec ⊢
        rw [can_T (by omega) (by omega)]
        simp only [Option.bind_some, Int.toNat_natCast] at ec ⊢
        cases hb : canT A B s k q
        · rw [Bool.not_false, br_true]
          exact (no (by rw [ec, hb])).symm
        · rw [Bool.not_true, br_false, chk_eq (by omega), ih, y (by rw [ec, hb])]
    · rw [br_ndec (by omega), allI_end (by omega)]
theorem joined_v (hN : 110 ≤ N) (h : Sm W L F R) {l : List Int} (hl : l.length ≤ 100) : joined_S N W s L F R l = some (if errJ (errD W s L F R) L.length F.length (canF W s L F) l = 0 then .inl (dkO W s L F R, 0) else .inr (errJ (errD W s L F R) L.length F.length (canF W s L F) l)) := by
  unfold joined_S errJ
  rw [opened_v hN h]
  by_cases c : errD W s L F R = 0
  rotate_left
  · rw [if_neg c]
    simp only [Option.bind_some]
    rw [br_nnd c, if_pos c, if_neg c]
  have hF := errD_iff.1 c
  rw [if_pos c]
  simp only [Option.bind_some]
  rw [br_nd (by first | trivial | rfl), if_neg (not_not_intro c)]
  by_cases c1 : (l.length : Int) = (L.length : Int)
  rotate_left
  · rw [br_nnd c1, if_pos c1]; rfl
  have hl6 := hF.l6; have hf6 := hF.f6
  rw [br_nd c1, if_neg (not_not_intro c1)]
  unfold dkO
  rw [everyj_v (by omega) (by omega) (by omega)]
  simp only [Option.bind_some]
  by_cases c2 : l.all (inm F.length) = true
  rotate_left
  · rw [Bool.eq_false_iff.2 c2]; rfl
  have e1 := joined_l1_p (N := N) (d := dkT W s L F R (agF W L F) (slF W L F)) (l := l) (by omega) (by omega) N 0 (by omega) (by omega)
  have e2 := joined_l2_p (N := N) (W := W) (s := s) (L := L) (F := F) (R := R) (A := agF W L F) (B := slF W L F) (l := l) (by omega) hf6 c2 N 0 (by omega) (by omega)
  rw [show ((0 : Nat) : Int) = 0 from rfl, allI_0] at e1 e2
  rw [c2, Bool.not_true, br_false, e1]
  simp only [Bool.true_eq_false, if_false]
  by_cases c3 : alI (dupI l) l.length = true
  rotate_left
  · rw [if_neg c3, Bool.eq_false_iff.2 c3]; rfl
  rw [if_pos c3, c3]
  simp only [Option.bind_some]
  rw [e2]
  by_cases c4 : alI (cnI (canF W s L F) l) l.length = true
  rotate_left
  · rw [if_neg c4, Bool.eq_false_iff.2 c4]; rfl
  rw [if_pos c4, c4]
  simp only [Bool.true_eq_false, if_false]
  rfl
end
end Go.Proofs.Ythncjilcflilcaa

namespace Go.Proofs.Ythncjilcflilcaa
set_option linter.all false
open Go

section
variable {N : Nat}
theorem sum_l1_p {l : List Int} {m : Int} (hl : l.length ≤ 1000) (hm : 0 ≤ m ∧ m ≤ 1000) (hr : ∀ x ∈ l, -m ≤ x ∧ x ≤ m) : ∀ (n k : Nat) (s : Int), l.length < n + k → k ≤ l.length → (-(m * k) ≤ s ∧ s ≤ m * k) → sum_l1 N n s l l.length k = some (s + (l.drop k).sum)
  | 0, k, s, h, _, _ => by omega
  | n + 1, k, s, h, hk, hs => by
    unfold sum_l1
    have hmk : m * (k : Int) ≤ 1000 * 1000 := Int.mul_le_mul hm.2 (by omega) (by omega) (by omega)
    by_cases c : k < l.length
    · have hx := hr _ (getD_mem (d := 0) c)
      have g := gets c 0
      rw [drop_cons c 0]
      generalize l.getD k 0 = x at *
      have e : m * ((k + 1 : Nat) : Int) = m * k + m := by rw [Int.natCast_add, Int.mul_add]; simp
      have ih := sum_l1_p hl hm hr n (k + 1) (s + x) (by omega) (by omega) (by omega)
      rw [nat_succ] at ih
      rw [br_dec (by omega), idx_eq (by omega) g, chk_eq (by omega), chk_eq (by omega), ih, List.sum_cons]
      congr 1; omega
    · rw [br_ndec (by omega), List.drop_of_length_le (by omega)]; simp
theorem sum_v {l : List Int} {m : Int} (hl : l.length ≤ 1000) (hN : l.length < N) (hm : 0 ≤ m ∧ m ≤ 1000) (hr : ∀ x ∈ l, -m ≤ x ∧ x ≤ m) : sum_S N l = some l.sum := by
  unfold sum_S
  have := sum_l1_p (N := N) hl hm hr N 0 0 (by omega) (by omega) (by simp)
  simp only [Int.natCast_zero, List.drop_zero, Int.zero_add] at this
  rw [this]; rfl
end
/-- What joins count, one by one. -/
def wlJ (t : Nat → Nat → Int) : Nat → List Int → List Int
  | _, [] => []
  | i, x :: l => (if x = -1 then [] else [t i x.toNat]) ++ wlJ t (i + 1) l
theorem wlJ_sum (t : Nat → Nat → Int) : ∀ (l : List Int) (i : Nat), (wlJ t i l).sum = valJ t i l
  | [], _ => rfl
  | x :: l, i => by
    rw [wlJ, valJ, List.sum_append, wlJ_sum t l (i + 1)]
    unfold pv
    split <;> simp
theorem wlJ_len (t : Nat → Nat → Int) : ∀ (l : List Int) (i : Nat), (wlJ t i l).length ≤ l.length
  | [], _ => Nat.le_refl _
  | x :: l, i => by
    have := wlJ_len t l (i + 1)
    rw [wlJ, List.length_append, List.length_cons]
    split <;> simp <;> omega
theorem wlJ_bound {t : Nat → Nat → Int} {m : Int} (h : ∀ i k, 0 ≤ t i k ∧ t i k ≤ m) : ∀ (l : List Int) (i : Nat), ∀ x ∈ wlJ t i l, 0 ≤ x ∧ x ≤ m
  | [], _, x, hx => by cases hx
  | y :: l, i, x, hx => by
    rw [wlJ, List.mem_append] at hx
    rcases hx with hx | hx
    · split at hx
      · cases hx
      · simp only [List.mem_singleton] at hx
        subst hx; exact h _ _
    · exact wlJ_bound h l (i + 1) x hx
theorem valJ_bound {t : Nat → Nat → Int} {m : Int} (h : ∀ i k, 0 ≤ t i k ∧ t i k ≤ m) (hm : 0 ≤ m) : ∀ (l : List Int) (i : Nat), 0 ≤ valJ t i l ∧ valJ t i l ≤ m * l.length
  | [], _ => by simp [valJ]
  | x :: l, i => by
    have h1 := valJ_bound h hm l (i + 1)
    have h2 := h i x.toNat
    rw [valJ, List.length_cons, Int.natCast_add, Int.mul_add]
    unfold pv
    split <;> simp <;> omega
section
variable {W : List Int} {s : Int} {L F : List (List Int)} {R : List Int} {A B : Nat → Nat → Int} {N : Nat}
theorem dworth_l1_p {l : List Int} (hl : l.length ≤ 6) (hF : F.length ≤ 6) (hm : l.all (inm F.length) = true) : ∀ (n k : Nat) (acc : List Int), l.length < n + k → k ≤ l.length → acc.length ≤ k → dworth_l1 N n (dkT W s L F R A B) l l.length k acc = some (acc ++ wlJ A k (l.drop k))
  | 0, k, _, h, _, _ => by omega
  | n + 1, k, acc, h, hk, ha => by
    unfold dworth_l1
    by_cases c : k < l.length
    · have hx := List.all_eq_true.1 hm _ (getD_mem (d := 0) c)
      unfold inm at hx
      rw [decide_eq_true_eq] at hx
      have hj : ∀ acc, acc.length ≤ k + 1 → dworth_j1 N (dworth_l1 N n) (dkT W s L F R A B) l l.length k acc = some (acc ++ wlJ A (k + 1) (l.drop (k + 1))) := fun acc ha => by
        have ih := dworth_l1_p hl hF hm n (k + 1) acc (by omega) (by omega) ha
        rw [nat_succ] at ih
        unfold dworth_j1
        rw [chk_eq (by omega), ih]
      rw [br_dec (by omega), idx_eq (by omega) (gets c 0), drop_cons c 0, wlJ]
      by_cases c1 : l.getD k 0 = -1
      · rw [br_nd c1, hj _ (by omega), if_pos c1, List.nil_append]
      · obtain ⟨q, hq⟩ : ∃ q : Nat, l.getD k 0 = q := ⟨(l.getD k 0).toNat, by omega⟩
        rw [br_nnd c1, if_neg c1]
        rw [hq] at hx ⊢
        rw [rng_eq (by omega), rng_eq (by omega)]
        simp only [Int.toNat_natCast]
        rw [get_T (by omega) (by omega), lim_eq (by simp; omega), hj _ (by simp; omega), List.append_assoc]
    · rw [br_ndec (by omega), List.drop_of_length_le (by omega)]
      simp [wlJ]
theorem dworth_v (hN : 110 ≤ N) (hA : ∀ i k, 0 ≤ A i k ∧ A i k ≤ 50) {l : List Int} (hl : l.length ≤ 6) (hF : F.length ≤ 6) (hm : l.all (inm F.length) = true) : dworth_S N (dkT W s L F R A B) l = some (valJ A 0 l) := by
  have e := dworth_l1_p (N := N) (W := W) (s := s) (L := L) (F := F) (R := R) (A := A) (B := B) hl hF hm N 0 [] (by omega) (by omega) (by simp)
  have h1 := wlJ_len A l 0
  rw [show ((0 : Nat) : Int) = 0 from rfl, List.drop_zero, List.nil_append] at e
  unfold dworth_S
  rw [e]
  simp only [Option.bind_some]
  rw [sum_v (m := 1000) (by omega) (by omega) (by omega) (fun x hx => by have := wlJ_bound hA l 0 x hx; omega), wlJ_sum]; rfl
/-- What joins without an error are. -/
theorem errJ_fine {e : Int} {n m : Nat} {can : Nat → Nat → Bool} {l : List Int} (h : errJ e n m can l = 0) : e = 0 ∧ l.length = n ∧ l.all (inm m) = true ∧ alI (dupI l) l.length = true ∧ alI (cnI can l) l.length = true := by
  unfold errJ at h
  split at h
  · rename_i c; exact absurd h c
  rename_i c
  split at h
  · cases h
  rename_i c1
  split at h
  · cases h
  rename_i c2
  split at h
  · cases h
  rename_i c3
  split at h
  · cases h
  rename_i c4
  exact ⟨by omega, by omega, by simpa using c2, by simpa using c3, by simpa using c4⟩
theorem lworth_v (hN : 110 ≤ N) (h : Sm W L F R) {l : List Int} (hl : l.length ≤ 100) : lworth__S N W s L F R l = some (if errJ (errD W s L F R) L.length F.length (canF W s L F) l = 0 then (valJ (agF W L F) 0 l, 0) else (0, errJ (errD W s L F R) L.length F.length (canF W s L F) l)) := by
  unfold lworth__S
  rw [joined_v hN h hl]
  by_cases c : errJ (errD W s L F R) L.length F.length (canF W s L F) l = 0
  · obtain ⟨c1, c2, c3, _⟩ := errJ_fine c
    have hF := errD_iff.1 c1
    have hl6 := hF.l6
    rw [if_pos c, if_pos c]
    simp only [Option.bind_some]
    unfold dkO
    rw [br_nd (by first | trivial | rfl), dworth_v hN (agF_bound hF) (by omega) hF.f6 c3]; rfl
  · rw [if_neg c, if_neg c]
    simp only [Option.bind_some]
    rw [br_nnd c]
/-! ### What may be joined -/
def mayE (can : Nat → Nat → Bool) (m i : Nat) : List (Int × Unit) := (mayL can m i).map fun (j : Nat) => ((j : Int), ())
theorem mayR_T (hF : F.length ≤ 6) {i : Nat} (hi : i < 6) : mayR (dkT W s L F R A B) (dkT W s L F R A B) i = some (mayE (canT A B s) F.length i) := by
  unfold mayR mayE mayL mayF
  rw [if_pos ⟨⟨by omega, by omega⟩, hF, tabA_len _, tabA_len _⟩]
  congr 2
  simp only [Int.toNat_natCast, Nat.sub_zero]
  rw [← List.range_eq_range']
  refine List.filter_congr fun k hk => ?_
  have hk : k < F.length := by simpa [dkT] using hk
  unfold canD canT
  rw [agD_T hi (by omega), slD_T hi (by omega)]; rfl
end
end Go.Proofs.Ythncjilcflilcaa

namespace Go.Proofs.Ythncjilcflilcaa
set_option linter.all false
open Go

section
variable {W : List Int} {s : Int} {L F : List (List Int)} {R : List Int} {A B : Nat → Nat → Int} {N : Nat}
/-- Prices hold for a lost thing. -/
def okS (can : Nat → Nat → Bool) (A : Nat → Nat → Int) (m : Nat) (p q : List Int) (i : Nat) : Bool := (mayL can m i).all fun k => decide (A i k ≤ p.getD i 0 + q.getD k 0)
/-- What prices show. -/
def shR (e : Int) (n m : Nat) (can : Nat → Nat → Bool) (A : Nat → Nat → Int) (p q : List Int) : Int × Int :=
  if ¬ e = 0 then (0, e) else if ¬ (p.length : Int) = (n : Int) then (0, 2) else if ¬ (q.length : Int) = (m : Int) then (0, 2) else if p.all okp = false then (0, 3) else if q.all okp = false then (0, 3) else
  if alI (okS can A m p q) p.length = false then (0, 8) else (p.sum + q.sum, 0)
/-! ### Copies -/
end
end Go.Proofs.Ythncjilcflilcaa

/-
  Parts of a proof, put together: F4, FCo, F6, Fm3, FD1, FD2, FD3, FD4, FD5, FD6, FD7, FD8, FD9, FDa, FDb.
  Conditions: none.
-/
import Derived.Test.YthncjilcflilcaaZd
import Derived.Test.YthncjilcflilcaaZe
import Derived.Test.YthncjilcflilcaaZf
namespace Go.Proofs.Ythncjilcflilcaa
set_option linter.all false
open Go

def made1_S (N : Nat) (often : Int) (g : Li) (g2 : Int) (g3 : Int) : Option (Int × Li × Int × Int) :=
  (seldom_S N often g g2 g3).bind fun (x_1, y_2, y_3, y_4) =>
  br x_1
    (some (-1, y_2, y_3, y_4))
    ((stroke_S N 2 y_2 y_3 y_4).bind fun (x_5, y_6, y_7, y_8) =>
    some (x_5, y_6, y_7, y_8))
noncomputable def made1_sp (N : Nat) : List Spec := [sp_stroke N, sp_seldom N]
theorem made1_all (N : Nat) : AllP (SpecOK Try.prog) (made1_sp N) := ⟨sp_stroke_ok N, sp_seldom_ok N, trivial⟩
noncomputable def made1_c : Code := (Try.f70.body).getD .skip
noncomputable abbrev made1_B : Body := { c := made1_c, n := 9, res := [.tmp 3], outs := [⟨[shI], [.segs [.own 1 0], .segs [.sl (.int .u8), shI, .i .u32]]⟩], m0 := 2 }
abbrev made1_rt : altD made1_B.outs → Option (Int × Li × Int × Int) := fun r => some (r.1.1, r.2.2.1.1, r.2.2.1.2.1, r.2.2.1.2.2.1)
abbrev made1_st : Sta := ⟨[0, 1], ⟨[shI, .own 0 0], [.segs [.own 1 0], .segs [.sl (.int .u8), shI, .i .u32]]⟩⟩
theorem made1_eq (N : Nat) (often : Int) (g : Li) (g2 : Int) (g3 : Int) : ev (Z := Int × Li × Int × Int) Try.prog (made1_sp N) made1_B [] [] (some made1_rt) 400 false [.c [0], .c [1]] (stL made1_st ((often, (), ()), (((), ()), (g, g2, g3, ()), ()))) (stH made1_st ((often, (), ()), (((), ()), (g, g2, g3, ()), ()))) = made1_S N often g g2 g3 := by kernel_rfl
noncomputable def sp_made1 (N : Nat) : Spec := { f := 70, ins := ⟨[shI, .own 0 0], [.segs [.own 1 0], .segs [.sl (.int .u8), shI, .i .u32]]⟩, outs := [⟨[shI], [.segs [.own 1 0], .segs [.sl (.int .u8), shI, .i .u32]]⟩], run := fun p k => (made1_S N p.1.1 p.2.2.1.1 p.2.2.1.2.1 p.2.2.1.2.2.1).bind fun r => k ((r.1, ()), (((), ()), (r.2.1, r.2.2.1, r.2.2.2, ()), ())) }
theorem sp_made1_ok (N : Nat) : SpecOK Try.prog (sp_made1 N) := fn_sound (B := made1_B) (loops := []) (leaves := []) (fun p => made1_S N p.1.1 p.2.2.1.1 p.2.2.1.2.1 p.2.2.1.2.2.1) (fun r => ((r.1, ()), (((), ()), (r.2.1, r.2.2.1, r.2.2.2, ()), ()))) made1_rt (fun _ _ _ => rfl) (fun r z h => by cases h; rfl) Try.func70 (by kernel_rfl) (by kernel_rfl) (by kernel_rfl) rfl rfl (by kernel_rfl) (fun args w => Sem.pv_run _ _ _ (by kernel_rfl) w) (made1_all N) mixed trivial (fun z E Xc hE hX hret => trivial) (fun p => made1_eq N p.1.1 p.2.2.1.1 p.2.2.1.2.1 p.2.2.1.2.2.1)

def made_l1 (N : Nat) : Nat → Int → Int → Int → Li → Int → Int → Int → Int → Li → Option (Int × Li × Int × Int × Int × Int × Li)
  | 0, _, _, _, _, _, _, _, _, _ => none
  | n_ + 1, things, u, u2, b, b2, b3, g, d, d2 =>
    br (decide (u2 < u))
      ((strike_S N 1 9 b b2 b3).bind fun (x_9, y_10, y_11, y_12) =>
      lim (d2.length + [x_9].length) <|
      chk (u2 + 1) <|
      made_l1 N n_ things u (u2 + 1) y_10 y_11 y_12 g d (d2 ++ [x_9]))
      (some ((things, b, b2, b3, g, d, d2)))
def made_l3 (N : Nat) : Nat → Int → Int → Int → Int → Int → Int → Li → Int → Int → Int → Int → Li → Li → Ll → Li → Option (Int × Int × Int × Int × Li × Int × Int × Int × Int × Li × Li × Ll × Li)
  | 0, _, _, _, _, _, _, _, _, _, _, _, _, _, _, _ => none
  | n_ + 1, many, often, u, u2, u3, u4, b, b2, b3, g, d, l, d2, d3, d4 =>
    br (decide (u4 < u3))
      ((made1_S N often b b2 b3).bind fun (x_32, y_33, y_34, y_35) =>
      lim (l.length + [x_32].length) <|
      chk (u4 + 1) <|
      made_l3 N n_ many often u u2 u3 (u4 + 1) y_33 y_34 y_35 g d (l ++ [x_32]) d2 d3 d4)
      (some ((many, often, u, u2, b, b2, b3, g, d, l, d2, d3, d4)))
def made_l2 (N : Nat) : Nat → Int → Int → Int → Int → Li → Int → Int → Int → Int → Li → Ll → Li → Option (Int × Int × Li × Int × Int × Int × Int × Li × Ll × Li)
  | 0, _, _, _, _, _, _, _, _, _, _, _, _ => none
  | n_ + 1, many, often, u, u2, b, b2, b3, g, d, d2, d3, d4 =>
    br (decide (u2 < u))
      ((made_l3 N N many often u u2 (d2.length : Int) 0 b b2 b3 g d [] d2 d3 d4).bind fun (many_36, often_37, u_38, u2_39, b_40, b2_41, b3_42, g_43, d_44, l_45, d2_46, d3_47, d4_48) =>
      lim (d3_47.length + [l_45].length) <|
      (stroke_S N 30 b_40 b2_41 b3_42).bind fun (x_49, y_50, y_51, y_52) =>
      lim (d4_48.length + [x_49].length) <|
      chk (u2_39 + 1) <|
      made_l2 N n_ many_36 often_37 u_38 (u2_39 + 1) y_50 y_51 y_52 g_43 d_44 d2_46 (d3_47 ++ [l_45]) (d4_48 ++ [x_49]))
      (some ((many, often, b, b2, b3, g, d, d2, d3, d4)))
def made_l5 (N : Nat) : Nat → Int → Int → Int → Int → Int → Li → Int → Int → Int → Int → Li → Li → Ll → Ll → Li → Option (Int × Int × Int × Li × Int × Int × Int × Int × Li × Li × Ll × Ll × Li)
  | 0, _, _, _, _, _, _, _, _, _, _, _, _, _, _, _ => none
  | n_ + 1, often, u, u2, u3, u4, value, value2, value3, g, d, l, d2, d3, d4, d5 =>
    br (decide (u4 < u3))
      ((made1_S N often value value2 value3).bind fun (x_63, y_64, y_65, y_66) =>
      lim (l.length + [x_63].length) <|
      chk (u4 + 1) <|
      made_l5 N n_ often u u2 u3 (u4 + 1) y_64 y_65 y_66 g d (l ++ [x_63]) d2 d3 d4 d5)
      (some ((often, u, u2, value, value2, value3, g, d, l, d2, d3, d4, d5)))
def made_l4 (N : Nat) : Nat → Int → Int → Int → Li → Int → Int → Int → Int → Li → Ll → Ll → Li → Option (Li × Int × Int × Int × Int × Li × Ll × Ll × Li)
  | 0, _, _, _, _, _, _, _, _, _, _, _, _ => none
  | n_ + 1, often, u, u2, value, value2, value3, g, d, d2, d3, d4, d5 =>
    br (decide (u2 < u))
      ((made_l5 N N often u u2 (d2.length : Int) 0 value value2 value3 g d [] d2 d3 d4 d5).bind fun (often_67, u_68, u2_69, value_70, value2_71, value3_72, g_73, d_74, l_75, d2_76, d3_77, d4_78, d5_79) =>
      lim (d4_78.length + [l_75].length) <|
      chk (u2_69 + 1) <|
      made_l4 N n_ often_67 u_68 (u2_69 + 1) value_70 value2_71 value3_72 g_73 d_74 d2_76 d3_77 (d4_78 ++ [l_75]) d5_79)
      (some ((value, value2, value3, g, d, d2, d3, d4, d5)))
def made_S (N : Nat) (things : Int) (b : Li) (b2 : Int) (b3 : Int) : Option (Li × Int × Ll × Ll × Li × Li × Int × Int) :=
  (stroke_S N 2 b b2 b3).bind fun (x_1, y_2, y_3, y_4) =>
  (strike_S N 1 5 y_2 y_3 y_4).bind fun (x_5, y_6, y_7, y_8) =>
  (made_l1 N N things x_5 0 y_6 y_7 y_8 0 x_1 []).bind fun (things_13, b_14, b2_15, b3_16, g_17, d_18, d2_19) =>
  (stroke_S N things_13 b_14 b2_15 b3_16).bind fun (x_20, y_21, y_22, y_23) =>
  (strike_S N 2 5 y_21 y_22 y_23).bind fun (x_24, y_25, y_26, y_27) =>
  (stroke_S N things_13 y_25 y_26 y_27).bind fun (x_28, y_29, y_30, y_31) =>
  (made_l2 N N x_20 x_24 x_28 0 y_29 y_30 y_31 g_17 d_18 d2_19 [] []).bind fun (many_53, often_54, value_55, value2_56, value3_57, g_58, d_59, d2_60, d3_61, d4_62) =>
  (made_l4 N N often_54 many_53 0 value_55 value2_56 value3_57 g_58 d_59 d2_60 d3_61 [] d4_62).bind fun (g_80, g2_81, g3_82, g4_83, d_84, d2_85, d3_86, d4_87, d5_88) =>
  some (d2_85, d_84, d3_86, d4_87, d5_88, g_80, g2_81, g3_82)
noncomputable def made_sp (N : Nat) : List Spec := [sp_stroke N, sp_strike N, sp_made1 N]
theorem made_all (N : Nat) : AllP (SpecOK Try.prog) (made_sp N) := ⟨sp_stroke_ok N, sp_strike_ok N, sp_made1_ok N, trivial⟩
noncomputable def made_c : Code := (Try.f17.body).getD .skip
noncomputable abbrev made_B : Body := { c := made_c, n := 86, res := [.cell 4 26], outs := [⟨[shG], [.segs [.sl (.int .u8), shI, .i .u32]]⟩], m0 := 1 }
abbrev made_rt : altD made_B.outs → Option (Li × Int × Ll × Ll × Li × Li × Int × Int) := fun r => some (r.1.1.1, r.1.1.2.1, r.1.1.2.2.1, r.1.1.2.2.2.1, r.1.1.2.2.2.2.1, r.2.1.1, r.2.1.2.1, r.2.1.2.2.1)
abbrev made_l1_at : List PI := [.c [1, 1, 0, 1, 0, 0, 0], .c [1, 1, 0, 1, 0, 0, 1], .l [1, 1, 0, 1, 0, 0], .b 0, .c [1, 1, 1]]
abbrev made_l1_st : Sta := ⟨[1, 2, 4, 5, 15, 16], ⟨[shI, .own 1 0, .own 2 0, .own 3 0, shI, shI], [.segs [.sl (.int .u8), shI, .i .u32], .segs [.own 0 0], .segs [.nils, shI, .nils, .nils, .nils], .segs [.ols 4, shI, .nils, .nils, .nils], .lst (.int .i64)]⟩⟩
abbrev made_l1_h (rec : Int → Int → Int → Li → Int → Int → Int → Int → Li → Option (Int × Li × Int × Int × Int × Int × Li)) : Leaf (Int × Li × Int × Int × Int × Int × Li) := ⟨made_l1_at, made_l1_st, fun p => rec p.1.1 p.1.2.2.2.2.1 p.1.2.2.2.2.2.1 p.2.1.1 p.2.1.2.1 p.2.1.2.2.1 p.2.2.2.1.2.1 p.2.2.2.2.1.2.1 p.2.2.2.2.2.1⟩
abbrev made_l1_e0 : Leaf (Int × Li × Int × Int × Int × Int × Li) := ⟨[.c [1, 1, 1, 0], .c [1, 1, 1, 1]], ⟨[1, 2, 4, 5], ⟨[shI, .own 1 0, .own 2 0, .own 3 0], [.segs [.sl (.int .u8), shI, .i .u32], .segs [.own 0 0], .segs [.nils, shI, .nils, .nils, .nils], .segs [.ols 4, shI, .nils, .nils, .nils], .lst (.int .i64)]⟩⟩, fun p => some ((p.1.1, p.2.1.1, p.2.1.2.1, p.2.1.2.2.1, p.2.2.2.1.2.1, p.2.2.2.2.1.2.1, p.2.2.2.2.2.1))⟩
noncomputable def made_l1_L (N : Nat) : LoopS := { at_ := made_l1_at, sta := made_l1_st, exits := [([.c [1, 1, 1, 0], .c [1, 1, 1, 1]], ⟨[1, 2, 4, 5], ⟨[shI, .own 1 0, .own 2 0, .own 3 0], [.segs [.sl (.int .u8), shI, .i .u32], .segs [.own 0 0], .segs [.nils, shI, .nils, .nils, .nils], .segs [.ols 4, shI, .nils, .nils, .nils], .lst (.int .i64)]⟩⟩)], run := fun p k => (made_l1 N N p.1.1 p.1.2.2.2.2.1 p.1.2.2.2.2.2.1 p.2.1.1 p.2.1.2.1 p.2.1.2.2.1 p.2.2.2.1.2.1 p.2.2.2.2.1.2.1 p.2.2.2.2.2.1).bind fun e => k (.inl ((e.1, (), (), (), ()), ((e.2.1, e.2.2.1, e.2.2.2.1, ()), ((), ()), ((), e.2.2.2.2.1, (), (), (), ()), ((), e.2.2.2.2.2.1, (), (), (), ()), e.2.2.2.2.2.2, ()))) }
theorem made_l1_eq (N n_ : Nat) (things : Int) (u : Int) (u2 : Int) (b : Li) (b2 : Int) (b3 : Int) (g : Int) (d : Int) (d2 : Li) : ev (Z := Int × Li × Int × Int × Int × Int × Li) Try.prog (made_sp N) made_B [] [made_l1_h (made_l1 N n_), made_l1_e0] none 400 true made_l1_at (stL made_l1_st ((things, (), (), (), u, u2, ()), ((b, b2, b3, ()), ((), ()), ((), g, (), (), (), ()), ((), d, (), (), (), ()), d2, ()))) (stH made_l1_st ((things, (), (), (), u, u2, ()), ((b, b2, b3, ()), ((), ()), ((), g, (), (), (), ()), ((), d, (), (), (), ()), d2, ()))) = made_l1 N (n_ + 1) things u u2 b b2 b3 g d d2 := by kernel_rfl
theorem made_l1_ok (N : Nat) {top : Bool} : LoopOK Try.prog made_B.c made_B.n made_B.m0 top (made_l1_L N) := loop_of_ev (Z := Int × Li × Int × Int × Int × Int × Li) (N := N) (fun m p => made_l1 N m p.1.1 p.1.2.2.2.2.1 p.1.2.2.2.2.2.1 p.2.1.1 p.2.1.2.1 p.2.1.2.2.1 p.2.2.2.1.2.1 p.2.2.2.2.1.2.1 p.2.2.2.2.2.1) (fun e => .inl ((e.1, (), (), (), ()), ((e.2.1, e.2.2.1, e.2.2.2.1, ()), ((), ()), ((), e.2.2.2.2.1, (), (), (), ()), ((), e.2.2.2.2.2.1, (), (), (), ()), e.2.2.2.2.2.2, ()))) (fun _ _ _ => rfl) (fun _ => rfl) (fun m z E Xc hE hX hrec hx => leaf_of_ev (B := made_B) (loops := []) (leaves := [made_l1_h (made_l1 N m), made_l1_e0]) (made_all N) mixed trivial hE hX ⟨hrec, (fun p hp => by obtain rfl := Option.some.inj hp; exact hx), trivial⟩ RetOK.no (fun p => made_l1_eq N m p.1.1 p.1.2.2.2.2.1 p.1.2.2.2.2.2.1 p.2.1.1 p.2.1.2.1 p.2.1.2.2.1 p.2.2.2.1.2.1 p.2.2.2.2.1.2.1 p.2.2.2.2.2.1))
abbrev made_l3_at : List PI := [.c [1, 1, 1, 1, 1, 0, 1, 0, 0, 1, 1, 0, 0, 1, 0, 1, 0, 0, 0], .c [1, 1, 1, 1, 1, 0, 1, 0, 0, 1, 1, 0, 0, 1, 0, 1, 0, 0, 1], .l [1, 1, 1, 1, 1, 0, 1, 0, 0, 1, 1, 0, 0, 1, 0, 1, 0, 0], .b 4, .c [1, 1, 1, 1, 1, 0, 1, 0, 0, 1, 1, 0, 0, 1, 1], .b 3, .c [1, 1, 1, 1, 1, 0, 1, 0, 0, 1, 1, 1], .l [1, 1, 1, 1, 1, 0, 1, 0, 0], .b 2, .c [1, 1, 1, 1, 1, 1]]
abbrev made_l3_st : Sta := ⟨[2, 4, 5, 6, 7, 8, 9, 34, 35, 39, 40], ⟨[.own 1 0, .own 2 0, .own 3 0, .fn 70 [] [.own 1 0], shI, shI, .ols 4, shI, shI, shI, shI], [.segs [.sl (.int .u8), shI, .i .u32], .segs [.own 0 0], .segs [.nils, shI, .nils, .nils, .nils], .segs [.ols 5, shI, .ols 6, .nils, .ols 7], .lst (.int .i64), .lst (.int .i64), .lst (.sl (.int .i64)), .lst (.int .i64)]⟩⟩
abbrev made_l3_h (rec : Int → Int → Int → Int → Int → Int → Li → Int → Int → Int → Int → Li → Li → Ll → Li → Option (Int × Int × Int × Int × Li × Int × Int × Int × Int × Li × Li × Ll × Li)) : Leaf (Int × Int × Int × Int × Li × Int × Int × Int × Int × Li × Li × Ll × Li) := ⟨made_l3_at, made_l3_st, fun p => rec p.1.2.2.2.2.1 p.1.2.2.2.2.2.1 p.1.2.2.2.2.2.2.2.1 p.1.2.2.2.2.2.2.2.2.1 p.1.2.2.2.2.2.2.2.2.2.1 p.1.2.2.2.2.2.2.2.2.2.2.1 p.2.1.1 p.2.1.2.1 p.2.1.2.2.1 p.2.2.2.1.2.1 p.2.2.2.2.1.2.1 p.2.2.2.2.2.1 p.2.2.2.2.2.2.1 p.2.2.2.2.2.2.2.1 p.2.2.2.2.2.2.2.2.1⟩
abbrev made_l3_e0 : Leaf (Int × Int × Int × Int × Li × Int × Int × Int × Int × Li × Li × Ll × Li) := ⟨[.c [1, 1, 1, 1, 1, 0, 1, 0, 0, 1, 1, 0, 0, 1, 1], .b 3, .c [1, 1, 1, 1, 1, 0, 1, 0, 0, 1, 1, 1], .l [1, 1, 1, 1, 1, 0, 1, 0, 0], .b 2, .c [1, 1, 1, 1, 1, 1]], ⟨[2, 4, 5, 6, 7, 8, 9, 34, 35], ⟨[.own 1 0, .own 2 0, .own 3 0, .fn 70 [] [.own 1 0], shI, shI, .ols 4, shI, shI], [.segs [.sl (.int .u8), shI, .i .u32], .segs [.own 0 0], .segs [.nils, shI, .nils, .nils, .nils], .segs [.ols 5, shI, .ols 6, .nils, .ols 7], .lst (.int .i64), .lst (.int .i64), .lst (.sl (.int .i64)), .lst (.int .i64)]⟩⟩, fun p => some ((p.1.2.2.2.2.1, p.1.2.2.2.2.2.1, p.1.2.2.2.2.2.2.2.1, p.1.2.2.2.2.2.2.2.2.1, p.2.1.1, p.2.1.2.1, p.2.1.2.2.1, p.2.2.2.1.2.1, p.2.2.2.2.1.2.1, p.2.2.2.2.2.1, p.2.2.2.2.2.2.1, p.2.2.2.2.2.2.2.1, p.2.2.2.2.2.2.2.2.1))⟩
noncomputable def made_l3_L (N : Nat) : LoopS := { at_ := made_l3_at, sta := made_l3_st, exits := [([.c [1, 1, 1, 1, 1, 0, 1, 0, 0, 1, 1, 0, 0, 1, 1], .b 3, .c [1, 1, 1, 1, 1, 0, 1, 0, 0, 1, 1, 1], .l [1, 1, 1, 1, 1, 0, 1, 0, 0], .b 2, .c [1, 1, 1, 1, 1, 1]], ⟨[2, 4, 5, 6, 7, 8, 9, 34, 35], ⟨[.own 1 0, .own 2 0, .own 3 0, .fn 70 [] [.own 1 0], shI, shI, .ols 4, shI, shI], [.segs [.sl (.int .u8), shI, .i .u32], .segs [.own 0 0], .segs [.nils, shI, .nils, .nils, .nils], .segs [.ols 5, shI, .ols 6, .nils, .ols 7], .lst (.int .i64), .lst (.int .i64), .lst (.sl (.int .i64)), .lst (.int .i64)]⟩⟩)], run := fun p k => (made_l3 N N p.1.2.2.2.2.1 p.1.2.2.2.2.2.1 p.1.2.2.2.2.2.2.2.1 p.1.2.2.2.2.2.2.2.2.1 p.1.2.2.2.2.2.2.2.2.2.1 p.1.2.2.2.2.2.2.2.2.2.2.1 p.2.1.1 p.2.1.2.1 p.2.1.2.2.1 p.2.2.2.1.2.1 p.2.2.2.2.1.2.1 p.2.2.2.2.2.1 p.2.2.2.2.2.2.1 p.2.2.2.2.2.2.2.1 p.2.2.2.2.2.2.2.2.1).bind fun e => k (.inl (((), (), (), ((), ((), ())), e.1, e.2.1, (), e.2.2.1, e.2.2.2.1, ()), ((e.2.2.2.2.1, e.2.2.2.2.2.1, e.2.2.2.2.2.2.1, ()), ((), ()), ((), e.2.2.2.2.2.2.2.1, (), (), (), ()), ((), e.2.2.2.2.2.2.2.2.1, (), (), (), ()), e.2.2.2.2.2.2.2.2.2.1, e.2.2.2.2.2.2.2.2.2.2.1, e.2.2.2.2.2.2.2.2.2.2.2.1, e.2.2.2.2.2.2.2.2.2.2.2.2, ()))) }
theorem made_l3_eq (N n_ : Nat) (many : Int) (often : Int) (u : Int) (u2 : Int) (u3 : Int) (u4 : Int) (b : Li) (b2 : Int) (b3 : Int) (g : Int) (d : Int) (l : Li) (d2 : Li) (d3 : Ll) (d4 : Li) : ev (Z := Int × Int × Int × Int × Li × Int × Int × Int × Int × Li × Li × Ll × Li) Try.prog (made_sp N) made_B [made_l1_L N] [made_l3_h (made_l3 N n_), made_l3_e0] none 400 true made_l3_at (stL made_l3_st (((), (), (), ((), ((), ())), many, often, (), u, u2, u3, u4, ()), ((b, b2, b3, ()), ((), ()), ((), g, (), (), (), ()), ((), d, (), (), (), ()), l, d2, d3, d4, ()))) (stH made_l3_st (((), (), (), ((), ((), ())), many, often, (), u, u2, u3, u4, ()), ((b, b2, b3, ()), ((), ()), ((), g, (), (), (), ()), ((), d, (), (), (), ()), l, d2, d3, d4, ()))) = made_l3 N (n_ + 1) many often u u2 u3 u4 b b2 b3 g d l d2 d3 d4 := by kernel_rfl
theorem made_l3_ok (N : Nat) {top : Bool} : LoopOK Try.prog made_B.c made_B.n made_B.m0 top (made_l3_L N) := loop_of_ev (Z := Int × Int × Int × Int × Li × Int × Int × Int × Int × Li × Li × Ll × Li) (N := N) (fun m p => made_l3 N m p.1.2.2.2.2.1 p.1.2.2.2.2.2.1 p.1.2.2.2.2.2.2.2.1 p.1.2.2.2.2.2.2.2.2.1 p.1.2.2.2.2.2.2.2.2.2.1 p.1.2.2.2.2.2.2.2.2.2.2.1 p.2.1.1 p.2.1.2.1 p.2.1.2.2.1 p.2.2.2.1.2.1 p.2.2.2.2.1.2.1 p.2.2.2.2.2.1 p.2.2.2.2.2.2.1 p.2.2.2.2.2.2.2.1 p.2.2.2.2.2.2.2.2.1) (fun e => .inl (((), (), (), ((), ((), ())), e.1, e.2.1, (), e.2.2.1, e.2.2.2.1, ()), ((e.2.2.2.2.1, e.2.2.2.2.2.1, e.2.2.2.2.2.2.1, ()), ((), ()), ((), e.2.2.2.2.2.2.2.1, (), (), (), ()), ((), e.2.2.2.2.2.2.2.2.1, (), (), (), ()), e.2.2.2.2.2.2.2.2.2.1, e.2.2.2.2.2.2.2.2.2.2.1, e.2.2.2.2.2.2.2.2.2.2.2.1, e.2.2.2.2.2.2.2.2.2.2.2.2, ()))) (fun _ _ _ => rfl) (fun _ => rfl) (fun m z E Xc hE hX hrec hx => leaf_of_ev (B := made_B) (loops := [made_l1_L N]) (leaves := [made_l3_h (made_l3 N m), made_l3_e0]) (made_all N) mixed ⟨made_l1_ok N, trivial⟩ hE hX ⟨hrec, (fun p hp => by obtain rfl := Option.some.inj hp; exact hx), trivial⟩ RetOK.no (fun p => made_l3_eq N m p.1.2.2.2.2.1 p.1.2.2.2.2.2.1 p.1.2.2.2.2.2.2.2.1 p.1.2.2.2.2.2.2.2.2.1 p.1.2.2.2.2.2.2.2.2.2.1 p.1.2.2.2.2.2.2.2.2.2.2.1 p.2.1.1 p.2.1.2.1 p.2.1.2.2.1 p.2.2.2.1.2.1 p.2.2.2.2.1.2.1 p.2.2.2.2.2.1 p.2.2.2.2.2.2.1 p.2.2.2.2.2.2.2.1 p.2.2.2.2.2.2.2.2.1))
abbrev made_l2_at : List PI := [.c [1, 1, 1, 1, 1, 0, 1, 0, 0, 0], .c [1, 1, 1, 1, 1, 0, 1, 0, 0, 1], .l [1, 1, 1, 1, 1, 0, 1, 0, 0], .b 2, .c [1, 1, 1, 1, 1, 1]]
abbrev made_l2_st : Sta := ⟨[2, 4, 5, 6, 7, 8, 34, 35], ⟨[.own 1 0, .own 2 0, .own 3 0, .fn 70 [] [.own 1 0], shI, shI, shI, shI], [.segs [.sl (.int .u8), shI, .i .u32], .segs [.own 0 0], .segs [.nils, shI, .nils, .nils, .nils], .segs [.ols 4, shI, .ols 5, .nils, .ols 6], .lst (.int .i64), .lst (.sl (.int .i64)), .lst (.int .i64)]⟩⟩
abbrev made_l2_h (rec : Int → Int → Int → Int → Li → Int → Int → Int → Int → Li → Ll → Li → Option (Int × Int × Li × Int × Int × Int × Int × Li × Ll × Li)) : Leaf (Int × Int × Li × Int × Int × Int × Int × Li × Ll × Li) := ⟨made_l2_at, made_l2_st, fun p => rec p.1.2.2.2.2.1 p.1.2.2.2.2.2.1 p.1.2.2.2.2.2.2.1 p.1.2.2.2.2.2.2.2.1 p.2.1.1 p.2.1.2.1 p.2.1.2.2.1 p.2.2.2.1.2.1 p.2.2.2.2.1.2.1 p.2.2.2.2.2.1 p.2.2.2.2.2.2.1 p.2.2.2.2.2.2.2.1⟩
abbrev made_l2_e0 : Leaf (Int × Int × Li × Int × Int × Int × Int × Li × Ll × Li) := ⟨[.c [1, 1, 1, 1, 1, 1, 0, 0], .c [1, 1, 1, 1, 1, 1, 0, 1], .c [1, 1, 1, 1, 1, 1, 1]], ⟨[4, 5, 6, 7, 8], ⟨[.own 1 0, .own 2 0, .fn 70 [] [.own 3 0], shI, shI], [.segs [.sl (.int .u8), shI, .i .u32], .segs [.nils, shI, .nils, .nils, .nils], .segs [.ols 4, shI, .ols 5, .nils, .ols 6], .segs [.own 0 0], .lst (.int .i64), .lst (.sl (.int .i64)), .lst (.int .i64)]⟩⟩, fun p => some ((p.1.2.2.2.1, p.1.2.2.2.2.1, p.2.1.1, p.2.1.2.1, p.2.1.2.2.1, p.2.2.1.2.1, p.2.2.2.1.2.1, p.2.2.2.2.2.1, p.2.2.2.2.2.2.1, p.2.2.2.2.2.2.2.1))⟩
noncomputable def made_l2_L (N : Nat) : LoopS := { at_ := made_l2_at, sta := made_l2_st, exits := [([.c [1, 1, 1, 1, 1, 1, 0, 0], .c [1, 1, 1, 1, 1, 1, 0, 1], .c [1, 1, 1, 1, 1, 1, 1]], ⟨[4, 5, 6, 7, 8], ⟨[.own 1 0, .own 2 0, .fn 70 [] [.own 3 0], shI, shI], [.segs [.sl (.int .u8), shI, .i .u32], .segs [.nils, shI, .nils, .nils, .nils], .segs [.ols 4, shI, .ols 5, .nils, .ols 6], .segs [.own 0 0], .lst (.int .i64), .lst (.sl (.int .i64)), .lst (.int .i64)]⟩⟩)], run := fun p k => (made_l2 N N p.1.2.2.2.2.1 p.1.2.2.2.2.2.1 p.1.2.2.2.2.2.2.1 p.1.2.2.2.2.2.2.2.1 p.2.1.1 p.2.1.2.1 p.2.1.2.2.1 p.2.2.2.1.2.1 p.2.2.2.2.1.2.1 p.2.2.2.2.2.1 p.2.2.2.2.2.2.1 p.2.2.2.2.2.2.2.1).bind fun e => k (.inl (((), (), ((), ((), ())), e.1, e.2.1, ()), ((e.2.2.1, e.2.2.2.1, e.2.2.2.2.1, ()), ((), e.2.2.2.2.2.1, (), (), (), ()), ((), e.2.2.2.2.2.2.1, (), (), (), ()), ((), ()), e.2.2.2.2.2.2.2.1, e.2.2.2.2.2.2.2.2.1, e.2.2.2.2.2.2.2.2.2, ()))) }
theorem made_l2_eq (N n_ : Nat) (many : Int) (often : Int) (u : Int) (u2 : Int) (b : Li) (b2 : Int) (b3 : Int) (g : Int) (d : Int) (d2 : Li) (d3 : Ll) (d4 : Li) : ev (Z := Int × Int × Li × Int × Int × Int × Int × Li × Ll × Li) Try.prog (made_sp N) made_B [made_l1_L N, made_l3_L N] [made_l2_h (made_l2 N n_), made_l2_e0] none 400 true made_l2_at (stL made_l2_st (((), (), (), ((), ((), ())), many, often, u, u2, ()), ((b, b2, b3, ()), ((), ()), ((), g, (), (), (), ()), ((), d, (), (), (), ()), d2, d3, d4, ()))) (stH made_l2_st (((), (), (), ((), ((), ())), many, often, u, u2, ()), ((b, b2, b3, ()), ((), ()), ((), g, (), (), (), ()), ((), d, (), (), (), ()), d2, d3, d4, ()))) = made_l2 N (n_ + 1) many often u u2 b b2 b3 g d d2 d3 d4 := by kernel_rfl
theorem made_l2_ok (N : Nat) {top : Bool} : LoopOK Try.prog made_B.c made_B.n made_B.m0 top (made_l2_L N) := loop_of_ev (Z := Int × Int × Li × Int × Int × Int × Int × Li × Ll × Li) (N := N) (fun m p => made_l2 N m p.1.2.2.2.2.1 p.1.2.2.2.2.2.1 p.1.2.2.2.2.2.2.1 p.1.2.2.2.2.2.2.2.1 p.2.1.1 p.2.1.2.1 p.2.1.2.2.1 p.2.2.2.1.2.1 p.2.2.2.2.1.2.1 p.2.2.2.2.2.1 p.2.2.2.2.2.2.1 p.2.2.2.2.2.2.2.1) (fun e => .inl (((), (), ((), ((), ())), e.1, e.2.1, ()), ((e.2.2.1, e.2.2.2.1, e.2.2.2.2.1, ()), ((), e.2.2.2.2.2.1, (), (), (), ()), ((), e.2.2.2.2.2.2.1, (), (), (), ()), ((), ()), e.2.2.2.2.2.2.2.1, e.2.2.2.2.2.2.2.2.1, e.2.2.2.2.2.2.2.2.2, ()))) (fun _ _ _ => rfl) (fun _ => rfl) (fun m z E Xc hE hX hrec hx => leaf_of_ev (B := made_B) (loops := [made_l1_L N, made_l3_L N]) (leaves := [made_l2_h (made_l2 N m), made_l2_e0]) (made_all N) mixed ⟨made_l1_ok N, made_l3_ok N, trivial⟩ hE hX ⟨hrec, (fun p hp => by obtain rfl := Option.some.inj hp; exact hx), trivial⟩ RetOK.no (fun p => made_l2_eq N m p.1.2.2.2.2.1 p.1.2.2.2.2.2.1 p.1.2.2.2.2.2.2.1 p.1.2.2.2.2.2.2.2.1 p.2.1.1 p.2.1.2.1 p.2.1.2.2.1 p.2.2.2.1.2.1 p.2.2.2.2.1.2.1 p.2.2.2.2.2.1 p.2.2.2.2.2.2.1 p.2.2.2.2.2.2.2.1))
abbrev made_l5_at : List PI := [.c [1, 1, 1, 1, 1, 1, 0, 1, 0, 0, 1, 1, 0, 0, 1, 0, 1, 0, 0, 0], .c [1, 1, 1, 1, 1, 1, 0, 1, 0, 0, 1, 1, 0, 0, 1, 0, 1, 0, 0, 1], .l [1, 1, 1, 1, 1, 1, 0, 1, 0, 0, 1, 1, 0, 0, 1, 0, 1, 0, 0], .b 8, .c [1, 1, 1, 1, 1, 1, 0, 1, 0, 0, 1, 1, 0, 0, 1, 1], .b 7, .c [1, 1, 1, 1, 1, 1, 0, 1, 0, 0, 1, 1, 1], .l [1, 1, 1, 1, 1, 1, 0, 1, 0, 0], .b 6, .c [1, 1, 1, 1, 1, 1, 1]]
abbrev made_l5_st : Sta := ⟨[4, 5, 6, 8, 10, 63, 64, 68, 69], ⟨[.own 1 0, .own 2 0, .fn 70 [] [.own 3 0], shI, .ols 4, shI, shI, shI, shI], [.segs [.sl (.int .u8), shI, .i .u32], .segs [.nils, shI, .nils, .nils, .nils], .segs [.ols 5, shI, .ols 6, .ols 7, .ols 8], .segs [.own 0 0], .lst (.int .i64), .lst (.int .i64), .lst (.sl (.int .i64)), .lst (.sl (.int .i64)), .lst (.int .i64)]⟩⟩
abbrev made_l5_h (rec : Int → Int → Int → Int → Int → Li → Int → Int → Int → Int → Li → Li → Ll → Ll → Li → Option (Int × Int × Int × Li × Int × Int × Int × Int × Li × Li × Ll × Ll × Li)) : Leaf (Int × Int × Int × Li × Int × Int × Int × Int × Li × Li × Ll × Ll × Li) := ⟨made_l5_at, made_l5_st, fun p => rec p.1.2.2.2.1 p.1.2.2.2.2.2.1 p.1.2.2.2.2.2.2.1 p.1.2.2.2.2.2.2.2.1 p.1.2.2.2.2.2.2.2.2.1 p.2.1.1 p.2.1.2.1 p.2.1.2.2.1 p.2.2.1.2.1 p.2.2.2.1.2.1 p.2.2.2.2.2.1 p.2.2.2.2.2.2.1 p.2.2.2.2.2.2.2.1 p.2.2.2.2.2.2.2.2.1 p.2.2.2.2.2.2.2.2.2.1⟩
abbrev made_l5_e0 : Leaf (Int × Int × Int × Li × Int × Int × Int × Int × Li × Li × Ll × Ll × Li) := ⟨[.c [1, 1, 1, 1, 1, 1, 0, 1, 0, 0, 1, 1, 0, 0, 1, 1], .b 7, .c [1, 1, 1, 1, 1, 1, 0, 1, 0, 0, 1, 1, 1], .l [1, 1, 1, 1, 1, 1, 0, 1, 0, 0], .b 6, .c [1, 1, 1, 1, 1, 1, 1]], ⟨[4, 5, 6, 8, 10, 63, 64], ⟨[.own 1 0, .own 2 0, .fn 70 [] [.own 3 0], shI, .ols 4, shI, shI], [.segs [.sl (.int .u8), shI, .i .u32], .segs [.nils, shI, .nils, .nils, .nils], .segs [.ols 5, shI, .ols 6, .ols 7, .ols 8], .segs [.own 0 0], .lst (.int .i64), .lst (.int .i64), .lst (.sl (.int .i64)), .lst (.sl (.int .i64)), .lst (.int .i64)]⟩⟩, fun p => some ((p.1.2.2.2.1, p.1.2.2.2.2.2.1, p.1.2.2.2.2.2.2.1, p.2.1.1, p.2.1.2.1, p.2.1.2.2.1, p.2.2.1.2.1, p.2.2.2.1.2.1, p.2.2.2.2.2.1, p.2.2.2.2.2.2.1, p.2.2.2.2.2.2.2.1, p.2.2.2.2.2.2.2.2.1, p.2.2.2.2.2.2.2.2.2.1))⟩
noncomputable def made_l5_L (N : Nat) : LoopS := { at_ := made_l5_at, sta := made_l5_st, exits := [([.c [1, 1, 1, 1, 1, 1, 0, 1, 0, 0, 1, 1, 0, 0, 1, 1], .b 7, .c [1, 1, 1, 1, 1, 1, 0, 1, 0, 0, 1, 1, 1], .l [1, 1, 1, 1, 1, 1, 0, 1, 0, 0], .b 6, .c [1, 1, 1, 1, 1, 1, 1]], ⟨[4, 5, 6, 8, 10, 63, 64], ⟨[.own 1 0, .own 2 0, .fn 70 [] [.own 3 0], shI, .ols 4, shI, shI], [.segs [.sl (.int .u8), shI, .i .u32], .segs [.nils, shI, .nils, .nils, .nils], .segs [.ols 5, shI, .ols 6, .ols 7, .ols 8], .segs [.own 0 0], .lst (.int .i64), .lst (.int .i64), .lst (.sl (.int .i64)), .lst (.sl (.int .i64)), .lst (.int .i64)]⟩⟩)], run := fun p k => (made_l5 N N p.1.2.2.2.1 p.1.2.2.2.2.2.1 p.1.2.2.2.2.2.2.1 p.1.2.2.2.2.2.2.2.1 p.1.2.2.2.2.2.2.2.2.1 p.2.1.1 p.2.1.2.1 p.2.1.2.2.1 p.2.2.1.2.1 p.2.2.2.1.2.1 p.2.2.2.2.2.1 p.2.2.2.2.2.2.1 p.2.2.2.2.2.2.2.1 p.2.2.2.2.2.2.2.2.1 p.2.2.2.2.2.2.2.2.2.1).bind fun e => k (.inl (((), (), ((), ((), ())), e.1, (), e.2.1, e.2.2.1, ()), ((e.2.2.2.1, e.2.2.2.2.1, e.2.2.2.2.2.1, ()), ((), e.2.2.2.2.2.2.1, (), (), (), ()), ((), e.2.2.2.2.2.2.2.1, (), (), (), ()), ((), ()), e.2.2.2.2.2.2.2.2.1, e.2.2.2.2.2.2.2.2.2.1, e.2.2.2.2.2.2.2.2.2.2.1, e.2.2.2.2.2.2.2.2.2.2.2.1, e.2.2.2.2.2.2.2.2.2.2.2.2, ()))) }
theorem made_l5_eq (N n_ : Nat) (often : Int) (u : Int) (u2 : Int) (u3 : Int) (u4 : Int) (value : Li) (value2 : Int) (value3 : Int) (g : Int) (d : Int) (l : Li) (d2 : Li) (d3 : Ll) (d4 : Ll) (d5 : Li) : ev (Z := Int × Int × Int × Li × Int × Int × Int × Int × Li × Li × Ll × Ll × Li) Try.prog (made_sp N) made_B [made_l1_L N, made_l3_L N, made_l2_L N] [made_l5_h (made_l5 N n_), made_l5_e0] none 400 true made_l5_at (stL made_l5_st (((), (), ((), ((), ())), often, (), u, u2, u3, u4, ()), ((value, value2, value3, ()), ((), g, (), (), (), ()), ((), d, (), (), (), ()), ((), ()), l, d2, d3, d4, d5, ()))) (stH made_l5_st (((), (), ((), ((), ())), often, (), u, u2, u3, u4, ()), ((value, value2, value3, ()), ((), g, (), (), (), ()), ((), d, (), (), (), ()), ((), ()), l, d2, d3, d4, d5, ()))) = made_l5 N (n_ + 1) often u u2 u3 u4 value value2 value3 g d l d2 d3 d4 d5 := by kernel_rfl
theorem made_l5_ok (N : Nat) {top : Bool} : LoopOK Try.prog made_B.c made_B.n made_B.m0 top (made_l5_L N) := loop_of_ev (Z := Int × Int × Int × Li × Int × Int × Int × Int × Li × Li × Ll × Ll × Li) (N := N) (fun m p => made_l5 N m p.1.2.2.2.1 p.1.2.2.2.2.2.1 p.1.2.2.2.2.2.2.1 p.1.2.2.2.2.2.2.2.1 p.1.2.2.2.2.2.2.2.2.1 p.2.1.1 p.2.1.2.1 p.2.1.2.2.1 p.2.2.1.2.1 p.2.2.2.1.2.1 p.2.2.2.2.2.1 p.2.2.2.2.2.2.1 p.2.2.2.2.2.2.2.1 p.2.2.2.2.2.2.2.2.1 p.2.2.2.2.2.2.2.2.2.1) (fun e => .inl (((), (), ((), ((), ())), e.1, (), e.2.1, e.2.2.1, ()), ((e.2.2.2.1, e.2.2.2.2.1, e.2.2.2.2.2.1, ()), ((), e.2.2.2.2.2.2.1, (), (), (), ()), ((), e.2.2.2.2.2.2.2.1, (), (), (), ()), ((), ()), e.2.2.2.2.2.2.2.2.1, e.2.2.2.2.2.2.2.2.2.1, e.2.2.2.2.2.2.2.2.2.2.1, e.2.2.2.2.2.2.2.2.2.2.2.1, e.2.2.2.2.2.2.2.2.2.2.2.2, ()))) (fun _ _ _ => rfl) (fun _ => rfl) (fun m z E Xc hE hX hrec hx => leaf_of_ev (B := made_B) (loops := [made_l1_L N, made_l3_L N, made_l2_L N]) (leaves := [made_l5_h (made_l5 N m), made_l5_e0]) (made_all N) mixed ⟨made_l1_ok N, made_l3_ok N, made_l2_ok N, trivial⟩ hE hX ⟨hrec, (fun p hp => by obtain rfl := Option.some.inj hp; exact hx), trivial⟩ RetOK.no (fun p => made_l5_eq N m p.1.2.2.2.1 p.1.2.2.2.2.2.1 p.1.2.2.2.2.2.2.1 p.1.2.2.2.2.2.2.2.1 p.1.2.2.2.2.2.2.2.2.1 p.2.1.1 p.2.1.2.1 p.2.1.2.2.1 p.2.2.1.2.1 p.2.2.2.1.2.1 p.2.2.2.2.2.1 p.2.2.2.2.2.2.1 p.2.2.2.2.2.2.2.1 p.2.2.2.2.2.2.2.2.1 p.2.2.2.2.2.2.2.2.2.1))
abbrev made_l4_at : List PI := [.c [1, 1, 1, 1, 1, 1, 0, 1, 0, 0, 0], .c [1, 1, 1, 1, 1, 1, 0, 1, 0, 0, 1], .l [1, 1, 1, 1, 1, 1, 0, 1, 0, 0], .b 6, .c [1, 1, 1, 1, 1, 1, 1]]
abbrev made_l4_st : Sta := ⟨[4, 5, 6, 8, 63, 64], ⟨[.own 1 0, .own 2 0, .fn 70 [] [.own 3 0], shI, shI, shI], [.segs [.sl (.int .u8), shI, .i .u32], .segs [.nils, shI, .nils, .nils, .nils], .segs [.ols 4, shI, .ols 5, .ols 6, .ols 7], .segs [.own 0 0], .lst (.int .i64), .lst (.sl (.int .i64)), .lst (.sl (.int .i64)), .lst (.int .i64)]⟩⟩
abbrev made_l4_h (rec : Int → Int → Int → Li → Int → Int → Int → Int → Li → Ll → Ll → Li → Option (Li × Int × Int × Int × Int × Li × Ll × Ll × Li)) : Leaf (Li × Int × Int × Int × Int × Li × Ll × Ll × Li) := ⟨made_l4_at, made_l4_st, fun p => rec p.1.2.2.2.1 p.1.2.2.2.2.1 p.1.2.2.2.2.2.1 p.2.1.1 p.2.1.2.1 p.2.1.2.2.1 p.2.2.1.2.1 p.2.2.2.1.2.1 p.2.2.2.2.2.1 p.2.2.2.2.2.2.1 p.2.2.2.2.2.2.2.1 p.2.2.2.2.2.2.2.2.1⟩
abbrev made_l4_e0 : Leaf (Li × Int × Int × Int × Int × Li × Ll × Ll × Li) := ⟨[.c [1, 1, 1, 1, 1, 1, 1, 0], .c [1, 1, 1, 1, 1, 1, 1, 1]], ⟨[4, 5], ⟨[.own 1 0, .own 2 0], [.segs [.sl (.int .u8), shI, .i .u32], .segs [.nils, shI, .nils, .nils, .nils], .segs [.ols 3, shI, .ols 4, .ols 5, .ols 6], .lst (.int .i64), .lst (.sl (.int .i64)), .lst (.sl (.int .i64)), .lst (.int .i64)]⟩⟩, fun p => some ((p.2.1.1, p.2.1.2.1, p.2.1.2.2.1, p.2.2.1.2.1, p.2.2.2.1.2.1, p.2.2.2.2.1, p.2.2.2.2.2.1, p.2.2.2.2.2.2.1, p.2.2.2.2.2.2.2.1))⟩
noncomputable def made_l4_L (N : Nat) : LoopS := { at_ := made_l4_at, sta := made_l4_st, exits := [([.c [1, 1, 1, 1, 1, 1, 1, 0], .c [1, 1, 1, 1, 1, 1, 1, 1]], ⟨[4, 5], ⟨[.own 1 0, .own 2 0], [.segs [.sl (.int .u8), shI, .i .u32], .segs [.nils, shI, .nils, .nils, .nils], .segs [.ols 3, shI, .ols 4, .ols 5, .ols 6], .lst (.int .i64), .lst (.sl (.int .i64)), .lst (.sl (.int .i64)), .lst (.int .i64)]⟩⟩)], run := fun p k => (made_l4 N N p.1.2.2.2.1 p.1.2.2.2.2.1 p.1.2.2.2.2.2.1 p.2.1.1 p.2.1.2.1 p.2.1.2.2.1 p.2.2.1.2.1 p.2.2.2.1.2.1 p.2.2.2.2.2.1 p.2.2.2.2.2.2.1 p.2.2.2.2.2.2.2.1 p.2.2.2.2.2.2.2.2.1).bind fun e => k (.inl (((), (), ()), ((e.1, e.2.1, e.2.2.1, ()), ((), e.2.2.2.1, (), (), (), ()), ((), e.2.2.2.2.1, (), (), (), ()), e.2.2.2.2.2.1, e.2.2.2.2.2.2.1, e.2.2.2.2.2.2.2.1, e.2.2.2.2.2.2.2.2, ()))) }
theorem made_l4_eq (N n_ : Nat) (often : Int) (u : Int) (u2 : Int) (value : Li) (value2 : Int) (value3 : Int) (g : Int) (d : Int) (d2 : Li) (d3 : Ll) (d4 : Ll) (d5 : Li) : ev (Z := Li × Int × Int × Int × Int × Li × Ll × Ll × Li) Try.prog (made_sp N) made_B [made_l1_L N, made_l3_L N, made_l2_L N, made_l5_L N] [made_l4_h (made_l4 N n_), made_l4_e0] none 400 true made_l4_at (stL made_l4_st (((), (), ((), ((), ())), often, u, u2, ()), ((value, value2, value3, ()), ((), g, (), (), (), ()), ((), d, (), (), (), ()), ((), ()), d2, d3, d4, d5, ()))) (stH made_l4_st (((), (), ((), ((), ())), often, u, u2, ()), ((value, value2, value3, ()), ((), g, (), (), (), ()), ((), d, (), (), (), ()), ((), ()), d2, d3, d4, d5, ()))) = made_l4 N (n_ + 1) often u u2 value value2 value3 g d d2 d3 d4 d5 := by kernel_rfl
theorem made_l4_ok (N : Nat) {top : Bool} : LoopOK Try.prog made_B.c made_B.n made_B.m0 top (made_l4_L N) := loop_of_ev (Z := Li × Int × Int × Int × Int × Li × Ll × Ll × Li) (N := N) (fun m p => made_l4 N m p.1.2.2.2.1 p.1.2.2.2.2.1 p.1.2.2.2.2.2.1 p.2.1.1 p.2.1.2.1 p.2.1.2.2.1 p.2.2.1.2.1 p.2.2.2.1.2.1 p.2.2.2.2.2.1 p.2.2.2.2.2.2.1 p.2.2.2.2.2.2.2.1 p.2.2.2.2.2.2.2.2.1) (fun e => .inl (((), (), ()), ((e.1, e.2.1, e.2.2.1, ()), ((), e.2.2.2.1, (), (), (), ()), ((), e.2.2.2.2.1, (), (), (), ()), e.2.2.2.2.2.1, e.2.2.2.2.2.2.1, e.2.2.2.2.2.2.2.1, e.2.2.2.2.2.2.2.2, ()))) (fun _ _ _ => rfl) (fun _ => rfl) (fun m z E Xc hE hX hrec hx => leaf_of_ev (B := made_B) (loops := [made_l1_L N, made_l3_L N, made_l2_L N, made_l5_L N]) (leaves := [made_l4_h (made_l4 N m), made_l4_e0]) (made_all N) mixed ⟨made_l1_ok N, made_l3_ok N, made_l2_ok N, made_l5_ok N, trivial⟩ hE hX ⟨hrec, (fun p hp => by obtain rfl := Option.some.inj hp; exact hx), trivial⟩ RetOK.no (fun p => made_l4_eq N m p.1.2.2.2.1 p.1.2.2.2.2.1 p.1.2.2.2.2.2.1 p.2.1.1 p.2.1.2.1 p.2.1.2.2.1 p.2.2.1.2.1 p.2.2.2.1.2.1 p.2.2.2.2.2.1 p.2.2.2.2.2.2.1 p.2.2.2.2.2.2.2.1 p.2.2.2.2.2.2.2.2.1))
abbrev made_st : Sta := ⟨[0, 1], ⟨[.own 0 0, shI], [.segs [.sl (.int .u8), shI, .i .u32]]⟩⟩
theorem made_eq (N : Nat) (things : Int) (b : Li) (b2 : Int) (b3 : Int) : ev (Z := Li × Int × Ll × Ll × Li × Li × Int × Int) Try.prog (made_sp N) made_B [made_l1_L N, made_l3_L N, made_l2_L N, made_l5_L N, made_l4_L N] [] (some made_rt) 400 false [.c [0], .c [1]] (stL made_st (((), things, ()), ((b, b2, b3, ()), ()))) (stH made_st (((), things, ()), ((b, b2, b3, ()), ()))) = made_S N things b b2 b3 := by kernel_rfl
noncomputable def sp_made (N : Nat) : Spec := { f := 17, ins := ⟨[.own 0 0, shI], [.segs [.sl (.int .u8), shI, .i .u32]]⟩, outs := [⟨[shG], [.segs [.sl (.int .u8), shI, .i .u32]]⟩], run := fun p k => (made_S N p.1.2.1 p.2.1.1 p.2.1.2.1 p.2.1.2.2.1).bind fun r => k (((r.1, r.2.1, r.2.2.1, r.2.2.2.1, r.2.2.2.2.1, ()), ()), ((r.2.2.2.2.2.1, r.2.2.2.2.2.2.1, r.2.2.2.2.2.2.2, ()), ())) }
theorem sp_made_ok (N : Nat) : SpecOK Try.prog (sp_made N) := fn_sound (B := made_B) (loops := [made_l1_L N, made_l3_L N, made_l2_L N, made_l5_L N, made_l4_L N]) (leaves := []) (fun p => made_S N p.1.2.1 p.2.1.1 p.2.1.2.1 p.2.1.2.2.1) (fun r => (((r.1, r.2.1, r.2.2.1, r.2.2.2.1, r.2.2.2.2.1, ()), ()), ((r.2.2.2.2.2.1, r.2.2.2.2.2.2.1, r.2.2.2.2.2.2.2, ()), ()))) made_rt (fun _ _ _ => rfl) (fun r z h => by cases h; rfl) Try.func17 (by kernel_rfl) (by kernel_rfl) (by kernel_rfl) rfl rfl (by kernel_rfl) (fun args w => Sem.pv_run _ _ _ (by kernel_rfl) w) (made_all N) mixed ⟨made_l1_ok N, made_l3_ok N, made_l2_ok N, made_l5_ok N, made_l4_ok N, trivial⟩ (fun z E Xc hE hX hret => trivial) (fun p => made_eq N p.1.2.1 p.2.1.1 p.2.1.2.1 p.2.1.2.2.1)

def lpair_j1 (N : Nat) (rec : Int → Int → Int → Li → Int → Int → Li → Int → Ll → Ll → Li → Option (Int × Int × Li × Int × Ll × Ll × Li)) (found : Int) (n : Int) (slips : Int) (u : Li) (u2 : Int) (u3 : Int) (d : Li) (d2 : Int) (d3 : Ll) (d4 : Ll) (d5 : Li) : Option (Int × Int × Li × Int × Ll × Ll × Li) :=
  chk (u3 + 1) <|
  rec found n slips u u2 (u3 + 1) d d2 d3 d4 d5
def lpair_l1 (N : Nat) : Nat → Int → Int → Int → Li → Int → Int → Li → Int → Ll → Ll → Li → Option (Int × Int × Li × Int × Ll × Ll × Li)
  | 0, _, _, _, _, _, _, _, _, _, _, _ => none
  | n_ + 1, found, n, slips, u, u2, u3, d, d2, d3, d4, d5 =>
    br (decide (u3 < u2))
      (idx u u3 fun x_2 =>
      idx d4 found fun x_3 =>
      idx x_3 u3 fun x_4 =>
      br (decide (x_2 = -1))
        (lpair_j1 N (lpair_l1 N n_) found n slips u u2 u3 d d2 d3 d4 d5)
        (br (decide (x_4 = -1))
          (lpair_j1 N (lpair_l1 N n_) found n slips u u2 u3 d d2 d3 d4 d5)
          (br (decide (x_2 = x_4))
            (idx d u3 fun x_5 =>
            chk (n + x_5) <|
            lpair_j1 N (lpair_l1 N n_) found (n + x_5) slips u u2 u3 d d2 d3 d4 d5)
            (chk (slips + 1) <|
            lpair_j1 N (lpair_l1 N n_) found n (slips + 1) u u2 u3 d d2 d3 d4 d5))))
      (some ((n, slips, d, d2, d3, d4, d5)))
def lpair_S (N : Nat) (d : Li) (d2 : Int) (d3 : Ll) (d4 : Ll) (d5 : Li) (lost : Int) (found : Int) : Option (Int × Bool) :=
  idx d3 lost fun x_1 =>
  (lpair_l1 N N found 0 0 x_1 (x_1.length : Int) 0 d d2 d3 d4 d5).bind fun (n_6, slips_7, d_8, d2_9, d3_10, d4_11, d5_12) =>
  br (decide (0 < n_6))
    (some (n_6, (decide (slips_7 ≤ d2_9))))
    (some (n_6, false))
noncomputable def lpair_sp (N : Nat) : List Spec := []
theorem lpair_all (N : Nat) : AllP (SpecOK Try.prog) (lpair_sp N) := trivial
noncomputable def lpair_c : Code := (Try.f37.body).getD .skip
noncomputable abbrev lpair_B : Body := { c := lpair_c, n := 62, res := [.tmp 6, .tmp 7], outs := [⟨[shI, .b], []⟩], m0 := 0 }
abbrev lpair_rt : altD lpair_B.outs → Option (Int × Bool) := fun r => some (r.1.1, r.1.2.1)
abbrev lpair_l1_at : List PI := [.c [1, 1, 0, 1, 0, 0, 0], .c [1, 1, 0, 1, 0, 0, 1], .l [1, 1, 0, 1, 0, 0], .b 0, .c [1, 1, 1]]
abbrev lpair_l1_st : Sta := ⟨[2, 3, 8, 9, 17, 18, 19], ⟨[shI, .own 0 0, shI, shI, shL, shI, shI], [.segs [shL, shI, shQ, shQ, shL]]⟩⟩
abbrev lpair_l1_h (rec : Int → Int → Int → Li → Int → Int → Li → Int → Ll → Ll → Li → Option (Int × Int × Li × Int × Ll × Ll × Li)) : Leaf (Int × Int × Li × Int × Ll × Ll × Li) := ⟨lpair_l1_at, lpair_l1_st, fun p => rec p.1.1 p.1.2.2.1 p.1.2.2.2.1 p.1.2.2.2.2.1 p.1.2.2.2.2.2.1 p.1.2.2.2.2.2.2.1 p.2.1.1 p.2.1.2.1 p.2.1.2.2.1 p.2.1.2.2.2.1 p.2.1.2.2.2.2.1⟩
abbrev lpair_l1_e0 : Leaf (Int × Int × Li × Int × Ll × Ll × Li) := ⟨[.c [1, 1, 1, 0], .c [1, 1, 1, 1]], ⟨[3, 8, 9], ⟨[.own 0 0, shI, shI], [.segs [shL, shI, shQ, shQ, shL]]⟩⟩, fun p => some ((p.1.2.1, p.1.2.2.1, p.2.1.1, p.2.1.2.1, p.2.1.2.2.1, p.2.1.2.2.2.1, p.2.1.2.2.2.2.1))⟩
abbrev lpair_j1_at : List PI := [.c [1, 1, 0, 1, 0, 0, 1, 1, 1], .l [1, 1, 0, 1, 0, 0], .b 0, .c [1, 1, 1]]
abbrev lpair_j1_st : Sta := ⟨[2, 3, 8, 9, 17, 18, 19], ⟨[shI, .own 0 0, shI, shI, shL, shI, shI], [.segs [shL, shI, shQ, shQ, shL]]⟩⟩
abbrev lpair_j1_k (N : Nat) (rec : Int → Int → Int → Li → Int → Int → Li → Int → Ll → Ll → Li → Option (Int × Int × Li × Int × Ll × Ll × Li)) : Leaf (Int × Int × Li × Int × Ll × Ll × Li) := ⟨lpair_j1_at, lpair_j1_st, fun p => lpair_j1 N rec p.1.1 p.1.2.2.1 p.1.2.2.2.1 p.1.2.2.2.2.1 p.1.2.2.2.2.2.1 p.1.2.2.2.2.2.2.1 p.2.1.1 p.2.1.2.1 p.2.1.2.2.1 p.2.1.2.2.2.1 p.2.1.2.2.2.2.1⟩
theorem lpair_j1_eq (N : Nat) (rec : Int → Int → Int → Li → Int → Int → Li → Int → Ll → Ll → Li → Option (Int × Int × Li × Int × Ll × Ll × Li)) (found : Int) (n : Int) (slips : Int) (u : Li) (u2 : Int) (u3 : Int) (d : Li) (d2 : Int) (d3 : Ll) (d4 : Ll) (d5 : Li) : ev (Z := Int × Int × Li × Int × Ll × Ll × Li) Try.prog (lpair_sp N) lpair_B [] [lpair_l1_h rec, lpair_l1_e0] none 400 true lpair_j1_at (stL lpair_j1_st ((found, (), n, slips, u, u2, u3, ()), ((d, d2, d3, d4, d5, ()), ()))) (stH lpair_j1_st ((found, (), n, slips, u, u2, u3, ()), ((d, d2, d3, d4, d5, ()), ()))) = lpair_j1 N rec found n slips u u2 u3 d d2 d3 d4 d5 := by kernel_rfl
theorem lpair_j1_lf (N : Nat) (rec : Int → Int → Int → Li → Int → Int → Li → Int → Ll → Ll → Li → Option (Int × Int × Li × Int × Ll × Ll × Li)) {z : Int × Int × Li × Int × Ll × Ll × Li} {top : Bool} {E : EE} {Xc : Ctx} (hE : EOK lpair_B.m0 E) (hX : CxOK top Xc) (hrec : LeafOK Try.prog lpair_B.c lpair_B.n lpair_B.m0 E Xc z (lpair_l1_h rec)) (h0 : LeafOK Try.prog lpair_B.c lpair_B.n lpair_B.m0 E Xc z lpair_l1_e0) : LeafOK Try.prog lpair_B.c lpair_B.n lpair_B.m0 E Xc z (lpair_j1_k N rec) := leaf_of_ev (B := lpair_B) (loops := []) (leaves := [lpair_l1_h rec, lpair_l1_e0]) (lpair_all N) mixed trivial hE hX ⟨hrec, h0, trivial⟩ RetOK.no (fun p => lpair_j1_eq N rec p.1.1 p.1.2.2.1 p.1.2.2.2.1 p.1.2.2.2.2.1 p.1.2.2.2.2.2.1 p.1.2.2.2.2.2.2.1 p.2.1.1 p.2.1.2.1 p.2.1.2.2.1 p.2.1.2.2.2.1 p.2.1.2.2.2.2.1)
noncomputable def lpair_l1_L (N : Nat) : LoopS := { at_ := lpair_l1_at, sta := lpair_l1_st, exits := [([.c [1, 1, 1, 0], .c [1, 1, 1, 1]], ⟨[3, 8, 9], ⟨[.own 0 0, shI, shI], [.segs [shL, shI, shQ, shQ, shL]]⟩⟩)], run := fun p k => (lpair_l1 N N p.1.1 p.1.2.2.1 p.1.2.2.2.1 p.1.2.2.2.2.1 p.1.2.2.2.2.2.1 p.1.2.2.2.2.2.2.1 p.2.1.1 p.2.1.2.1 p.2.1.2.2.1 p.2.1.2.2.2.1 p.2.1.2.2.2.2.1).bind fun e => k (.inl (((), e.1, e.2.1, ()), ((e.2.2.1, e.2.2.2.1, e.2.2.2.2.1, e.2.2.2.2.2.1, e.2.2.2.2.2.2, ()), ()))) }
theorem lpair_l1_eq (N n_ : Nat) (found : Int) (n : Int) (slips : Int) (u : Li) (u2 : Int) (u3 : Int) (d : Li) (d2 : Int) (d3 : Ll) (d4 : Ll) (d5 : Li) : ev (Z := Int × Int × Li × Int × Ll × Ll × Li) Try.prog (lpair_sp N) lpair_B [] [lpair_l1_h (lpair_l1 N n_), lpair_l1_e0, lpair_j1_k N (lpair_l1 N n_)] none 400 true lpair_l1_at (stL lpair_l1_st ((found, (), n, slips, u, u2, u3, ()), ((d, d2, d3, d4, d5, ()), ()))) (stH lpair_l1_st ((found, (), n, slips, u, u2, u3, ()), ((d, d2, d3, d4, d5, ()), ()))) = lpair_l1 N (n_ + 1) found n slips u u2 u3 d d2 d3 d4 d5 := by kernel_rfl
theorem lpair_l1_ok (N : Nat) {top : Bool} : LoopOK Try.prog lpair_B.c lpair_B.n lpair_B.m0 top (lpair_l1_L N) := loop_of_ev (Z := Int × Int × Li × Int × Ll × Ll × Li) (N := N) (fun m p => lpair_l1 N m p.1.1 p.1.2.2.1 p.1.2.2.2.1 p.1.2.2.2.2.1 p.1.2.2.2.2.2.1 p.1.2.2.2.2.2.2.1 p.2.1.1 p.2.1.2.1 p.2.1.2.2.1 p.2.1.2.2.2.1 p.2.1.2.2.2.2.1) (fun e => .inl (((), e.1, e.2.1, ()), ((e.2.2.1, e.2.2.2.1, e.2.2.2.2.1, e.2.2.2.2.2.1, e.2.2.2.2.2.2, ()), ()))) (fun _ _ _ => rfl) (fun _ => rfl) (fun m z E Xc hE hX hrec hx => leaf_of_ev (B := lpair_B) (loops := []) (leaves := [lpair_l1_h (lpair_l1 N m), lpair_l1_e0, lpair_j1_k N (lpair_l1 N m)]) (lpair_all N) mixed trivial hE hX ⟨hrec, (fun p hp => by obtain rfl := Option.some.inj hp; exact hx), lpair_j1_lf N _ hE hX hrec (fun p hp => by obtain rfl := Option.some.inj hp; exact hx), trivial⟩ RetOK.no (fun p => lpair_l1_eq N m p.1.1 p.1.2.2.1 p.1.2.2.2.1 p.1.2.2.2.2.1 p.1.2.2.2.2.2.1 p.1.2.2.2.2.2.2.1 p.2.1.1 p.2.1.2.1 p.2.1.2.2.1 p.2.1.2.2.2.1 p.2.1.2.2.2.2.1))
abbrev lpair_st : Sta := ⟨[0, 1, 2], ⟨[shG, shI, shI], []⟩⟩
theorem lpair_eq (N : Nat) (d : Li) (d2 : Int) (d3 : Ll) (d4 : Ll) (d5 : Li) (lost : Int) (found : Int) : ev (Z := Int × Bool) Try.prog (lpair_sp N) lpair_B [lpair_l1_L N] [] (some lpair_rt) 400 false [.c [0], .c [1]] (stL lpair_st (((d, d2, d3, d4, d5, ()), lost, found, ()), ())) (stH lpair_st (((d, d2, d3, d4, d5, ()), lost, found, ()), ())) = lpair_S N d d2 d3 d4 d5 lost found := by kernel_rfl
noncomputable def sp_lpair (N : Nat) : Spec := { f := 37, ins := ⟨[shG, shI, shI], []⟩, outs := [⟨[shI, .b], []⟩], run := fun p k => (lpair_S N p.1.1.1 p.1.1.2.1 p.1.1.2.2.1 p.1.1.2.2.2.1 p.1.1.2.2.2.2.1 p.1.2.1 p.1.2.2.1).bind fun r => k ((r.1, r.2, ()), ()) }
theorem sp_lpair_ok (N : Nat) : SpecOK Try.prog (sp_lpair N) := fn_sound (B := lpair_B) (loops := [lpair_l1_L N]) (leaves := []) (fun p => lpair_S N p.1.1.1 p.1.1.2.1 p.1.1.2.2.1 p.1.1.2.2.2.1 p.1.1.2.2.2.2.1 p.1.2.1 p.1.2.2.1) (fun r => ((r.1, r.2, ()), ())) lpair_rt (fun _ _ _ => rfl) (fun r z h => by cases h; rfl) Try.func37 (by kernel_rfl) (by kernel_rfl) (by kernel_rfl) rfl rfl (by kernel_rfl) (fun args w => Sem.pv_run _ _ _ (by kernel_rfl) w) (lpair_all N) mixed ⟨lpair_l1_ok N, trivial⟩ (fun z E Xc hE hX hret => trivial) (fun p => lpair_eq N p.1.1.1 p.1.1.2.1 p.1.1.2.2.1 p.1.1.2.2.2.1 p.1.1.2.2.2.2.1 p.1.2.1 p.1.2.2.1)

end Go.Proofs.Ythncjilcflilcaa

namespace Go.Proofs.Ythncjilcflilcaa
set_option linter.all false
open Go

set_option maxHeartbeats 400000 in
theorem may1_up (l bd od bc oc bl ol : Nat) (vd vd2 : Addr) (lost : Int) (m : Nat) (fs : Option Addr) (fc : Nat) (R : Nat → Bool) (S : List Nat) (J : List Nat → World → Prop) (Q : World → Prop) (w : World)
    (hbd : ∀ w', Upd (l :: S) w w' → Cl w' bd od [.pointer (some vd)]) (hbc : ∀ w', Upd (l :: S) w w' → Cl w' bc oc [(.func (.func 111) #[.pointer (some vd2)] #[])]) (hbl : ∀ w', Upd (l :: S) w w' → Cl w' bl ol [.int .i64 lost])
    (hfo : ∀ w', Upd (l :: S) w w' → w'.cell? (vd.add 3) = some (.slice fs m fc))
    (hcan : ∀ (k : Nat) w', k < m → Upd (l :: S) w w' → Fn Try.prog 111 #[.pointer (some vd2), .int .i64 lost, .int .i64 (↑k : Int)] w' (fun v w2 => Ext w' w2 ∧ v = .bool (R k)))
    (hm : m ≤ 1000000) (hJ : J (mayF R m 0) w) (hxJ : ∀ r, Stays w.heap.size (J r))
    (hy : ∀ k r w1, k ∈ mayF R m 0 → J (k :: r) w1 → Upd (l :: S) w w1 → Yield Try.prog l #[.int .i64 ↑k] w1 (fun v w2 => Upd (l :: S) w w2 ∧ ((v = .bool true ∧ J r w2) ∨ (v = .bool false ∧ Q w2)))) :
    Fn Try.prog 123 #[(.func (.yield l) #[] #[]), (.pointer (some ⟨bd, od, none⟩)), (.pointer (some ⟨bc, oc, none⟩)), (.pointer (some ⟨bl, ol, none⟩))] w (fun _ w' => Upd (l :: S) w w' ∧ (J [] w' ∨ Q w')) := by
  refine Fn.ofSt (c := c123) 26 K123_0 [(0, (.func (.yield l) #[] #[])), (1, (.pointer (some ⟨bd, od, none⟩))), (2, (.pointer (some ⟨bc, oc, none⟩))), (3, (.pointer (some ⟨bl, ol, none⟩)))] Try.func123 (by kernel_rfl) ⟨⟨rfl, by kernel_rfl⟩, by kernel_rfl⟩ (by kernel_rfl) ?_
  intro cs
  refine St.reg K123_1 [(0, true), (1, true), (2, true), (3, true), (4, true), (5, true), (6, true)] (by kernel_rfl) (by kernel_rfl) ?_
  refine RX.q 7 [(0, true, (.pointer (some vd))), (4, true, (.slice fs m fc))] [(0, (.func (.yield l) #[] #[])), (1, (.pointer (some ⟨bd, od, none⟩))), (2, (.pointer (some ⟨bc, oc, none⟩))), (3, (.pointer (some ⟨bl, ol, none⟩))), (11, (.int .i64 (↑m : Int))), (12, (.int .i64 0))] [.cell ⟨bd, od + 0, none⟩ (.pointer (some vd)), .cell (vd.add 3) (.slice fs m fc)] (by kernel_rfl) ⟨Cl.cell (hbd w (Upd.refl _ w)) rfl, hfo w (Upd.refl _ w)⟩ ?_
  refine RX.done [(0, (.func (.yield l) #[] #[])), (1, (.pointer (some ⟨bd, od, none⟩))), (2, (.pointer (some ⟨bc, oc, none⟩))), (3, (.pointer (some ⟨bl, ol, none⟩))), (11, (.int .i64 (↑m : Int))), (12, (.int .i64 0))] (by kernel_rfl) (by kernel_rfl) ?_
  have loop1 : ∀ (N : Nat) (k : Nat) (w2 : World), k ≤ m → (J (mayF R m k) w2) → (Upd (l :: S) w w2) → N = m - k → St Try.prog (fctx Try.prog 123 (fun _ w' => Upd (l :: S) w w' ∧ (J [] w' ∨ Q w')) cs) 26 K123_1 [(12, (.int .i64 (↑k : Int))), (11, (.int .i64 (↑m : Int))), (0, (.func (.yield l) #[] #[])), (1, (.pointer (some ⟨bd, od, none⟩))), (2, (.pointer (some ⟨bc, oc, none⟩))), (3, (.pointer (some ⟨bl, ol, none⟩)))] [] w2 := by
    intro N3
    induction N3 using Nat.strongRecOn with
    | ind N3 ih4 => ?_
    intro k w2 hk hJk hE hN5
    refine St.reg K123_2 [(0, true)] (by kernel_rfl) (by kernel_rfl) ?_
    refine RX.q 1 [] [(0, (.func (.yield l) #[] #[])), (1, (.pointer (some ⟨bd, od, none⟩))), (2, (.pointer (some ⟨bc, oc, none⟩))), (3, (.pointer (some ⟨bl, ol, none⟩))), (11, (.int .i64 (↑m : Int))), (12, (.int .i64 (↑k : Int))), (13, (.bool (decide ((↑k : Int) < (↑m : Int)))))] [] (by kernel_rfl) trivial ?_
    refine RX.done [(0, (.func (.yield l) #[] #[])), (1, (.pointer (some ⟨bd, od, none⟩))), (2, (.pointer (some ⟨bc, oc, none⟩))), (3, (.pointer (some ⟨bl, ol, none⟩))), (11, (.int .i64 (↑m : Int))), (12, (.int .i64 (↑k : Int))), (13, (.bool (decide ((↑k : Int) < (↑m : Int)))))] (by kernel_rfl) (by kernel_rfl) ?_
    refine St.cond (k1 := K123_3) (k2 := K123_4) (decide ((↑k : Int) < (↑m : Int))) (by kernel_rfl) (fun hc7 => ?_) (fun hc7 => ?_)
    · have hh8 : (↑k : Int) < (↑m : Int) := by simpa using hc7
      clear hc7
      refine St.weak (L' := [(12, (.int .i64 (↑k : Int))), (11, (.int .i64 (↑m : Int))), (0, (.func (.yield l) #[] #[])), (1, (.pointer (some ⟨bd, od, none⟩))), (2, (.pointer (some ⟨bc, oc, none⟩))), (3, (.pointer (some ⟨bl, ol, none⟩)))]) (by kernel_rfl) ?_
      refine St.reg K123_5 [(0, true), (1, true)] (by kernel_rfl) (by kernel_rfl) ?_
      refine RX.q 2 [] [(0, (.func (.yield l) #[] #[])), (1, (.pointer (some ⟨bd, od, none⟩))), (2, (.pointer (some ⟨bc, oc, none⟩))), (3, (.pointer (some ⟨bl, ol, none⟩))), (11, (.int .i64 (↑m : Int))), (12, (.int .i64 (↑k : Int))), (5, (.int .i64 (↑k : Int)))] [] (by kernel_rfl) trivial ?_
      refine RX.done [(0, (.func (.yield l) #[] #[])), (1, (.pointer (some ⟨bd, od, none⟩))), (2, (.pointer (some ⟨bc, oc, none⟩))), (3, (.pointer (some ⟨bl, ol, none⟩))), (11, (.int .i64 (↑m : Int))), (12, (.int .i64 (↑k : Int))), (5, (.int .i64 (↑k : Int)))] (by kernel_rfl) (by kernel_rfl) ?_
      refine St.reg K123_6 [(0, true), (1, true), (2, true), (3, false), (4, true), (5, true), (6, true), (7, false), (8, true), (9, true)] (by kernel_rfl) (by kernel_rfl) ?_
      refine RX.q 3 [(0, true, (.func (.func 111) #[.pointer (some vd2)] #[])), (1, true, (.int .i64 lost))] [(0, (.func (.yield l) #[] #[])), (1, (.pointer (some ⟨bd, od, none⟩))), (2, (.pointer (some ⟨bc, oc, none⟩))), (3, (.pointer (some ⟨bl, ol, none⟩))), (11, (.int .i64 (↑m : Int))), (12, (.int .i64 (↑k : Int))), (5, (.int .i64 (↑k : Int))), (15, (.func (.func 111) #[.pointer (some vd2)] #[])), (16, (.int .i64 lost)), (17, (.int .i64 (↑k : Int)))] [.cell ⟨bc, oc + 0, none⟩ (.func (.func 111) #[.pointer (some vd2)] #[]), .cell ⟨bl, ol + 0, none⟩ (.int .i64 lost)] (by kernel_rfl) ⟨Cl.cell (hbc w2 hE) rfl, Cl.cell (hbl w2 hE) rfl⟩ ?_
      refine RX.call 18 111 #[.pointer (some vd2), (.int .i64 lost), (.int .i64 (↑k : Int))] [(0, (.func (.yield l) #[] #[])), (1, (.pointer (some ⟨bd, od, none⟩))), (2, (.pointer (some ⟨bc, oc, none⟩))), (3, (.pointer (some ⟨bl, ol, none⟩))), (11, (.int .i64 (↑m : Int))), (12, (.int .i64 (↑k : Int))), (5, (.int .i64 (↑k : Int))), (15, (.func (.func 111) #[.pointer (some vd2)] #[])), (16, (.int .i64 lost)), (17, (.int .i64 (↑k : Int)))] (fun _ => by kernel_rfl) (by kernel_rfl) ?_
      refine Fn.mono (hcan k w2 (by omega) hE) ?_
      rintro _ w4 ⟨hx4, rfl⟩
      have hE4 : Upd (l :: S) w w4 := Upd.ext hE hx4
      have hJ4 : J (mayF R m k) w4 := Stays.ext (hxJ _) hJk hx4
      cases hR : R k with
      | true =>
        refine RX.q 3 [] [(0, (.func (.yield l) #[] #[])), (1, (.pointer (some ⟨bd, od, none⟩))), (2, (.pointer (some ⟨bc, oc, none⟩))), (3, (.pointer (some ⟨bl, ol, none⟩))), (11, (.int .i64 (↑m : Int))), (12, (.int .i64 (↑k : Int))), (19, (.bool true)), (20, (.func (.yield l) #[] #[])), (21, (.int .i64 (↑k : Int)))] [] (by kernel_rfl) trivial ?_
        rw [mayF_yes (by omega) hR] at hJ4
        refine RX.yield 22 l #[(.int .i64 (↑k : Int))] [(0, (.func (.yield l) #[] #[])), (1, (.pointer (some ⟨bd, od, none⟩))), (2, (.pointer (some ⟨bc, oc, none⟩))), (3, (.pointer (some ⟨bl, ol, none⟩))), (11, (.int .i64 (↑m : Int))), (12, (.int .i64 (↑k : Int))), (19, (.bool true)), (20, (.func (.yield l) #[] #[])), (21, (.int .i64 (↑k : Int)))] (by kernel_rfl) ?_
        refine Yield.mono (hy k _ w4 (mem_mayF.2 ⟨by omega, by omega, hR⟩) hJ4 hE4) ?_
        rintro _ w5 ⟨hu5, ⟨rfl, hv⟩ | ⟨rfl, hv⟩⟩
        · refine RX.q 2 [] [(0, (.func (.yield l) #[] #[])), (1, (.pointer (some ⟨bd, od, none⟩))), (2, (.pointer (some ⟨bc, oc, none⟩))), (3, (.pointer (some ⟨bl, ol, none⟩))), (11, (.int .i64 (↑m : Int))), (12, (.int .i64 (↑k : Int))), (24, (.bool false))] [] (by kernel_rfl) trivial ?_
          refine RX.done [(0, (.func (.yield l) #[] #[])), (1, (.pointer (some ⟨bd, od, none⟩))), (2, (.pointer (some ⟨bc, oc, none⟩))), (3, (.pointer (some ⟨bl, ol, none⟩))), (11, (.int .i64 (↑m : Int))), (12, (.int .i64 (↑k : Int))), (24, (.bool false))] (by kernel_rfl) (by kernel_rfl) ?_
          refine St.cond (k1 := K123_7) (k2 := K123_8) false (by kernel_rfl) (fun hc => ?_) (fun hc => ?_)
          · cases hc
          · clear hc
            refine St.weak (L' := [(12, (.int .i64 (↑k : Int))), (11, (.int .i64 (↑m : Int))), (0, (.func (.yield l) #[] #[])), (1, (.pointer (some ⟨bd, od, none⟩))), (2, (.pointer (some ⟨bc, oc, none⟩))), (3, (.pointer (some ⟨bl, ol, none⟩)))]) (by kernel_rfl) ?_
            refine St.reg K123_1 [(0, true), (1, true)] (by kernel_rfl) (by kernel_rfl) ?_
            refine RX.q 2 [(0, false, (.int .i64 ((↑k : Int) + 1)))] [(0, (.func (.yield l) #[] #[])), (1, (.pointer (some ⟨bd, od, none⟩))), (2, (.pointer (some ⟨bc, oc, none⟩))), (3, (.pointer (some ⟨bl, ol, none⟩))), (11, (.int .i64 (↑m : Int))), (12, (.int .i64 ((↑k : Int) + 1)))] [.eq (.int .i64 (IntKind.i64.wrap ((↑k : Int) + 1))) (.int .i64 ((↑k : Int) + 1))] (by kernel_rfl) (int64 (by omega)) ?_
            refine RX.done [(0, (.func (.yield l) #[] #[])), (1, (.pointer (some ⟨bd, od, none⟩))), (2, (.pointer (some ⟨bc, oc, none⟩))), (3, (.pointer (some ⟨bl, ol, none⟩))), (11, (.int .i64 (↑m : Int))), (12, (.int .i64 ((↑k : Int) + 1)))] (by kernel_rfl) (by kernel_rfl) ?_
            refine St.weak (by kernel_rfl) (ih4 _ ?_ (k + 1) w5 (by omega) hv hu5 rfl)
            omega
        · refine RX.q 2 [] [(0, (.func (.yield l) #[] #[])), (1, (.pointer (some ⟨bd, od, none⟩))), (2, (.pointer (some ⟨bc, oc, none⟩))), (3, (.pointer (some ⟨bl, ol, none⟩))), (11, (.int .i64 (↑m : Int))), (12, (.int .i64 (↑k : Int))), (24, (.bool true))] [] (by kernel_rfl) trivial ?_
          refine RX.done [(0, (.func (.yield l) #[] #[])), (1, (.pointer (some ⟨bd, od, none⟩))), (2, (.pointer (some ⟨bc, oc, none⟩))), (3, (.pointer (some ⟨bl, ol, none⟩))), (11, (.int .i64 (↑m : Int))), (12, (.int .i64 (↑k : Int))), (24, (.bool true))] (by kernel_rfl) (by kernel_rfl) ?_
          refine St.cond (k1 := K123_7) (k2 := K123_8) true (by kernel_rfl) (fun hc => ?_) (fun hc => ?_)
          · clear hc
            refine St.weak (L' := []) (by kernel_rfl) ?_
            refine St.ret [] [] (by kernel_rfl) Try.func123 (by kernel_rfl) .nil ?_
            exact ⟨hu5, .inr hv⟩
          · cases hc
      | false =>
        refine RX.q 3 [] [(0, (.func (.yield l) #[] #[])), (1, (.pointer (some ⟨bd, od, none⟩))), (2, (.pointer (some ⟨bc, oc, none⟩))), (3, (.pointer (some ⟨bl, ol, none⟩))), (11, (.int .i64 (↑m : Int))), (12, (.int .i64 (↑k : Int))), (19, (.bool false)), (20, undef), (21, undef)] [] (by kernel_rfl) trivial ?_
        refine RX.skip [(0, (.func (.yield l) #[] #[])), (1, (.pointer (some ⟨bd, od, none⟩))), (2, (.pointer (some ⟨bc, oc, none⟩))), (3, (.pointer (some ⟨bl, ol, none⟩))), (11, (.int .i64 (↑m : Int))), (12, (.int .i64 (↑k : Int))), (19, (.bool false)), (20, undef), (21, undef), (22, undef)] (by kernel_rfl) ?_
        refine RX.q 2 [] [(0, (.func (.yield l) #[] #[])), (1, (.pointer (some ⟨bd, od, none⟩))), (2, (.pointer (some ⟨bc, oc, none⟩))), (3, (.pointer (some ⟨bl, ol, none⟩))), (11, (.int .i64 (↑m : Int))), (12, (.int .i64 (↑k : Int))), (24, (.bool false))] [] (by kernel_rfl) trivial ?_
        refine RX.done [(0, (.func (.yield l) #[] #[])), (1, (.pointer (some ⟨bd, od, none⟩))), (2, (.pointer (some ⟨bc, oc, none⟩))), (3, (.pointer (some ⟨bl, ol, none⟩))), (11, (.int .i64 (↑m : Int))), (12, (.int .i64 (↑k : Int))), (24, (.bool false))] (by kernel_rfl) (by kernel_rfl) ?_
        refine St.cond (k1 := K123_7) (k2 := K123_8) false (by kernel_rfl) (fun hc => ?_) (fun hc => ?_)
        · cases hc
        · clear hc
          refine St.weak (L' := [(12, (.int .i64 (↑k : Int))), (11, (.int .i64 (↑m : Int))), (0, (.func (.yield l) #[] #[])), (1, (.pointer (some ⟨bd, od, none⟩))), (2, (.pointer (some ⟨bc, oc, none⟩))), (3, (.pointer (some ⟨bl, ol, none⟩)))]) (by kernel_rfl) ?_
          refine St.reg K123_1 [(0, true), (1, true)] (by kernel_rfl) (by kernel_rfl) ?_
          refine RX.q 2 [(0, false, (.int .i64 ((↑k : Int) + 1)))] [(0, (.func (.yield l) #[] #[])), (1, (.pointer (some ⟨bd, od, none⟩))), (2, (.pointer (some ⟨bc, oc, none⟩))), (3, (.pointer (some ⟨bl, ol, none⟩))), (11, (.int .i64 (↑m : Int))), (12, (.int .i64 ((↑k : Int) + 1)))] [.eq (.int .i64 (IntKind.i64.wrap ((↑k : Int) + 1))) (.int .i64 ((↑k : Int) + 1))] (by kernel_rfl) (int64 (by omega)) ?_
          refine RX.done [(0, (.func (.yield l) #[] #[])), (1, (.pointer (some ⟨bd, od, none⟩))), (2, (.pointer (some ⟨bc, oc, none⟩))), (3, (.pointer (some ⟨bl, ol, none⟩))), (11, (.int .i64 (↑m : Int))), (12, (.int .i64 ((↑k : Int) + 1)))] (by kernel_rfl) (by kernel_rfl) ?_
          refine St.weak (by kernel_rfl) (ih4 _ ?_ (k + 1) w4 (by omega) (by rw [← mayF_no (by omega) hR]; exact hJ4) hE4 rfl)
          omega
    · have hh52 : (↑m : Int) ≤ (↑k : Int) := by simpa using hc7
      clear hc7
      refine St.weak (L' := []) (by kernel_rfl) ?_
      refine St.ret [] [] (by kernel_rfl) Try.func123 (by kernel_rfl) .nil ?_
      refine ⟨hE, .inl ?_⟩
      rw [← mayF_end (R := R) (m := m) (k := k) (by omega)]; exact hJk
  exact St.weak (by kernel_rfl) (loop1 _ 0 w (by omega) hJ (Upd.refl (l :: S) w) rfl)
/-- As the contract of may, but rounds may write what was new when the range began. -/
theorem is_may_up : ∀ (p : Shs.den is_may.cap) (es : List (Shs.den is_may.elem)), is_may.run p = some es → ∀ (g : Gh) (vs : List Value), RepVs g (encs id is_may.cap p) vs →
    ∀ (l : Nat) (S : List Nat) (J : List (Shs.den is_may.elem) → World → Prop) (Q : World → Prop) (w : World), (∀ b o, g.M b = some o → b ∉ l :: S ∧ w.heap[b]? = some o) → (∀ k ∈ l :: S, k < w.heap.size) → J es w → (∀ r, Stays w.heap.size (J r)) → Stays w.heap.size Q →
      (∀ m r w1 us, J (m :: r) w1 → Upd (l :: S) w w1 → RepVs g00 (encs id is_may.elem m) us → Yield Try.prog l us.toArray w1 (fun v w2 => Upd (l :: S) w w2 ∧ ((v = .bool true ∧ J r w2) ∨ (v = .bool false ∧ Q w2)))) →
      Fn Try.prog 123 (#[.func (.yield l) #[] #[]] ++ vs.toArray) w (fun _ w' => Upd (l :: S) w w' ∧ (J [] w' ∨ Q w')) := by
  intro p es hes g vs hvs l S J Q w hM hS hJ hxJ hxQ hy
  obtain ⟨⟨d, ⟨⟩⟩, ⟨⟨⟨d', ⟨⟩⟩, ⟨⟩⟩, ⟨⟩⟩, lost, ⟨⟩⟩ := p
  simp only [mayR] at hes
  split at hes
  rotate_left
  · cases hes
  rename_i hc
  simp only [Option.some.injEq] at hes
  subst hes
  obtain ⟨⟨ha0, ha1⟩, hf, hA, hS'⟩ := hc
  obtain ⟨i, rfl⟩ : ∃ n : Nat, lost = n := ⟨lost.toNat, (Int.toNat_of_nonneg ha0).symm⟩
  simp only [Int.toNat_natCast] at hJ ⊢
  simp only [encs, enc, RepVs, RepV] at hvs
  obtain ⟨v1, r1, rfl, ⟨bd, od, wd, td, ud, rfl, hbd, hsd, hcd⟩, v2, r2, rfl, ⟨bc, oc, wc, tc, uc, rfl, hbc, hsc, hcc⟩, v3, r3, rfl, ⟨bl, ol, wl, tl, ul, rfl, hbl, hsl, hcl⟩, rfl⟩ := hvs
  obtain ⟨rfl, hin⟩ := hcl
  obtain ⟨x1, x2, rfl, ⟨x3, rfl, hx⟩, rfl⟩ := hcd
  simp only [RepV] at hx
  obtain ⟨bo, oo, wo, to, uo, rfl, hbo, hso, hco⟩ := hx
  obtain ⟨y1, y2, rfl, ⟨y3, rfl, hy'⟩, rfl⟩ := hcc
  simp only [RepV, RepVs] at hy'
  obtain ⟨va, vc, rfl, ⟨z1, z2, rfl, ⟨be, oe, we, te, ue, rfl, hbe, hse, hce⟩, rfl⟩, rfl⟩ := hy'
  simp only [RepPs, PartOf, RepV] at hco
  obtain ⟨p1, q1, rfl, ⟨e1, rfl, h1⟩, p2, q2, rfl, ⟨e2, rfl, h2⟩, p3, q3, rfl, ⟨e3, rfl, h3⟩, p4, q4, rfl, ⟨e4, rfl, h4⟩, hrest⟩ := hco
  obtain ⟨hl4, fa, fc, rfl, hfc, hf4⟩ := h4
  have hmem : ∀ w', Upd (l :: S) w w' → ∀ b o, g.M b = some o → w'.heap[b]? = some o := fun w' hu b o hb => hu.blk (hM b o hb).2 (hM b o hb).1
  have hrd : RepV ⟨fun _ => none, g.M⟩ (enc id shD d') (.pointer (some ⟨be, oe, none⟩)) := ⟨be, oe, we, te, ue, rfl, hbe, hse, hce⟩
  have hfn := may1_up l bd od bc oc bl ol ⟨bo, oo, none⟩ ⟨be, oe, none⟩ (i : Int) d.2.2.2.1.length fa fc (canD d' i) S (fun r => J (r.map fun (j : Nat) => ((j : Int), ()))) Q w
    (fun w' hu => Cl.of_seg (hmem w' hu _ _ hbd) hsd) (fun w' hu => Cl.of_seg (hmem w' hu _ _ hbc) hsc) (fun w' hu => Cl.of_seg (hmem w' hu _ _ hbl) hsl)
    (fun w' hu => Cl.cell (Cl.of_seg (hmem w' hu _ _ hbo) hso) (i := 3) rfl)
    (fun k w' h1 hu => Fn.mono (call_pure (sp_can_ok 200) rfl (p := ((d', ((i : Int), ((k : Int), ()))), ())) (r := ((canD d' i k, ()), ())) (by
        show ((can_S 200 d' i k).bind fun r => some ((r, ()), ())) = _
        rw [can_v hA hS' (by omega) (by omega)]; rfl) (hmem w' hu) ⟨_, _, rfl, hrd, _, _, rfl, ⟨rfl, (show inR .i64 (i : Int) from inR_small (by omega))⟩, _, _, rfl, ⟨rfl, (show inR .i64 (k : Int) from inR_small (by omega))⟩, rfl⟩) (fun v w2 ⟨h1, g', h2⟩ => ⟨h1, by
      simp only [altOf, encs, enc, resVal, RepV] at h2
      exact h2⟩))
    (by omega) hJ (fun r => hxJ _) (fun m r w1 hm hj hu => hy ((m : Int), ()) (r.map fun (j : Nat) => ((j : Int), ())) w1 [.int .i64 (m : Int)] hj hu ⟨_, _, rfl, ⟨rfl, inR_small (by have := (mem_mayF.1 hm).2.1; omega)⟩, rfl⟩)
  exact hfn
noncomputable def c128 : Code := (Try.f128.body).getD .skip
noncomputable def K128_0 : List Item := [.code (sub c128 [0]), .code (sub c128 [1])]
noncomputable def K128_1 : List Item := [.code (sub c128 [1, 0, 0]), .code (sub c128 [1, 0, 1]), .code (sub c128 [1, 1])]
noncomputable def K128_2 : List Item := [.code (sub c128 [1, 0, 1, 0]), .inBlock 0, .code (sub c128 [1, 1])]
noncomputable def K128_3 : List Item := [.code (sub c128 [1, 1, 0]), .code (sub c128 [1, 1, 1])]
noncomputable def K128_4 : List Item := [.code (sub c128 [1, 1, 1])]
noncomputable def K128_a : List Item := [.code (sub c128 [1, 0, 1, 0, 0]), .beginRound, .code (sub c128 [1, 0, 1, 0, 1])]
noncomputable def K128_b : List Item := [.beginRound, .code (sub c128 [1, 0, 1, 0, 1])]
noncomputable def K128_c : List Item := [.code (sub c128 [1, 0, 1, 0, 1, 0]), .inBlock 1]
/-- What has been appended, and what is still to come. -/
def AppJ (all : List Int) (bc D lo : Nat) (tm : Array Value) (w0 : World) (es : List Int) (w : World) : Prop :=
  ∃ (l : List Int) (v : Value) (ab : List Nat), all = l ++ es ∧ Blk w bc [v] 23 ∧ Acc 3 1 lo w v l.length (l.map (.int .i64)) ab ∧
    w.heap[D + 1]? = some (.loop (lrec 128 tm #[7] (sub c128 [1, 0, 1, 0, 0]) (sub c128 [1, 0, 1, 0, 1]) D .ready none))
set_option maxHeartbeats 1000000 in
theorem appseq_fn {p : Shs.den is_may.cap} {es : List (Int × Unit)} (hes : is_may.run p = some es) (hlen : es.length ≤ 1000000) (g : Gh) (vc : List Value) (hvc : RepVs g (encs id is_may.cap p) vc) (w : World) (hM : ∀ b o, g.M b = some o → w.heap[b]? = some o) :
    Fn Try.prog 128 #[.slice none 0 0, .func (.func 123) #[] vc.toArray] w (fun v w' => Ext w w' ∧ ∃ ab, Acc 3 1 w.heap.size w' v es.length ((es.map (·.1)).map (.int .i64)) ab) := by
  have hMb : ∀ b o, g.M b = some o → b < w.heap.size := fun b o h => lt_of_blk (hM b o h)
  obtain ⟨hue, hel, by_, zv, hT, hZ⟩ := elemT_of (P := Try.prog) (t := 23) (e := 3) (y := .int .i64) (by kernel_rfl)
  have hT : ElemT Try.prog 23 3 1 by_ zv := hT
  refine Fn.ofSt (c := c128) 13 K128_0 [(0, .slice none 0 0), (1, .func (.func 123) #[] vc.toArray)] Try.func128 (by kernel_rfl) ⟨⟨rfl, by kernel_rfl⟩, by kernel_rfl⟩ (by kernel_rfl) ?_
  intro cs
  refine St.reg K128_1 [(0, false), (1, true)] (by kernel_rfl) (by kernel_rfl) ?_
  refine RX.new 2 (.cells #[.slice none 0 0] 23) .ptr [(0, .slice none 0 0), (1, .func (.func 123) #[] vc.toArray)] (by kernel_rfl) ?_
  intro bc w1 hn1
  have hsz1 := hn1.size; have hat1 := hn1.at_
  have hb1 : Blk w1 bc [.slice none 0 0] 23 := hn1.blk
  refine RX.q 1 [] [(1, .func (.func 123) #[] vc.toArray), (2, .pointer (some ⟨bc, 0, none⟩))] [] (by kernel_rfl) trivial ?_
  refine RX.done [(1, .func (.func 123) #[] vc.toArray), (2, .pointer (some ⟨bc, 0, none⟩))] (by kernel_rfl) (by kernel_rfl) ?_
  refine St.reg K128_2 [(0, true)] (by kernel_rfl) (by kernel_rfl) ?_
  refine RX.q 1 [] [(6, .func (.func 123) #[] vc.toArray), (2, .pointer (some ⟨bc, 0, none⟩))] [] (by kernel_rfl) trivial ?_
  refine RX.done [(6, .func (.func 123) #[] vc.toArray), (2, .pointer (some ⟨bc, 0, none⟩))] (by kernel_rfl) (by kernel_rfl) ?_
  refine St.rangeFunc (g := .tmp 6) (ps := #[7]) (assign := (sub c128 [1, 0, 1, 0, 0])) (body := (sub c128 [1, 0, 1, 0, 1])) (k := K128_2.tail) 123 #[] vc.toArray rfl (by kernel_rfl) (by kernel_rfl) (fun _ => by kernel_rfl) ?_
  intro tm w2 htm hx2 hsz2 hD hL
  obtain ⟨D, hDe⟩ : ∃ D, D = w1.heap.size := ⟨_, rfl⟩
  rw [← hDe] at hsz2 hD hL ⊢
  have hl : w2.heap[D + 1]? = some (.loop (lrec 128 tm #[7] (sub c128 [1, 0, 1, 0, 0]) (sub c128 [1, 0, 1, 0, 1]) D .ready none)) := hL
  have hb2 : Blk w2 bc [.slice none 0 0] 23 := Ext.blk hx2 hb1
  have hE2 : Ext w w2 := hn1.ext.trans hx2
  have hsz := hE2.size
  have hfn := is_may_up p es hes g vc hvc (D + 1) [bc] (fun r wv => AppJ (es.map (·.1)) bc D w2.heap.size tm w2 (r.map (·.1)) wv) (fun _ => False) w2
    (fun b o h => ⟨fun hm => by have := hMb b o h; simp at hm; omega, Ext.blk hE2 (hM b o h)⟩) (fun k hk => by simp at hk; omega)
    ⟨[], .slice none 0 0, [], rfl, hb2, Acc.nil 3 1 _ _, hl⟩ ?_ (fun _ _ _ h _ _ => h) ?_
  rotate_left
  · -- blocks that the function that is ranged over may change
    rintro r wa wb T ⟨l, v, ab, e1, h1, h2, h3⟩ hu hT
    refine ⟨l, v, ab, e1, hu.blk h1 (fun hk => by have := (hT _ hk).1; omega), h2.upd hu (fun k hk hkT => ?_), hu.blk h3 (fun hk => by have := (hT _ hk).1; omega)⟩
    obtain ⟨h4, h5⟩ := h2
    rcases h5 with ⟨_, _, rfl⟩ | ⟨b, cap, rest, _, rfl, _, _, _, ty, hB⟩
    · cases hk
    · simp at hk
      subst hk
      exact (hT _ hkT).2 _ _ _ hB
  · -- a round
    rintro ⟨x, ⟨⟩⟩ r wa us ⟨l, v, ab, e1, h1, h2, h3⟩ hU hus
    simp only [encs, enc, RepVs, RepV] at hus
    obtain ⟨v1, us', rfl, ⟨rfl, hx⟩, rfl⟩ := hus
    have hszU := hU.size
    have habl := h2.lt
    refine Yield.one K128_a [(7, .int .i64 x), (6, .func (.func 123) #[] vc.toArray), (2, .pointer (some ⟨bc, 0, none⟩))] h3 htm (by kernel_rfl) (by kernel_rfl) (fun c cs => ?_)
    refine St.reg K128_b [(0, true)] (by kernel_rfl) (by kernel_rfl) ?_
    refine RX.q 1 [] [(5, .int .i64 x), (2, .pointer (some ⟨bc, 0, none⟩))] [] (by kernel_rfl) trivial ?_
    refine RX.done [(5, .int .i64 x), (2, .pointer (some ⟨bc, 0, none⟩))] (by kernel_rfl) (by kernel_rfl) ?_
    refine St.beginRound (k' := K128_c) h3 rfl (by kernel_rfl) ?_
    intro wb hp
    have hlb : wb.heap[D + 1]? = some (.loop (lrec 128 tm #[7] (sub c128 [1, 0, 1, 0, 0]) (sub c128 [1, 0, 1, 0, 1]) D .busy none)) := hp.blk
    have hszb := hp.size
    have hab : ∀ k ∈ ab, k ∉ [D + 1] := fun k hk hk2 => by
      have h4 := (habl k hk).1
      simp at hk2; omega
    have hB1 : Blk wb bc [v] 23 := hp.upd.blk h1 (by simp; omega)
    have hA1 := h2.upd hp.upd hab
    refine St.reg [] [(0, true), (1, true), (2, false), (3, false), (4, false)] (by kernel_rfl) (by kernel_rfl) ?_
    refine RX.q 2 [(0, true, v)] [(8, v), (9, .int .i64 x), (2, .pointer (some ⟨bc, 0, none⟩))] [.cell ⟨bc, 0, none⟩ v] (by kernel_rfl) (Blk.cell hB1 rfl) ?_
    refine RX.new 10 (.cells #[.int .i64 x] 3) (.sl 1) [(8, v), (9, .int .i64 x), (2, .pointer (some ⟨bc, 0, none⟩))] (by kernel_rfl) ?_
    intro bx wc hnc
    have hszc := hnc.size; have hatc := hnc.at_
    have hBx : Blk wc bx [.int .i64 x] 3 := hnc.blk
    have hA2 := hA1.ext hnc.ext
    have hall : l.length + 1 ≤ 1000000 := by
      have : (es.map (·.1)).length = l.length + (x :: r.map (·.1)).length := by rw [e1]; simp
      simp at this; omega
    obtain ⟨v', wd, ab', hr, hA3, hU3, hab', -⟩ := append_run (P := Try.prog) (u := 23) (ty := 23) (lo2 := 0) (x := .slice (some ⟨bx, 0, none⟩) 1 1) (m := 1) (xs := [.int .i64 x]) hT (by kernel_rfl) hA2
      ⟨_, 1, rfl, Nat.le_refl _, rfl, .inr ⟨bx, 0, rfl, Nat.zero_le _, lt_of_blk hBx, fun i u hi => by rw [addr_add, Nat.zero_add]; exact Blk.cell hBx hi⟩⟩ (fun c hc => by simp at hc; subst hc; rfl) (by omega) (by omega)
    obtain ⟨av, cv, rfl⟩ := hA3.shape
    refine RX.run 11 (Builtin.append_ #[23, 23] 23 #[v, .slice (some ⟨bx, 0, none⟩) 1 1]) [(10, .slice (some ⟨bx, 0, none⟩) 1 1), (8, v), (9, .int .i64 x), (2, .pointer (some ⟨bc, 0, none⟩))] (by kernel_rfl) hr ?_
    have habc : ∀ k ∈ ab, k ∉ [bc] := fun k hk hk2 => by
      have h4 := (habl k hk).1
      simp at hk2; omega
    have hB3 : Blk wd bc [v] 23 := hU3.blk (Ext.blk hnc.ext hB1) (fun hk => habc _ hk (by simp))
    have hlc : wd.heap[D + 1]? = some (.loop (lrec 128 tm #[7] (sub c128 [1, 0, 1, 0, 0]) (sub c128 [1, 0, 1, 0, 1]) D .busy none)) := hU3.blk (Ext.blk hnc.ext hlb) (fun hk => hab _ hk (by simp))
    have hszd := hU3.size
    refine RX.store1 bc 0 (.slice av (l.length + 1) cv) [v] 23 (by kernel_rfl) rfl hB3 (by simp) ?_
    intro we hpe
    have hsze := hpe.size
    refine RX.done [] (by kernel_rfl) (by kernel_rfl) ?_
    have hab3 : ∀ k ∈ ab', w2.heap.size ≤ k := fun k hk => hA3.lt k hk |>.1
    have hBe : Blk we bc [.slice av (l.length + 1) cv] 23 := hpe.blk
    have hAe := hA3.upd hpe.upd (fun k hk hk2 => by have := hab3 k hk; simp at hk2; omega)
    have hle : we.heap[D + 1]? = some (.loop (lrec 128 tm #[7] (sub c128 [1, 0, 1, 0, 0]) (sub c128 [1, 0, 1, 0, 1]) D .busy none)) := hpe.upd.blk hlc (by simp; omega)
    refine St.roundEnd hle ?_
    intro wf hpf
    have hUf : Upd [D + 1, bc] w2 wf := by
      have u1 : Upd [D + 1, bc] w2 wd := ((hU.trans (hp.upd.mono (fun k hk => by simp at hk; simp [hk]))).trans hnc.ext.up).trans_old hU3 (fun k hk => (habl k hk).1)
      exact (u1.trans (hpe.upd.mono (fun k hk => by simp at hk; simp [hk]))).trans (hpf.upd.mono (fun k hk => by simp at hk; simp [hk]))
    refine ⟨hUf, .inl ⟨rfl, l ++ [x], .slice av (l.length + 1) cv, ab', by rw [e1]; simp, hpf.upd.blk hBe (by simp; omega), ?_, hpf.blk⟩⟩
    have := hAe.upd hpf.upd (fun k hk hk2 => by have := hab3 k hk; simp at hk2; omega)
    simpa using this
  refine Fn.mono hfn ?_
  rintro _ w3 ⟨hU3, ⟨l, v, ab, e1, h1, h2, h3⟩ | h⟩
  rotate_left
  · exact h.elim
  simp only [List.map_nil, List.append_nil] at e1
  subst e1
  refine ⟨_, h3, by simp [lrec], fun w4 hp4 => ?_⟩
  have hsz3 := hU3.size; have hsz4 := hp4.size
  have habl := h2.lt
  have hD4 : w4.heap[D]? = some (.deferred (some [])) := hp4.upd.blk (hU3.blk hD (by simp; omega)) (by simp)
  have hb4 : Blk w4 bc [v] 23 := hp4.upd.blk h1 (by simp; omega)
  have hA4 := h2.upd hp4.upd (fun k hk hk2 => by have := (habl k hk).1; simp at hk2; omega)
  refine At.norm 99 (k' := K128_3) (by kernel_rfl) ?_
  refine St.toAt (n := 13) (L := [(6, .func (.func 123) #[] vc.toArray), (2, .pointer (some ⟨bc, 0, none⟩))]) ?_ htm
  refine St.reg K128_4 [(0, true), (1, true)] (by kernel_rfl) (by kernel_rfl) ?_
  refine RX.q 2 [(0, true, v)] [(4, v)] [.cell ⟨bc, 0, none⟩ v] (by kernel_rfl) (Blk.cell hb4 rfl) ?_
  refine RX.done [(4, v)] (by kernel_rfl) (by kernel_rfl) ?_
  refine St.retMarks [D] [.tmp 4] [v] (by kernel_rfl) Try.func128 (by kernel_rfl) (by simp) (by simpa using hD4) (fun w5 hu5 hsz5 => ⟨.cons (.tmp (by kernel_rfl)) .nil, ?_, ab, ?_⟩)
  · exact (((hE2.trans_old hU3 (fun k hk => by simp at hk; omega)).trans_old hp4.upd (fun k hk => by simp at hk; omega))).trans_old hu5 (fun k hk => by simp at hk; omega)
  · have := hA4.upd hu5 (fun k hk hk2 => by have := (habl k hk).1; simp at hk2; omega)
    obtain ⟨q1, q2⟩ := this
    refine ⟨by simpa using q1, ?_⟩
    rcases q2 with ⟨q2, q3, q4⟩ | ⟨b, cap, rest, q2, q3, q4, q5⟩
    · exact .inl ⟨q2, by simpa using q3, q4⟩
    · exact .inr ⟨b, cap, rest, by rw [List.length_map] at q2; exact q2, q3, by omega, by simpa using q5⟩
def appseq_S (_N : Nat) (d d' : Dk) (i : Int) : Option Li := (mayR d d' i).map fun es => es.map (·.1)
noncomputable def sp_appseq (N : Nat) : Spec := { f := 128, ins := ⟨[.nils, .fn 123 [] is_may.cap], []⟩, outs := [⟨[.ols 0], [.lst (.int .i64)]⟩], run := fun p k => (appseq_S N p.1.2.1.2.1.1 p.1.2.1.2.2.1.1.1.1 p.1.2.1.2.2.2.1).bind fun r => k (((), ()), (r, ())) }
theorem mayR_small {d d' : Dk} {i : Int} {es : List (Int × Unit)} (h : mayR d d' i = some es) : es.length ≤ 6 ∧ ∀ x ∈ es.map (·.1), inR .i64 x := by
  unfold mayR at h
  split at h
  rotate_left
  · cases h
  rename_i hc
  simp only [Option.some.injEq] at h
  subst h
  refine ⟨?_, fun x hx => ?_⟩
  · have h1 := List.length_filter_le (canD d' i.toNat) (List.range' 0 (d.2.2.2.1.length - 0))
    rw [List.length_map]
    unfold mayF
    rw [List.length_range'] at h1
    omega
  · rw [List.map_map, List.mem_map] at hx
    obtain ⟨k, hk, rfl⟩ := hx
    have := (mem_mayF.1 hk).2.1
    exact inR_small (by show -1000000 ≤ (k : Int) ∧ (k : Int) ≤ 1000000; omega)
theorem sp_appseq_ok (N : Nat) : SpecOK Try.prog (sp_appseq N) := by
  refine ⟨fun Z p κ => ?_, fun args w => Sem.pv_run _ _ _ (by kernel_rfl) w, fun p r hpr g w vs hv hs hρ => ?_⟩
  · show ((appseq_S N _ _ _).bind _) = ((appseq_S N _ _ _).bind _).bind κ
    cases appseq_S N p.1.2.1.2.1.1 p.1.2.1.2.2.1.1.1.1 p.1.2.1.2.2.2.1 <;> rfl
  · obtain ⟨⟨⟨⟩, ⟨⟨⟩, q⟩, ⟨⟩⟩, ⟨⟩⟩ := p
    have hpr' : ((mayR q.1.1 q.2.1.1.1.1 q.2.2.1).map fun es => es.map (·.1)).bind (fun r : Li => some ((((), ()), (r, ())) : (Unit × Unit) × (Li × Unit))) = some r := hpr
    cases hes : mayR q.1.1 q.2.1.1.1.1 q.2.2.1 with
    | none => rw [hes] at hpr'; cases hpr'
    | some es =>
      rw [hes] at hpr'
      have e : ((((), ()), (es.map (·.1), ())) : (Unit × Unit) × (Li × Unit)) = r := Option.some.inj hpr'
      subst e
      have hv : RepVs g [.nils, .fn 123 [] (encs id is_may.cap q)] vs := hv
      simp only [RepVs] at hv
      obtain ⟨v, us, rfl, hv0, v2, us2, rfl, hv2, rfl⟩ := hv
      simp only [RepV, RepVs] at hv0 hv2
      obtain ⟨va, vc, rfl, rfl, hvc⟩ := hv2
      subst hv0
      obtain ⟨hl, hin⟩ := mayR_small hes
      refine Fn.mono (appseq_fn (p := q) hes (by omega) g vc hvc w hs.mem) ?_
      rintro v w' ⟨hE, ab, h1, h2⟩
      refine own_new (y := .int .i64) (l := es.map (·.1)) hs (fun i => hρ i (Nat.zero_le _)) hE (by show (es.map (·.1)).length ≤ 1000000; rw [List.length_map]; omega) ?_
      rcases h2 with ⟨rfl, h3, _⟩ | ⟨b, cap, rest, rfl, _, h3, h4, h5, ty, h6⟩
      · refine .inl ⟨rfl, ?_⟩
        have : es = [] := List.eq_nil_of_length_eq_zero h3
        rw [this]; rfl
      · refine .inr ⟨b, cap, (es.map (·.1)).map (.int .i64), rest, ty, ?_, h3, h6, (repL_i2 _ _).2 ⟨rfl, hin⟩, ?_, ?_⟩
        · show _ = Value.slice (some ⟨b, 0, none⟩) (es.map (·.1)).length cap
          rw [List.length_map]
        · show (es.map (·.1)).length ≤ cap ∧ _
          rw [List.length_map]; exact h4
        · show rest.length = (cap - (es.map (·.1)).length) * 1
          rw [List.length_map]; exact h5
end Go.Proofs.Ythncjilcflilcaa

namespace Go.Proofs.Ythncjilcflilcaa
set_option linter.all false
open Go

def collect_S (N : Nat) (seq : Dk) (seq2 : Dk) (seq3 : Int) : Option Li :=
  (appseq_S N seq seq2 seq3).bind fun x_1 =>
  some x_1
noncomputable def collect_sp (N : Nat) : List Spec := [sp_appseq N]
theorem collect_all (N : Nat) : AllP (SpecOK Try.prog) (collect_sp N) := ⟨sp_appseq_ok N, trivial⟩
noncomputable def collect_c : Code := (Try.f110.body).getD .skip
noncomputable abbrev collect_B : Body := { c := collect_c, n := 5, res := [.tmp 2], outs := [⟨[shL], []⟩], m0 := 0 }
abbrev collect_rt : altD collect_B.outs → Option Li := fun r => some r.1.1
abbrev collect_st : Sta := ⟨[0], ⟨[.fn 123 [] [.fz [shD], .fz [.fn 111 [shD] []], .fe (.int .i64)]], []⟩⟩
theorem collect_eq (N : Nat) (seq : Dk) (seq2 : Dk) (seq3 : Int) : ev (Z := Li) Try.prog (collect_sp N) collect_B [] [] (some collect_rt) 400 false [.c [0], .c [1]] (stL collect_st ((((), ((seq, ()), (((seq2, ()), ()), ()), seq3, ())), ()), ())) (stH collect_st ((((), ((seq, ()), (((seq2, ()), ()), ()), seq3, ())), ()), ())) = collect_S N seq seq2 seq3 := by kernel_rfl
noncomputable def sp_collect (N : Nat) : Spec := { f := 110, ins := ⟨[.fn 123 [] [.fz [shD], .fz [.fn 111 [shD] []], .fe (.int .i64)]], []⟩, outs := [⟨[shL], []⟩], run := fun p k => (collect_S N p.1.1.2.1.1 p.1.1.2.2.1.1.1.1 p.1.1.2.2.2.1).bind fun r => k ((r, ()), ()) }
theorem sp_collect_ok (N : Nat) : SpecOK Try.prog (sp_collect N) := fn_sound (B := collect_B) (loops := []) (leaves := []) (fun p => collect_S N p.1.1.2.1.1 p.1.1.2.2.1.1.1.1 p.1.1.2.2.2.1) (fun r => ((r, ()), ())) collect_rt (fun _ _ _ => rfl) (fun r z h => by cases h; rfl) Try.func110 (by kernel_rfl) (by kernel_rfl) (by kernel_rfl) rfl rfl (by kernel_rfl) (fun args w => Sem.pv_run _ _ _ (by kernel_rfl) w) (collect_all N) mixed trivial (fun z E Xc hE hX hret => trivial) (fun p => collect_eq N p.1.1.2.1.1 p.1.1.2.2.1.1.1.1 p.1.1.2.2.2.1)

def lmay_S (N : Nat) (d : Li) (d2 : Int) (d3 : Ll) (d4 : Ll) (d5 : Li) (lost : Int) : Option (Li × Int) :=
  ((opened_S N d d2 d3 d4 d5).bind fun e => match e with
  | .inl (x_1, y_2) =>
    (br (!decide (y_2 = 0))
      (some ([], y_2))
      ((dlost_S N x_1 lost).bind fun x_3 =>
      br (!x_3)
        (some ([], 1))
        ((may_S N x_1 lost).bind fun (x_4, y_5, y_6) =>
        (collect_S N x_4 y_5 y_6).bind fun x_7 =>
        some (x_7, 0))))
  | .inr x_8 =>
    (br (!decide (x_8 = 0))
      (some ([], x_8))
      (none)))
noncomputable def lmay_sp (N : Nat) : List Spec := [sp_opened N, sp_dlost N, sp_may N, sp_collect N]
theorem lmay_all (N : Nat) : AllP (SpecOK Try.prog) (lmay_sp N) := ⟨sp_opened_ok N, sp_dlost_ok N, sp_may_ok N, sp_collect_ok N, trivial⟩
noncomputable def lmay_c : Code := (Try.f62.body).getD .skip
noncomputable abbrev lmay_B : Body := { c := lmay_c, n := 26, res := [.tmp 4, .tmp 5], outs := [⟨[shL, shI], []⟩], m0 := 0 }
abbrev lmay_rt : altD lmay_B.outs → Option (Li × Int) := fun r => some (r.1.1, r.1.2.1)
abbrev lmay_st : Sta := ⟨[0, 1], ⟨[shG, shI], []⟩⟩
theorem lmay_eq (N : Nat) (d : Li) (d2 : Int) (d3 : Ll) (d4 : Ll) (d5 : Li) (lost : Int) : ev (Z := Li × Int) Try.prog (lmay_sp N) lmay_B [] [] (some lmay_rt) 400 false [.c [0], .c [1]] (stL lmay_st (((d, d2, d3, d4, d5, ()), lost, ()), ())) (stH lmay_st (((d, d2, d3, d4, d5, ()), lost, ()), ())) = lmay_S N d d2 d3 d4 d5 lost := by kernel_rfl
noncomputable def sp_lmay (N : Nat) : Spec := { f := 62, ins := ⟨[shG, shI], []⟩, outs := [⟨[shL, shI], []⟩], run := fun p k => (lmay_S N p.1.1.1 p.1.1.2.1 p.1.1.2.2.1 p.1.1.2.2.2.1 p.1.1.2.2.2.2.1 p.1.2.1).bind fun r => k ((r.1, r.2, ()), ()) }
theorem sp_lmay_ok (N : Nat) : SpecOK Try.prog (sp_lmay N) := fn_sound (B := lmay_B) (loops := []) (leaves := []) (fun p => lmay_S N p.1.1.1 p.1.1.2.1 p.1.1.2.2.1 p.1.1.2.2.2.1 p.1.1.2.2.2.2.1 p.1.2.1) (fun r => ((r.1, r.2, ()), ())) lmay_rt (fun _ _ _ => rfl) (fun r z h => by cases h; rfl) Try.func62 (by kernel_rfl) (by kernel_rfl) (by kernel_rfl) rfl rfl (by kernel_rfl) (fun args w => Sem.pv_run _ _ _ (by kernel_rfl) w) (lmay_all N) mixed trivial (fun z E Xc hE hX hret => trivial) (fun p => lmay_eq N p.1.1.1 p.1.1.2.1 p.1.1.2.2.1 p.1.1.2.2.2.1 p.1.1.2.2.2.2.1 p.1.2.1)

def fclaimed_j1 (N : Nat) (rec : Li → Li → Int → Int → Bool → Int → Li → Int → Int → Int → Int → Int → Li → Int → Ll → Ll → Li → Li → Option ((Unit) ⊕ (Li × Li × Int × Int × Bool × Int × Int × Int × Int × Li × Int × Ll × Ll × Li × Li))) (contests : Li) (l : Li) (n : Int) (sum : Int) (twice : Bool) (i : Int) (may : Li) (most : Int) (u : Int) (u2 : Int) (u3 : Int) (u4 : Int) (d : Li) (d2 : Int) (d3 : Ll) (d4 : Ll) (d5 : Li) (claims : Li) : Option ((Unit) ⊕ (Li × Li × Int × Int × Bool × Int × Int × Int × Int × Li × Int × Ll × Ll × Li × Li)) :=
  chk (u4 + 1) <|
  rec contests l n sum twice i may most u u2 u3 (u4 + 1) d d2 d3 d4 d5 claims
def fclaimed_l2 (N : Nat) : Nat → Li → Li → Int → Int → Bool → Int → Li → Int → Int → Int → Int → Int → Li → Int → Ll → Ll → Li → Li → Option ((Unit) ⊕ (Li × Li × Int × Int × Bool × Int × Int × Int × Int × Li × Int × Ll × Ll × Li × Li))
  | 0, _, _, _, _, _, _, _, _, _, _, _, _, _, _, _, _, _, _ => none
  | n_ + 1, contests, l, n, sum, twice, i, may, most, u, u2, u3, u4, d, d2, d3, d4, d5, claims =>
    br (decide (u4 < u3))
      ((lpair_S N d d2 d3 d4 d5 i u4).bind fun (x_19, y_20) =>
      (containsi_S N may u4).bind fun x_21 =>
      br (!(y_20 == x_21))
        (some (.inl ()))
        (br y_20
          (fclaimed_j1 N (fclaimed_l2 N n_) contests l n sum twice i may (max most x_19) u u2 u3 u4 d d2 d3 d4 d5 claims)
          (fclaimed_j1 N (fclaimed_l2 N n_) contests l n sum twice i may most u u2 u3 u4 d d2 d3 d4 d5 claims)))
      (some (.inr (contests, l, n, sum, twice, i, most, u, u2, d, d2, d3, d4, d5, claims)))
def fclaimed_j2 (N : Nat) (rec : Li → Li → Int → Int → Bool → Int → Int → Int → Int → Int → Int → Li → Int → Ll → Ll → Li → Li → Option ((Unit) ⊕ (Li × Li × Int × Int × Bool × Int × Int × Int × Li × Int × Ll × Ll × Li × Li))) (contests : Li) (l : Li) (n : Int) (sum : Int) (twice : Bool) (i : Int) (most : Int) (u : Int) (u2 : Int) (u3 : Int) (u4 : Int) (d : Li) (d2 : Int) (d3 : Ll) (d4 : Ll) (d5 : Li) (claims : Li) : Option ((Unit) ⊕ (Li × Li × Int × Int × Bool × Int × Int × Int × Li × Int × Ll × Ll × Li × Li)) :=
  chk (u4 + 1) <|
  rec contests l n sum twice i most u u2 u3 (u4 + 1) d d2 d3 d4 d5 claims
def fclaimed_l3 (N : Nat) : Nat → Li → Li → Int → Int → Bool → Int → Int → Int → Int → Int → Int → Li → Int → Ll → Ll → Li → Li → Option ((Unit) ⊕ (Li × Li × Int × Int × Bool × Int × Int × Int × Li × Int × Ll × Ll × Li × Li))
  | 0, _, _, _, _, _, _, _, _, _, _, _, _, _, _, _, _, _ => none
  | n_ + 1, contests, l, n, sum, twice, i, most, u, u2, u3, u4, d, d2, d3, d4, d5, claims =>
    br (decide (u4 < u3))
      ((lpair_S N d d2 d3 d4 d5 i u4).bind fun (x_37, y_38) =>
      (claims__S N d d2 d3 d4 d5 u4).bind fun (x_39, y_40) =>
      br (!decide (y_40 = 0))
        (some (.inl ()))
        (br y_38
          ((containsi_S N x_39 i).bind fun x_41 =>
          br (!((decide (x_37 = most)) == x_41))
            (some (.inl ()))
            (br y_38
              (br (decide (x_37 = most))
                (rng i claims.length <|
                get claims i.toNat fun x_42 =>
                chk (x_42 + 1) <|
                rng i claims.length <|
                get claims i.toNat fun _ =>
                fclaimed_j2 N (fclaimed_l3 N n_) contests l n sum twice i most u u2 u3 u4 d d2 d3 d4 d5 (claims.set i.toNat (x_42 + 1)))
                (fclaimed_j2 N (fclaimed_l3 N n_) contests l n sum twice i most u u2 u3 u4 d d2 d3 d4 d5 claims))
              (fclaimed_j2 N (fclaimed_l3 N n_) contests l n sum twice i most u u2 u3 u4 d d2 d3 d4 d5 claims)))
          ((containsi_S N x_39 i).bind fun x_44 =>
          br (!(false == x_44))
            (some (.inl ()))
            (br y_38
              (br (decide (x_37 = most))
                (rng i claims.length <|
                get claims i.toNat fun x_45 =>
                chk (x_45 + 1) <|
                rng i claims.length <|
                get claims i.toNat fun _ =>
                fclaimed_j2 N (fclaimed_l3 N n_) contests l n sum twice i most u u2 u3 u4 d d2 d3 d4 d5 (claims.set i.toNat (x_45 + 1)))
                (fclaimed_j2 N (fclaimed_l3 N n_) contests l n sum twice i most u u2 u3 u4 d d2 d3 d4 d5 claims))
              (fclaimed_j2 N (fclaimed_l3 N n_) contests l n sum twice i most u u2 u3 u4 d d2 d3 d4 d5 claims)))))
      (some (.inr (contests, l, n, sum, twice, i, u, u2, d, d2, d3, d4, d5, claims)))
def fclaimed_l1 (N : Nat) : Nat → Li → Li → Int → Int → Bool → Int → Int → Li → Int → Ll → Ll → Li → Li → Option ((Unit) ⊕ ((Unit) ⊕ ((Unit) ⊕ (Li × Li × Int × Int × Bool × Li × Int × Ll × Ll × Li × Li))))
  | 0, _, _, _, _, _, _, _, _, _, _, _, _, _ => none
  | n_ + 1, contests, l, n, sum, twice, u, u2, d, d2, d3, d4, d5, claims =>
    br (decide (u2 < u))
      ((lmay_S N d d2 d3 d4 d5 u2).bind fun (x_17, y_18) =>
      br (!decide (y_18 = 0))
        (some (.inl ()))
        ((fclaimed_l2 N N contests l n sum twice u2 x_17 0 u u2 (d4.length : Int) 0 d d2 d3 d4 d5 claims).bind fun e => match e with
        | .inl _ =>
          some (.inr (.inl ()))
        | .inr (contests_22, l_23, n_24, sum_25, twice_26, i_27, most_28, u_29, u2_30, d_31, d2_32, d3_33, d4_34, d5_35, claims_36) =>
          chk (sum_25 + most_28) <|
          (fclaimed_l3 N N contests_22 l_23 n_24 (sum_25 + most_28) twice_26 i_27 most_28 u_29 u2_30 (d4_34.length : Int) 0 d_31 d2_32 d3_33 d4_34 d5_35 claims_36).bind fun e => match e with
          | .inl _ =>
            some (.inr (.inr (.inl ())))
          | .inr (contests_47, l_48, n_49, sum_50, twice_51, i_52, u_53, u2_54, d_55, d2_56, d3_57, d4_58, d5_59, claims_60) =>
            br twice_51
              (chk (u2_54 + 1) <|
              fclaimed_l1 N n_ contests_47 l_48 n_49 sum_50 true u_53 (u2_54 + 1) d_55 d2_56 d3_57 d4_58 d5_59 claims_60)
              (rng i_52 claims_60.length <|
              get claims_60 i_52.toNat fun x_61 =>
              chk (u2_54 + 1) <|
              fclaimed_l1 N n_ contests_47 l_48 n_49 sum_50 (decide (1 < x_61)) u_53 (u2_54 + 1) d_55 d2_56 d3_57 d4_58 d5_59 claims_60)))
      (some (.inr (.inr (.inr (contests, l, n, sum, twice, d, d2, d3, d4, d5, claims)))))
def fclaimed_l4 (N : Nat) : Nat → Li → Li → Int → Int → Bool → Int → Int → Li → Int → Ll → Ll → Li → Li → Option ((Unit) ⊕ (Li × Li × Int × Int × Bool × Li × Int × Ll × Ll × Li × Li))
  | 0, _, _, _, _, _, _, _, _, _, _, _, _, _ => none
  | n_ + 1, contests, l, n, sum, twice, u, u2, d, d2, d3, d4, d5, claims =>
    br (decide (u2 < u))
      ((claims__S N d d2 d3 d4 d5 u2).bind fun (x_73, y_74) =>
      br (!decide (y_74 = 0))
        (some (.inl ()))
        ((containsi_S N contests u2).bind fun x_75 =>
        br (!((decide (1 < (x_73.length : Int))) == x_75))
          (some (.inl ()))
          (chk (u2 + 1) <|
          fclaimed_l4 N n_ contests l n sum twice u (u2 + 1) d d2 d3 d4 d5 claims)))
      (some (.inr (contests, l, n, sum, twice, d, d2, d3, d4, d5, claims)))
def fclaimed_j3 (N : Nat) (rec : Li → Int → Int → Li → Int → Ll → Ll → Li → Li → Option ((Unit) ⊕ ((Unit) ⊕ (Unit)))) (u : Li) (u2 : Int) (u3 : Int) (d : Li) (d2 : Int) (d3 : Ll) (d4 : Ll) (d5 : Li) (claims : Li) : Option ((Unit) ⊕ ((Unit) ⊕ (Unit))) :=
  chk (u3 + 1) <|
  rec u u2 (u3 + 1) d d2 d3 d4 d5 claims
def fclaimed_l5 (N : Nat) : Nat → Li → Int → Int → Li → Int → Ll → Ll → Li → Li → Option ((Unit) ⊕ ((Unit) ⊕ (Unit)))
  | 0, _, _, _, _, _, _, _, _, _ => none
  | n_ + 1, u, u2, u3, d, d2, d3, d4, d5, claims =>
    br (decide (u3 < u2))
      (idx u u3 fun x_87 =>
      rng u3 claims.length <|
      get claims u3.toNat fun x_88 =>
      br (decide (x_88 = 0))
        (br (!decide (x_87 = -1))
          (some (.inl ()))
          (br (decide (x_87 = -1))
            (fclaimed_j3 N (fclaimed_l5 N n_) u u2 u3 d d2 d3 d4 d5 claims)
            ((claims__S N d d2 d3 d4 d5 x_87).bind fun (x_89, y_90) =>
            br (!decide (y_90 = 0))
              (some (.inr (.inl ())))
              ((containsi_S N x_89 u3).bind fun x_91 =>
              br (!x_91)
                (some (.inr (.inl ())))
                (fclaimed_j3 N (fclaimed_l5 N n_) u u2 u3 d d2 d3 d4 d5 claims)))))
        (br (decide (x_87 = -1))
          (fclaimed_j3 N (fclaimed_l5 N n_) u u2 u3 d d2 d3 d4 d5 claims)
          ((claims__S N d d2 d3 d4 d5 x_87).bind fun (x_92, y_93) =>
          br (!decide (y_93 = 0))
            (some (.inr (.inl ())))
            ((containsi_S N x_92 u3).bind fun x_94 =>
            br (!x_94)
              (some (.inr (.inl ())))
              (fclaimed_j3 N (fclaimed_l5 N n_) u u2 u3 d d2 d3 d4 d5 claims)))))
      (some (.inr (.inr ())))
def fclaimed_S (N : Nat) (numbers : Li) : Option Bool :=
  (hang_S N numbers).bind fun (x_1, y_2, y_3) =>
  (made_S N 6 x_1 y_2 y_3).bind fun (x_4, y_5, y_6, y_7, y_8, y_9, y_10, y_11) =>
  (contests_S N x_4 y_5 y_6 y_7 y_8).bind fun (x_12, y_13) =>
  (best_S N x_4 y_5 y_6 y_7 y_8).bind fun (x_14, y_15, y_16) =>
  br (!decide (y_13 = 0))
    (some false)
    (br (!decide (y_16 = 0))
      (some false)
      (br (!decide ((x_14.length : Int) = (y_6.length : Int)))
        (some false)
        (grd (lmI (y_6.length : Int)) <|
        (fclaimed_l1 N N x_12 x_14 y_15 0 false (y_6.length : Int) 0 x_4 y_5 y_6 y_7 y_8 (List.replicate (y_6.length : Int).toNat (0 : Int))).bind fun e => match e with
        | .inl _ =>
          some false
        | .inr (.inl _) =>
          some false
        | .inr (.inr (.inl _)) =>
          some false
        | .inr (.inr (.inr (contests_62, l_63, n_64, sum_65, twice_66, d_67, d2_68, d3_69, d4_70, d5_71, claims_72))) =>
          (fclaimed_l4 N N contests_62 l_63 n_64 sum_65 twice_66 (d4_70.length : Int) 0 d_67 d2_68 d3_69 d4_70 d5_71 claims_72).bind fun e => match e with
          | .inl _ =>
            some false
          | .inr (contests_76, l_77, n_78, sum_79, twice_80, d_81, d2_82, d3_83, d4_84, d5_85, claims_86) =>
            br (decide (sum_79 < n_78))
              (some false)
              (br (decide ((contests_76.length : Int) = 0))
                (br (!decide (n_78 = sum_79))
                  (some false)
                  (br (decide ((contests_76.length : Int) = 0))
                    (br (!twice_80)
                      ((fclaimed_l5 N N l_77 (l_77.length : Int) 0 d_81 d2_82 d3_83 d4_84 d5_85 claims_86).bind fun e => match e with
                      | .inl _ =>
                        some false
                      | .inr (.inl _) =>
                        some false
                      | .inr (.inr _) =>
                        (awake_S N).bind fun x_95 =>
                        some x_95)
                      ((awake_S N).bind fun x_96 =>
                      some x_96))
                    ((awake_S N).bind fun x_97 =>
                    some x_97)))
                (br (decide ((contests_76.length : Int) = 0))
                  (br (!twice_80)
                    ((fclaimed_l5 N N l_77 (l_77.length : Int) 0 d_81 d2_82 d3_83 d4_84 d5_85 claims_86).bind fun e => match e with
                    | .inl _ =>
                      some false
                    | .inr (.inl _) =>
                      some false
                    | .inr (.inr _) =>
                      (awake_S N).bind fun x_98 =>
                      some x_98)
                    ((awake_S N).bind fun x_99 =>
                    some x_99))
                  ((awake_S N).bind fun x_100 =>
                  some x_100))))))
noncomputable def fclaimed_sp (N : Nat) : List Spec := [sp_hang N, sp_containsi N, sp_claims_ N, sp_contests N, sp_best N, sp_awake N, sp_made N, sp_lpair N, sp_lmay N]
theorem fclaimed_all (N : Nat) : AllP (SpecOK Try.prog) (fclaimed_sp N) := ⟨sp_hang_ok N, sp_containsi_ok N, sp_claims__ok N, sp_contests_ok N, sp_best_ok N, sp_awake_ok N, sp_made_ok N, sp_lpair_ok N, sp_lmay_ok N, trivial⟩
noncomputable def fclaimed_c : Code := (Try.f15.body).getD .skip
noncomputable abbrev fclaimed_B : Body := { c := fclaimed_c, n := 236, res := [.tmp 2], outs := [⟨[.b], []⟩], m0 := 0 }
abbrev fclaimed_rt : altD fclaimed_B.outs → Option Bool := fun r => some r.1.1
abbrev fclaimed_l2_at : List PI := [.c [1, 1, 1, 1, 1, 1, 1, 0, 1, 0, 0, 1, 1, 0, 0, 1, 1, 1, 1, 0, 1, 0, 0, 0], .c [1, 1, 1, 1, 1, 1, 1, 0, 1, 0, 0, 1, 1, 0, 0, 1, 1, 1, 1, 0, 1, 0, 0, 1], .l [1, 1, 1, 1, 1, 1, 1, 0, 1, 0, 0, 1, 1, 0, 0, 1, 1, 1, 1, 0, 1, 0, 0], .b 2, .c [1, 1, 1, 1, 1, 1, 1, 0, 1, 0, 0, 1, 1, 0, 0, 1, 1, 1, 1, 1], .b 1, .c [1, 1, 1, 1, 1, 1, 1, 0, 1, 0, 0, 1, 1, 1], .l [1, 1, 1, 1, 1, 1, 1, 0, 1, 0, 0], .b 0, .c [1, 1, 1, 1, 1, 1, 1, 1]]
abbrev fclaimed_l2_st : Sta := ⟨[3, 4, 6, 7, 9, 10, 11, 12, 13, 15, 65, 66, 79, 80], ⟨[.own 0 0, shL, shL, shI, .ols 1, shI, .b, shI, shL, shI, shI, shI, shI, shI], [.segs [shL, shI, shQ, shQ, shL], .lst (.int .i64)]⟩⟩
abbrev fclaimed_l2_h (rec : Li → Li → Int → Int → Bool → Int → Li → Int → Int → Int → Int → Int → Li → Int → Ll → Ll → Li → Li → Option ((Unit) ⊕ (Li × Li × Int × Int × Bool × Int × Int × Int × Int × Li × Int × Ll × Ll × Li × Li))) : Leaf ((Unit) ⊕ (Li × Li × Int × Int × Bool × Int × Int × Int × Int × Li × Int × Ll × Ll × Li × Li)) := ⟨fclaimed_l2_at, fclaimed_l2_st, fun p => rec p.1.2.1 p.1.2.2.1 p.1.2.2.2.1 p.1.2.2.2.2.2.1 p.1.2.2.2.2.2.2.1 p.1.2.2.2.2.2.2.2.1 p.1.2.2.2.2.2.2.2.2.1 p.1.2.2.2.2.2.2.2.2.2.1 p.1.2.2.2.2.2.2.2.2.2.2.1 p.1.2.2.2.2.2.2.2.2.2.2.2.1 p.1.2.2.2.2.2.2.2.2.2.2.2.2.1 p.1.2.2.2.2.2.2.2.2.2.2.2.2.2.1 p.2.1.1 p.2.1.2.1 p.2.1.2.2.1 p.2.1.2.2.2.1 p.2.1.2.2.2.2.1 p.2.2.1⟩
abbrev fclaimed_l2_e0 : Leaf ((Unit) ⊕ (Li × Li × Int × Int × Bool × Int × Int × Int × Int × Li × Int × Ll × Ll × Li × Li)) := ⟨[.c [1, 1, 1, 1, 1, 1, 1, 0, 1, 0, 0, 1, 1, 0, 0, 1, 1, 1, 1, 0, 1, 0, 0, 1, 1, 0, 0, 1, 1, 0, 1, 0, 0], .c [1, 1, 1, 1, 1, 1, 1, 0, 1, 0, 0, 1, 1, 0, 0, 1, 1, 1, 1, 0, 1, 0, 0, 1, 1, 0, 0, 1, 1, 0, 1, 0, 1], .c [1, 1, 1, 1, 1, 1, 1, 0, 1, 0, 0, 1, 1, 0, 0, 1, 1, 1, 1, 0, 1, 0, 0, 1, 1, 0, 0, 1, 1, 1], .b 3, .c [1, 1, 1, 1, 1, 1, 1, 0, 1, 0, 0, 1, 1, 0, 0, 1, 1, 1, 1, 0, 1, 0, 0, 1, 1, 1], .l [1, 1, 1, 1, 1, 1, 1, 0, 1, 0, 0, 1, 1, 0, 0, 1, 1, 1, 1, 0, 1, 0, 0], .b 2, .c [1, 1, 1, 1, 1, 1, 1, 0, 1, 0, 0, 1, 1, 0, 0, 1, 1, 1, 1, 1], .b 1, .c [1, 1, 1, 1, 1, 1, 1, 0, 1, 0, 0, 1, 1, 1], .l [1, 1, 1, 1, 1, 1, 1, 0, 1, 0, 0], .b 0, .c [1, 1, 1, 1, 1, 1, 1, 1]], ⟨[], ⟨[], []⟩⟩, fun p => some (.inl ())⟩
abbrev fclaimed_l2_e1 : Leaf ((Unit) ⊕ (Li × Li × Int × Int × Bool × Int × Int × Int × Int × Li × Int × Ll × Ll × Li × Li)) := ⟨[.c [1, 1, 1, 1, 1, 1, 1, 0, 1, 0, 0, 1, 1, 0, 0, 1, 1, 1, 1, 1, 0], .c [1, 1, 1, 1, 1, 1, 1, 0, 1, 0, 0, 1, 1, 0, 0, 1, 1, 1, 1, 1, 1], .b 1, .c [1, 1, 1, 1, 1, 1, 1, 0, 1, 0, 0, 1, 1, 1], .l [1, 1, 1, 1, 1, 1, 1, 0, 1, 0, 0], .b 0, .c [1, 1, 1, 1, 1, 1, 1, 1]], ⟨[3, 4, 6, 7, 9, 10, 11, 12, 15, 65, 66], ⟨[.own 0 0, shL, shL, shI, .ols 1, shI, .b, shI, shI, shI, shI], [.segs [shL, shI, shQ, shQ, shL], .lst (.int .i64)]⟩⟩, fun p => some (.inr (p.1.2.1, p.1.2.2.1, p.1.2.2.2.1, p.1.2.2.2.2.2.1, p.1.2.2.2.2.2.2.1, p.1.2.2.2.2.2.2.2.1, p.1.2.2.2.2.2.2.2.2.1, p.1.2.2.2.2.2.2.2.2.2.1, p.1.2.2.2.2.2.2.2.2.2.2.1, p.2.1.1, p.2.1.2.1, p.2.1.2.2.1, p.2.1.2.2.2.1, p.2.1.2.2.2.2.1, p.2.2.1))⟩
abbrev fclaimed_j1_at : List PI := [.c [1, 1, 1, 1, 1, 1, 1, 0, 1, 0, 0, 1, 1, 0, 0, 1, 1, 1, 1, 0, 1, 0, 0, 1, 1, 1], .l [1, 1, 1, 1, 1, 1, 1, 0, 1, 0, 0, 1, 1, 0, 0, 1, 1, 1, 1, 0, 1, 0, 0], .b 2, .c [1, 1, 1, 1, 1, 1, 1, 0, 1, 0, 0, 1, 1, 0, 0, 1, 1, 1, 1, 1], .b 1, .c [1, 1, 1, 1, 1, 1, 1, 0, 1, 0, 0, 1, 1, 1], .l [1, 1, 1, 1, 1, 1, 1, 0, 1, 0, 0], .b 0, .c [1, 1, 1, 1, 1, 1, 1, 1]]
abbrev fclaimed_j1_st : Sta := ⟨[3, 4, 6, 7, 9, 10, 11, 12, 13, 15, 65, 66, 79, 80], ⟨[.own 0 0, shL, shL, shI, .ols 1, shI, .b, shI, shL, shI, shI, shI, shI, shI], [.segs [shL, shI, shQ, shQ, shL], .lst (.int .i64)]⟩⟩
abbrev fclaimed_j1_k (N : Nat) (rec : Li → Li → Int → Int → Bool → Int → Li → Int → Int → Int → Int → Int → Li → Int → Ll → Ll → Li → Li → Option ((Unit) ⊕ (Li × Li × Int × Int × Bool × Int × Int × Int × Int × Li × Int × Ll × Ll × Li × Li))) : Leaf ((Unit) ⊕ (Li × Li × Int × Int × Bool × Int × Int × Int × Int × Li × Int × Ll × Ll × Li × Li)) := ⟨fclaimed_j1_at, fclaimed_j1_st, fun p => fclaimed_j1 N rec p.1.2.1 p.1.2.2.1 p.1.2.2.2.1 p.1.2.2.2.2.2.1 p.1.2.2.2.2.2.2.1 p.1.2.2.2.2.2.2.2.1 p.1.2.2.2.2.2.2.2.2.1 p.1.2.2.2.2.2.2.2.2.2.1 p.1.2.2.2.2.2.2.2.2.2.2.1 p.1.2.2.2.2.2.2.2.2.2.2.2.1 p.1.2.2.2.2.2.2.2.2.2.2.2.2.1 p.1.2.2.2.2.2.2.2.2.2.2.2.2.2.1 p.2.1.1 p.2.1.2.1 p.2.1.2.2.1 p.2.1.2.2.2.1 p.2.1.2.2.2.2.1 p.2.2.1⟩
theorem fclaimed_j1_eq (N : Nat) (rec : Li → Li → Int → Int → Bool → Int → Li → Int → Int → Int → Int → Int → Li → Int → Ll → Ll → Li → Li → Option ((Unit) ⊕ (Li × Li × Int × Int × Bool × Int × Int × Int × Int × Li × Int × Ll × Ll × Li × Li))) (contests : Li) (l : Li) (n : Int) (sum : Int) (twice : Bool) (i : Int) (may : Li) (most : Int) (u : Int) (u2 : Int) (u3 : Int) (u4 : Int) (d : Li) (d2 : Int) (d3 : Ll) (d4 : Ll) (d5 : Li) (claims : Li) : ev (Z := (Unit) ⊕ (Li × Li × Int × Int × Bool × Int × Int × Int × Int × Li × Int × Ll × Ll × Li × Li)) Try.prog (fclaimed_sp N) fclaimed_B [] [fclaimed_l2_h rec, fclaimed_l2_e0, fclaimed_l2_e1] none 400 true fclaimed_j1_at (stL fclaimed_j1_st (((), contests, l, n, (), sum, twice, i, may, most, u, u2, u3, u4, ()), ((d, d2, d3, d4, d5, ()), claims, ()))) (stH fclaimed_j1_st (((), contests, l, n, (), sum, twice, i, may, most, u, u2, u3, u4, ()), ((d, d2, d3, d4, d5, ()), claims, ()))) = fclaimed_j1 N rec contests l n sum twice i may most u u2 u3 u4 d d2 d3 d4 d5 claims := by kernel_rfl
theorem fclaimed_j1_lf (N : Nat) (rec : Li → Li → Int → Int → Bool → Int → Li → Int → Int → Int → Int → Int → Li → Int → Ll → Ll → Li → Li → Option ((Unit) ⊕ (Li × Li × Int × Int × Bool × Int × Int × Int × Int × Li × Int × Ll × Ll × Li × Li))) {z : (Unit) ⊕ (Li × Li × Int × Int × Bool × Int × Int × Int × Int × Li × Int × Ll × Ll × Li × Li)} {top : Bool} {E : EE} {Xc : Ctx} (hE : EOK fclaimed_B.m0 E) (hX : CxOK top Xc) (hrec : LeafOK Try.prog fclaimed_B.c fclaimed_B.n fclaimed_B.m0 E Xc z (fclaimed_l2_h rec)) (h0 : LeafOK Try.prog fclaimed_B.c fclaimed_B.n fclaimed_B.m0 E Xc z fclaimed_l2_e0) (h1 : LeafOK Try.prog fclaimed_B.c fclaimed_B.n fclaimed_B.m0 E Xc z fclaimed_l2_e1) : LeafOK Try.prog fclaimed_B.c fclaimed_B.n fclaimed_B.m0 E Xc z (fclaimed_j1_k N rec) := leaf_of_ev (B := fclaimed_B) (loops := []) (leaves := [fclaimed_l2_h rec, fclaimed_l2_e0, fclaimed_l2_e1]) (fclaimed_all N) mixed trivial hE hX ⟨hrec, h0, h1, trivial⟩ RetOK.no (fun p => fclaimed_j1_eq N rec p.1.2.1 p.1.2.2.1 p.1.2.2.2.1 p.1.2.2.2.2.2.1 p.1.2.2.2.2.2.2.1 p.1.2.2.2.2.2.2.2.1 p.1.2.2.2.2.2.2.2.2.1 p.1.2.2.2.2.2.2.2.2.2.1 p.1.2.2.2.2.2.2.2.2.2.2.1 p.1.2.2.2.2.2.2.2.2.2.2.2.1 p.1.2.2.2.2.2.2.2.2.2.2.2.2.1 p.1.2.2.2.2.2.2.2.2.2.2.2.2.2.1 p.2.1.1 p.2.1.2.1 p.2.1.2.2.1 p.2.1.2.2.2.1 p.2.1.2.2.2.2.1 p.2.2.1)
noncomputable def fclaimed_l2_L (N : Nat) : LoopS := { at_ := fclaimed_l2_at, sta := fclaimed_l2_st, exits := [([.c [1, 1, 1, 1, 1, 1, 1, 0, 1, 0, 0, 1, 1, 0, 0, 1, 1, 1, 1, 0, 1, 0, 0, 1, 1, 0, 0, 1, 1, 0, 1, 0, 0], .c [1, 1, 1, 1, 1, 1, 1, 0, 1, 0, 0, 1, 1, 0, 0, 1, 1, 1, 1, 0, 1, 0, 0, 1, 1, 0, 0, 1, 1, 0, 1, 0, 1], .c [1, 1, 1, 1, 1, 1, 1, 0, 1, 0, 0, 1, 1, 0, 0, 1, 1, 1, 1, 0, 1, 0, 0, 1, 1, 0, 0, 1, 1, 1], .b 3, .c [1, 1, 1, 1, 1, 1, 1, 0, 1, 0, 0, 1, 1, 0, 0, 1, 1, 1, 1, 0, 1, 0, 0, 1, 1, 1], .l [1, 1, 1, 1, 1, 1, 1, 0, 1, 0, 0, 1, 1, 0, 0, 1, 1, 1, 1, 0, 1, 0, 0], .b 2, .c [1, 1, 1, 1, 1, 1, 1, 0, 1, 0, 0, 1, 1, 0, 0, 1, 1, 1, 1, 1], .b 1, .c [1, 1, 1, 1, 1, 1, 1, 0, 1, 0, 0, 1, 1, 1], .l [1, 1, 1, 1, 1, 1, 1, 0, 1, 0, 0], .b 0, .c [1, 1, 1, 1, 1, 1, 1, 1]], ⟨[], ⟨[], []⟩⟩), ([.c [1, 1, 1, 1, 1, 1, 1, 0, 1, 0, 0, 1, 1, 0, 0, 1, 1, 1, 1, 1, 0], .c [1, 1, 1, 1, 1, 1, 1, 0, 1, 0, 0, 1, 1, 0, 0, 1, 1, 1, 1, 1, 1], .b 1, .c [1, 1, 1, 1, 1, 1, 1, 0, 1, 0, 0, 1, 1, 1], .l [1, 1, 1, 1, 1, 1, 1, 0, 1, 0, 0], .b 0, .c [1, 1, 1, 1, 1, 1, 1, 1]], ⟨[3, 4, 6, 7, 9, 10, 11, 12, 15, 65, 66], ⟨[.own 0 0, shL, shL, shI, .ols 1, shI, .b, shI, shI, shI, shI], [.segs [shL, shI, shQ, shQ, shL], .lst (.int .i64)]⟩⟩)], run := fun p k => (fclaimed_l2 N N p.1.2.1 p.1.2.2.1 p.1.2.2.2.1 p.1.2.2.2.2.2.1 p.1.2.2.2.2.2.2.1 p.1.2.2.2.2.2.2.2.1 p.1.2.2.2.2.2.2.2.2.1 p.1.2.2.2.2.2.2.2.2.2.1 p.1.2.2.2.2.2.2.2.2.2.2.1 p.1.2.2.2.2.2.2.2.2.2.2.2.1 p.1.2.2.2.2.2.2.2.2.2.2.2.2.1 p.1.2.2.2.2.2.2.2.2.2.2.2.2.2.1 p.2.1.1 p.2.1.2.1 p.2.1.2.2.1 p.2.1.2.2.2.1 p.2.1.2.2.2.2.1 p.2.2.1).bind fun e => match e with | .inl x => k (.inl ((), ())) | .inr x => k (.inr (.inl (((), x.1, x.2.1, x.2.2.1, (), x.2.2.2.1, x.2.2.2.2.1, x.2.2.2.2.2.1, x.2.2.2.2.2.2.1, x.2.2.2.2.2.2.2.1, x.2.2.2.2.2.2.2.2.1, ()), ((x.2.2.2.2.2.2.2.2.2.1, x.2.2.2.2.2.2.2.2.2.2.1, x.2.2.2.2.2.2.2.2.2.2.2.1, x.2.2.2.2.2.2.2.2.2.2.2.2.1, x.2.2.2.2.2.2.2.2.2.2.2.2.2.1, ()), x.2.2.2.2.2.2.2.2.2.2.2.2.2.2, ())))) }
theorem fclaimed_l2_eq (N n_ : Nat) (contests : Li) (l : Li) (n : Int) (sum : Int) (twice : Bool) (i : Int) (may : Li) (most : Int) (u : Int) (u2 : Int) (u3 : Int) (u4 : Int) (d : Li) (d2 : Int) (d3 : Ll) (d4 : Ll) (d5 : Li) (claims : Li) : ev (Z := (Unit) ⊕ (Li × Li × Int × Int × Bool × Int × Int × Int × Int × Li × Int × Ll × Ll × Li × Li)) Try.prog (fclaimed_sp N) fclaimed_B [] [fclaimed_l2_h (fclaimed_l2 N n_), fclaimed_l2_e0, fclaimed_l2_e1, fclaimed_j1_k N (fclaimed_l2 N n_)] none 400 true fclaimed_l2_at (stL fclaimed_l2_st (((), contests, l, n, (), sum, twice, i, may, most, u, u2, u3, u4, ()), ((d, d2, d3, d4, d5, ()), claims, ()))) (stH fclaimed_l2_st (((), contests, l, n, (), sum, twice, i, may, most, u, u2, u3, u4, ()), ((d, d2, d3, d4, d5, ()), claims, ()))) = fclaimed_l2 N (n_ + 1) contests l n sum twice i may most u u2 u3 u4 d d2 d3 d4 d5 claims := by kernel_rfl
theorem fclaimed_l2_ok (N : Nat) {top : Bool} : LoopOK Try.prog fclaimed_B.c fclaimed_B.n fclaimed_B.m0 top (fclaimed_l2_L N) := loop_of_ev (Z := (Unit) ⊕ (Li × Li × Int × Int × Bool × Int × Int × Int × Int × Li × Int × Ll × Ll × Li × Li)) (N := N) (fun m p => fclaimed_l2 N m p.1.2.1 p.1.2.2.1 p.1.2.2.2.1 p.1.2.2.2.2.2.1 p.1.2.2.2.2.2.2.1 p.1.2.2.2.2.2.2.2.1 p.1.2.2.2.2.2.2.2.2.1 p.1.2.2.2.2.2.2.2.2.2.1 p.1.2.2.2.2.2.2.2.2.2.2.1 p.1.2.2.2.2.2.2.2.2.2.2.2.1 p.1.2.2.2.2.2.2.2.2.2.2.2.2.1 p.1.2.2.2.2.2.2.2.2.2.2.2.2.2.1 p.2.1.1 p.2.1.2.1 p.2.1.2.2.1 p.2.1.2.2.2.1 p.2.1.2.2.2.2.1 p.2.2.1) (fun e => match e with | .inl x => .inl ((), ()) | .inr x => .inr (.inl (((), x.1, x.2.1, x.2.2.1, (), x.2.2.2.1, x.2.2.2.2.1, x.2.2.2.2.2.1, x.2.2.2.2.2.2.1, x.2.2.2.2.2.2.2.1, x.2.2.2.2.2.2.2.2.1, ()), ((x.2.2.2.2.2.2.2.2.2.1, x.2.2.2.2.2.2.2.2.2.2.1, x.2.2.2.2.2.2.2.2.2.2.2.1, x.2.2.2.2.2.2.2.2.2.2.2.2.1, x.2.2.2.2.2.2.2.2.2.2.2.2.2.1, ()), x.2.2.2.2.2.2.2.2.2.2.2.2.2.2, ())))) (fun _ p k => bind_congr_ (fclaimed_l2 N N p.1.2.1 p.1.2.2.1 p.1.2.2.2.1 p.1.2.2.2.2.2.1 p.1.2.2.2.2.2.2.1 p.1.2.2.2.2.2.2.2.1 p.1.2.2.2.2.2.2.2.2.1 p.1.2.2.2.2.2.2.2.2.2.1 p.1.2.2.2.2.2.2.2.2.2.2.1 p.1.2.2.2.2.2.2.2.2.2.2.2.1 p.1.2.2.2.2.2.2.2.2.2.2.2.2.1 p.1.2.2.2.2.2.2.2.2.2.2.2.2.2.1 p.2.1.1 p.2.1.2.1 p.2.1.2.2.1 p.2.1.2.2.2.1 p.2.1.2.2.2.2.1 p.2.2.1) _ _ (fun e => by rcases e with x | x <;> rfl)) (fun _ => rfl) (fun m z E Xc hE hX hrec hx => leaf_of_ev (B := fclaimed_B) (loops := []) (leaves := [fclaimed_l2_h (fclaimed_l2 N m), fclaimed_l2_e0, fclaimed_l2_e1, fclaimed_j1_k N (fclaimed_l2 N m)]) (fclaimed_all N) mixed trivial hE hX ⟨hrec, (fun p hp => by obtain rfl := Option.some.inj hp; exact hx), (fun p hp => by obtain rfl := Option.some.inj hp; exact hx), fclaimed_j1_lf N _ hE hX hrec (fun p hp => by obtain rfl := Option.some.inj hp; exact hx) (fun p hp => by obtain rfl := Option.some.inj hp; exact hx), trivial⟩ RetOK.no (fun p => fclaimed_l2_eq N m p.1.2.1 p.1.2.2.1 p.1.2.2.2.1 p.1.2.2.2.2.2.1 p.1.2.2.2.2.2.2.1 p.1.2.2.2.2.2.2.2.1 p.1.2.2.2.2.2.2.2.2.1 p.1.2.2.2.2.2.2.2.2.2.1 p.1.2.2.2.2.2.2.2.2.2.2.1 p.1.2.2.2.2.2.2.2.2.2.2.2.1 p.1.2.2.2.2.2.2.2.2.2.2.2.2.1 p.1.2.2.2.2.2.2.2.2.2.2.2.2.2.1 p.2.1.1 p.2.1.2.1 p.2.1.2.2.1 p.2.1.2.2.2.1 p.2.1.2.2.2.2.1 p.2.2.1))
abbrev fclaimed_l3_at : List PI := [.c [1, 1, 1, 1, 1, 1, 1, 0, 1, 0, 0, 1, 1, 0, 0, 1, 1, 1, 1, 1, 1, 0, 1, 0, 0, 0], .c [1, 1, 1, 1, 1, 1, 1, 0, 1, 0, 0, 1, 1, 0, 0, 1, 1, 1, 1, 1, 1, 0, 1, 0, 0, 1], .l [1, 1, 1, 1, 1, 1, 1, 0, 1, 0, 0, 1, 1, 0, 0, 1, 1, 1, 1, 1, 1, 0, 1, 0, 0], .b 4, .c [1, 1, 1, 1, 1, 1, 1, 0, 1, 0, 0, 1, 1, 0, 0, 1, 1, 1, 1, 1, 1, 1], .b 1, .c [1, 1, 1, 1, 1, 1, 1, 0, 1, 0, 0, 1, 1, 1], .l [1, 1, 1, 1, 1, 1, 1, 0, 1, 0, 0], .b 0, .c [1, 1, 1, 1, 1, 1, 1, 1]]
abbrev fclaimed_l3_st : Sta := ⟨[3, 4, 6, 7, 9, 10, 11, 12, 15, 65, 66, 105, 106], ⟨[.own 0 0, shL, shL, shI, .ols 1, shI, .b, shI, shI, shI, shI, shI, shI], [.segs [shL, shI, shQ, shQ, shL], .lst (.int .i64)]⟩⟩
abbrev fclaimed_l3_h (rec : Li → Li → Int → Int → Bool → Int → Int → Int → Int → Int → Int → Li → Int → Ll → Ll → Li → Li → Option ((Unit) ⊕ (Li × Li × Int × Int × Bool × Int × Int × Int × Li × Int × Ll × Ll × Li × Li))) : Leaf ((Unit) ⊕ (Li × Li × Int × Int × Bool × Int × Int × Int × Li × Int × Ll × Ll × Li × Li)) := ⟨fclaimed_l3_at, fclaimed_l3_st, fun p => rec p.1.2.1 p.1.2.2.1 p.1.2.2.2.1 p.1.2.2.2.2.2.1 p.1.2.2.2.2.2.2.1 p.1.2.2.2.2.2.2.2.1 p.1.2.2.2.2.2.2.2.2.1 p.1.2.2.2.2.2.2.2.2.2.1 p.1.2.2.2.2.2.2.2.2.2.2.1 p.1.2.2.2.2.2.2.2.2.2.2.2.1 p.1.2.2.2.2.2.2.2.2.2.2.2.2.1 p.2.1.1 p.2.1.2.1 p.2.1.2.2.1 p.2.1.2.2.2.1 p.2.1.2.2.2.2.1 p.2.2.1⟩
abbrev fclaimed_l3_e0 : Leaf ((Unit) ⊕ (Li × Li × Int × Int × Bool × Int × Int × Int × Li × Int × Ll × Ll × Li × Li)) := ⟨[.c [1, 1, 1, 1, 1, 1, 1, 0, 1, 0, 0, 1, 1, 0, 0, 1, 1, 1, 1, 1, 1, 0, 1, 0, 0, 1, 1, 0, 0, 1, 1, 1, 0, 1, 0, 0], .c [1, 1, 1, 1, 1, 1, 1, 0, 1, 0, 0, 1, 1, 0, 0, 1, 1, 1, 1, 1, 1, 0, 1, 0, 0, 1, 1, 0, 0, 1, 1, 1, 0, 1, 0, 1], .c [1, 1, 1, 1, 1, 1, 1, 0, 1, 0, 0, 1, 1, 0, 0, 1, 1, 1, 1, 1, 1, 0, 1, 0, 0, 1, 1, 0, 0, 1, 1, 1, 1], .b 5, .c [1, 1, 1, 1, 1, 1, 1, 0, 1, 0, 0, 1, 1, 0, 0, 1, 1, 1, 1, 1, 1, 0, 1, 0, 0, 1, 1, 1], .l [1, 1, 1, 1, 1, 1, 1, 0, 1, 0, 0, 1, 1, 0, 0, 1, 1, 1, 1, 1, 1, 0, 1, 0, 0], .b 4, .c [1, 1, 1, 1, 1, 1, 1, 0, 1, 0, 0, 1, 1, 0, 0, 1, 1, 1, 1, 1, 1, 1], .b 1, .c [1, 1, 1, 1, 1, 1, 1, 0, 1, 0, 0, 1, 1, 1], .l [1, 1, 1, 1, 1, 1, 1, 0, 1, 0, 0], .b 0, .c [1, 1, 1, 1, 1, 1, 1, 1]], ⟨[], ⟨[], []⟩⟩, fun p => some (.inl ())⟩
abbrev fclaimed_l3_e1 : Leaf ((Unit) ⊕ (Li × Li × Int × Int × Bool × Int × Int × Int × Li × Int × Ll × Ll × Li × Li)) := ⟨[.c [1, 1, 1, 1, 1, 1, 1, 0, 1, 0, 0, 1, 1, 0, 0, 1, 1, 1, 1, 1, 1, 1], .b 1, .c [1, 1, 1, 1, 1, 1, 1, 0, 1, 0, 0, 1, 1, 1], .l [1, 1, 1, 1, 1, 1, 1, 0, 1, 0, 0], .b 0, .c [1, 1, 1, 1, 1, 1, 1, 1]], ⟨[3, 4, 6, 7, 9, 10, 11, 12, 65, 66], ⟨[.own 0 0, shL, shL, shI, .ols 1, shI, .b, shI, shI, shI], [.segs [shL, shI, shQ, shQ, shL], .lst (.int .i64)]⟩⟩, fun p => some (.inr (p.1.2.1, p.1.2.2.1, p.1.2.2.2.1, p.1.2.2.2.2.2.1, p.1.2.2.2.2.2.2.1, p.1.2.2.2.2.2.2.2.1, p.1.2.2.2.2.2.2.2.2.1, p.1.2.2.2.2.2.2.2.2.2.1, p.2.1.1, p.2.1.2.1, p.2.1.2.2.1, p.2.1.2.2.2.1, p.2.1.2.2.2.2.1, p.2.2.1))⟩
abbrev fclaimed_j2_at : List PI := [.c [1, 1, 1, 1, 1, 1, 1, 0, 1, 0, 0, 1, 1, 0, 0, 1, 1, 1, 1, 1, 1, 0, 1, 0, 0, 1, 1, 1], .l [1, 1, 1, 1, 1, 1, 1, 0, 1, 0, 0, 1, 1, 0, 0, 1, 1, 1, 1, 1, 1, 0, 1, 0, 0], .b 4, .c [1, 1, 1, 1, 1, 1, 1, 0, 1, 0, 0, 1, 1, 0, 0, 1, 1, 1, 1, 1, 1, 1], .b 1, .c [1, 1, 1, 1, 1, 1, 1, 0, 1, 0, 0, 1, 1, 1], .l [1, 1, 1, 1, 1, 1, 1, 0, 1, 0, 0], .b 0, .c [1, 1, 1, 1, 1, 1, 1, 1]]
abbrev fclaimed_j2_st : Sta := ⟨[3, 4, 6, 7, 9, 10, 11, 12, 15, 65, 66, 105, 106], ⟨[.own 0 0, shL, shL, shI, .ols 1, shI, .b, shI, shI, shI, shI, shI, shI], [.segs [shL, shI, shQ, shQ, shL], .lst (.int .i64)]⟩⟩
abbrev fclaimed_j2_k (N : Nat) (rec : Li → Li → Int → Int → Bool → Int → Int → Int → Int → Int → Int → Li → Int → Ll → Ll → Li → Li → Option ((Unit) ⊕ (Li × Li × Int × Int × Bool × Int × Int × Int × Li × Int × Ll × Ll × Li × Li))) : Leaf ((Unit) ⊕ (Li × Li × Int × Int × Bool × Int × Int × Int × Li × Int × Ll × Ll × Li × Li)) := ⟨fclaimed_j2_at, fclaimed_j2_st, fun p => fclaimed_j2 N rec p.1.2.1 p.1.2.2.1 p.1.2.2.2.1 p.1.2.2.2.2.2.1 p.1.2.2.2.2.2.2.1 p.1.2.2.2.2.2.2.2.1 p.1.2.2.2.2.2.2.2.2.1 p.1.2.2.2.2.2.2.2.2.2.1 p.1.2.2.2.2.2.2.2.2.2.2.1 p.1.2.2.2.2.2.2.2.2.2.2.2.1 p.1.2.2.2.2.2.2.2.2.2.2.2.2.1 p.2.1.1 p.2.1.2.1 p.2.1.2.2.1 p.2.1.2.2.2.1 p.2.1.2.2.2.2.1 p.2.2.1⟩
theorem fclaimed_j2_eq (N : Nat) (rec : Li → Li → Int → Int → Bool → Int → Int → Int → Int → Int → Int → Li → Int → Ll → Ll → Li → Li → Option ((Unit) ⊕ (Li × Li × Int × Int × Bool × Int × Int × Int × Li × Int × Ll × Ll × Li × Li))) (contests : Li) (l : Li) (n : Int) (sum : Int) (twice : Bool) (i : Int) (most : Int) (u : Int) (u2 : Int) (u3 : Int) (u4 : Int) (d : Li) (d2 : Int) (d3 : Ll) (d4 : Ll) (d5 : Li) (claims : Li) : ev (Z := (Unit) ⊕ (Li × Li × Int × Int × Bool × Int × Int × Int × Li × Int × Ll × Ll × Li × Li)) Try.prog (fclaimed_sp N) fclaimed_B [fclaimed_l2_L N] [fclaimed_l3_h rec, fclaimed_l3_e0, fclaimed_l3_e1] none 400 true fclaimed_j2_at (stL fclaimed_j2_st (((), contests, l, n, (), sum, twice, i, most, u, u2, u3, u4, ()), ((d, d2, d3, d4, d5, ()), claims, ()))) (stH fclaimed_j2_st (((), contests, l, n, (), sum, twice, i, most, u, u2, u3, u4, ()), ((d, d2, d3, d4, d5, ()), claims, ()))) = fclaimed_j2 N rec contests l n sum twice i most u u2 u3 u4 d d2 d3 d4 d5 claims := by kernel_rfl
theorem fclaimed_j2_lf (N : Nat) (rec : Li → Li → Int → Int → Bool → Int → Int → Int → Int → Int → Int → Li → Int → Ll → Ll → Li → Li → Option ((Unit) ⊕ (Li × Li × Int × Int × Bool × Int × Int × Int × Li × Int × Ll × Ll × Li × Li))) {z : (Unit) ⊕ (Li × Li × Int × Int × Bool × Int × Int × Int × Li × Int × Ll × Ll × Li × Li)} {top : Bool} {E : EE} {Xc : Ctx} (hE : EOK fclaimed_B.m0 E) (hX : CxOK top Xc) (hrec : LeafOK Try.prog fclaimed_B.c fclaimed_B.n fclaimed_B.m0 E Xc z (fclaimed_l3_h rec)) (h0 : LeafOK Try.prog fclaimed_B.c fclaimed_B.n fclaimed_B.m0 E Xc z fclaimed_l3_e0) (h1 : LeafOK Try.prog fclaimed_B.c fclaimed_B.n fclaimed_B.m0 E Xc z fclaimed_l3_e1) : LeafOK Try.prog fclaimed_B.c fclaimed_B.n fclaimed_B.m0 E Xc z (fclaimed_j2_k N rec) := leaf_of_ev (B := fclaimed_B) (loops := [fclaimed_l2_L N]) (leaves := [fclaimed_l3_h rec, fclaimed_l3_e0, fclaimed_l3_e1]) (fclaimed_all N) mixed ⟨fclaimed_l2_ok N, trivial⟩ hE hX ⟨hrec, h0, h1, trivial⟩ RetOK.no (fun p => fclaimed_j2_eq N rec p.1.2.1 p.1.2.2.1 p.1.2.2.2.1 p.1.2.2.2.2.2.1 p.1.2.2.2.2.2.2.1 p.1.2.2.2.2.2.2.2.1 p.1.2.2.2.2.2.2.2.2.1 p.1.2.2.2.2.2.2.2.2.2.1 p.1.2.2.2.2.2.2.2.2.2.2.1 p.1.2.2.2.2.2.2.2.2.2.2.2.1 p.1.2.2.2.2.2.2.2.2.2.2.2.2.1 p.2.1.1 p.2.1.2.1 p.2.1.2.2.1 p.2.1.2.2.2.1 p.2.1.2.2.2.2.1 p.2.2.1)
noncomputable def fclaimed_l3_L (N : Nat) : LoopS := { at_ := fclaimed_l3_at, sta := fclaimed_l3_st, exits := [([.c [1, 1, 1, 1, 1, 1, 1, 0, 1, 0, 0, 1, 1, 0, 0, 1, 1, 1, 1, 1, 1, 0, 1, 0, 0, 1, 1, 0, 0, 1, 1, 1, 0, 1, 0, 0], .c [1, 1, 1, 1, 1, 1, 1, 0, 1, 0, 0, 1, 1, 0, 0, 1, 1, 1, 1, 1, 1, 0, 1, 0, 0, 1, 1, 0, 0, 1, 1, 1, 0, 1, 0, 1], .c [1, 1, 1, 1, 1, 1, 1, 0, 1, 0, 0, 1, 1, 0, 0, 1, 1, 1, 1, 1, 1, 0, 1, 0, 0, 1, 1, 0, 0, 1, 1, 1, 1], .b 5, .c [1, 1, 1, 1, 1, 1, 1, 0, 1, 0, 0, 1, 1, 0, 0, 1, 1, 1, 1, 1, 1, 0, 1, 0, 0, 1, 1, 1], .l [1, 1, 1, 1, 1, 1, 1, 0, 1, 0, 0, 1, 1, 0, 0, 1, 1, 1, 1, 1, 1, 0, 1, 0, 0], .b 4, .c [1, 1, 1, 1, 1, 1, 1, 0, 1, 0, 0, 1, 1, 0, 0, 1, 1, 1, 1, 1, 1, 1], .b 1, .c [1, 1, 1, 1, 1, 1, 1, 0, 1, 0, 0, 1, 1, 1], .l [1, 1, 1, 1, 1, 1, 1, 0, 1, 0, 0], .b 0, .c [1, 1, 1, 1, 1, 1, 1, 1]], ⟨[], ⟨[], []⟩⟩), ([.c [1, 1, 1, 1, 1, 1, 1, 0, 1, 0, 0, 1, 1, 0, 0, 1, 1, 1, 1, 1, 1, 1], .b 1, .c [1, 1, 1, 1, 1, 1, 1, 0, 1, 0, 0, 1, 1, 1], .l [1, 1, 1, 1, 1, 1, 1, 0, 1, 0, 0], .b 0, .c [1, 1, 1, 1, 1, 1, 1, 1]], ⟨[3, 4, 6, 7, 9, 10, 11, 12, 65, 66], ⟨[.own 0 0, shL, shL, shI, .ols 1, shI, .b, shI, shI, shI], [.segs [shL, shI, shQ, shQ, shL], .lst (.int .i64)]⟩⟩)], run := fun p k => (fclaimed_l3 N N p.1.2.1 p.1.2.2.1 p.1.2.2.2.1 p.1.2.2.2.2.2.1 p.1.2.2.2.2.2.2.1 p.1.2.2.2.2.2.2.2.1 p.1.2.2.2.2.2.2.2.2.1 p.1.2.2.2.2.2.2.2.2.2.1 p.1.2.2.2.2.2.2.2.2.2.2.1 p.1.2.2.2.2.2.2.2.2.2.2.2.1 p.1.2.2.2.2.2.2.2.2.2.2.2.2.1 p.2.1.1 p.2.1.2.1 p.2.1.2.2.1 p.2.1.2.2.2.1 p.2.1.2.2.2.2.1 p.2.2.1).bind fun e => match e with | .inl x => k (.inl ((), ())) | .inr x => k (.inr (.inl (((), x.1, x.2.1, x.2.2.1, (), x.2.2.2.1, x.2.2.2.2.1, x.2.2.2.2.2.1, x.2.2.2.2.2.2.1, x.2.2.2.2.2.2.2.1, ()), ((x.2.2.2.2.2.2.2.2.1, x.2.2.2.2.2.2.2.2.2.1, x.2.2.2.2.2.2.2.2.2.2.1, x.2.2.2.2.2.2.2.2.2.2.2.1, x.2.2.2.2.2.2.2.2.2.2.2.2.1, ()), x.2.2.2.2.2.2.2.2.2.2.2.2.2, ())))) }
theorem fclaimed_l3_eq (N n_ : Nat) (contests : Li) (l : Li) (n : Int) (sum : Int) (twice : Bool) (i : Int) (most : Int) (u : Int) (u2 : Int) (u3 : Int) (u4 : Int) (d : Li) (d2 : Int) (d3 : Ll) (d4 : Ll) (d5 : Li) (claims : Li) : ev (Z := (Unit) ⊕ (Li × Li × Int × Int × Bool × Int × Int × Int × Li × Int × Ll × Ll × Li × Li)) Try.prog (fclaimed_sp N) fclaimed_B [fclaimed_l2_L N] [fclaimed_l3_h (fclaimed_l3 N n_), fclaimed_l3_e0, fclaimed_l3_e1, fclaimed_j2_k N (fclaimed_l3 N n_)] none 400 true fclaimed_l3_at (stL fclaimed_l3_st (((), contests, l, n, (), sum, twice, i, most, u, u2, u3, u4, ()), ((d, d2, d3, d4, d5, ()), claims, ()))) (stH fclaimed_l3_st (((), contests, l, n, (), sum, twice, i, most, u, u2, u3, u4, ()), ((d, d2, d3, d4, d5, ()), claims, ()))) = fclaimed_l3 N (n_ + 1) contests l n sum twice i most u u2 u3 u4 d d2 d3 d4 d5 claims := by kernel_rfl
theorem fclaimed_l3_ok (N : Nat) {top : Bool} : LoopOK Try.prog fclaimed_B.c fclaimed_B.n fclaimed_B.m0 top (fclaimed_l3_L N) := loop_of_ev (Z := (Unit) ⊕ (Li × Li × Int × Int × Bool × Int × Int × Int × Li × Int × Ll × Ll × Li × Li)) (N := N) (fun m p => fclaimed_l3 N m p.1.2.1 p.1.2.2.1 p.1.2.2.2.1 p.1.2.2.2.2.2.1 p.1.2.2.2.2.2.2.1 p.1.2.2.2.2.2.2.2.1 p.1.2.2.2.2.2.2.2.2.1 p.1.2.2.2.2.2.2.2.2.2.1 p.1.2.2.2.2.2.2.2.2.2.2.1 p.1.2.2.2.2.2.2.2.2.2.2.2.1 p.1.2.2.2.2.2.2.2.2.2.2.2.2.1 p.2.1.1 p.2.1.2.1 p.2.1.2.2.1 p.2.1.2.2.2.1 p.2.1.2.2.2.2.1 p.2.2.1) (fun e => match e with | .inl x => .inl ((), ()) | .inr x => .inr (.inl (((), x.1, x.2.1, x.2.2.1, (), x.2.2.2.1, x.2.2.2.2.1, x.2.2.2.2.2.1, x.2.2.2.2.2.2.1, x.2.2.2.2.2.2.2.1, ()), ((x.2.2.2.2.2.2.2.2.1, x.2.2.2.2.2.2.2.2.2.1, x.2.2.2.2.2.2.2.2.2.2.1, x.2.2.2.2.2.2.2.2.2.2.2.1, x.2.2.2.2.2.2.2.2.2.2.2.2.1, ()), x.2.2.2.2.2.2.2.2.2.2.2.2.2, ())))) (fun _ p k => bind_congr_ (fclaimed_l3 N N p.1.2.1 p.1.2.2.1 p.1.2.2.2.1 p.1.2.2.2.2.2.1 p.1.2.2.2.2.2.2.1 p.1.2.2.2.2.2.2.2.1 p.1.2.2.2.2.2.2.2.2.1 p.1.2.2.2.2.2.2.2.2.2.1 p.1.2.2.2.2.2.2.2.2.2.2.1 p.1.2.2.2.2.2.2.2.2.2.2.2.1 p.1.2.2.2.2.2.2.2.2.2.2.2.2.1 p.2.1.1 p.2.1.2.1 p.2.1.2.2.1 p.2.1.2.2.2.1 p.2.1.2.2.2.2.1 p.2.2.1) _ _ (fun e => by rcases e with x | x <;> rfl)) (fun _ => rfl) (fun m z E Xc hE hX hrec hx => leaf_of_ev (B := fclaimed_B) (loops := [fclaimed_l2_L N]) (leaves := [fclaimed_l3_h (fclaimed_l3 N m), fclaimed_l3_e0, fclaimed_l3_e1, fclaimed_j2_k N (fclaimed_l3 N m)]) (fclaimed_all N) mixed ⟨fclaimed_l2_ok N, trivial⟩ hE hX ⟨hrec, (fun p hp => by obtain rfl := Option.some.inj hp; exact hx), (fun p hp => by obtain rfl := Option.some.inj hp; exact hx), fclaimed_j2_lf N _ hE hX hrec (fun p hp => by obtain rfl := Option.some.inj hp; exact hx) (fun p hp => by obtain rfl := Option.some.inj hp; exact hx), trivial⟩ RetOK.no (fun p => fclaimed_l3_eq N m p.1.2.1 p.1.2.2.1 p.1.2.2.2.1 p.1.2.2.2.2.2.1 p.1.2.2.2.2.2.2.1 p.1.2.2.2.2.2.2.2.1 p.1.2.2.2.2.2.2.2.2.1 p.1.2.2.2.2.2.2.2.2.2.1 p.1.2.2.2.2.2.2.2.2.2.2.1 p.1.2.2.2.2.2.2.2.2.2.2.2.1 p.1.2.2.2.2.2.2.2.2.2.2.2.2.1 p.2.1.1 p.2.1.2.1 p.2.1.2.2.1 p.2.1.2.2.2.1 p.2.1.2.2.2.2.1 p.2.2.1))
abbrev fclaimed_l1_at : List PI := [.c [1, 1, 1, 1, 1, 1, 1, 0, 1, 0, 0, 0], .c [1, 1, 1, 1, 1, 1, 1, 0, 1, 0, 0, 1], .l [1, 1, 1, 1, 1, 1, 1, 0, 1, 0, 0], .b 0, .c [1, 1, 1, 1, 1, 1, 1, 1]]
abbrev fclaimed_l1_st : Sta := ⟨[3, 4, 6, 7, 9, 10, 11, 65, 66], ⟨[.own 0 0, shL, shL, shI, .ols 1, shI, .b, shI, shI], [.segs [shL, shI, shQ, shQ, shL], .lst (.int .i64)]⟩⟩
abbrev fclaimed_l1_h (rec : Li → Li → Int → Int → Bool → Int → Int → Li → Int → Ll → Ll → Li → Li → Option ((Unit) ⊕ ((Unit) ⊕ ((Unit) ⊕ (Li × Li × Int × Int × Bool × Li × Int × Ll × Ll × Li × Li))))) : Leaf ((Unit) ⊕ ((Unit) ⊕ ((Unit) ⊕ (Li × Li × Int × Int × Bool × Li × Int × Ll × Ll × Li × Li)))) := ⟨fclaimed_l1_at, fclaimed_l1_st, fun p => rec p.1.2.1 p.1.2.2.1 p.1.2.2.2.1 p.1.2.2.2.2.2.1 p.1.2.2.2.2.2.2.1 p.1.2.2.2.2.2.2.2.1 p.1.2.2.2.2.2.2.2.2.1 p.2.1.1 p.2.1.2.1 p.2.1.2.2.1 p.2.1.2.2.2.1 p.2.1.2.2.2.2.1 p.2.2.1⟩
abbrev fclaimed_l1_e0 : Leaf ((Unit) ⊕ ((Unit) ⊕ ((Unit) ⊕ (Li × Li × Int × Int × Bool × Li × Int × Ll × Ll × Li × Li)))) := ⟨[.c [1, 1, 1, 1, 1, 1, 1, 0, 1, 0, 0, 1, 1, 0, 0, 1, 1, 0, 1, 0, 0], .c [1, 1, 1, 1, 1, 1, 1, 0, 1, 0, 0, 1, 1, 0, 0, 1, 1, 0, 1, 0, 1], .c [1, 1, 1, 1, 1, 1, 1, 0, 1, 0, 0, 1, 1, 0, 0, 1, 1, 1], .b 1, .c [1, 1, 1, 1, 1, 1, 1, 0, 1, 0, 0, 1, 1, 1], .l [1, 1, 1, 1, 1, 1, 1, 0, 1, 0, 0], .b 0, .c [1, 1, 1, 1, 1, 1, 1, 1]], ⟨[], ⟨[], []⟩⟩, fun p => some (.inl ())⟩
abbrev fclaimed_l1_e1 : Leaf ((Unit) ⊕ ((Unit) ⊕ ((Unit) ⊕ (Li × Li × Int × Int × Bool × Li × Int × Ll × Ll × Li × Li)))) := ⟨[.c [1, 1, 1, 1, 1, 1, 1, 0, 1, 0, 0, 1, 1, 0, 0, 1, 1, 1, 1, 0, 1, 0, 0, 1, 1, 0, 0, 1, 1, 0, 1, 0, 0], .c [1, 1, 1, 1, 1, 1, 1, 0, 1, 0, 0, 1, 1, 0, 0, 1, 1, 1, 1, 0, 1, 0, 0, 1, 1, 0, 0, 1, 1, 0, 1, 0, 1], .c [1, 1, 1, 1, 1, 1, 1, 0, 1, 0, 0, 1, 1, 0, 0, 1, 1, 1, 1, 0, 1, 0, 0, 1, 1, 0, 0, 1, 1, 1], .b 3, .c [1, 1, 1, 1, 1, 1, 1, 0, 1, 0, 0, 1, 1, 0, 0, 1, 1, 1, 1, 0, 1, 0, 0, 1, 1, 1], .l [1, 1, 1, 1, 1, 1, 1, 0, 1, 0, 0, 1, 1, 0, 0, 1, 1, 1, 1, 0, 1, 0, 0], .b 2, .c [1, 1, 1, 1, 1, 1, 1, 0, 1, 0, 0, 1, 1, 0, 0, 1, 1, 1, 1, 1], .b 1, .c [1, 1, 1, 1, 1, 1, 1, 0, 1, 0, 0, 1, 1, 1], .l [1, 1, 1, 1, 1, 1, 1, 0, 1, 0, 0], .b 0, .c [1, 1, 1, 1, 1, 1, 1, 1]], ⟨[], ⟨[], []⟩⟩, fun p => some (.inr (.inl ()))⟩
abbrev fclaimed_l1_e2 : Leaf ((Unit) ⊕ ((Unit) ⊕ ((Unit) ⊕ (Li × Li × Int × Int × Bool × Li × Int × Ll × Ll × Li × Li)))) := ⟨[.c [1, 1, 1, 1, 1, 1, 1, 0, 1, 0, 0, 1, 1, 0, 0, 1, 1, 1, 1, 1, 1, 0, 1, 0, 0, 1, 1, 0, 0, 1, 1, 1, 0, 1, 0, 0], .c [1, 1, 1, 1, 1, 1, 1, 0, 1, 0, 0, 1, 1, 0, 0, 1, 1, 1, 1, 1, 1, 0, 1, 0, 0, 1, 1, 0, 0, 1, 1, 1, 0, 1, 0, 1], .c [1, 1, 1, 1, 1, 1, 1, 0, 1, 0, 0, 1, 1, 0, 0, 1, 1, 1, 1, 1, 1, 0, 1, 0, 0, 1, 1, 0, 0, 1, 1, 1, 1], .b 5, .c [1, 1, 1, 1, 1, 1, 1, 0, 1, 0, 0, 1, 1, 0, 0, 1, 1, 1, 1, 1, 1, 0, 1, 0, 0, 1, 1, 1], .l [1, 1, 1, 1, 1, 1, 1, 0, 1, 0, 0, 1, 1, 0, 0, 1, 1, 1, 1, 1, 1, 0, 1, 0, 0], .b 4, .c [1, 1, 1, 1, 1, 1, 1, 0, 1, 0, 0, 1, 1, 0, 0, 1, 1, 1, 1, 1, 1, 1], .b 1, .c [1, 1, 1, 1, 1, 1, 1, 0, 1, 0, 0, 1, 1, 1], .l [1, 1, 1, 1, 1, 1, 1, 0, 1, 0, 0], .b 0, .c [1, 1, 1, 1, 1, 1, 1, 1]], ⟨[], ⟨[], []⟩⟩, fun p => some (.inr (.inr (.inl ())))⟩
abbrev fclaimed_l1_e3 : Leaf ((Unit) ⊕ ((Unit) ⊕ ((Unit) ⊕ (Li × Li × Int × Int × Bool × Li × Int × Ll × Ll × Li × Li)))) := ⟨[.c [1, 1, 1, 1, 1, 1, 1, 1, 0, 0], .c [1, 1, 1, 1, 1, 1, 1, 1, 0, 1], .c [1, 1, 1, 1, 1, 1, 1, 1, 1]], ⟨[3, 4, 6, 7, 9, 10, 11], ⟨[.own 0 0, shL, shL, shI, .ols 1, shI, .b], [.segs [shL, shI, shQ, shQ, shL], .lst (.int .i64)]⟩⟩, fun p => some (.inr (.inr (.inr (p.1.2.1, p.1.2.2.1, p.1.2.2.2.1, p.1.2.2.2.2.2.1, p.1.2.2.2.2.2.2.1, p.2.1.1, p.2.1.2.1, p.2.1.2.2.1, p.2.1.2.2.2.1, p.2.1.2.2.2.2.1, p.2.2.1))))⟩
noncomputable def fclaimed_l1_L (N : Nat) : LoopS := { at_ := fclaimed_l1_at, sta := fclaimed_l1_st, exits := [([.c [1, 1, 1, 1, 1, 1, 1, 0, 1, 0, 0, 1, 1, 0, 0, 1, 1, 0, 1, 0, 0], .c [1, 1, 1, 1, 1, 1, 1, 0, 1, 0, 0, 1, 1, 0, 0, 1, 1, 0, 1, 0, 1], .c [1, 1, 1, 1, 1, 1, 1, 0, 1, 0, 0, 1, 1, 0, 0, 1, 1, 1], .b 1, .c [1, 1, 1, 1, 1, 1, 1, 0, 1, 0, 0, 1, 1, 1], .l [1, 1, 1, 1, 1, 1, 1, 0, 1, 0, 0], .b 0, .c [1, 1, 1, 1, 1, 1, 1, 1]], ⟨[], ⟨[], []⟩⟩), ([.c [1, 1, 1, 1, 1, 1, 1, 0, 1, 0, 0, 1, 1, 0, 0, 1, 1, 1, 1, 0, 1, 0, 0, 1, 1, 0, 0, 1, 1, 0, 1, 0, 0], .c [1, 1, 1, 1, 1, 1, 1, 0, 1, 0, 0, 1, 1, 0, 0, 1, 1, 1, 1, 0, 1, 0, 0, 1, 1, 0, 0, 1, 1, 0, 1, 0, 1], .c [1, 1, 1, 1, 1, 1, 1, 0, 1, 0, 0, 1, 1, 0, 0, 1, 1, 1, 1, 0, 1, 0, 0, 1, 1, 0, 0, 1, 1, 1], .b 3, .c [1, 1, 1, 1, 1, 1, 1, 0, 1, 0, 0, 1, 1, 0, 0, 1, 1, 1, 1, 0, 1, 0, 0, 1, 1, 1], .l [1, 1, 1, 1, 1, 1, 1, 0, 1, 0, 0, 1, 1, 0, 0, 1, 1, 1, 1, 0, 1, 0, 0], .b 2, .c [1, 1, 1, 1, 1, 1, 1, 0, 1, 0, 0, 1, 1, 0, 0, 1, 1, 1, 1, 1], .b 1, .c [1, 1, 1, 1, 1, 1, 1, 0, 1, 0, 0, 1, 1, 1], .l [1, 1, 1, 1, 1, 1, 1, 0, 1, 0, 0], .b 0, .c [1, 1, 1, 1, 1, 1, 1, 1]], ⟨[], ⟨[], []⟩⟩), ([.c [1, 1, 1, 1, 1, 1, 1, 0, 1, 0, 0, 1, 1, 0, 0, 1, 1, 1, 1, 1, 1, 0, 1, 0, 0, 1, 1, 0, 0, 1, 1, 1, 0, 1, 0, 0], .c [1, 1, 1, 1, 1, 1, 1, 0, 1, 0, 0, 1, 1, 0, 0, 1, 1, 1, 1, 1, 1, 0, 1, 0, 0, 1, 1, 0, 0, 1, 1, 1, 0, 1, 0, 1], .c [1, 1, 1, 1, 1, 1, 1, 0, 1, 0, 0, 1, 1, 0, 0, 1, 1, 1, 1, 1, 1, 0, 1, 0, 0, 1, 1, 0, 0, 1, 1, 1, 1], .b 5, .c [1, 1, 1, 1, 1, 1, 1, 0, 1, 0, 0, 1, 1, 0, 0, 1, 1, 1, 1, 1, 1, 0, 1, 0, 0, 1, 1, 1], .l [1, 1, 1, 1, 1, 1, 1, 0, 1, 0, 0, 1, 1, 0, 0, 1, 1, 1, 1, 1, 1, 0, 1, 0, 0], .b 4, .c [1, 1, 1, 1, 1, 1, 1, 0, 1, 0, 0, 1, 1, 0, 0, 1, 1, 1, 1, 1, 1, 1], .b 1, .c [1, 1, 1, 1, 1, 1, 1, 0, 1, 0, 0, 1, 1, 1], .l [1, 1, 1, 1, 1, 1, 1, 0, 1, 0, 0], .b 0, .c [1, 1, 1, 1, 1, 1, 1, 1]], ⟨[], ⟨[], []⟩⟩), ([.c [1, 1, 1, 1, 1, 1, 1, 1, 0, 0], .c [1, 1, 1, 1, 1, 1, 1, 1, 0, 1], .c [1, 1, 1, 1, 1, 1, 1, 1, 1]], ⟨[3, 4, 6, 7, 9, 10, 11], ⟨[.own 0 0, shL, shL, shI, .ols 1, shI, .b], [.segs [shL, shI, shQ, shQ, shL], .lst (.int .i64)]⟩⟩)], run := fun p k => (fclaimed_l1 N N p.1.2.1 p.1.2.2.1 p.1.2.2.2.1 p.1.2.2.2.2.2.1 p.1.2.2.2.2.2.2.1 p.1.2.2.2.2.2.2.2.1 p.1.2.2.2.2.2.2.2.2.1 p.2.1.1 p.2.1.2.1 p.2.1.2.2.1 p.2.1.2.2.2.1 p.2.1.2.2.2.2.1 p.2.2.1).bind fun e => match e with | .inl x => k (.inl ((), ())) | .inr (.inl x) => k (.inr (.inl ((), ()))) | .inr (.inr (.inl x)) => k (.inr (.inr (.inl ((), ())))) | .inr (.inr (.inr x)) => k (.inr (.inr (.inr (.inl (((), x.1, x.2.1, x.2.2.1, (), x.2.2.2.1, x.2.2.2.2.1, ()), ((x.2.2.2.2.2.1, x.2.2.2.2.2.2.1, x.2.2.2.2.2.2.2.1, x.2.2.2.2.2.2.2.2.1, x.2.2.2.2.2.2.2.2.2.1, ()), x.2.2.2.2.2.2.2.2.2.2, ())))))) }
theorem fclaimed_l1_eq (N n_ : Nat) (contests : Li) (l : Li) (n : Int) (sum : Int) (twice : Bool) (u : Int) (u2 : Int) (d : Li) (d2 : Int) (d3 : Ll) (d4 : Ll) (d5 : Li) (claims : Li) : ev (Z := (Unit) ⊕ ((Unit) ⊕ ((Unit) ⊕ (Li × Li × Int × Int × Bool × Li × Int × Ll × Ll × Li × Li)))) Try.prog (fclaimed_sp N) fclaimed_B [fclaimed_l2_L N, fclaimed_l3_L N] [fclaimed_l1_h (fclaimed_l1 N n_), fclaimed_l1_e0, fclaimed_l1_e1, fclaimed_l1_e2, fclaimed_l1_e3] none 400 true fclaimed_l1_at (stL fclaimed_l1_st (((), contests, l, n, (), sum, twice, u, u2, ()), ((d, d2, d3, d4, d5, ()), claims, ()))) (stH fclaimed_l1_st (((), contests, l, n, (), sum, twice, u, u2, ()), ((d, d2, d3, d4, d5, ()), claims, ()))) = fclaimed_l1 N (n_ + 1) contests l n sum twice u u2 d d2 d3 d4 d5 claims := by kernel_rfl
theorem fclaimed_l1_ok (N : Nat) {top : Bool} : LoopOK Try.prog fclaimed_B.c fclaimed_B.n fclaimed_B.m0 top (fclaimed_l1_L N) := loop_of_ev (Z := (Unit) ⊕ ((Unit) ⊕ ((Unit) ⊕ (Li × Li × Int × Int × Bool × Li × Int × Ll × Ll × Li × Li)))) (N := N) (fun m p => fclaimed_l1 N m p.1.2.1 p.1.2.2.1 p.1.2.2.2.1 p.1.2.2.2.2.2.1 p.1.2.2.2.2.2.2.1 p.1.2.2.2.2.2.2.2.1 p.1.2.2.2.2.2.2.2.2.1 p.2.1.1 p.2.1.2.1 p.2.1.2.2.1 p.2.1.2.2.2.1 p.2.1.2.2.2.2.1 p.2.2.1) (fun e => match e with | .inl x => .inl ((), ()) | .inr (.inl x) => .inr (.inl ((), ())) | .inr (.inr (.inl x)) => .inr (.inr (.inl ((), ()))) | .inr (.inr (.inr x)) => .inr (.inr (.inr (.inl (((), x.1, x.2.1, x.2.2.1, (), x.2.2.2.1, x.2.2.2.2.1, ()), ((x.2.2.2.2.2.1, x.2.2.2.2.2.2.1, x.2.2.2.2.2.2.2.1, x.2.2.2.2.2.2.2.2.1, x.2.2.2.2.2.2.2.2.2.1, ()), x.2.2.2.2.2.2.2.2.2.2, ())))))) (fun _ p k => bind_congr_ (fclaimed_l1 N N p.1.2.1 p.1.2.2.1 p.1.2.2.2.1 p.1.2.2.2.2.2.1 p.1.2.2.2.2.2.2.1 p.1.2.2.2.2.2.2.2.1 p.1.2.2.2.2.2.2.2.2.1 p.2.1.1 p.2.1.2.1 p.2.1.2.2.1 p.2.1.2.2.2.1 p.2.1.2.2.2.2.1 p.2.2.1) _ _ (fun e => by rcases e with x | x | x | x <;> rfl)) (fun _ => rfl) (fun m z E Xc hE hX hrec hx => leaf_of_ev (B := fclaimed_B) (loops := [fclaimed_l2_L N, fclaimed_l3_L N]) (leaves := [fclaimed_l1_h (fclaimed_l1 N m), fclaimed_l1_e0, fclaimed_l1_e1, fclaimed_l1_e2, fclaimed_l1_e3]) (fclaimed_all N) mixed ⟨fclaimed_l2_ok N, fclaimed_l3_ok N, trivial⟩ hE hX ⟨hrec, (fun p hp => by obtain rfl := Option.some.inj hp; exact hx), (fun p hp => by obtain rfl := Option.some.inj hp; exact hx), (fun p hp => by obtain rfl := Option.some.inj hp; exact hx), (fun p hp => by obtain rfl := Option.some.inj hp; exact hx), trivial⟩ RetOK.no (fun p => fclaimed_l1_eq N m p.1.2.1 p.1.2.2.1 p.1.2.2.2.1 p.1.2.2.2.2.2.1 p.1.2.2.2.2.2.2.1 p.1.2.2.2.2.2.2.2.1 p.1.2.2.2.2.2.2.2.2.1 p.2.1.1 p.2.1.2.1 p.2.1.2.2.1 p.2.1.2.2.2.1 p.2.1.2.2.2.2.1 p.2.2.1))
abbrev fclaimed_l4_at : List PI := [.c [1, 1, 1, 1, 1, 1, 1, 1, 0, 1, 0, 0, 0], .c [1, 1, 1, 1, 1, 1, 1, 1, 0, 1, 0, 0, 1], .l [1, 1, 1, 1, 1, 1, 1, 1, 0, 1, 0, 0], .b 6, .c [1, 1, 1, 1, 1, 1, 1, 1, 1]]
abbrev fclaimed_l4_st : Sta := ⟨[3, 4, 6, 7, 9, 10, 11, 160, 161], ⟨[.own 0 0, shL, shL, shI, .ols 1, shI, .b, shI, shI], [.segs [shL, shI, shQ, shQ, shL], .lst (.int .i64)]⟩⟩
abbrev fclaimed_l4_h (rec : Li → Li → Int → Int → Bool → Int → Int → Li → Int → Ll → Ll → Li → Li → Option ((Unit) ⊕ (Li × Li × Int × Int × Bool × Li × Int × Ll × Ll × Li × Li))) : Leaf ((Unit) ⊕ (Li × Li × Int × Int × Bool × Li × Int × Ll × Ll × Li × Li)) := ⟨fclaimed_l4_at, fclaimed_l4_st, fun p => rec p.1.2.1 p.1.2.2.1 p.1.2.2.2.1 p.1.2.2.2.2.2.1 p.1.2.2.2.2.2.2.1 p.1.2.2.2.2.2.2.2.1 p.1.2.2.2.2.2.2.2.2.1 p.2.1.1 p.2.1.2.1 p.2.1.2.2.1 p.2.1.2.2.2.1 p.2.1.2.2.2.2.1 p.2.2.1⟩
abbrev fclaimed_l4_e0 : Leaf ((Unit) ⊕ (Li × Li × Int × Int × Bool × Li × Int × Ll × Ll × Li × Li)) := ⟨[.c [1, 1, 1, 1, 1, 1, 1, 1, 0, 1, 0, 0, 1, 1, 0, 0, 1, 1, 1, 0, 0], .c [1, 1, 1, 1, 1, 1, 1, 1, 0, 1, 0, 0, 1, 1, 0, 0, 1, 1, 1, 0, 1], .b 7, .c [1, 1, 1, 1, 1, 1, 1, 1, 0, 1, 0, 0, 1, 1, 1], .l [1, 1, 1, 1, 1, 1, 1, 1, 0, 1, 0, 0], .b 6, .c [1, 1, 1, 1, 1, 1, 1, 1, 1]], ⟨[], ⟨[], []⟩⟩, fun p => some (.inl ())⟩
abbrev fclaimed_l4_e1 : Leaf ((Unit) ⊕ (Li × Li × Int × Int × Bool × Li × Int × Ll × Ll × Li × Li)) := ⟨[.c [1, 1, 1, 1, 1, 1, 1, 1, 1, 0, 0], .c [1, 1, 1, 1, 1, 1, 1, 1, 1, 0, 1], .c [1, 1, 1, 1, 1, 1, 1, 1, 1, 1]], ⟨[3, 4, 6, 7, 9, 10, 11], ⟨[.own 0 0, shL, shL, shI, .ols 1, shI, .b], [.segs [shL, shI, shQ, shQ, shL], .lst (.int .i64)]⟩⟩, fun p => some (.inr (p.1.2.1, p.1.2.2.1, p.1.2.2.2.1, p.1.2.2.2.2.2.1, p.1.2.2.2.2.2.2.1, p.2.1.1, p.2.1.2.1, p.2.1.2.2.1, p.2.1.2.2.2.1, p.2.1.2.2.2.2.1, p.2.2.1))⟩
noncomputable def fclaimed_l4_L (N : Nat) : LoopS := { at_ := fclaimed_l4_at, sta := fclaimed_l4_st, exits := [([.c [1, 1, 1, 1, 1, 1, 1, 1, 0, 1, 0, 0, 1, 1, 0, 0, 1, 1, 1, 0, 0], .c [1, 1, 1, 1, 1, 1, 1, 1, 0, 1, 0, 0, 1, 1, 0, 0, 1, 1, 1, 0, 1], .b 7, .c [1, 1, 1, 1, 1, 1, 1, 1, 0, 1, 0, 0, 1, 1, 1], .l [1, 1, 1, 1, 1, 1, 1, 1, 0, 1, 0, 0], .b 6, .c [1, 1, 1, 1, 1, 1, 1, 1, 1]], ⟨[], ⟨[], []⟩⟩), ([.c [1, 1, 1, 1, 1, 1, 1, 1, 1, 0, 0], .c [1, 1, 1, 1, 1, 1, 1, 1, 1, 0, 1], .c [1, 1, 1, 1, 1, 1, 1, 1, 1, 1]], ⟨[3, 4, 6, 7, 9, 10, 11], ⟨[.own 0 0, shL, shL, shI, .ols 1, shI, .b], [.segs [shL, shI, shQ, shQ, shL], .lst (.int .i64)]⟩⟩)], run := fun p k => (fclaimed_l4 N N p.1.2.1 p.1.2.2.1 p.1.2.2.2.1 p.1.2.2.2.2.2.1 p.1.2.2.2.2.2.2.1 p.1.2.2.2.2.2.2.2.1 p.1.2.2.2.2.2.2.2.2.1 p.2.1.1 p.2.1.2.1 p.2.1.2.2.1 p.2.1.2.2.2.1 p.2.1.2.2.2.2.1 p.2.2.1).bind fun e => match e with | .inl x => k (.inl ((), ())) | .inr x => k (.inr (.inl (((), x.1, x.2.1, x.2.2.1, (), x.2.2.2.1, x.2.2.2.2.1, ()), ((x.2.2.2.2.2.1, x.2.2.2.2.2.2.1, x.2.2.2.2.2.2.2.1, x.2.2.2.2.2.2.2.2.1, x.2.2.2.2.2.2.2.2.2.1, ()), x.2.2.2.2.2.2.2.2.2.2, ())))) }
theorem fclaimed_l4_eq (N n_ : Nat) (contests : Li) (l : Li) (n : Int) (sum : Int) (twice : Bool) (u : Int) (u2 : Int) (d : Li) (d2 : Int) (d3 : Ll) (d4 : Ll) (d5 : Li) (claims : Li) : ev (Z := (Unit) ⊕ (Li × Li × Int × Int × Bool × Li × Int × Ll × Ll × Li × Li)) Try.prog (fclaimed_sp N) fclaimed_B [fclaimed_l2_L N, fclaimed_l3_L N, fclaimed_l1_L N] [fclaimed_l4_h (fclaimed_l4 N n_), fclaimed_l4_e0, fclaimed_l4_e1] none 400 true fclaimed_l4_at (stL fclaimed_l4_st (((), contests, l, n, (), sum, twice, u, u2, ()), ((d, d2, d3, d4, d5, ()), claims, ()))) (stH fclaimed_l4_st (((), contests, l, n, (), sum, twice, u, u2, ()), ((d, d2, d3, d4, d5, ()), claims, ()))) = fclaimed_l4 N (n_ + 1) contests l n sum twice u u2 d d2 d3 d4 d5 claims := by kernel_rfl
theorem fclaimed_l4_ok (N : Nat) {top : Bool} : LoopOK Try.prog fclaimed_B.c fclaimed_B.n fclaimed_B.m0 top (fclaimed_l4_L N) := loop_of_ev (Z := (Unit) ⊕ (Li × Li × Int × Int × Bool × Li × Int × Ll × Ll × Li × Li)) (N := N) (fun m p => fclaimed_l4 N m p.1.2.1 p.1.2.2.1 p.1.2.2.2.1 p.1.2.2.2.2.2.1 p.1.2.2.2.2.2.2.1 p.1.2.2.2.2.2.2.2.1 p.1.2.2.2.2.2.2.2.2.1 p.2.1.1 p.2.1.2.1 p.2.1.2.2.1 p.2.1.2.2.2.1 p.2.1.2.2.2.2.1 p.2.2.1) (fun e => match e with | .inl x => .inl ((), ()) | .inr x => .inr (.inl (((), x.1, x.2.1, x.2.2.1, (), x.2.2.2.1, x.2.2.2.2.1, ()), ((x.2.2.2.2.2.1, x.2.2.2.2.2.2.1, x.2.2.2.2.2.2.2.1, x.2.2.2.2.2.2.2.2.1, x.2.2.2.2.2.2.2.2.2.1, ()), x.2.2.2.2.2.2.2.2.2.2, ())))) (fun _ p k => bind_congr_ (fclaimed_l4 N N p.1.2.1 p.1.2.2.1 p.1.2.2.2.1 p.1.2.2.2.2.2.1 p.1.2.2.2.2.2.2.1 p.1.2.2.2.2.2.2.2.1 p.1.2.2.2.2.2.2.2.2.1 p.2.1.1 p.2.1.2.1 p.2.1.2.2.1 p.2.1.2.2.2.1 p.2.1.2.2.2.2.1 p.2.2.1) _ _ (fun e => by rcases e with x | x <;> rfl)) (fun _ => rfl) (fun m z E Xc hE hX hrec hx => leaf_of_ev (B := fclaimed_B) (loops := [fclaimed_l2_L N, fclaimed_l3_L N, fclaimed_l1_L N]) (leaves := [fclaimed_l4_h (fclaimed_l4 N m), fclaimed_l4_e0, fclaimed_l4_e1]) (fclaimed_all N) mixed ⟨fclaimed_l2_ok N, fclaimed_l3_ok N, fclaimed_l1_ok N, trivial⟩ hE hX ⟨hrec, (fun p hp => by obtain rfl := Option.some.inj hp; exact hx), (fun p hp => by obtain rfl := Option.some.inj hp; exact hx), trivial⟩ RetOK.no (fun p => fclaimed_l4_eq N m p.1.2.1 p.1.2.2.1 p.1.2.2.2.1 p.1.2.2.2.2.2.1 p.1.2.2.2.2.2.2.1 p.1.2.2.2.2.2.2.2.1 p.1.2.2.2.2.2.2.2.2.1 p.2.1.1 p.2.1.2.1 p.2.1.2.2.1 p.2.1.2.2.2.1 p.2.1.2.2.2.2.1 p.2.2.1))
abbrev fclaimed_l5_at : List PI := [.c [1, 1, 1, 1, 1, 1, 1, 1, 1, 1, 0, 1, 0, 1, 0, 0, 0], .c [1, 1, 1, 1, 1, 1, 1, 1, 1, 1, 0, 1, 0, 1, 0, 0, 1], .l [1, 1, 1, 1, 1, 1, 1, 1, 1, 1, 0, 1, 0, 1, 0, 0], .b 8, .c [1, 1, 1, 1, 1, 1, 1, 1, 1, 1, 1]]
abbrev fclaimed_l5_st : Sta := ⟨[3, 9, 202, 203, 204], ⟨[.own 0 0, .ols 1, shL, shI, shI], [.segs [shL, shI, shQ, shQ, shL], .lst (.int .i64)]⟩⟩
abbrev fclaimed_l5_h (rec : Li → Int → Int → Li → Int → Ll → Ll → Li → Li → Option ((Unit) ⊕ ((Unit) ⊕ (Unit)))) : Leaf ((Unit) ⊕ ((Unit) ⊕ (Unit))) := ⟨fclaimed_l5_at, fclaimed_l5_st, fun p => rec p.1.2.2.1 p.1.2.2.2.1 p.1.2.2.2.2.1 p.2.1.1 p.2.1.2.1 p.2.1.2.2.1 p.2.1.2.2.2.1 p.2.1.2.2.2.2.1 p.2.2.1⟩
abbrev fclaimed_l5_e0 : Leaf ((Unit) ⊕ ((Unit) ⊕ (Unit))) := ⟨[.c [1, 1, 1, 1, 1, 1, 1, 1, 1, 1, 0, 1, 0, 1, 0, 0, 1, 1, 0, 0, 1, 0, 1, 0, 0], .c [1, 1, 1, 1, 1, 1, 1, 1, 1, 1, 0, 1, 0, 1, 0, 0, 1, 1, 0, 0, 1, 0, 1, 0, 1], .c [1, 1, 1, 1, 1, 1, 1, 1, 1, 1, 0, 1, 0, 1, 0, 0, 1, 1, 0, 0, 1, 1], .b 9, .c [1, 1, 1, 1, 1, 1, 1, 1, 1, 1, 0, 1, 0, 1, 0, 0, 1, 1, 1], .l [1, 1, 1, 1, 1, 1, 1, 1, 1, 1, 0, 1, 0, 1, 0, 0], .b 8, .c [1, 1, 1, 1, 1, 1, 1, 1, 1, 1, 1]], ⟨[], ⟨[], []⟩⟩, fun p => some (.inl ())⟩
abbrev fclaimed_l5_e1 : Leaf ((Unit) ⊕ ((Unit) ⊕ (Unit))) := ⟨[.c [1, 1, 1, 1, 1, 1, 1, 1, 1, 1, 0, 1, 0, 1, 0, 0, 1, 1, 0, 0, 1, 1, 1, 1, 1, 0, 0], .c [1, 1, 1, 1, 1, 1, 1, 1, 1, 1, 0, 1, 0, 1, 0, 0, 1, 1, 0, 0, 1, 1, 1, 1, 1, 0, 1], .b 9, .c [1, 1, 1, 1, 1, 1, 1, 1, 1, 1, 0, 1, 0, 1, 0, 0, 1, 1, 1], .l [1, 1, 1, 1, 1, 1, 1, 1, 1, 1, 0, 1, 0, 1, 0, 0], .b 8, .c [1, 1, 1, 1, 1, 1, 1, 1, 1, 1, 1]], ⟨[], ⟨[], []⟩⟩, fun p => some (.inr (.inl ()))⟩
abbrev fclaimed_l5_e2 : Leaf ((Unit) ⊕ ((Unit) ⊕ (Unit))) := ⟨[.c [1, 1, 1, 1, 1, 1, 1, 1, 1, 1, 1, 0], .c [1, 1, 1, 1, 1, 1, 1, 1, 1, 1, 1, 1]], ⟨[], ⟨[], []⟩⟩, fun p => some (.inr (.inr ()))⟩
abbrev fclaimed_j3_at : List PI := [.c [1, 1, 1, 1, 1, 1, 1, 1, 1, 1, 0, 1, 0, 1, 0, 0, 1, 1, 1], .l [1, 1, 1, 1, 1, 1, 1, 1, 1, 1, 0, 1, 0, 1, 0, 0], .b 8, .c [1, 1, 1, 1, 1, 1, 1, 1, 1, 1, 1]]
abbrev fclaimed_j3_st : Sta := ⟨[3, 9, 202, 203, 204], ⟨[.own 0 0, .ols 1, shL, shI, shI], [.segs [shL, shI, shQ, shQ, shL], .lst (.int .i64)]⟩⟩
abbrev fclaimed_j3_k (N : Nat) (rec : Li → Int → Int → Li → Int → Ll → Ll → Li → Li → Option ((Unit) ⊕ ((Unit) ⊕ (Unit)))) : Leaf ((Unit) ⊕ ((Unit) ⊕ (Unit))) := ⟨fclaimed_j3_at, fclaimed_j3_st, fun p => fclaimed_j3 N rec p.1.2.2.1 p.1.2.2.2.1 p.1.2.2.2.2.1 p.2.1.1 p.2.1.2.1 p.2.1.2.2.1 p.2.1.2.2.2.1 p.2.1.2.2.2.2.1 p.2.2.1⟩
theorem fclaimed_j3_eq (N : Nat) (rec : Li → Int → Int → Li → Int → Ll → Ll → Li → Li → Option ((Unit) ⊕ ((Unit) ⊕ (Unit)))) (u : Li) (u2 : Int) (u3 : Int) (d : Li) (d2 : Int) (d3 : Ll) (d4 : Ll) (d5 : Li) (claims : Li) : ev (Z := (Unit) ⊕ ((Unit) ⊕ (Unit))) Try.prog (fclaimed_sp N) fclaimed_B [fclaimed_l2_L N, fclaimed_l3_L N, fclaimed_l1_L N, fclaimed_l4_L N] [fclaimed_l5_h rec, fclaimed_l5_e0, fclaimed_l5_e1, fclaimed_l5_e2] none 400 true fclaimed_j3_at (stL fclaimed_j3_st (((), (), u, u2, u3, ()), ((d, d2, d3, d4, d5, ()), claims, ()))) (stH fclaimed_j3_st (((), (), u, u2, u3, ()), ((d, d2, d3, d4, d5, ()), claims, ()))) = fclaimed_j3 N rec u u2 u3 d d2 d3 d4 d5 claims := by kernel_rfl
theorem fclaimed_j3_lf (N : Nat) (rec : Li → Int → Int → Li → Int → Ll → Ll → Li → Li → Option ((Unit) ⊕ ((Unit) ⊕ (Unit)))) {z : (Unit) ⊕ ((Unit) ⊕ (Unit))} {top : Bool} {E : EE} {Xc : Ctx} (hE : EOK fclaimed_B.m0 E) (hX : CxOK top Xc) (hrec : LeafOK Try.prog fclaimed_B.c fclaimed_B.n fclaimed_B.m0 E Xc z (fclaimed_l5_h rec)) (h0 : LeafOK Try.prog fclaimed_B.c fclaimed_B.n fclaimed_B.m0 E Xc z fclaimed_l5_e0) (h1 : LeafOK Try.prog fclaimed_B.c fclaimed_B.n fclaimed_B.m0 E Xc z fclaimed_l5_e1) (h2 : LeafOK Try.prog fclaimed_B.c fclaimed_B.n fclaimed_B.m0 E Xc z fclaimed_l5_e2) : LeafOK Try.prog fclaimed_B.c fclaimed_B.n fclaimed_B.m0 E Xc z (fclaimed_j3_k N rec) := leaf_of_ev (B := fclaimed_B) (loops := [fclaimed_l2_L N, fclaimed_l3_L N, fclaimed_l1_L N, fclaimed_l4_L N]) (leaves := [fclaimed_l5_h rec, fclaimed_l5_e0, fclaimed_l5_e1, fclaimed_l5_e2]) (fclaimed_all N) mixed ⟨fclaimed_l2_ok N, fclaimed_l3_ok N, fclaimed_l1_ok N, fclaimed_l4_ok N, trivial⟩ hE hX ⟨hrec, h0, h1, h2, trivial⟩ RetOK.no (fun p => fclaimed_j3_eq N rec p.1.2.2.1 p.1.2.2.2.1 p.1.2.2.2.2.1 p.2.1.1 p.2.1.2.1 p.2.1.2.2.1 p.2.1.2.2.2.1 p.2.1.2.2.2.2.1 p.2.2.1)
noncomputable def fclaimed_l5_L (N : Nat) : LoopS := { at_ := fclaimed_l5_at, sta := fclaimed_l5_st, exits := [([.c [1, 1, 1, 1, 1, 1, 1, 1, 1, 1, 0, 1, 0, 1, 0, 0, 1, 1, 0, 0, 1, 0, 1, 0, 0], .c [1, 1, 1, 1, 1, 1, 1, 1, 1, 1, 0, 1, 0, 1, 0, 0, 1, 1, 0, 0, 1, 0, 1, 0, 1], .c [1, 1, 1, 1, 1, 1, 1, 1, 1, 1, 0, 1, 0, 1, 0, 0, 1, 1, 0, 0, 1, 1], .b 9, .c [1, 1, 1, 1, 1, 1, 1, 1, 1, 1, 0, 1, 0, 1, 0, 0, 1, 1, 1], .l [1, 1, 1, 1, 1, 1, 1, 1, 1, 1, 0, 1, 0, 1, 0, 0], .b 8, .c [1, 1, 1, 1, 1, 1, 1, 1, 1, 1, 1]], ⟨[], ⟨[], []⟩⟩), ([.c [1, 1, 1, 1, 1, 1, 1, 1, 1, 1, 0, 1, 0, 1, 0, 0, 1, 1, 0, 0, 1, 1, 1, 1, 1, 0, 0], .c [1, 1, 1, 1, 1, 1, 1, 1, 1, 1, 0, 1, 0, 1, 0, 0, 1, 1, 0, 0, 1, 1, 1, 1, 1, 0, 1], .b 9, .c [1, 1, 1, 1, 1, 1, 1, 1, 1, 1, 0, 1, 0, 1, 0, 0, 1, 1, 1], .l [1, 1, 1, 1, 1, 1, 1, 1, 1, 1, 0, 1, 0, 1, 0, 0], .b 8, .c [1, 1, 1, 1, 1, 1, 1, 1, 1, 1, 1]], ⟨[], ⟨[], []⟩⟩), ([.c [1, 1, 1, 1, 1, 1, 1, 1, 1, 1, 1, 0], .c [1, 1, 1, 1, 1, 1, 1, 1, 1, 1, 1, 1]], ⟨[], ⟨[], []⟩⟩)], run := fun p k => (fclaimed_l5 N N p.1.2.2.1 p.1.2.2.2.1 p.1.2.2.2.2.1 p.2.1.1 p.2.1.2.1 p.2.1.2.2.1 p.2.1.2.2.2.1 p.2.1.2.2.2.2.1 p.2.2.1).bind fun e => match e with | .inl x => k (.inl ((), ())) | .inr (.inl x) => k (.inr (.inl ((), ()))) | .inr (.inr x) => k (.inr (.inr (.inl ((), ())))) }
theorem fclaimed_l5_eq (N n_ : Nat) (u : Li) (u2 : Int) (u3 : Int) (d : Li) (d2 : Int) (d3 : Ll) (d4 : Ll) (d5 : Li) (claims : Li) : ev (Z := (Unit) ⊕ ((Unit) ⊕ (Unit))) Try.prog (fclaimed_sp N) fclaimed_B [fclaimed_l2_L N, fclaimed_l3_L N, fclaimed_l1_L N, fclaimed_l4_L N] [fclaimed_l5_h (fclaimed_l5 N n_), fclaimed_l5_e0, fclaimed_l5_e1, fclaimed_l5_e2, fclaimed_j3_k N (fclaimed_l5 N n_)] none 400 true fclaimed_l5_at (stL fclaimed_l5_st (((), (), u, u2, u3, ()), ((d, d2, d3, d4, d5, ()), claims, ()))) (stH fclaimed_l5_st (((), (), u, u2, u3, ()), ((d, d2, d3, d4, d5, ()), claims, ()))) = fclaimed_l5 N (n_ + 1) u u2 u3 d d2 d3 d4 d5 claims := by kernel_rfl
theorem fclaimed_l5_ok (N : Nat) {top : Bool} : LoopOK Try.prog fclaimed_B.c fclaimed_B.n fclaimed_B.m0 top (fclaimed_l5_L N) := loop_of_ev (Z := (Unit) ⊕ ((Unit) ⊕ (Unit))) (N := N) (fun m p => fclaimed_l5 N m p.1.2.2.1 p.1.2.2.2.1 p.1.2.2.2.2.1 p.2.1.1 p.2.1.2.1 p.2.1.2.2.1 p.2.1.2.2.2.1 p.2.1.2.2.2.2.1 p.2.2.1) (fun e => match e with | .inl x => .inl ((), ()) | .inr (.inl x) => .inr (.inl ((), ())) | .inr (.inr x) => .inr (.inr (.inl ((), ())))) (fun _ p k => bind_congr_ (fclaimed_l5 N N p.1.2.2.1 p.1.2.2.2.1 p.1.2.2.2.2.1 p.2.1.1 p.2.1.2.1 p.2.1.2.2.1 p.2.1.2.2.2.1 p.2.1.2.2.2.2.1 p.2.2.1) _ _ (fun e => by rcases e with x | x | x <;> rfl)) (fun _ => rfl) (fun m z E Xc hE hX hrec hx => leaf_of_ev (B := fclaimed_B) (loops := [fclaimed_l2_L N, fclaimed_l3_L N, fclaimed_l1_L N, fclaimed_l4_L N]) (leaves := [fclaimed_l5_h (fclaimed_l5 N m), fclaimed_l5_e0, fclaimed_l5_e1, fclaimed_l5_e2, fclaimed_j3_k N (fclaimed_l5 N m)]) (fclaimed_all N) mixed ⟨fclaimed_l2_ok N, fclaimed_l3_ok N, fclaimed_l1_ok N, fclaimed_l4_ok N, trivial⟩ hE hX ⟨hrec, (fun p hp => by obtain rfl := Option.some.inj hp; exact hx), (fun p hp => by obtain rfl := Option.some.inj hp; exact hx), (fun p hp => by obtain rfl := Option.some.inj hp; exact hx), fclaimed_j3_lf N _ hE hX hrec (fun p hp => by obtain rfl := Option.some.inj hp; exact hx) (fun p hp => by obtain rfl := Option.some.inj hp; exact hx) (fun p hp => by obtain rfl := Option.some.inj hp; exact hx), trivial⟩ RetOK.no (fun p => fclaimed_l5_eq N m p.1.2.2.1 p.1.2.2.2.1 p.1.2.2.2.2.1 p.2.1.1 p.2.1.2.1 p.2.1.2.2.1 p.2.1.2.2.2.1 p.2.1.2.2.2.2.1 p.2.2.1))
abbrev fclaimed_st : Sta := ⟨[0], ⟨[.sl (.int .u8)], []⟩⟩
theorem fclaimed_eq (N : Nat) (numbers : Li) : ev (Z := Bool) Try.prog (fclaimed_sp N) fclaimed_B [fclaimed_l2_L N, fclaimed_l3_L N, fclaimed_l1_L N, fclaimed_l4_L N, fclaimed_l5_L N] [] (some fclaimed_rt) 400 false [.c [0], .c [1]] (stL fclaimed_st ((numbers, ()), ())) (stH fclaimed_st ((numbers, ()), ())) = fclaimed_S N numbers := by kernel_rfl
noncomputable def sp_fclaimed (N : Nat) : Spec := { f := 15, ins := ⟨[.sl (.int .u8)], []⟩, outs := [⟨[.b], []⟩], run := fun p k => (fclaimed_S N p.1.1).bind fun r => k ((r, ()), ()) }
theorem sp_fclaimed_ok (N : Nat) : SpecOK Try.prog (sp_fclaimed N) := fn_sound (B := fclaimed_B) (loops := [fclaimed_l2_L N, fclaimed_l3_L N, fclaimed_l1_L N, fclaimed_l4_L N, fclaimed_l5_L N]) (leaves := []) (fun p => fclaimed_S N p.1.1) (fun r => ((r, ()), ())) fclaimed_rt (fun _ _ _ => rfl) (fun r z h => by cases h; rfl) Try.func15 (by kernel_rfl) (by kernel_rfl) (by kernel_rfl) rfl rfl (by kernel_rfl) (fun args w => Sem.pv_run _ _ _ (by kernel_rfl) w) (fclaimed_all N) mixed ⟨fclaimed_l2_ok N, fclaimed_l3_ok N, fclaimed_l1_ok N, fclaimed_l4_ok N, fclaimed_l5_ok N, trivial⟩ (fun z E Xc hE hX hret => trivial) (fun p => fclaimed_eq N p.1.1)

end Go.Proofs.Ythncjilcflilcaa

namespace Go.Proofs.Ythncjilcflilcaa
set_option linter.all false
open Go

/-! ### Numbers without one -/
def up (i x : Nat) : Nat := if x < i then x else x + 1
section
variable {n m : Nat} {can : Nat → Nat → Bool} {t : Nat → Nat → Int}
theorem Mt.bd {J : Nat → Int} (h : Mt n m can J) {i : Nat} (hi : i < n) : -1 ≤ J i ∧ J i < m := by
  rcases h.ok i hi with e | ⟨k, e, hk, _⟩ <;> omega
/-! ### Without a found thing -/
theorem IsMax.congr {fr fr' : Nat → Prop} {v : Int} (h : IsMax n m can t fr v) (hf : ∀ k, fr k ↔ fr' k) : IsMax n m can t fr' v := by
  have : fr = fr' := funext fun k => propext (hf k)
  rw [← this]; exact h
/-! ### Without a lost thing -/
/-! ### How many joins join two things -/
theorem mem_joins {l : List Int} {u : Nat} : l ∈ joinsL can m n 0 u ↔ l.length = n ∧ Mt n m can (fnJ l) ∧ ∀ k, u.testBit k = true → ¬ Usd n (fnJ l) k := by
  constructor
  · intro h
    obtain ⟨h1, h2, _⟩ := list_mt (t := fun _ _ => 0) h
    exact ⟨(mem_joinsL.1 h).1, h1, h2⟩
  · rintro ⟨h1, h2⟩
    exact mem_joinsL.2 ⟨h1, okJ_mt.2 (by rw [h1]; exact h2)⟩
theorem val_joins {l : List Int} (h : l.length = n) : valJ t 0 l = wt t n (fnJ l) := by rw [valJ_wt, h]
theorem Mt.congr {J J' : Nat → Int} (h : Mt n m can J) (he : ∀ i, i < n → J i = J' i) : Mt n m can J' := by
  refine ⟨fun i hi => by rw [← he i hi]; exact h.ok i hi, fun i j hi hj hij e => ?_⟩
  rw [← he i hi, ← he j hj] at e
  rw [← he i hi]
  exact h.inj i j hi hj hij e
end
end Go.Proofs.Ythncjilcflilcaa

namespace Go.Proofs.Ythncjilcflilcaa
set_option linter.all false
open Go

theorem drop_cons {α : Type} {l : List α} {k : Nat} (h : k < l.length) (d : α) : l.drop k = l.getD k d :: l.drop (k + 1) := by
  rw [List.drop_eq_getElem_cons h]; simp [List.getD, h]
theorem gets {α : Type} {l : List α} {k : Nat} (h : k < l.length) (d : α) : l[((k : Nat) : Int).toNat]? = some (l.getD k d) := by simp [List.getD, h]
theorem getD_mem {α : Type} {l : List α} {i : Nat} {d : α} (h : i < l.length) : l.getD i d ∈ l := by
  simp [List.getD, h]
theorem nat_succ (k : Nat) : ((k + 1 : Nat) : Int) = (k : Int) + 1 := by omega
theorem in_v (N : Nat) (n lo hi : Int) : in__S N n lo hi = some (decide (lo ≤ n ∧ n ≤ hi)) := by
  unfold in__S br
  by_cases h : lo ≤ n <;> simp [h]
theorem every_gen {α : Type} {f : α → Option Bool} {p : α → Bool} {s : List α} {N : Nat} (hf : ∀ x ∈ s, f x = some (p x)) (hs : s.length ≤ 1000000) (hN : s.length < N) :
    (((ixS (fun x => (f x).bind fun c => some (!c)) N s).bind fun x => some (decide (0 ≤ x))).bind fun x => some (!x)) = some (s.all p) := by
  rw [ixS_any (p := fun x => !p x) (fun x hx => by rw [hf x hx]; rfl) hs hN]
  simp only [Option.bind_some, any_not]
/-- The limits of a desk's numbers. -/
def okv (x : Int) : Bool := decide (-1 ≤ x ∧ x ≤ 5)
def okw (x : Int) : Bool := decide (1 ≤ x ∧ x ≤ 9)
def okr (x : Int) : Bool := decide (0 ≤ x ∧ x ≤ 99)
def okl (n : Nat) (r : List Int) : Bool := decide (r.length = n)
/-- What is looked at is small. -/
structure Sm (W : List Int) (L F : List (List Int)) (R : List Int) : Prop where
  w : W.length ≤ 100
  l : L.length ≤ 100
  f : F.length ≤ 100
  r : R.length ≤ 100
  lr : ∀ x ∈ L, x.length ≤ 100
  fr : ∀ x ∈ F, x.length ≤ 100
section
variable (N : Nat)
theorem ixfv_gen : ∀ (n : Nat) (s : List Int) (u u2 : Int), ixfv_l1 N n s u u2 = ixL (every1v_S N) n s u u2
  | 0, _, _, _ => rfl
  | n + 1, s, u, u2 => by unfold ixfv_l1 ixL; simp only [ixfv_gen n]
theorem ixfva_gen : ∀ (n : Nat) (s : List (List Int)) (u u2 : Int), ixfva_l1 N n s u u2 = ixL (every1va_S N) n s u u2
  | 0, _, _, _ => rfl
  | n + 1, s, u, u2 => by unfold ixfva_l1 ixL; simp only [ixfva_gen n]
theorem ixfw_gen : ∀ (n : Nat) (s : List Int) (u u2 : Int), ixfw_l1 N n s u u2 = ixL (every1w_S N) n s u u2
  | 0, _, _, _ => rfl
  | n + 1, s, u, u2 => by unfold ixfw_l1 ixL; simp only [ixfw_gen n]
theorem ixfr_gen : ∀ (n : Nat) (s : List Int) (u u2 : Int), ixfr_l1 N n s u u2 = ixL (every1r_S N) n s u u2
  | 0, _, _, _ => rfl
  | n + 1, s, u, u2 => by unfold ixfr_l1 ixL; simp only [ixfr_gen n]
end
section
variable {N : Nat} {W : List Int} {s : Int} {L F : List (List Int)} {R : List Int}
theorem everyv_v {l : List Int} (h : l.length ≤ 1000000) (hN : l.length < N) : everyv_S N l = some (l.all okv) := by
  unfold everyv_S cofv_S ixfv_S
  rw [← every_gen (f := check21_S N) (p := okv) (s := l) (N := N) (fun x _ => ?_) h hN]
  · unfold ixS
    rw [ixfv_gen]
    rfl
  · unfold check21_S okv
    rw [in_v]; rfl
theorem everyw_v {l : List Int} (h : l.length ≤ 1000000) (hN : l.length < N) : everyw_S N l = some (l.all okw) := by
  unfold everyw_S cofw_S ixfw_S
  rw [← every_gen (f := check3_S N) (p := okw) (s := l) (N := N) (fun x _ => ?_) h hN]
  · unfold ixS
    rw [ixfw_gen]
    rfl
  · unfold check3_S okw
    rw [in_v]; rfl
theorem everyr_v {l : List Int} (h : l.length ≤ 1000000) (hN : l.length < N) : everyr_S N l = some (l.all okr) := by
  unfold everyr_S cofr_S ixfr_S
  rw [← every_gen (f := check4_S N) (p := okr) (s := l) (N := N) (fun x _ => ?_) h hN]
  · unfold ixS
    rw [ixfr_gen]
    rfl
  · unfold check4_S okr
    rw [in_v]; rfl
theorem everyva_v {l : List (List Int)} (h : l.length ≤ 1000000) (hN : l.length < N) (hr : ∀ x ∈ l, x.length ≤ 1000000 ∧ x.length < N) : everyva_S N l = some (l.all fun r => r.all okv) := by
  unfold everyva_S cofva_S ixfva_S
  rw [← every_gen (f := check2_S N) (p := fun r => r.all okv) (s := l) (N := N) (fun x hx => ?_) h hN]
  · unfold ixS
    rw [ixfva_gen]
    rfl
  · unfold check2_S
    rw [everyv_v (hr x hx).1 (hr x hx).2]; rfl
theorem ixflo_gen : ∀ (n : Nat) (l : List (List Int)) (u u2 : Int), ixflo_l1 N n l u u2 (W, s, L, F, R) = (ixL (fun x => some (!okl W.length x)) n l u u2).map fun r => match r with | .inl i => .inl (i, (W, s, L, F, R)) | .inr _ => .inr (W, s, L, F, R)
  | 0, _, _, _ => rfl
  | n + 1, l, u, u2 => by
    have e : ∀ x, every1lo_S N x (W, s, L, F, R) = some (!okl W.length x, (W, s, L, F, R)) := fun x => by
      unfold every1lo_S check1_S okl
      simp only [Option.bind_some]
      congr 3
      exact decide_eq_decide.2 (by omega)
    unfold ixflo_l1 ixL
    simp only [e, Option.bind_some, ixflo_gen n]
    unfold br
    split
    · unfold idx
      split
      · cases l[u2.toNat]? with
        | none => rfl
        | some a =>
          dsimp only
          cases okl W.length a
          · rfl
          · simp only [Bool.not_true, Bool.false_eq_true, if_false]
            unfold chk
            split <;> rfl
      · rfl
    · rfl
theorem everylo_v {l : List (List Int)} (h : l.length ≤ 1000000) (hN : l.length < N) : everylo_S N l (W, s, L, F, R) = some (l.all (okl W.length)) := by
  unfold everylo_S coflo_S ixflo_S
  rw [← every_gen (f := fun x => some (okl W.length x)) (p := okl W.length) (s := l) (N := N) (fun x _ => rfl) h hN]
  unfold ixS
  rw [ixflo_gen]
  simp only [Option.bind_some]
  cases ixL (fun x => some (!okl W.length x)) N l l.length 0 with
  | none => rfl
  | some r => cases r <;> rfl
end
/-- The error of a desk. -/
def errD (W : List Int) (s : Int) (L F : List (List Int)) (R : List Int) : Int :=
  if ¬ (1 ≤ (W.length : Int) ∧ (W.length : Int) ≤ 5) then 2 else if 6 < (L.length : Int) then 2 else if 6 < (F.length : Int) then 2 else if L.all (okl W.length) = false then 2 else if F.all (okl W.length) = false then 2 else
  if ¬ ((R.length : Int) = (L.length : Int)) then 2 else if (W.all okw && decide (0 ≤ s ∧ s ≤ 3) && R.all okr && (L.all fun r => r.all okv) && F.all fun r => r.all okv) = true then 0 else 3
section
variable {N : Nat} {W : List Int} {s : Int} {L F : List (List Int)} {R : List Int}
theorem check_v (hN : 110 ≤ N) (h : Sm W L F R) : check_S N W s L F R = some (errD W s L F R) := by
  obtain ⟨hw, hl, hf, hr, hlr, hfr⟩ := h
  unfold check_S errD
  rw [in_v]
  simp only [Option.bind_some]
  by_cases c1 : 1 ≤ (W.length : Int) ∧ (W.length : Int) ≤ 5
  rotate_left
  · rw [br_nnd c1, if_pos c1]
  rw [br_nd c1, if_neg (by simpa using c1)]
  by_cases c2 : 6 < (L.length : Int)
  · rw [br_dec c2, if_pos c2]
  rw [br_ndec c2, if_neg c2]
  by_cases c3 : 6 < (F.length : Int)
  · rw [br_dec c3, if_pos c3]
  rw [br_ndec c3, if_neg c3, everylo_v (by omega) (by omega), everylo_v (by omega) (by omega), everyw_v (by omega) (by omega), in_v, everyr_v (by omega) (by omega),
    everyva_v (by omega) (by omega) (fun x hx => ⟨by have := hlr x hx; omega, by have := hlr x hx; omega⟩), everyva_v (by omega) (by omega) (fun x hx => ⟨by have := hfr x hx; omega, by have := hfr x hx; omega⟩)]
  simp only [Option.bind_some]
  cases L.all (okl W.length)
  · rfl
  cases F.all (okl W.length)
  · rfl
  by_cases c4 : (R.length : Int) = (L.length : Int)
  rotate_left
  · simp only [Bool.not_true, br_false, Bool.true_eq_false, if_false]
    rw [br_nnd c4, if_pos c4]
  simp only [Bool.not_true, br_false, Bool.true_eq_false, if_false]
  rw [br_nd c4, if_neg (not_not_intro c4)]
  cases W.all okw <;> cases decide (0 ≤ s ∧ s ≤ 3) <;> cases R.all okr <;> cases (L.all fun r => r.all okv) <;> cases (F.all fun r => r.all okv) <;> rfl
end
section
variable {N : Nat}
end
end Go.Proofs.Ythncjilcflilcaa

namespace Go.Proofs.Ythncjilcflilcaa
set_option linter.all false
open Go

def tabA (g : Nat → Int) : List Int := (List.range 36).map g
theorem tabA_len (g : Nat → Int) : (tabA g).length = 36 := by simp [tabA]
theorem tabA_get {g : Nat → Int} {x : Nat} (h : x < 36) : (tabA g).getD x 0 = g x := by simp [tabA, List.getD, h]
theorem tabA_set (g : Nat → Int) (x : Nat) (v : Int) : (tabA g).set x v = tabA (upd g x v) := by
  refine List.ext_getElem (by simp [tabA]) fun i h1 h2 => ?_
  simp only [tabA, List.getElem_set, List.getElem_map, List.getElem_range, upd]
  by_cases e : x = i
  · rw [if_pos e, if_pos e.symm]
  · rw [if_neg e, if_neg (Ne.symm e)]
/-- What two descriptions agree in, and how often they slip, up to a trait. -/
def agA (W a b : List Int) (t : Nat) : Int := if a.getD t 0 = b.getD t 0 ∧ a.getD t 0 ≠ -1 then W.getD t 0 else 0
def slA (a b : List Int) (t : Nat) : Int := if a.getD t 0 ≠ -1 ∧ b.getD t 0 ≠ -1 ∧ a.getD t 0 ≠ b.getD t 0 then 1 else 0
def agP (W a b : List Int) (k : Nat) : Int := sumN (agA W a b) k
def slP (a b : List Int) (k : Nat) : Int := sumN (slA a b) k
def agF (W : List Int) (L F : List (List Int)) (i k : Nat) : Int := if i < L.length ∧ k < F.length then agP W (L.getD i []) (F.getD k []) W.length else 0
def slF (W : List Int) (L F : List (List Int)) (i k : Nat) : Int := if i < L.length ∧ k < F.length then slP (L.getD i []) (F.getD k []) W.length else 0
theorem sumN_bound {f : Nat → Int} {m : Int} (h : ∀ i, 0 ≤ f i ∧ f i ≤ m) (hm : 0 ≤ m ∧ m ≤ 10) : ∀ n : Nat, n ≤ 1000 → 0 ≤ sumN f n ∧ sumN f n ≤ 10 * n
  | 0, _ => by simp [sumN]
  | n + 1, hn => by
    have h1 := sumN_bound h hm n (by omega)
    have h2 := h n
    rw [sumN]; omega
/-- A desk without an error. -/
structure Fine (W : List Int) (s : Int) (L F : List (List Int)) (R : List Int) : Prop where
  w1 : 1 ≤ W.length
  w5 : W.length ≤ 5
  l6 : L.length ≤ 6
  f6 : F.length ≤ 6
  lw : ∀ x ∈ L, x.length = W.length
  fw : ∀ x ∈ F, x.length = W.length
  rl : R.length = L.length
  w : ∀ x ∈ W, 1 ≤ x ∧ x ≤ 9
  s : 0 ≤ s ∧ s ≤ 3
  r : ∀ x ∈ R, 0 ≤ x ∧ x ≤ 99
  lv : ∀ r ∈ L, ∀ x ∈ r, -1 ≤ x ∧ x ≤ 5
  fv : ∀ r ∈ F, ∀ x ∈ r, -1 ≤ x ∧ x ≤ 5
section
variable {W : List Int} {s : Int} {L F : List (List Int)} {R : List Int}
theorem errD_iff : errD W s L F R = 0 ↔ Fine W s L F R := by
  unfold errD
  constructor
  · intro h
    split at h
    · cases h
    rename_i c1
    split at h
    · cases h
    rename_i c2
    split at h
    · cases h
    rename_i c3
    split at h
    · cases h
    rename_i c4
    split at h
    · cases h
    rename_i c5
    split at h
    · cases h
    rename_i c6
    split at h
    rotate_left
    · cases h
    rename_i c7
    simp only [Bool.and_eq_true, List.all_eq_true, okw, okr, okv, decide_eq_true_eq] at c7
    simp only [Bool.not_eq_false, List.all_eq_true, okl, decide_eq_true_eq] at c4 c5
    exact ⟨by omega, by omega, by omega, by omega, c4, c5, by omega, c7.1.1.1.1, c7.1.1.1.2, c7.1.1.2, c7.1.2, c7.2⟩
  · intro h
    have c4 : L.all (okl W.length) = true := by simpa [okl] using h.lw
    have c5 : F.all (okl W.length) = true := by simpa [okl] using h.fw
    have h1 := h.w1; have h2 := h.w5; have h3 := h.l6; have h4 := h.f6; have h5 := h.rl
    rw [if_neg (by omega), if_neg (by omega), if_neg (by omega), if_neg (by simp [c4]), if_neg (by simp [c5]), if_neg (by omega), if_pos]
    simp only [Bool.and_eq_true, List.all_eq_true, okw, okr, okv, decide_eq_true_eq]
    exact ⟨⟨⟨⟨h.w, h.s⟩, h.r⟩, h.lv⟩, h.fv⟩
theorem Fine.sm (h : Fine W s L F R) : Sm W L F R := by
  have h1 := h.w1; have h2 := h.w5; have h3 := h.l6; have h4 := h.f6; have h5 := h.rl
  exact ⟨by omega, by omega, by omega, by omega, fun x hx => by have := h.lw x hx; omega, fun x hx => by have := h.fw x hx; omega⟩
/-- The desk at work. -/
def dkT (W : List Int) (s : Int) (L F : List (List Int)) (R : List Int) (A B : Nat → Nat → Int) : Dk := (W, s, L, F, R, tabA (fun x => A (x / 6) (x % 6)), tabA (fun x => B (x / 6) (x % 6)), ())
def dkO (W : List Int) (s : Int) (L F : List (List Int)) (R : List Int) : Dk := dkT W s L F R (agF W L F) (slF W L F)
theorem getD_W (hw : ∀ x ∈ W, 1 ≤ x ∧ x ≤ 9) (t : Nat) : 0 ≤ W.getD t 0 ∧ W.getD t 0 ≤ 9 := by
  by_cases h : t < W.length
  · have := hw _ (getD_mem (d := 0) h); omega
  · have : W.getD t 0 = 0 := by simp [List.getD, List.getElem?_eq_none (show W.length ≤ t by omega)]
    omega
theorem agA_bound (hw : ∀ x ∈ W, 1 ≤ x ∧ x ≤ 9) (a b : List Int) (t : Nat) : 0 ≤ agA W a b t ∧ agA W a b t ≤ 9 := by
  have := getD_W hw t
  unfold agA; split <;> omega
theorem slA_bound (a b : List Int) (t : Nat) : 0 ≤ slA a b t ∧ slA a b t ≤ 1 := by unfold slA; split <;> omega
theorem agP_bound (hw : ∀ x ∈ W, 1 ≤ x ∧ x ≤ 9) (a b : List Int) {t : Nat} (ht : t ≤ 5) : 0 ≤ agP W a b t ∧ agP W a b t ≤ 50 := by
  have := sumN_bound (agA_bound hw a b) (by omega) t (by omega)
  unfold agP; omega
theorem slP_bound (a b : List Int) {t : Nat} (ht : t ≤ 5) : 0 ≤ slP a b t ∧ slP a b t ≤ 50 := by
  have := sumN_bound (slA_bound a b) (by omega) t (by omega)
  unfold slP; omega
theorem upd_upd {α : Type} (J : Nat → α) (i : Nat) (v w : α) : upd (upd J i v) i w = upd J i w := by
  funext x; unfold upd; split <;> rfl
theorem upd_id {α : Type} (J : Nat → α) (i : Nat) : upd J i (J i) = J := by
  funext x; unfold upd; split
  · rename_i e; rw [e]
  · rfl
theorem opened_l3_p {N : Nat} (h : Fine W s L F R) {i k : Nat} (hi : i < 6) (hk : k < 6) {a b : List Int} (ha : a.length = W.length) (hb : b.length = W.length) {u u4 : List (List Int)} {u2 u3 u5 u6 : Int} {o1 o5 : List Int} {o2 : Int} {o3 o4 : List (List Int)} :
    ∀ (n t : Nat) (g g' : Nat → Int), W.length < n + t → t ≤ W.length → g (i * 6 + k) = agP W a b t → g' (i * 6 + k) = slP a b t →
      opened_l3 N n i a k b u u2 u3 u4 u5 u6 a a.length t W s L F R o1 o2 o3 o4 o5 (tabA g) (tabA g') = some ((i : Int), a, u, u2, u3, u4, u5, u6, W, s, L, F, R, o1, o2, o3, o4, o5, tabA (upd g (i * 6 + k) (agP W a b W.length)), tabA (upd g' (i * 6 + k) (slP a b W.length)))
  | 0, t, _, _, hn, ht, _, _ => by omega
  | n + 1, t, g, g', hn, ht, e1, e2 => by
    unfold opened_l3
    have hw5 := h.w5
    by_cases c : t < W.length
    · have hx : i * 6 + k < 36 := by omega
      have hj : ∀ g g' : Nat → Int, opened_j1 N (opened_l3 N n) i a k b u u2 u3 u4 u5 u6 a a.length t W s L F R o1 o2 o3 o4 o5 (tabA g) (tabA g') = opened_l3 N n i a k b u u2 u3 u4 u5 u6 a a.length ((t + 1 : Nat) : Int) W s L F R o1 o2 o3 o4 o5 (tabA g) (tabA g') := fun g g' => by
        unfold opened_j1
        rw [chk_eq (by omega)]; rfl
      have b1 := agP_bound h.w a b (t := t) (by omega)
      have b2 := slP_bound a b (t := t) (by omega)
      have b3 := getD_W h.w t
      have s1 : agP W a b (t + 1) = agP W a b t + agA W a b t := rfl
      have s2 : slP a b (t + 1) = slP a b t + slA a b t := rfl
      rw [br_dec (by omega), idx_eq (by omega) (gets (by omega) 0)]
      unfold agA at s1
      unfold slA at s2
      by_cases c1 : a.getD t 0 = -1
      · rw [if_neg (by omega)] at s1 s2
        rw [br_dec c1, hj, opened_l3_p h hi hk ha hb n (t + 1) g g' (by omega) (by omega) (by omega) (by omega)]
      rw [br_ndec c1, idx_eq (by omega) (gets (by omega) 0)]
      by_cases c2 : b.getD t 0 = -1
      · rw [if_neg (by omega)] at s1 s2
        rw [br_dec c2, hj, opened_l3_p h hi hk ha hb n (t + 1) g g' (by omega) (by omega) (by omega) (by omega)]
      rw [br_ndec c2, idx_eq (by omega) (gets (by omega) 0)]
      by_cases c3 : a.getD t 0 = b.getD t 0
      · rw [if_pos ⟨c3, c1⟩] at s1
        rw [if_neg (by omega)] at s2
        rw [br_dec c3, rng_eq (by omega), rng_eq (by omega)]
        simp only [Int.toNat_natCast]
        rw [get_get 0 (by rw [tabA_len]; exact hx), tabA_get hx, e1, idx_eq (by omega) (gets (k := t) (l := W) (by omega) 0), chk_eq (by omega), rng_eq (by omega), rng_eq (by omega), get_get 0 (by rw [tabA_len]; exact hx), tabA_set, hj,
          opened_l3_p h hi hk ha hb n (t + 1) _ _ (by omega) (by omega) (by rw [upd_self]; omega) (by omega), upd_upd]
      · rw [if_neg (by omega)] at s1
        rw [if_pos ⟨c1, c2, c3⟩] at s2
        rw [br_ndec c3, rng_eq (by omega), rng_eq (by omega)]
        simp only [Int.toNat_natCast]
        rw [get_get 0 (by rw [tabA_len]; exact hx), tabA_get hx, e2, chk_eq (by omega), rng_eq (by omega), rng_eq (by omega), get_get 0 (by rw [tabA_len]; exact hx), tabA_set, hj,
          opened_l3_p h hi hk ha hb n (t + 1) _ _ (by omega) (by omega) (by omega) (by rw [upd_self]; omega), upd_upd]
    · obtain rfl : t = W.length := by omega
      rw [br_ndec (by omega), ← e1, ← e2, upd_id, upd_id]
/-- Tables that are filled up to a pair. -/
def gK (A : Nat → Nat → Int) (i k : Nat) : Nat → Int := fun x => if x / 6 < i ∨ (x / 6 = i ∧ x % 6 < k) then A (x / 6) (x % 6) else 0
theorem gK_step (A : Nat → Nat → Int) {i k : Nat} (hk : k < 6) : upd (gK A i k) (i * 6 + k) (A i k) = gK A i (k + 1) := by
  funext x
  unfold upd gK
  by_cases e : x = i * 6 + k
  · rw [if_pos e, if_pos (by omega), show x / 6 = i by omega, show x % 6 = k by omega]
  · rw [if_neg e]
    by_cases c : x / 6 < i ∨ (x / 6 = i ∧ x % 6 < k)
    · rw [if_pos c, if_pos (by omega)]
    · rw [if_neg c, if_neg (by omega)]
theorem gK_self (A : Nat → Nat → Int) {i k : Nat} (hk : k < 6) : gK A i k (i * 6 + k) = 0 := if_neg (by omega)
theorem gK_row {A : Nat → Nat → Int} {i m : Nat} (h : ∀ k, m ≤ k → A i k = 0) : gK A i m = gK A (i + 1) 0 := by
  funext x
  unfold gK
  by_cases c : x / 6 < i ∨ (x / 6 = i ∧ x % 6 < m)
  · rw [if_pos c, if_pos (by omega)]
  · rw [if_neg c]
    by_cases d : x / 6 = i
    · rw [if_pos (by omega), d, h _ (by omega)]
    · rw [if_neg (by omega)]
theorem gK_all {A : Nat → Nat → Int} {n : Nat} (h : ∀ i k, n ≤ i → A i k = 0) : gK A n 0 = fun x => A (x / 6) (x % 6) := by
  funext x
  unfold gK
  by_cases c : x / 6 < n
  · rw [if_pos (.inl c)]
  · rw [if_neg (by omega), h _ _ (by omega)]
theorem opened_l2_p {N : Nat} (hN : 110 ≤ N) (h : Fine W s L F R) {i : Nat} (hi : i < L.length) {u : List (List Int)} {u2 u3 : Int} {o1 o5 : List Int} {o2 : Int} {o3 o4 : List (List Int)} :
    ∀ (n k : Nat), F.length < n + k → k ≤ F.length →
      opened_l2 N n i (L.getD i []) u u2 u3 F F.length k W s L F R o1 o2 o3 o4 o5 (tabA (gK (agF W L F) i k)) (tabA (gK (slF W L F) i k)) = some (u, u2, u3, W, s, L, F, R, o1, o2, o3, o4, o5, tabA (gK (agF W L F) (i + 1) 0), tabA (gK (slF W L F) (i + 1) 0))
  | 0, k, hn, hk => by omega
  | n + 1, k, hn, hk => by
    unfold opened_l2
    have hl6 := h.l6; have hf6 := h.f6; have hw5 := h.w5
    by_cases c : k < F.length
    · have ih := opened_l2_p hN h hi (u := u) (u2 := u2) (u3 := u3) (o1 := o1) (o5 := o5) (o2 := o2) (o3 := o3) (o4 := o4) n (k + 1) (by omega) (by omega)
      rw [nat_succ] at ih
      have e := opened_l3_p (N := N) h (i := i) (k := k) (by omega) (by omega) (h.lw _ (getD_mem (d := []) hi)) (h.fw _ (getD_mem (d := []) c)) (u := u) (u4 := F) (u2 := u2) (u3 := u3) (u5 := F.length) (u6 := k) (o1 := o1) (o5 := o5) (o2 := o2) (o3 := o3) (o4 := o4)
        N 0 (gK (agF W L F) i k) (gK (slF W L F) i k) (by omega) (by omega) (gK_self _ (by omega)) (gK_self _ (by omega))
      have a1 : agP W (L.getD i []) (F.getD k []) W.length = agF W L F i k := (if_pos ⟨hi, c⟩).symm
      have a2 : slP (L.getD i []) (F.getD k []) W.length = slF W L F i k := (if_pos ⟨hi, c⟩).symm
      rw [a1, a2, gK_step _ (by omega), gK_step _ (by omega), show ((0 : Nat) : Int) = 0 from rfl] at e
      rw [br_dec (by omega), idx_eq (by omega) (gets c []), e]
      simp only [Option.bind_some]
      rw [chk_eq (by omega)]
      exact ih
    · obtain rfl : k = F.length := by omega
      rw [br_ndec (by omega), gK_row (A := agF W L F) (i := i) (m := F.length) (fun k hk => by unfold agF; exact if_neg (by omega)), gK_row (A := slF W L F) (i := i) (m := F.length) (fun k hk => by unfold slF; exact if_neg (by omega))]
theorem opened_l1_p {N : Nat} (hN : 110 ≤ N) (h : Fine W s L F R) {o1 o5 : List Int} {o2 : Int} {o3 o4 : List (List Int)} :
    ∀ (n i : Nat), L.length < n + i → i ≤ L.length →
      opened_l1 N n L L.length i W s L F R o1 o2 o3 o4 o5 (tabA (gK (agF W L F) i 0)) (tabA (gK (slF W L F) i 0)) = some (o1, o2, o3, o4, o5, tabA (fun x => agF W L F (x / 6) (x % 6)), tabA (fun x => slF W L F (x / 6) (x % 6)))
  | 0, i, hn, hi => by omega
  | n + 1, i, hn, hi => by
    unfold opened_l1
    have hl6 := h.l6; have hf6 := h.f6
    by_cases c : i < L.length
    · have ih := opened_l1_p hN h (o1 := o1) (o5 := o5) (o2 := o2) (o3 := o3) (o4 := o4) n (i + 1) (by omega) (by omega)
      rw [nat_succ] at ih
      have e := opened_l2_p hN h c (u := L) (u2 := L.length) (u3 := i) (o1 := o1) (o5 := o5) (o2 := o2) (o3 := o3) (o4 := o4) N 0 (by omega) (by omega)
      rw [show ((0 : Nat) : Int) = 0 from rfl] at e
      rw [br_dec (by omega), idx_eq (by omega) (gets c []), e]
      simp only [Option.bind_some]
      rw [chk_eq (by omega)]
      exact ih
    · obtain rfl : i = L.length := by omega
      rw [br_ndec (by omega), gK_all (A := agF W L F) (fun i k hi => by unfold agF; exact if_neg (by omega)), gK_all (A := slF W L F) (fun i k hi => by unfold slF; exact if_neg (by omega))]
theorem opened_v {N : Nat} (hN : 110 ≤ N) (h : Sm W L F R) : opened_S N W s L F R = some (if errD W s L F R = 0 then .inl (dkO W s L F R, 0) else .inr (errD W s L F R)) := by
  unfold opened_S
  rw [check_v hN h]
  simp only [Option.bind_some]
  by_cases c : errD W s L F R = 0
  · have hF := errD_iff.1 c
    have e := opened_l1_p hN hF (o1 := W) (o2 := s) (o3 := L) (o4 := F) (o5 := R) N 0 (by have := hF.l6; omega) (by omega)
    have z : ∀ A : Nat → Nat → Int, tabA (gK A 0 0) = List.replicate 36 (0 : Int) := fun A => by
      rw [show gK A 0 0 = fun _ => 0 by funext x; exact if_neg (by omega)]; rfl
    rw [z, z, show ((0 : Nat) : Int) = 0 from rfl] at e
    rw [br_nd c, if_pos c, e]; rfl
  · rw [br_nnd c, if_neg c]
end
end Go.Proofs.Ythncjilcflilcaa

namespace Go.Proofs.Ythncjilcflilcaa
set_option linter.all false
open Go

/-! ### All of some numbers -/
def alI (p : Nat → Bool) (n : Nat) : Bool := (List.range' 0 n).all p
theorem alI_iff {p : Nat → Bool} {n : Nat} : alI p n = true ↔ ∀ i, i < n → p i = true := by
  unfold alI
  rw [List.all_eq_true]
  constructor
  · exact fun h i hi => h i (by simp [List.mem_range'_1, hi])
  · exact fun h i hi => h i (by have := List.mem_range'_1.1 hi; omega)
/-! ### Tables -/
def canT (A B : Nat → Nat → Int) (s : Int) (i k : Nat) : Bool := decide (0 < A i k) && decide (B i k ≤ s)
section
variable {W : List Int} {s : Int} {L F : List (List Int)} {R : List Int} {A B : Nat → Nat → Int} {N : Nat}
theorem agD_T {i k : Nat} (hi : i < 6) (hk : k < 6) : agD (dkT W s L F R A B) i k = A i k := by
  unfold agD dkT
  rw [tabA_get (by omega), show (i * 6 + k) / 6 = i by omega, show (i * 6 + k) % 6 = k by omega]
theorem slD_T {i k : Nat} (hi : i < 6) (hk : k < 6) : slD (dkT W s L F R A B) i k = B i k := by
  unfold slD dkT
  rw [tabA_get (by omega), show (i * 6 + k) / 6 = i by omega, show (i * 6 + k) % 6 = k by omega]
theorem can_T {i k : Nat} (hi : i < 6) (hk : k < 6) : can_S N (dkT W s L F R A B) i k = some (canT A B s i k) := by
  rw [can_v (tabA_len _) (tabA_len _) hi hk]
  unfold canD canT
  rw [agD_T hi hk, slD_T hi hk]; rfl
theorem get_T {i k : Nat} (hi : i < 6) (hk : k < 6) {Z : Type} {f : Int → Option Z} : get (dkT W s L F R A B).2.2.2.2.2.1 (i * 6 + k) f = f (A i k) := by
  have e := agD_T (W := W) (s := s) (L := L) (F := F) (R := R) (A := A) (B := B) hi hk
  unfold agD at e
  rw [get_get 0 (by unfold dkT; rw [tabA_len]; omega), e]
theorem agF_bound (h : Fine W s L F R) (i k : Nat) : 0 ≤ agF W L F i k ∧ agF W L F i k ≤ 50 := by
  unfold agF
  split
  · exact agP_bound h.w _ _ h.w5
  · omega
abbrev canF (W : List Int) (s : Int) (L F : List (List Int)) : Nat → Nat → Bool := canT (agF W L F) (slF W L F) s
/-! ### A pair -/
/-! ### Joins -/
def inm (m : Nat) (x : Int) : Bool := decide (-1 ≤ x ∧ x ≤ (m : Int) - 1)
def hasB (l : List Int) (x : Int) : Bool := l.any fun y => decide (x = y)
theorem hasB_iff {l : List Int} {x : Int} : hasB l x = true ↔ x ∈ l := by simp [hasB]
def dupI (l : List Int) (i : Nat) : Bool := decide (l.getD i 0 = -1) || !hasB (l.take i) (l.getD i 0)
def cnI (can : Nat → Nat → Bool) (l : List Int) (i : Nat) : Bool := decide (l.getD i 0 = -1) || can i (l.getD i 0).toNat
/-- The error of joins, e that of the desk. -/
def errJ (e : Int) (n m : Nat) (can : Nat → Nat → Bool) (l : List Int) : Int :=
  if ¬ e = 0 then e else if ¬ (l.length : Int) = (n : Int) then 2 else if l.all (inm m) = false then 1 else if alI (dupI l) l.length = false then 5 else if alI (cnI can l) l.length = false then 8 else 0
theorem dfound_v (h : F.length ≤ 1000000) (x : Int) : dfound_S N (dkT W s L F R A B) x = some (decide (0 ≤ x ∧ x ≤ (F.length : Int) - 1)) := by
  unfold dfound_S
  rw [in_v]
  exact chk_eq (by simp only [dkT]; omega)
theorem dlost_v (h : L.length ≤ 1000000) (x : Int) : dlost_S N (dkT W s L F R A B) x = some (decide (0 ≤ x ∧ x ≤ (L.length : Int) - 1)) := by
  unfold dlost_S
  rw [in_v]
  exact chk_eq (by simp only [dkT]; omega)
theorem indexi_gen (v : Int) : ∀ (n : Nat) (l : List Int) (u u2 : Int), indexi_l1 N n l v u u2 = ixL (fun x => some (decide (v = x))) n l u u2
  | 0, _, _, _ => rfl
  | n + 1, l, u, u2 => by unfold indexi_l1 ixL; simp only [indexi_gen v n, Option.bind_some]
theorem containsi_v {l : List Int} (hl : l.length ≤ 1000000) (hN : l.length < N) (v : Int) : containsi_S N l v = some (hasB l v) := by
  unfold containsi_S indexi_S hasB
  rw [← ixS_any (f := fun x => some (decide (v = x))) (s := l) (N := N) (fun x _ => rfl) hl hN]
  unfold ixS
  rw [indexi_gen] <;> rfl
end
end Go.Proofs.Ythncjilcflilcaa

namespace Go.Proofs.Ythncjilcflilcaa
set_option linter.all false
open Go

section
variable {N : Nat}
theorem sum_l1_p {l : List Int} {m : Int} (hl : l.length ≤ 1000) (hm : 0 ≤ m ∧ m ≤ 1000) (hr : ∀ x ∈ l, -m ≤ x ∧ x ≤ m) : ∀ (n k : Nat) (s : Int), l.length < n + k → k ≤ l.length → (-(m * k) ≤ s ∧ s ≤ m * k) → sum_l1 N n s l l.length k = some (s + (l.drop k).sum)
  | 0, k, s, h, _, _ => by omega
  | n + 1, k, s, h, hk, hs => by
    unfold sum_l1
    have hmk : m * (k : Int) ≤ 1000 * 1000 := Int.mul_le_mul hm.2 (by omega) (by omega) (by omega)
    by_cases c : k < l.length
    · have hx := hr _ (getD_mem (d := 0) c)
      have g := gets c 0
      rw [drop_cons c 0]
      generalize l.getD k 0 = x at *
      have e : m * ((k + 1 : Nat) : Int) = m * k + m := by rw [Int.natCast_add, Int.mul_add]; simp
      have ih := sum_l1_p hl hm hr n (k + 1) (s + x) (by omega) (by omega) (by omega)
      rw [nat_succ] at ih
      rw [br_dec (by omega), idx_eq (by omega) g, chk_eq (by omega), chk_eq (by omega), ih, List.sum_cons]
      congr 1; omega
    · rw [br_ndec (by omega), List.drop_of_length_le (by omega)]; simp
theorem sum_v {l : List Int} {m : Int} (hl : l.length ≤ 1000) (hN : l.length < N) (hm : 0 ≤ m ∧ m ≤ 1000) (hr : ∀ x ∈ l, -m ≤ x ∧ x ≤ m) : sum_S N l = some l.sum := by
  unfold sum_S
  have := sum_l1_p (N := N) hl hm hr N 0 0 (by omega) (by omega) (by simp)
  simp only [Int.natCast_zero, List.drop_zero, Int.zero_add] at this
  rw [this]; rfl
end
/-- What joins count, one by one. -/
def wlJ (t : Nat → Nat → Int) : Nat → List Int → List Int
  | _, [] => []
  | i, x :: l => (if x = -1 then [] else [t i x.toNat]) ++ wlJ t (i + 1) l
theorem wlJ_sum (t : Nat → Nat → Int) : ∀ (l : List Int) (i : Nat), (wlJ t i l).sum = valJ t i l
  | [], _ => rfl
  | x :: l, i => by
    rw [wlJ, valJ, List.sum_append, wlJ_sum t l (i + 1)]
    unfold pv
    split <;> simp
theorem wlJ_len (t : Nat → Nat → Int) : ∀ (l : List Int) (i : Nat), (wlJ t i l).length ≤ l.length
  | [], _ => Nat.le_refl _
  | x :: l, i => by
    have := wlJ_len t l (i + 1)
    rw [wlJ, List.length_append, List.length_cons]
    split <;> simp <;> omega
theorem wlJ_bound {t : Nat → Nat → Int} {m : Int} (h : ∀ i k, 0 ≤ t i k ∧ t i k ≤ m) : ∀ (l : List Int) (i : Nat), ∀ x ∈ wlJ t i l, 0 ≤ x ∧ x ≤ m
  | [], _, x, hx => by cases hx
  | y :: l, i, x, hx => by
    rw [wlJ, List.mem_append] at hx
    rcases hx with hx | hx
    · split at hx
      · cases hx
      · simp only [List.mem_singleton] at hx
        subst hx; exact h _ _
    · exact wlJ_bound h l (i + 1) x hx
theorem valJ_bound {t : Nat → Nat → Int} {m : Int} (h : ∀ i k, 0 ≤ t i k ∧ t i k ≤ m) (hm : 0 ≤ m) : ∀ (l : List Int) (i : Nat), 0 ≤ valJ t i l ∧ valJ t i l ≤ m * l.length
  | [], _ => by simp [valJ]
  | x :: l, i => by
    have h1 := valJ_bound h hm l (i + 1)
    have h2 := h i x.toNat
    rw [valJ, List.length_cons, Int.natCast_add, Int.mul_add]
    unfold pv
    split <;> simp <;> omega
section
variable {W : List Int} {s : Int} {L F : List (List Int)} {R : List Int} {A B : Nat → Nat → Int} {N : Nat}
theorem dworth_l1_p {l : List Int} (hl : l.length ≤ 6) (hF : F.length ≤ 6) (hm : l.all (inm F.length) = true) : ∀ (n k : Nat) (acc : List Int), l.length < n + k → k ≤ l.length → acc.length ≤ k → dworth_l1 N n (dkT W s L F R A B) l l.length k acc = some (acc ++ wlJ A k (l.drop k))
  | 0, k, _, h, _, _ => by omega
  | n + 1, k, acc, h, hk, ha => by
    unfold dworth_l1
    by_cases c : k < l.length
    · have hx := List.all_eq_true.1 hm _ (getD_mem (d := 0) c)
      unfold inm at hx
      rw [decide_eq_true_eq] at hx
      have hj : ∀ acc, acc.length ≤ k + 1 → dworth_j1 N (dworth_l1 N n) (dkT W s L F R A B) l l.length k acc = some (acc ++ wlJ A (k + 1) (l.drop (k + 1))) := fun acc ha => by
        have ih := dworth_l1_p hl hF hm n (k + 1) acc (by omega) (by omega) ha
        rw [nat_succ] at ih
        unfold dworth_j1
        rw [chk_eq (by omega), ih]
      rw [br_dec (by omega), idx_eq (by omega) (gets c 0), drop_cons c 0, wlJ]
      by_cases c1 : l.getD k 0 = -1
      · rw [br_nd c1, hj _ (by omega), if_pos c1, List.nil_append]
      · obtain ⟨q, hq⟩ : ∃ q : Nat, l.getD k 0 = q := ⟨(l.getD k 0).toNat, by omega⟩
        rw [br_nnd c1, if_neg c1]
        rw [hq] at hx ⊢
        rw [rng_eq (by omega), rng_eq (by omega)]
        simp only [Int.toNat_natCast]
        rw [get_T (by omega) (by omega), lim_eq (by simp; omega), hj _ (by simp; omega), List.append_assoc]
    · rw [br_ndec (by omega), List.drop_of_length_le (by omega)]
      simp [wlJ]
theorem dworth_v (hN : 110 ≤ N) (hA : ∀ i k, 0 ≤ A i k ∧ A i k ≤ 50) {l : List Int} (hl : l.length ≤ 6) (hF : F.length ≤ 6) (hm : l.all (inm F.length) = true) : dworth_S N (dkT W s L F R A B) l = some (valJ A 0 l) := by
  have e := dworth_l1_p (N := N) (W := W) (s := s) (L := L) (F := F) (R := R) (A := A) (B := B) hl hF hm N 0 [] (by omega) (by omega) (by simp)
  have h1 := wlJ_len A l 0
  rw [show ((0 : Nat) : Int) = 0 from rfl, List.drop_zero, List.nil_append] at e
  unfold dworth_S
  rw [e]
  simp only [Option.bind_some]
  rw [sum_v (m := 1000) (by omega) (by omega) (by omega) (fun x hx => by have := wlJ_bound hA l 0 x hx; omega), wlJ_sum]; rfl
/-- What joins without an error are. -/
theorem errJ_fine {e : Int} {n m : Nat} {can : Nat → Nat → Bool} {l : List Int} (h : errJ e n m can l = 0) : e = 0 ∧ l.length = n ∧ l.all (inm m) = true ∧ alI (dupI l) l.length = true ∧ alI (cnI can l) l.length = true := by
  unfold errJ at h
  split at h
  · rename_i c; exact absurd h c
  rename_i c
  split at h
  · cases h
  rename_i c1
  split at h
  · cases h
  rename_i c2
  split at h
  · cases h
  rename_i c3
  split at h
  · cases h
  rename_i c4
  exact ⟨by omega, by omega, by simpa using c2, by simpa using c3, by simpa using c4⟩
/-! ### What may be joined -/
def mayE (can : Nat → Nat → Bool) (m i : Nat) : List (Int × Unit) := (mayL can m i).map fun (j : Nat) => ((j : Int), ())
theorem mayR_T (hF : F.length ≤ 6) {i : Nat} (hi : i < 6) : mayR (dkT W s L F R A B) (dkT W s L F R A B) i = some (mayE (canT A B s) F.length i) := by
  unfold mayR mayE mayL mayF
  rw [if_pos ⟨⟨by omega, by omega⟩, hF, tabA_len _, tabA_len _⟩]
  congr 2
  simp only [Int.toNat_natCast, Nat.sub_zero]
  rw [← List.range_eq_range']
  refine List.filter_congr fun k hk => ?_
  have hk : k < F.length := by simpa [dkT] using hk
  unfold canD canT
  rw [agD_T hi (by omega), slD_T hi (by omega)]; rfl
end
end Go.Proofs.Ythncjilcflilcaa

namespace Go.Proofs.Ythncjilcflilcaa
set_option linter.all false
open Go

section
variable {W : List Int} {s : Int} {L F : List (List Int)} {R : List Int} {A B : Nat → Nat → Int} {N : Nat}
/-! ### Copies -/
end
end Go.Proofs.Ythncjilcflilcaa

namespace Go.Proofs.Ythncjilcflilcaa
set_option linter.all false
open Go

abbrev MK := List ((Int × Int) × (Int × (Int × Int)))
def lkM (g : MK) (i u : Int) : Option (Int × (Int × Int)) := (g.find? fun (y : (Int × Int) × (Int × (Int × Int))) => Ty.beq (.pair (.int .i64) (.int .i64)) y.1 (i, u)).map (·.2)
theorem lkM_cons (a b : Int) (v : Int × (Int × Int)) (g : MK) (i u : Int) : lkM (((a, b), v) :: g) i u = if a = i ∧ b = u then some v else lkM g i u := by
  have e : Ty.beq (.pair (.int .i64) (.int .i64)) (a, b) (i, u) = decide (a = i ∧ b = u) := by
    show (decide (a = i) && decide (b = u)) = _
    by_cases h1 : a = i <;> by_cases h2 : b = u <;> simp [h1, h2]
  unfold lkM
  rw [List.find?_cons]
  by_cases h : a = i ∧ b = u
  · rw [if_pos h, show (Ty.beq (.pair (.int .i64) (.int .i64)) (((a, b), v) : (Int × Int) × (Int × (Int × Int))).1 (i, u)) = true by rw [e, decide_eq_true h]]; rfl
  · rw [if_neg h, show (Ty.beq (.pair (.int .i64) (.int .i64)) (((a, b), v) : (Int × Int) × (Int × (Int × Int))).1 (i, u)) = false by rw [e, decide_eq_false h]]
theorem lkM_some (g : MK) (i u : Int) : (g.find? fun (y : (Int × Int) × (Int × (Int × Int))) => Ty.beq (.pair (.int .i64) (.int .i64)) y.1 (i, u)).isSome = (lkM g i u).isSome := by
  unfold lkM; rw [Option.isSome_map]
def hasM (g : MK) (i u : Nat) : Prop := (lkM g i u).isSome = true
def subM (g g' : MK) : Prop := ∀ i u : Nat, hasM g i u → hasM g' i u
theorem subM.refl (g : MK) : subM g g := fun _ _ h => h
theorem subM.trans {a b c : MK} (h : subM a b) (k : subM b c) : subM a c := fun i u x => k i u (h i u x)
/-- What is remembered is right, and so is what follows from it. -/
structure MOK (can : Nat → Nat → Bool) (t : Nat → Nat → Int) (m n : Nat) (g : MK) : Prop where
  val : ∀ (i u : Nat) v, lkM g i u = some v → v = rsR can t m (n - i) i u
  clo : ∀ i u : Nat, hasM g i u → i + 1 < n → hasM g (i + 1) u ∧ ∀ k ∈ mayL can m i, u.testBit k = false → hasM g (i + 1) (u ||| 2 ^ k)
theorem MOK.nil {can : Nat → Nat → Bool} {t : Nat → Nat → Int} {m n : Nat} : MOK can t m n [] := ⟨fun i u v h => by simp [lkM] at h, fun i u h => by simp [hasM, lkM] at h⟩
theorem MOK.cons {can : Nat → Nat → Bool} {t : Nat → Nat → Int} {m n : Nat} {g : MK} (h : MOK can t m n g) {i u : Nat} (h1 : i + 1 < n → hasM g (i + 1) u ∧ ∀ k ∈ mayL can m i, u.testBit k = false → hasM g (i + 1) (u ||| 2 ^ k)) :
    MOK can t m n ((((i : Int), (u : Int)), rsR can t m (n - i) i u) :: g) ∧ subM g ((((i : Int), (u : Int)), rsR can t m (n - i) i u) :: g) ∧ hasM ((((i : Int), (u : Int)), rsR can t m (n - i) i u) :: g) i u := by
  have hsub : subM g ((((i : Int), (u : Int)), rsR can t m (n - i) i u) :: g) := fun i' u' hh => by
    unfold hasM at *
    rw [lkM_cons]
    split
    · rfl
    · exact hh
  refine ⟨⟨fun i' u' v hv => ?_, fun i' u' hh hi => ?_⟩, hsub, ?_⟩
  · rw [lkM_cons] at hv
    split at hv
    · rename_i e
      obtain rfl : i = i' := by omega
      obtain rfl : u = u' := by omega
      simp only [Option.some.injEq] at hv
      exact hv.symm
    · exact h.val i' u' v hv
  · unfold hasM at hh
    rw [lkM_cons] at hh
    split at hh
    · rename_i e
      obtain rfl : i = i' := by omega
      obtain rfl : u = u' := by omega
      exact ⟨hsub _ _ (h1 hi).1, fun k hk hb => hsub _ _ ((h1 hi).2 k hk hb)⟩
    · obtain ⟨x, y⟩ := h.clo i' u' hh hi
      exact ⟨hsub _ _ x, fun k hk hb => hsub _ _ (y k hk hb)⟩
  · unfold hasM
    rw [lkM_cons, if_pos ⟨rfl, rfl⟩]; rfl
theorem MOK.get {can : Nat → Nat → Bool} {t : Nat → Nat → Int} {m n : Nat} {g : MK} (h : MOK can t m n g) {i u : Nat} (hh : hasM g i u) : lkM g i u = some (rsR can t m (n - i) i u) := by
  unfold hasM at hh
  cases e : lkM g i u with
  | none => rw [e] at hh; cases hh
  | some v => rw [h.val i u v e]
/-! ### Bounds -/
theorem flatMap_len {α β : Type} {f : α → List β} {B : Nat} : ∀ {l : List α}, (∀ x ∈ l, (f x).length ≤ B) → (l.flatMap f).length ≤ l.length * B
  | [], _ => by simp
  | x :: l, h => by
    have h1 := h x (by simp)
    have h2 := flatMap_len (l := l) (fun y hy => h y (by simp [hy]))
    rw [List.flatMap_cons, List.length_append, List.length_cons, Nat.add_mul]; omega
theorem mayL_len (can : Nat → Nat → Bool) (m i : Nat) : (mayL can m i).length ≤ m := by
  have := List.length_filter_le (can i) (List.range m)
  simpa [mayL] using this
theorem joinsL_len {can : Nat → Nat → Bool} {m : Nat} (hm : m ≤ 6) : ∀ d i u : Nat, (joinsL can m d i u).length ≤ 7 ^ d
  | 0, _, _ => by simp [joinsL]
  | d + 1, i, u => by
    have h1 := joinsL_len (can := can) hm d (i + 1) u
    have h2 : ((mayL can m i).flatMap fun k => if u.testBit k then [] else (joinsL can m d (i + 1) (u ||| 2 ^ k)).map ((k : Int) :: ·)).length ≤ (mayL can m i).length * 7 ^ d := flatMap_len fun k _ => by
      split
      · simp
      · rw [List.length_map]; exact joinsL_len hm d (i + 1) _
    have h3 := mayL_len can m i
    have h4 : (mayL can m i).length * 7 ^ d ≤ 6 * 7 ^ d := Nat.mul_le_mul_right _ (by omega)
    rw [joinsL, List.length_append, List.length_map, Nat.pow_succ]
    omega
theorem rs_bound {can : Nat → Nat → Bool} {t : Nat → Nat → Int} {m : Nat} (hm : m ≤ 6) {T : Int} (ht : ∀ i k, 0 ≤ t i k ∧ t i k ≤ T) (hT : 0 ≤ T) (d i u : Nat) :
    (0 ≤ (rsR can t m d i u).2.1 ∧ (rsR can t m d i u).2.1 ≤ T * d) ∧ 0 ≤ (rsR can t m d i u).2.2 ∧ (rsR can t m d i u).2.2 ≤ ((7 ^ d : Nat) : Int) := by
  obtain ⟨q1, q2, q3⟩ := bl_best (can := can) (t := t) (m := m) d i u
  have hb := rs_bst (can := can) (t := t) (m := m) d i u
  have h1 := valJ_bound ht hT (blR can t m d i u) i
  rw [q2, q3] at h1
  have h2 := List.countP_le_length (p := fun l => decide (valJ t i l = (rsR can t m d i u).2.1)) (l := joinsL can m d i u)
  have h3 := joinsL_len (can := can) hm d i u
  have h4 := hb.ways
  exact ⟨h1, by omega, by omega⟩
theorem bit_of {u k : Nat} : ((((Int.fdiv (u : Int) (2 ^ ((k : Nat) : Int).toNat)).toNat &&& 1 : Nat) : Int) = 1) ↔ u.testBit k = true := by
  have e : (Int.fdiv (u : Int) (2 ^ ((k : Nat) : Int).toNat)).toNat = u / 2 ^ k := by
    rw [Int.toNat_natCast, Int.fdiv_eq_ediv_of_nonneg _ (by exact Int.le_of_lt (Int.pow_pos (by omega)))]
    rw [show ((2 : Int) ^ k) = ((2 ^ k : Nat) : Int) by simp, ← Int.natCast_ediv, Int.toNat_natCast]
  rw [e, Nat.and_one_is_mod, Nat.testBit_eq_decide_div_mod_eq, decide_eq_true_eq]
  omega
theorem fdiv_nn {u k : Nat} : 0 ≤ Int.fdiv (u : Int) (2 ^ ((k : Nat) : Int).toNat) := Int.fdiv_nonneg (by omega) (Int.le_of_lt (Int.pow_pos (by omega)))
theorem pow_small {k : Nat} (hk : k < 6) : ∃ q : Nat, 2 ^ k = q ∧ ((1 : Int) * 2 ^ ((k : Nat) : Int).toNat) = (q : Int) ∧ q < 64 := by
  refine ⟨_, rfl, by simp, ?_⟩
  have : 2 ^ k < 2 ^ 6 := Nat.pow_lt_pow_right (by omega) hk
  simpa using this
theorem or_small {u k : Nat} (hu : u < 64) (hk : k < 6) : u ||| 2 ^ k < 64 := Nat.or_lt_two_pow (n := 6) hu (by obtain ⟨q, h1, _, h2⟩ := pow_small hk; omega)
section
variable {W : List Int} {s : Int} {L F : List (List Int)} {R : List Int} {A B : Nat → Nat → Int} {N : Nat}
theorem tastep_v {i k : Nat} (hi : i < 6) (hk : k < 6) : tastep_S N i k (dkT W s L F R A B) = some (A i k) := by
  unfold tastep_S
  rw [rng_eq (by omega), rng_eq (by omega)]
  simp only [Int.toNat_natCast]
  rw [get_T hi hk]
theorem restp_l1_p {t : Nat → Nat → Int} (hF : F.length ≤ 6) (hL : L.length ≤ 6) (ht : ∀ i k, 0 ≤ t i k ∧ t i k ≤ 30000) (htv : ∀ i k : Nat, i < L.length → k < F.length → tastep_S N i k (dkT W s L F R A B) = some (t i k)) {self : Int → Int → Dk → Dk → Dk → Dk → MK → Option (Int × Int × Int × Dk × Dk × MK)} {i d u : Nat} (hi : i + 1 + d = L.length) (hu : u < 64)
    (hself : ∀ (u : Nat) g, u < 64 → MOK (canT A B s) t F.length L.length g → ∃ g', self ((i : Int) + 1) u (dkT W s L F R A B) (dkT W s L F R A B) (dkT W s L F R A B) (dkT W s L F R A B) g = some ((rsR (canT A B s) t F.length d (i + 1) u).1, (rsR (canT A B s) t F.length d (i + 1) u).2.1, (rsR (canT A B s) t F.length d (i + 1) u).2.2, dkT W s L F R A B, dkT W s L F R A B, g') ∧ MOK (canT A B s) t F.length L.length g' ∧ subM g g' ∧ (i + 1 < L.length → hasM g' (i + 1) u))
    {x4 : Int} {P : Nat} (hP : 7 ^ d = P) : ∀ (ks : List Nat) (g : MK) (b : Int × Int × Int) (Wb : Nat), (∀ k ∈ ks, k < F.length) → MOK (canT A B s) t F.length L.length g → (0 ≤ b.2.1 ∧ b.2.1 ≤ 30000 * (d + 1)) → 0 ≤ b.2.2 → b.2.2 ≤ Wb → Wb + ks.length * P ≤ 10000000 →
      ∃ g', restp_l1 N self (ks.map fun (j : Nat) => ((j : Int), ())) (dkT W s L F R A B) (dkT W s L F R A B) (dkT W s L F R A B) x4 (dkT W s L F R A B) (dkT W s L F R A B) g i u 0 0 0 b.1 b.2.1 b.2.2 =
        some (dkT W s L F R A B, dkT W s L F R A B, g', (i : Int), (u : Int), 0, 0, 0, (ks.foldl (rsS t (rsR (canT A B s) t F.length d (i + 1)) i u) b).1, (ks.foldl (rsS t (rsR (canT A B s) t F.length d (i + 1)) i u) b).2.1, (ks.foldl (rsS t (rsR (canT A B s) t F.length d (i + 1)) i u) b).2.2) ∧
        MOK (canT A B s) t F.length L.length g' ∧ subM g g' ∧ ∀ k ∈ ks, u.testBit k = false → i + 1 < L.length → hasM g' (i + 1) (u ||| 2 ^ k)
  | [], g, b, Wb, _, hg, _, _, _, _ => ⟨g, rfl, hg, subM.refl g, fun k hk => by cases hk⟩
  | k :: ks, g, b, Wb, hk, hg, hb1, hb2, hb3, hWb => by
    have hk0 := hk k (by simp)
    have hks : ∀ x ∈ ks, x < F.length := fun x hx => hk x (by simp [hx])
    rw [List.length_cons, Nat.add_mul, Nat.one_mul] at hWb
    rw [List.map_cons, List.foldl_cons, restp_l1, restp_l1_b]
    dsimp only
    rw [grd_eq (by rw [decide_eq_true_eq]; omega), grd_eq (by rw [decide_eq_true_eq]; exact ⟨fdiv_nn, by omega⟩)]
    by_cases hbit : u.testBit k = true
    · rw [br_dec (bit_of.2 hbit)]
      obtain ⟨g', e1, e2, e3, e4⟩ := restp_l1_p hF hL ht htv hi hu hself (x4 := x4) hP ks g b Wb hks hg hb1 hb2 hb3 (by omega)
      have es : rsS t (rsR (canT A B s) t F.length d (i + 1)) i u b k = b := by unfold rsS; rw [if_pos hbit]
      rw [es]
      refine ⟨g', e1, e2, e3, fun x hx hxb hi => ?_⟩
      rcases List.mem_cons.1 hx with rfl | hx
      · rw [hbit] at hxb; cases hxb
      · exact e4 x hx hxb hi
    · rw [br_ndec (fun h => hbit (bit_of.1 h))]
      obtain ⟨q, hq, p1, p2⟩ := pow_small (k := k) (by omega)
      rw [chk_eq (by omega), grd_eq (by rw [decide_eq_true_eq]; omega), p1, chk_eq (by omega), grd_eq (by rw [decide_eq_true_eq]; omega)]
      simp only [Int.toNat_natCast]
      subst hq
      have hu' := or_small hu (show k < 6 by omega)
      obtain ⟨g1, e1, e2, e3, e4⟩ := hself (u ||| 2 ^ k) g hu' hg
      rw [e1]
      simp only [Option.bind_some]
      rw [htv i k (by omega) hk0]
      simp only [Option.bind_some]
      obtain ⟨⟨r1, r2⟩, r3, r4⟩ := rs_bound (can := canT A B s) (t := t) hF ht (by omega) d (i + 1) (u ||| 2 ^ k)
      have ht0 := ht i k
      have hd : (d : Int) ≤ 5 := by omega
      rw [hP] at r4
      have hbit' : u.testBit k = false := by simpa using hbit
      have fin : ∀ b', rsS t (rsR (canT A B s) t F.length d (i + 1)) i u b k = b' → (0 ≤ b'.2.1 ∧ b'.2.1 ≤ 30000 * (d + 1)) → 0 ≤ b'.2.2 → b'.2.2 ≤ ((Wb + P : Nat) : Int) → ∃ g', restp_l1 N self (ks.map fun (j : Nat) => ((j : Int), ())) (dkT W s L F R A B) (dkT W s L F R A B) (dkT W s L F R A B) x4 (dkT W s L F R A B) (dkT W s L F R A B) g1 i u 0 0 0 b'.1 b'.2.1 b'.2.2 =
        some (dkT W s L F R A B, dkT W s L F R A B, g', (i : Int), (u : Int), 0, 0, 0, (ks.foldl (rsS t (rsR (canT A B s) t F.length d (i + 1)) i u) (rsS t (rsR (canT A B s) t F.length d (i + 1)) i u b k)).1, (ks.foldl (rsS t (rsR (canT A B s) t F.length d (i + 1)) i u) (rsS t (rsR (canT A B s) t F.length d (i + 1)) i u b k)).2.1, (ks.foldl (rsS t (rsR (canT A B s) t F.length d (i + 1)) i u) (rsS t (rsR (canT A B s) t F.length d (i + 1)) i u b k)).2.2) ∧
        MOK (canT A B s) t F.length L.length g' ∧ subM g g' ∧ ∀ x ∈ k :: ks, u.testBit x = false → i + 1 < L.length → hasM g' (i + 1) (u ||| 2 ^ x) := fun b' hb' q1 q2 q3 => by
        obtain ⟨g', f1, f2, f3, f4⟩ := restp_l1_p hF hL ht htv hi hu hself (x4 := x4) hP ks g1 b' (Wb + P) hks e2 q1 q2 q3 (by omega)
        rw [hb']
        refine ⟨g', f1, f2, e3.trans f3, fun x hx hxb hi => ?_⟩
        rcases List.mem_cons.1 hx with rfl | hx
        · exact f3 _ _ (e4 hi)
        · exact f4 x hx hxb hi
      have es : rsS t (rsR (canT A B s) t F.length d (i + 1)) i u b k = if b.2.1 < (rsR (canT A B s) t F.length d (i + 1) (u ||| 2 ^ k)).2.1 + t i k then ((k : Int), (rsR (canT A B s) t F.length d (i + 1) (u ||| 2 ^ k)).2.1 + t i k, (rsR (canT A B s) t F.length d (i + 1) (u ||| 2 ^ k)).2.2)
          else if (rsR (canT A B s) t F.length d (i + 1) (u ||| 2 ^ k)).2.1 + t i k = b.2.1 then (b.1, b.2.1, b.2.2 + (rsR (canT A B s) t F.length d (i + 1) (u ||| 2 ^ k)).2.2) else b := by
        unfold rsS; rw [if_neg hbit]
      have hmul : 30000 * ((d : Int) + 1) = 30000 * d + 30000 := by omega
      rw [chk_eq (by omega)]
      by_cases c1 : b.2.1 < (rsR (canT A B s) t F.length d (i + 1) (u ||| 2 ^ k)).2.1 + t i k
      · rw [if_pos c1] at es
        rw [br_dec c1]
        exact fin _ es ⟨by dsimp only; omega, by dsimp only; omega⟩ (by dsimp only; omega) (by dsimp only; omega)
      · rw [if_neg c1] at es
        rw [br_ndec c1]
        by_cases c2 : (rsR (canT A B s) t F.length d (i + 1) (u ||| 2 ^ k)).2.1 + t i k = b.2.1
        · rw [if_pos c2] at es
          rw [br_dec c2, chk_eq (by omega)]
          exact fin _ es hb1 (by dsimp only; omega) (by dsimp only; omega)
        · rw [if_neg c2] at es
          rw [br_ndec c2]
          exact fin _ es hb1 hb2 (by omega)
theorem restp_R_p {t : Nat → Nat → Int} (hF : F.length ≤ 6) (hL : L.length ≤ 6) (ht : ∀ i k, 0 ≤ t i k ∧ t i k ≤ 30000) (htv : ∀ i k : Nat, i < L.length → k < F.length → tastep_S N i k (dkT W s L F R A B) = some (t i k)) :
    ∀ (fu d i u : Nat) (g : MK), d < fu → i + d = L.length → u < 64 → MOK (canT A B s) t F.length L.length g →
      ∃ g', restp_R N fu i u (dkT W s L F R A B) (dkT W s L F R A B) (dkT W s L F R A B) (dkT W s L F R A B) g = some ((rsR (canT A B s) t F.length d i u).1, (rsR (canT A B s) t F.length d i u).2.1, (rsR (canT A B s) t F.length d i u).2.2, dkT W s L F R A B, dkT W s L F R A B, g') ∧ MOK (canT A B s) t F.length L.length g' ∧ subM g g' ∧ (i < L.length → hasM g' i u)
  | 0, d, i, u, g, h, _, _, _ => by omega
  | fu + 1, d, i, u, g, h, hid, hu, hg => by
    show ∃ g', restp_S N (restp_R N fu) i u (dkT W s L F R A B) (dkT W s L F R A B) (dkT W s L F R A B) (dkT W s L F R A B) g = _ ∧ _
    unfold restp_S
    have hdl : (dkT W s L F R A B).2.2.1.length = L.length := rfl
    rw [hdl]
    cases d with
    | zero =>
      rw [br_dec (by omega)]
      exact ⟨g, rfl, hg, subM.refl g, fun h => by omega⟩
    | succ d =>
      rw [br_ndec (by omega), lkM_some]
      by_cases c : hasM g i u
      · have e := hg.get c
        rw [show L.length - i = d + 1 by omega] at e
        unfold hasM at c
        rw [c, br_true]
        unfold lkM at e
        rw [e]
        exact ⟨g, rfl, hg, subM.refl g, fun _ => c⟩
      · rw [Bool.eq_false_iff.2 c, br_false, chk_eq (by omega)]
        have hself : ∀ (u : Nat) g, u < 64 → MOK (canT A B s) t F.length L.length g → ∃ g', restp_R N fu ((i : Int) + 1) u (dkT W s L F R A B) (dkT W s L F R A B) (dkT W s L F R A B) (dkT W s L F R A B) g = some ((rsR (canT A B s) t F.length d (i + 1) u).1, (rsR (canT A B s) t F.length d (i + 1) u).2.1, (rsR (canT A B s) t F.length d (i + 1) u).2.2, dkT W s L F R A B, dkT W s L F R A B, g') ∧ MOK (canT A B s) t F.length L.length g' ∧ subM g g' ∧ (i + 1 < L.length → hasM g' (i + 1) u) := fun u g hu hg => by
          have := restp_R_p hF hL ht htv fu d (i + 1) u g (by omega) (by omega) hu hg
          rwa [nat_succ] at this
        obtain ⟨g1, e1, e2, e3, e4⟩ := hself u g hu hg
        rw [e1]
        simp only [Option.bind_some]
        have em : may_S N (dkT W s L F R A B) (i : Int) = some (dkT W s L F R A B, dkT W s L F R A B, (i : Int)) := rfl
        rw [em]
        simp only [Option.bind_some]
        rw [mayR_T hF (by omega)]
        simp only [Option.bind_some]
        obtain ⟨⟨r1, r2⟩, r3, r4⟩ := rs_bound (can := canT A B s) (t := t) hF ht (by omega) d (i + 1) u
        have h7 : (7 : Nat) ^ d ≤ 7 ^ 5 := Nat.pow_le_pow_right (by omega) (by omega)
        have h7' : (mayL (canT A B s) F.length i).length * 7 ^ d ≤ 6 * 7 ^ 5 := Nat.mul_le_mul (by have := mayL_len (canT A B s) F.length i; omega) h7
        obtain ⟨g2, f1, f2, f3, f4⟩ := restp_l1_p hF hL ht htv (i := i) (d := d) (u := u) (by omega) hu hself (x4 := (i : Int)) rfl (mayL (canT A B s) F.length i) g1 (-1, (rsR (canT A B s) t F.length d (i + 1) u).2.1, (rsR (canT A B s) t F.length d (i + 1) u).2.2) (7 ^ d)
          (fun k hk => (mem_mayL.1 hk).1) e2 ⟨r1, by dsimp only; omega⟩ r3 r4 (by omega)
        unfold mayE
        rw [f1]
        simp only [Option.bind_some]
        have er : rsR (canT A B s) t F.length (d + 1) i u = (mayL (canT A B s) F.length i).foldl (rsS t (rsR (canT A B s) t F.length d (i + 1)) i u) (-1, (rsR (canT A B s) t F.length d (i + 1) u).2.1, (rsR (canT A B s) t F.length d (i + 1) u).2.2) := rfl
        rw [← er]
        obtain ⟨k1, k2, k3⟩ := f2.cons (i := i) (u := u) (fun hi => ⟨f3 _ _ (e4 hi), fun k hk hb => f4 k hk hb hi⟩)
        rw [show L.length - i = d + 1 by omega] at k1 k2 k3
        exact ⟨_, rfl, k1, e3.trans (f3.trans k2), fun _ => k3⟩
theorem restsp_v {t : Nat → Nat → Int} (hN : 110 ≤ N) (hF : F.length ≤ 6) (hL : L.length ≤ 6) (ht : ∀ i k, 0 ≤ t i k ∧ t i k ≤ 30000) (htv : ∀ i k : Nat, i < L.length → k < F.length → tastep_S N i k (dkT W s L F R A B) = some (t i k)) {u : Nat} (hu : u < 64) :
    ∃ g, restsp_S N (dkT W s L F R A B) (dkT W s L F R A B) u = some g ∧ (0 < L.length → MOK (canT A B s) t F.length L.length g ∧ hasM g 0 u) ∧ lkM g 0 u = some (rsR (canT A B s) t F.length L.length 0 u) := by
  obtain ⟨g, e1, e2, e3, e4⟩ := restp_R_p hF hL ht htv N L.length 0 u [] (by omega) (by omega) hu MOK.nil
  unfold restsp_S restsp_j1
  rw [show ((0 : Nat) : Int) = 0 from rfl] at e1
  rw [e1]
  simp only [Option.bind_some]
  refine ⟨_, rfl, fun h0 => ?_, by rw [lkM_cons, if_pos ⟨rfl, rfl⟩]⟩
  have hg : hasM g 0 u := e4 h0
  obtain ⟨k1, k2, k3⟩ := e2.cons (i := 0) (u := u) (fun hi => e2.clo 0 u hg hi)
  rw [Nat.sub_zero] at k1 k3
  exact ⟨k1, k3⟩
theorem dbestp_l1_p {t : Nat → Nat → Int} (hF : F.length ≤ 6) (hL : L.length ≤ 6) {g : MK} (hg : MOK (canT A B s) t F.length L.length g) : ∀ (n d i u : Nat) (out : List Int), d < n → i + d = L.length → u < 64 → out.length ≤ i → (i < L.length → hasM g i u) →
    dbestp_l1 N n u L.length i g out = some (out ++ blR (canT A B s) t F.length d i u)
  | 0, d, i, u, out, h, _, _, _, _ => by omega
  | n + 1, d, i, u, out, h, hid, hu, ho, hh => by
    unfold dbestp_l1
    cases d with
    | zero =>
      rw [br_ndec (by omega)]
      simp [blR]
    | succ d =>
      have e := hg.get (hh (by omega))
      rw [show L.length - i = d + 1 by omega] at e
      have e' : ((g.find? fun (y : (Int × Int) × (Int × (Int × Int))) => Ty.beq (.pair (.int .i64) (.int .i64)) y.1 ((i : Int), (u : Int))).map (·.2)).getD (Ty.dflt (.pair (.int .i64) (.pair (.int .i64) (.int .i64)))) = rsR (canT A B s) t F.length (d + 1) i u := by
        unfold lkM at e
        rw [e]; rfl
      rw [br_dec (by omega), e', lim_eq (by simp; omega)]
      have hj : ∀ (u' : Nat) x, u' < 64 → (i + 1 < L.length → hasM g (i + 1) u') → dbestp_j1 N (dbestp_l1 N n) u' L.length i g (out ++ [x]) = some (out ++ [x] ++ blR (canT A B s) t F.length d (i + 1) u') := fun u' x hu' hh' => by
        have := dbestp_l1_p hF hL hg n d (i + 1) u' (out ++ [x]) (by omega) (by omega) hu' (by simp; omega) hh'
        rw [nat_succ] at this
        unfold dbestp_j1
        rw [chk_eq (by omega), this]
      rw [blR]
      rcases rs_fnd (can := canT A B s) (t := t) (m := F.length) (d := d) (i := i) (u := u) with ⟨h1, _⟩ | ⟨k, h1, h2, h3, _⟩
      · rw [h1, br_nd (by first | trivial | rfl), if_pos rfl, hj u _ hu (fun hi => (hg.clo i u (hh (by omega)) hi).1)]
        simp
      · obtain ⟨k1, k2⟩ := mem_mayL.1 h2
        obtain ⟨q, hq, p1, p2⟩ := pow_small (k := k) (by omega)
        rw [h1, br_nnd (show ¬ ((k : Int) = -1) by omega)]
        rw [grd_eq (by rw [decide_eq_true_eq]; exact (show (0 : Int) ≤ (k : Int) ∧ (k : Int) ≤ 62 by omega)), p1, chk_eq (by omega), grd_eq (by rw [decide_eq_true_eq]; omega), if_neg (show ¬ ((k : Int) = -1) by omega)]
        simp only [Int.toNat_natCast]
        subst hq
        rw [hj _ _ (or_small hu (by omega)) (fun hi => (hg.clo i u (hh (by omega)) hi).2 k h2 h3)]
        simp
theorem dbestp_v {t : Nat → Nat → Int} (hN : 110 ≤ N) (hF : F.length ≤ 6) (hL : L.length ≤ 6) (ht : ∀ i k, 0 ≤ t i k ∧ t i k ≤ 30000) (htv : ∀ i k : Nat, i < L.length → k < F.length → tastep_S N i k (dkT W s L F R A B) = some (t i k)) :
    dbestp_S N (dkT W s L F R A B) (dkT W s L F R A B) = some (blR (canT A B s) t F.length L.length 0 0) := by
  obtain ⟨g, e1, e2, e3⟩ := restsp_v hN hF hL ht htv (u := 0) (by omega)
  unfold dbestp_S
  rw [show ((0 : Nat) : Int) = 0 from rfl] at e1
  rw [e1]
  simp only [Option.bind_some]
  have hdl : (dkT W s L F R A B).2.2.1.length = L.length := rfl
  rw [hdl]
  by_cases h0 : 0 < L.length
  · obtain ⟨hg, hh⟩ := e2 h0
    have := dbestp_l1_p (N := N) hF hL hg N L.length 0 0 [] (by omega) (by omega) (by omega) (by simp) (fun _ => hh)
    rw [show ((0 : Nat) : Int) = 0 from rfl, List.nil_append] at this
    rw [this]; rfl
  · have hz : L.length = 0 := by omega
    obtain ⟨M, rfl⟩ : ∃ M, N = M + 1 := ⟨N - 1, by omega⟩
    rw [dbestp_l1, hz, br_ndec (by omega)]
    simp [blR]

end
end Go.Proofs.Ythncjilcflilcaa

namespace Go.Proofs.Ythncjilcflilcaa
set_option linter.all false
open Go

section
variable {N : Nat}
end
/-! ### Joins without an error -/
theorem getD_01 {l : List Int} {i : Nat} (h : i < l.length) : l.getD i 0 = fnJ l i := by simp [fnJ, List.getD, h]
theorem errJ_mt {n m : Nat} {can : Nat → Nat → Bool} {l : List Int} : errJ 0 n m can l = 0 ↔ l ∈ joinsL can m n 0 0 := by
  rw [mem_joinsL, okJ_mt]
  constructor
  · intro h
    obtain ⟨_, h1, h2, h3, h4⟩ := errJ_fine h
    rw [alI_iff] at h3 h4
    refine ⟨h1, ⟨fun i hi => ?_, fun i j hi hj hij he => ?_⟩, fun k hk => by simp at hk⟩
    · have hx := List.all_eq_true.1 h2 _ (getD_mem (d := 0) hi)
      unfold inm at hx
      rw [decide_eq_true_eq, getD_01 hi] at hx
      have hc := h4 i hi
      unfold cnI at hc
      rw [Bool.or_eq_true, decide_eq_true_eq, getD_01 hi] at hc
      rcases hc with hc | hc
      · exact .inl hc
      · by_cases e : fnJ l i = -1
        · exact .inl e
        · exact .inr ⟨(fnJ l i).toNat, by omega, by omega, hc⟩
    · have key : ∀ i j, i < j → j < l.length → fnJ l i = fnJ l j → fnJ l j = -1 := fun i j hij hj he => by
        have hd := h3 j hj
        unfold dupI at hd
        rw [Bool.or_eq_true, decide_eq_true_eq, getD_01 hj, Bool.not_eq_true', ← Bool.not_eq_true, hasB_iff] at hd
        rcases hd with hd | hd
        · exact hd
        · refine absurd ?_ hd
          rw [← he, ← getD_01 (show i < l.length by omega)]
          exact List.mem_iff_getElem.2 ⟨i, by simp; omega, by simp [List.getD, show i < l.length by omega]⟩
      rcases Nat.lt_or_gt_of_ne hij with h | h
      · rw [he]; exact key i j h hj he
      · exact key j i h hi he.symm
  · rintro ⟨hl, h1, _⟩
    have hb : l.all (inm m) = true := by
      rw [List.all_eq_true]
      intro x hx
      obtain ⟨i, hi, rfl⟩ := List.getElem_of_mem hx
      have e : l[i] = fnJ l i := by simp [fnJ, List.getD, hi]
      unfold inm
      rw [decide_eq_true_eq, e]
      rcases h1.ok i hi with h | ⟨k, h, hk, _⟩ <;> omega
    have hd : alI (dupI l) l.length = true := by
      rw [alI_iff]
      intro j hj
      unfold dupI
      rw [Bool.or_eq_true, decide_eq_true_eq, getD_01 hj, Bool.not_eq_true', ← Bool.not_eq_true, hasB_iff]
      by_cases e : fnJ l j = -1
      · exact .inl e
      · refine .inr fun hm => ?_
        obtain ⟨i, hi, he⟩ := List.getElem_of_mem hm
        simp only [List.length_take] at hi
        have hij : i < j := by omega
        refine e (h1.inj j i hj (by omega) (by omega) ?_)
        rw [← he, ← getD_01 (show i < l.length by omega)]
        simp [List.getD, show i < l.length by omega]
    have hc : alI (cnI can l) l.length = true := by
      rw [alI_iff]
      intro i hi
      unfold cnI
      rw [Bool.or_eq_true, decide_eq_true_eq, getD_01 hi]
      rcases h1.ok i hi with h | ⟨k, h, _, hc⟩
      · exact .inl h
      · right; rw [h, Int.toNat_natCast]; exact hc
    unfold errJ
    rw [if_neg (by simp), if_neg (by omega), hb, hd, hc]
    simp
section
variable {W : List Int} {s : Int} {L F : List (List Int)} {R : List Int} {A B : Nat → Nat → Int} {N : Nat}
theorem joins_facts {l : List Int} (h : l ∈ joinsL (canF W s L F) F.length L.length 0 0) : l.length = L.length ∧ l.all (inm F.length) = true := by
  obtain ⟨_, h1, h2, _⟩ := errJ_fine (errJ_mt.2 h)
  exact ⟨h1, h2⟩
/-- The greatest worth, and in how many ways. -/
def bestV (W : List Int) (s : Int) (L F : List (List Int)) : Int := (rsR (canF W s L F) (agF W L F) F.length L.length 0 0).2.1
theorem best_le {l : List Int} (h : l ∈ joinsL (canF W s L F) F.length L.length 0 0) : valJ (agF W L F) 0 l ≤ bestV W s L F := (rs_bst (can := canF W s L F) (t := agF W L F) (m := F.length) L.length 0 0).le l h
theorem bl_mem {t : Nat → Nat → Int} : blR (canF W s L F) t F.length L.length 0 0 ∈ joinsL (canF W s L F) F.length L.length 0 0 := by
  obtain ⟨q1, q2, _⟩ := bl_best (can := canF W s L F) (t := t) (m := F.length) L.length 0 0
  exact mem_joinsL.2 ⟨q2, q1⟩
theorem bl_val : valJ (agF W L F) 0 (blR (canF W s L F) (agF W L F) F.length L.length 0 0) = bestV W s L F := (bl_best (can := canF W s L F) (t := agF W L F) (m := F.length) L.length 0 0).2.2
end
end Go.Proofs.Ythncjilcflilcaa

namespace Go.Proofs.Ythncjilcflilcaa
set_option linter.all false
open Go

section
variable {W : List Int} {s : Int} {L F : List (List Int)} {R : List Int} {A B : Nat → Nat → Int} {N : Nat}
/-- Best joins. -/
abbrev bestL (W : List Int) (s : Int) (L F : List (List Int)) : List Int := blR (canF W s L F) (agF W L F) F.length L.length 0 0
theorem best_v (hN : 110 ≤ N) (h : Sm W L F R) : best_S N W s L F R = some (if errD W s L F R = 0 then (bestL W s L F, bestV W s L F, 0) else ([], 0, errD W s L F R)) := by
  unfold best_S
  rw [opened_v hN h]
  by_cases c : errD W s L F R = 0
  rotate_left
  · rw [if_neg c, if_neg c]
    simp only [Option.bind_some]
    rw [br_nnd c]
  have hF := errD_iff.1 c
  rw [if_pos c, if_pos c]
  simp only [Option.bind_some]
  rw [br_nd (by first | trivial | rfl)]
  unfold dkO
  rw [show plain_S N (dkT W s L F R (agF W L F) (slF W L F)) = some (dkT W s L F R (agF W L F) (slF W L F)) from rfl]
  simp only [Option.bind_some]
  have hl6 := hF.l6; have hf6 := hF.f6
  rw [dbestp_v hN hf6 hl6 (t := agF W L F) (fun i k => by have := agF_bound hF i k; omega) (fun i k hi hk => tastep_v (by omega) (by omega))]
  simp only [Option.bind_some]
  obtain ⟨j1, j2⟩ := joins_facts (W := W) (s := s) (L := L) (F := F) (bl_mem (t := agF W L F))
  rw [dworth_v hN (agF_bound hF) (by omega) hf6 j2, bl_val]; rfl
/-! ### Rewards -/
/-! ### Prices -/
theorem foldl_ub {f : Nat → Int} : ∀ (l : List Nat) (a : Int), a ≤ l.foldl (fun a k => max a (f k)) a ∧ (∀ k ∈ l, f k ≤ l.foldl (fun a k => max a (f k)) a) ∧ (l.foldl (fun a k => max a (f k)) a = a ∨ ∃ k ∈ l, l.foldl (fun a k => max a (f k)) a = f k)
  | [], a => ⟨Int.le_refl _, (fun k hk => by cases hk), .inl rfl⟩
  | x :: l, a => by
    obtain ⟨h1, h2, h3⟩ := foldl_ub (f := f) l (max a (f x))
    rw [List.foldl_cons]
    refine ⟨by omega, fun k hk => ?_, ?_⟩
    · rcases List.mem_cons.1 hk with rfl | hk
      · omega
      · exact h2 k hk
    · rcases h3 with h3 | ⟨k, hk, e⟩
      · rw [h3]
        rcases Int.le_total a (f x) with h | h
        · exact .inr ⟨x, by simp, by omega⟩
        · exact .inl (by omega)
      · exact .inr ⟨k, by simp [hk], e⟩
end
end Go.Proofs.Ythncjilcflilcaa

namespace Go.Proofs.Ythncjilcflilcaa
set_option linter.all false
open Go

section
variable {N : Nat}
end
section
variable {W : List Int} {s : Int} {L F : List (List Int)} {R : List Int} {A B : Nat → Nat → Int} {N : Nat}
end
end Go.Proofs.Ythncjilcflilcaa

namespace Go.Proofs.Ythncjilcflilcaa
set_option linter.all false
open Go

section
variable {W : List Int} {s : Int} {L F : List (List Int)} {R : List Int} {A B : Nat → Nat → Int} {N : Nat}
theorem joins_all {can : Nat → Nat → Bool} {m n : Nat} {l : List Int} (h : l ∈ joinsL can m n 0 0) : l.length = n ∧ l.all (inm m) = true := by
  obtain ⟨_, h1, h2, _⟩ := errJ_fine (errJ_mt.2 h)
  exact ⟨h1, h2⟩
/-! ### The reference -/
end
end Go.Proofs.Ythncjilcflilcaa

namespace Go.Proofs.Ythncjilcflilcaa
set_option linter.all false
open Go

section
variable {W : List Int} {s : Int} {L F : List (List Int)} {R : List Int} {A B : Nat → Nat → Int} {N : Nat}
/-! ### What is spare -/
end
end Go.Proofs.Ythncjilcflilcaa

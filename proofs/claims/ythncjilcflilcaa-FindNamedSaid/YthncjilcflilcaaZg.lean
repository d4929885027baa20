/-
  Parts of a proof, put together: F4, Fm3, FD1, FD2, FD3, FD4, FD5, FD6, FD7, FD8, FD9, FDa, FDb, FDe, FDf, FDg, FDh, FAw, FL6.
  Conditions: none.
-/
import Derived.Test.YthncjilcflilcaaZd
import Derived.Test.YthncjilcflilcaaZf
namespace Go.Proofs.Ythncjilcflilcaa
set_option linter.all false
open Go

def made1_S (N : Nat) (often : Int) (g : Li) (g2 : Int) (g3 : Int) : Option (Int × Li × Int × Int) :=
  (seldom_S N often g g2 g3).bind fun (x_1, y_2, y_3, y_4) =>
  br x_1
    (some (-1, y_2, y_3, y_4))
    ((stroke_S N 2 y_2 y_3 y_4).bind fun (x_5, y_6, y_7, y_8) =>
    some (x_5, y_6, y_7, y_8))
noncomputable def made1_sp (N : Nat) : List Spec := [sp_stroke N, sp_seldom N]
theorem made1_all (N : Nat) : AllP (SpecOK Try.prog) (made1_sp N) := ⟨sp_stroke_ok N, sp_seldom_ok N, trivial⟩
noncomputable def made1_c : Code := (Try.f70.body).getD .skip
noncomputable abbrev made1_B : Body := { c := made1_c, n := 9, res := [.tmp 3], outs := [⟨[shI], [.segs [.own 1 0], .segs [.sl (.int .u8), shI, .i .u32]]⟩], m0 := 2 }
abbrev made1_rt : altD made1_B.outs → Option (Int × Li × Int × Int) := fun r => some (r.1.1, r.2.2.1.1, r.2.2.1.2.1, r.2.2.1.2.2.1)
abbrev made1_st : Sta := ⟨[0, 1], ⟨[shI, .own 0 0], [.segs [.own 1 0], .segs [.sl (.int .u8), shI, .i .u32]]⟩⟩
theorem made1_eq (N : Nat) (often : Int) (g : Li) (g2 : Int) (g3 : Int) : ev (Z := Int × Li × Int × Int) Try.prog (made1_sp N) made1_B [] [] (some made1_rt) 400 false [.c [0], .c [1]] (stL made1_st ((often, (), ()), (((), ()), (g, g2, g3, ()), ()))) (stH made1_st ((often, (), ()), (((), ()), (g, g2, g3, ()), ()))) = made1_S N often g g2 g3 := by kernel_rfl
noncomputable def sp_made1 (N : Nat) : Spec := { f := 70, ins := ⟨[shI, .own 0 0], [.segs [.own 1 0], .segs [.sl (.int .u8), shI, .i .u32]]⟩, outs := [⟨[shI], [.segs [.own 1 0], .segs [.sl (.int .u8), shI, .i .u32]]⟩], run := fun p k => (made1_S N p.1.1 p.2.2.1.1 p.2.2.1.2.1 p.2.2.1.2.2.1).bind fun r => k ((r.1, ()), (((), ()), (r.2.1, r.2.2.1, r.2.2.2, ()), ())) }
theorem sp_made1_ok (N : Nat) : SpecOK Try.prog (sp_made1 N) := fn_sound (B := made1_B) (loops := []) (leaves := []) (fun p => made1_S N p.1.1 p.2.2.1.1 p.2.2.1.2.1 p.2.2.1.2.2.1) (fun r => ((r.1, ()), (((), ()), (r.2.1, r.2.2.1, r.2.2.2, ()), ()))) made1_rt (fun _ _ _ => rfl) (fun r z h => by cases h; rfl) Try.func70 (by kernel_rfl) (by kernel_rfl) (by kernel_rfl) rfl rfl (by kernel_rfl) (fun args w => Sem.pv_run _ _ _ (by kernel_rfl) w) (made1_all N) mixed trivial (fun z E Xc hE hX hret => trivial) (fun p => made1_eq N p.1.1 p.2.2.1.1 p.2.2.1.2.1 p.2.2.1.2.2.1)

def made_l1 (N : Nat) : Nat → Int → Int → Int → Li → Int → Int → Int → Int → Li → Option (Int × Li × Int × Int × Int × Int × Li)
  | 0, _, _, _, _, _, _, _, _, _ => none
  | n_ + 1, things, u, u2, b, b2, b3, g, d, d2 =>
    br (decide (u2 < u))
      ((strike_S N 1 9 b b2 b3).bind fun (x_9, y_10, y_11, y_12) =>
      lim (d2.length + [x_9].length) <|
      chk (u2 + 1) <|
      made_l1 N n_ things u (u2 + 1) y_10 y_11 y_12 g d (d2 ++ [x_9]))
      (some ((things, b, b2, b3, g, d, d2)))
def made_l3 (N : Nat) : Nat → Int → Int → Int → Int → Int → Int → Li → Int → Int → Int → Int → Li → Li → Ll → Li → Option (Int × Int × Int × Int × Li × Int × Int × Int × Int × Li × Li × Ll × Li)
  | 0, _, _, _, _, _, _, _, _, _, _, _, _, _, _, _ => none
  | n_ + 1, many, often, u, u2, u3, u4, b, b2, b3, g, d, l, d2, d3, d4 =>
    br (decide (u4 < u3))
      ((made1_S N often b b2 b3).bind fun (x_32, y_33, y_34, y_35) =>
      lim (l.length + [x_32].length) <|
      chk (u4 + 1) <|
      made_l3 N n_ many often u u2 u3 (u4 + 1) y_33 y_34 y_35 g d (l ++ [x_32]) d2 d3 d4)
      (some ((many, often, u, u2, b, b2, b3, g, d, l, d2, d3, d4)))
def made_l2 (N : Nat) : Nat → Int → Int → Int → Int → Li → Int → Int → Int → Int → Li → Ll → Li → Option (Int × Int × Li × Int × Int × Int × Int × Li × Ll × Li)
  | 0, _, _, _, _, _, _, _, _, _, _, _, _ => none
  | n_ + 1, many, often, u, u2, b, b2, b3, g, d, d2, d3, d4 =>
    br (decide (u2 < u))
      ((made_l3 N N many often u u2 (d2.length : Int) 0 b b2 b3 g d [] d2 d3 d4).bind fun (many_36, often_37, u_38, u2_39, b_40, b2_41, b3_42, g_43, d_44, l_45, d2_46, d3_47, d4_48) =>
      lim (d3_47.length + [l_45].length) <|
      (stroke_S N 30 b_40 b2_41 b3_42).bind fun (x_49, y_50, y_51, y_52) =>
      lim (d4_48.length + [x_49].length) <|
      chk (u2_39 + 1) <|
      made_l2 N n_ many_36 often_37 u_38 (u2_39 + 1) y_50 y_51 y_52 g_43 d_44 d2_46 (d3_47 ++ [l_45]) (d4_48 ++ [x_49]))
      (some ((many, often, b, b2, b3, g, d, d2, d3, d4)))
def made_l5 (N : Nat) : Nat → Int → Int → Int → Int → Int → Li → Int → Int → Int → Int → Li → Li → Ll → Ll → Li → Option (Int × Int × Int × Li × Int × Int × Int × Int × Li × Li × Ll × Ll × Li)
  | 0, _, _, _, _, _, _, _, _, _, _, _, _, _, _, _ => none
  | n_ + 1, often, u, u2, u3, u4, value, value2, value3, g, d, l, d2, d3, d4, d5 =>
    br (decide (u4 < u3))
      ((made1_S N often value value2 value3).bind fun (x_63, y_64, y_65, y_66) =>
      lim (l.length + [x_63].length) <|
      chk (u4 + 1) <|
      made_l5 N n_ often u u2 u3 (u4 + 1) y_64 y_65 y_66 g d (l ++ [x_63]) d2 d3 d4 d5)
      (some ((often, u, u2, value, value2, value3, g, d, l, d2, d3, d4, d5)))
def made_l4 (N : Nat) : Nat → Int → Int → Int → Li → Int → Int → Int → Int → Li → Ll → Ll → Li → Option (Li × Int × Int × Int × Int × Li × Ll × Ll × Li)
  | 0, _, _, _, _, _, _, _, _, _, _, _, _ => none
  | n_ + 1, often, u, u2, value, value2, value3, g, d, d2, d3, d4, d5 =>
    br (decide (u2 < u))
      ((made_l5 N N often u u2 (d2.length : Int) 0 value value2 value3 g d [] d2 d3 d4 d5).bind fun (often_67, u_68, u2_69, value_70, value2_71, value3_72, g_73, d_74, l_75, d2_76, d3_77, d4_78, d5_79) =>
      lim (d4_78.length + [l_75].length) <|
      chk (u2_69 + 1) <|
      made_l4 N n_ often_67 u_68 (u2_69 + 1) value_70 value2_71 value3_72 g_73 d_74 d2_76 d3_77 (d4_78 ++ [l_75]) d5_79)
      (some ((value, value2, value3, g, d, d2, d3, d4, d5)))
def made_S (N : Nat) (things : Int) (b : Li) (b2 : Int) (b3 : Int) : Option (Li × Int × Ll × Ll × Li × Li × Int × Int) :=
  (stroke_S N 2 b b2 b3).bind fun (x_1, y_2, y_3, y_4) =>
  (strike_S N 1 5 y_2 y_3 y_4).bind fun (x_5, y_6, y_7, y_8) =>
  (made_l1 N N things x_5 0 y_6 y_7 y_8 0 x_1 []).bind fun (things_13, b_14, b2_15, b3_16, g_17, d_18, d2_19) =>
  (stroke_S N things_13 b_14 b2_15 b3_16).bind fun (x_20, y_21, y_22, y_23) =>
  (strike_S N 2 5 y_21 y_22 y_23).bind fun (x_24, y_25, y_26, y_27) =>
  (stroke_S N things_13 y_25 y_26 y_27).bind fun (x_28, y_29, y_30, y_31) =>
  (made_l2 N N x_20 x_24 x_28 0 y_29 y_30 y_31 g_17 d_18 d2_19 [] []).bind fun (many_53, often_54, value_55, value2_56, value3_57, g_58, d_59, d2_60, d3_61, d4_62) =>
  (made_l4 N N often_54 many_53 0 value_55 value2_56 value3_57 g_58 d_59 d2_60 d3_61 [] d4_62).bind fun (g_80, g2_81, g3_82, g4_83, d_84, d2_85, d3_86, d4_87, d5_88) =>
  some (d2_85, d_84, d3_86, d4_87, d5_88, g_80, g2_81, g3_82)
noncomputable def made_sp (N : Nat) : List Spec := [sp_stroke N, sp_strike N, sp_made1 N]
theorem made_all (N : Nat) : AllP (SpecOK Try.prog) (made_sp N) := ⟨sp_stroke_ok N, sp_strike_ok N, sp_made1_ok N, trivial⟩
noncomputable def made_c : Code := (Try.f17.body).getD .skip
noncomputable abbrev made_B : Body := { c := made_c, n := 86, res := [.cell 4 26], outs := [⟨[shG], [.segs [.sl (.int .u8), shI, .i .u32]]⟩], m0 := 1 }
abbrev made_rt : altD made_B.outs → Option (Li × Int × Ll × Ll × Li × Li × Int × Int) := fun r => some (r.1.1.1, r.1.1.2.1, r.1.1.2.2.1, r.1.1.2.2.2.1, r.1.1.2.2.2.2.1, r.2.1.1, r.2.1.2.1, r.2.1.2.2.1)
abbrev made_l1_at : List PI := [.c [1, 1, 0, 1, 0, 0, 0], .c [1, 1, 0, 1, 0, 0, 1], .l [1, 1, 0, 1, 0, 0], .b 0, .c [1, 1, 1]]
abbrev made_l1_st : Sta := ⟨[1, 2, 4, 5, 15, 16], ⟨[shI, .own 1 0, .own 2 0, .own 3 0, shI, shI], [.segs [.sl (.int .u8), shI, .i .u32], .segs [.own 0 0], .segs [.nils, shI, .nils, .nils, .nils], .segs [.ols 4, shI, .nils, .nils, .nils], .lst (.int .i64)]⟩⟩
abbrev made_l1_h (rec : Int → Int → Int → Li → Int → Int → Int → Int → Li → Option (Int × Li × Int × Int × Int × Int × Li)) : Leaf (Int × Li × Int × Int × Int × Int × Li) := ⟨made_l1_at, made_l1_st, fun p => rec p.1.1 p.1.2.2.2.2.1 p.1.2.2.2.2.2.1 p.2.1.1 p.2.1.2.1 p.2.1.2.2.1 p.2.2.2.1.2.1 p.2.2.2.2.1.2.1 p.2.2.2.2.2.1⟩
abbrev made_l1_e0 : Leaf (Int × Li × Int × Int × Int × Int × Li) := ⟨[.c [1, 1, 1, 0], .c [1, 1, 1, 1]], ⟨[1, 2, 4, 5], ⟨[shI, .own 1 0, .own 2 0, .own 3 0], [.segs [.sl (.int .u8), shI, .i .u32], .segs [.own 0 0], .segs [.nils, shI, .nils, .nils, .nils], .segs [.ols 4, shI, .nils, .nils, .nils], .lst (.int .i64)]⟩⟩, fun p => some ((p.1.1, p.2.1.1, p.2.1.2.1, p.2.1.2.2.1, p.2.2.2.1.2.1, p.2.2.2.2.1.2.1, p.2.2.2.2.2.1))⟩
noncomputable def made_l1_L (N : Nat) : LoopS := { at_ := made_l1_at, sta := made_l1_st, exits := [([.c [1, 1, 1, 0], .c [1, 1, 1, 1]], ⟨[1, 2, 4, 5], ⟨[shI, .own 1 0, .own 2 0, .own 3 0], [.segs [.sl (.int .u8), shI, .i .u32], .segs [.own 0 0], .segs [.nils, shI, .nils, .nils, .nils], .segs [.ols 4, shI, .nils, .nils, .nils], .lst (.int .i64)]⟩⟩)], run := fun p k => (made_l1 N N p.1.1 p.1.2.2.2.2.1 p.1.2.2.2.2.2.1 p.2.1.1 p.2.1.2.1 p.2.1.2.2.1 p.2.2.2.1.2.1 p.2.2.2.2.1.2.1 p.2.2.2.2.2.1).bind fun e => k (.inl ((e.1, (), (), (), ()), ((e.2.1, e.2.2.1, e.2.2.2.1, ()), ((), ()), ((), e.2.2.2.2.1, (), (), (), ()), ((), e.2.2.2.2.2.1, (), (), (), ()), e.2.2.2.2.2.2, ()))) }
theorem made_l1_eq (N n_ : Nat) (things : Int) (u : Int) (u2 : Int) (b : Li) (b2 : Int) (b3 : Int) (g : Int) (d : Int) (d2 : Li) : ev (Z := Int × Li × Int × Int × Int × Int × Li) Try.prog (made_sp N) made_B [] [made_l1_h (made_l1 N n_), made_l1_e0] none 400 true made_l1_at (stL made_l1_st ((things, (), (), (), u, u2, ()), ((b, b2, b3, ()), ((), ()), ((), g, (), (), (), ()), ((), d, (), (), (), ()), d2, ()))) (stH made_l1_st ((things, (), (), (), u, u2, ()), ((b, b2, b3, ()), ((), ()), ((), g, (), (), (), ()), ((), d, (), (), (), ()), d2, ()))) = made_l1 N (n_ + 1) things u u2 b b2 b3 g d d2 := by kernel_rfl
theorem made_l1_ok (N : Nat) {top : Bool} : LoopOK Try.prog made_B.c made_B.n made_B.m0 top (made_l1_L N) := loop_of_ev (Z := Int × Li × Int × Int × Int × Int × Li) (N := N) (fun m p => made_l1 N m p.1.1 p.1.2.2.2.2.1 p.1.2.2.2.2.2.1 p.2.1.1 p.2.1.2.1 p.2.1.2.2.1 p.2.2.2.1.2.1 p.2.2.2.2.1.2.1 p.2.2.2.2.2.1) (fun e => .inl ((e.1, (), (), (), ()), ((e.2.1, e.2.2.1, e.2.2.2.1, ()), ((), ()), ((), e.2.2.2.2.1, (), (), (), ()), ((), e.2.2.2.2.2.1, (), (), (), ()), e.2.2.2.2.2.2, ()))) (fun _ _ _ => rfl) (fun _ => rfl) (fun m z E Xc hE hX hrec hx => leaf_of_ev (B := made_B) (loops := []) (leaves := [made_l1_h (made_l1 N m), made_l1_e0]) (made_all N) mixed trivial hE hX ⟨hrec, (fun p hp => by obtain rfl := Option.some.inj hp; exact hx), trivial⟩ RetOK.no (fun p => made_l1_eq N m p.1.1 p.1.2.2.2.2.1 p.1.2.2.2.2.2.1 p.2.1.1 p.2.1.2.1 p.2.1.2.2.1 p.2.2.2.1.2.1 p.2.2.2.2.1.2.1 p.2.2.2.2.2.1))
abbrev made_l3_at : List PI := [.c [1, 1, 1, 1, 1, 0, 1, 0, 0, 1, 1, 0, 0, 1, 0, 1, 0, 0, 0], .c [1, 1, 1, 1, 1, 0, 1, 0, 0, 1, 1, 0, 0, 1, 0, 1, 0, 0, 1], .l [1, 1, 1, 1, 1, 0, 1, 0, 0, 1, 1, 0, 0, 1, 0, 1, 0, 0], .b 4, .c [1, 1, 1, 1, 1, 0, 1, 0, 0, 1, 1, 0, 0, 1, 1], .b 3, .c [1, 1, 1, 1, 1, 0, 1, 0, 0, 1, 1, 1], .l [1, 1, 1, 1, 1, 0, 1, 0, 0], .b 2, .c [1, 1, 1, 1, 1, 1]]
abbrev made_l3_st : Sta := ⟨[2, 4, 5, 6, 7, 8, 9, 34, 35, 39, 40], ⟨[.own 1 0, .own 2 0, .own 3 0, .fn 70 [] [.own 1 0], shI, shI, .ols 4, shI, shI, shI, shI], [.segs [.sl (.int .u8), shI, .i .u32], .segs [.own 0 0], .segs [.nils, shI, .nils, .nils, .nils], .segs [.ols 5, shI, .ols 6, .nils, .ols 7], .lst (.int .i64), .lst (.int .i64), .lst (.sl (.int .i64)), .lst (.int .i64)]⟩⟩
abbrev made_l3_h (rec : Int → Int → Int → Int → Int → Int → Li → Int → Int → Int → Int → Li → Li → Ll → Li → Option (Int × Int × Int × Int × Li × Int × Int × Int × Int × Li × Li × Ll × Li)) : Leaf (Int × Int × Int × Int × Li × Int × Int × Int × Int × Li × Li × Ll × Li) := ⟨made_l3_at, made_l3_st, fun p => rec p.1.2.2.2.2.1 p.1.2.2.2.2.2.1 p.1.2.2.2.2.2.2.2.1 p.1.2.2.2.2.2.2.2.2.1 p.1.2.2.2.2.2.2.2.2.2.1 p.1.2.2.2.2.2.2.2.2.2.2.1 p.2.1.1 p.2.1.2.1 p.2.1.2.2.1 p.2.2.2.1.2.1 p.2.2.2.2.1.2.1 p.2.2.2.2.2.1 p.2.2.2.2.2.2.1 p.2.2.2.2.2.2.2.1 p.2.2.2.2.2.2.2.2.1⟩
abbrev made_l3_e0 : Leaf (Int × Int × Int × Int × Li × Int × Int × Int × Int × Li × Li × Ll × Li) := ⟨[.c [1, 1, 1, 1, 1, 0, 1, 0, 0, 1, 1, 0, 0, 1, 1], .b 3, .c [1, 1, 1, 1, 1, 0, 1, 0, 0, 1, 1, 1], .l [1, 1, 1, 1, 1, 0, 1, 0, 0], .b 2, .c [1, 1, 1, 1, 1, 1]], ⟨[2, 4, 5, 6, 7, 8, 9, 34, 35], ⟨[.own 1 0, .own 2 0, .own 3 0, .fn 70 [] [.own 1 0], shI, shI, .ols 4, shI, shI], [.segs [.sl (.int .u8), shI, .i .u32], .segs [.own 0 0], .segs [.nils, shI, .nils, .nils, .nils], .segs [.ols 5, shI, .ols 6, .nils, .ols 7], .lst (.int .i64), .lst (.int .i64), .lst (.sl (.int .i64)), .lst (.int .i64)]⟩⟩, fun p => some ((p.1.2.2.2.2.1, p.1.2.2.2.2.2.1, p.1.2.2.2.2.2.2.2.1, p.1.2.2.2.2.2.2.2.2.1, p.2.1.1, p.2.1.2.1, p.2.1.2.2.1, p.2.2.2.1.2.1, p.2.2.2.2.1.2.1, p.2.2.2.2.2.1, p.2.2.2.2.2.2.1, p.2.2.2.2.2.2.2.1, p.2.2.2.2.2.2.2.2.1))⟩
noncomputable def made_l3_L (N : Nat) : LoopS := { at_ := made_l3_at, sta := made_l3_st, exits := [([.c [1, 1, 1, 1, 1, 0, 1, 0, 0, 1, 1, 0, 0, 1, 1], .b 3, .c [1, 1, 1, 1, 1, 0, 1, 0, 0, 1, 1, 1], .l [1, 1, 1, 1, 1, 0, 1, 0, 0], .b 2, .c [1, 1, 1, 1, 1, 1]], ⟨[2, 4, 5, 6, 7, 8, 9, 34, 35], ⟨[.own 1 0, .own 2 0, .own 3 0, .fn 70 [] [.own 1 0], shI, shI, .ols 4, shI, shI], [.segs [.sl (.int .u8), shI, .i .u32], .segs [.own 0 0], .segs [.nils, shI, .nils, .nils, .nils], .segs [.ols 5, shI, .ols 6, .nils, .ols 7], .lst (.int .i64), .lst (.int .i64), .lst (.sl (.int .i64)), .lst (.int .i64)]⟩⟩)], run := fun p k => (made_l3 N N p.1.2.2.2.2.1 p.1.2.2.2.2.2.1 p.1.2.2.2.2.2.2.2.1 p.1.2.2.2.2.2.2.2.2.1 p.1.2.2.2.2.2.2.2.2.2.1 p.1.2.2.2.2.2.2.2.2.2.2.1 p.2.1.1 p.2.1.2.1 p.2.1.2.2.1 p.2.2.2.1.2.1 p.2.2.2.2.1.2.1 p.2.2.2.2.2.1 p.2.2.2.2.2.2.1 p.2.2.2.2.2.2.2.1 p.2.2.2.2.2.2.2.2.1).bind fun e => k (.inl (((), (), (), ((), ((), ())), e.1, e.2.1, (), e.2.2.1, e.2.2.2.1, ()), ((e.2.2.2.2.1, e.2.2.2.2.2.1, e.2.2.2.2.2.2.1, ()), ((), ()), ((), e.2.2.2.2.2.2.2.1, (), (), (), ()), ((), e.2.2.2.2.2.2.2.2.1, (), (), (), ()), e.2.2.2.2.2.2.2.2.2.1, e.2.2.2.2.2.2.2.2.2.2.1, e.2.2.2.2.2.2.2.2.2.2.2.1, e.2.2.2.2.2.2.2.2.2.2.2.2, ()))) }
theorem made_l3_eq (N n_ : Nat) (many : Int) (often : Int) (u : Int) (u2 : Int) (u3 : Int) (u4 : Int) (b : Li) (b2 : Int) (b3 : Int) (g : Int) (d : Int) (l : Li) (d2 : Li) (d3 : Ll) (d4 : Li) : ev (Z := Int × Int × Int × Int × Li × Int × Int × Int × Int × Li × Li × Ll × Li) Try.prog (made_sp N) made_B [made_l1_L N] [made_l3_h (made_l3 N n_), made_l3_e0] none 400 true made_l3_at (stL made_l3_st (((), (), (), ((), ((), ())), many, often, (), u, u2, u3, u4, ()), ((b, b2, b3, ()), ((), ()), ((), g, (), (), (), ()), ((), d, (), (), (), ()), l, d2, d3, d4, ()))) (stH made_l3_st (((), (), (), ((), ((), ())), many, often, (), u, u2, u3, u4, ()), ((b, b2, b3, ()), ((), ()), ((), g, (), (), (), ()), ((), d, (), (), (), ()), l, d2, d3, d4, ()))) = made_l3 N (n_ + 1) many often u u2 u3 u4 b b2 b3 g d l d2 d3 d4 := by kernel_rfl
theorem made_l3_ok (N : Nat) {top : Bool} : LoopOK Try.prog made_B.c made_B.n made_B.m0 top (made_l3_L N) := loop_of_ev (Z := Int × Int × Int × Int × Li × Int × Int × Int × Int × Li × Li × Ll × Li) (N := N) (fun m p => made_l3 N m p.1.2.2.2.2.1 p.1.2.2.2.2.2.1 p.1.2.2.2.2.2.2.2.1 p.1.2.2.2.2.2.2.2.2.1 p.1.2.2.2.2.2.2.2.2.2.1 p.1.2.2.2.2.2.2.2.2.2.2.1 p.2.1.1 p.2.1.2.1 p.2.1.2.2.1 p.2.2.2.1.2.1 p.2.2.2.2.1.2.1 p.2.2.2.2.2.1 p.2.2.2.2.2.2.1 p.2.2.2.2.2.2.2.1 p.2.2.2.2.2.2.2.2.1) (fun e => .inl (((), (), (), ((), ((), ())), e.1, e.2.1, (), e.2.2.1, e.2.2.2.1, ()), ((e.2.2.2.2.1, e.2.2.2.2.2.1, e.2.2.2.2.2.2.1, ()), ((), ()), ((), e.2.2.2.2.2.2.2.1, (), (), (), ()), ((), e.2.2.2.2.2.2.2.2.1, (), (), (), ()), e.2.2.2.2.2.2.2.2.2.1, e.2.2.2.2.2.2.2.2.2.2.1, e.2.2.2.2.2.2.2.2.2.2.2.1, e.2.2.2.2.2.2.2.2.2.2.2.2, ()))) (fun _ _ _ => rfl) (fun _ => rfl) (fun m z E Xc hE hX hrec hx => leaf_of_ev (B := made_B) (loops := [made_l1_L N]) (leaves := [made_l3_h (made_l3 N m), made_l3_e0]) (made_all N) mixed ⟨made_l1_ok N, trivial⟩ hE hX ⟨hrec, (fun p hp => by obtain rfl := Option.some.inj hp; exact hx), trivial⟩ RetOK.no (fun p => made_l3_eq N m p.1.2.2.2.2.1 p.1.2.2.2.2.2.1 p.1.2.2.2.2.2.2.2.1 p.1.2.2.2.2.2.2.2.2.1 p.1.2.2.2.2.2.2.2.2.2.1 p.1.2.2.2.2.2.2.2.2.2.2.1 p.2.1.1 p.2.1.2.1 p.2.1.2.2.1 p.2.2.2.1.2.1 p.2.2.2.2.1.2.1 p.2.2.2.2.2.1 p.2.2.2.2.2.2.1 p.2.2.2.2.2.2.2.1 p.2.2.2.2.2.2.2.2.1))
abbrev made_l2_at : List PI := [.c [1, 1, 1, 1, 1, 0, 1, 0, 0, 0], .c [1, 1, 1, 1, 1, 0, 1, 0, 0, 1], .l [1, 1, 1, 1, 1, 0, 1, 0, 0], .b 2, .c [1, 1, 1, 1, 1, 1]]
abbrev made_l2_st : Sta := ⟨[2, 4, 5, 6, 7, 8, 34, 35], ⟨[.own 1 0, .own 2 0, .own 3 0, .fn 70 [] [.own 1 0], shI, shI, shI, shI], [.segs [.sl (.int .u8), shI, .i .u32], .segs [.own 0 0], .segs [.nils, shI, .nils, .nils, .nils], .segs [.ols 4, shI, .ols 5, .nils, .ols 6], .lst (.int .i64), .lst (.sl (.int .i64)), .lst (.int .i64)]⟩⟩
abbrev made_l2_h (rec : Int → Int → Int → Int → Li → Int → Int → Int → Int → Li → Ll → Li → Option (Int × Int × Li × Int × Int × Int × Int × Li × Ll × Li)) : Leaf (Int × Int × Li × Int × Int × Int × Int × Li × Ll × Li) := ⟨made_l2_at, made_l2_st, fun p => rec p.1.2.2.2.2.1 p.1.2.2.2.2.2.1 p.1.2.2.2.2.2.2.1 p.1.2.2.2.2.2.2.2.1 p.2.1.1 p.2.1.2.1 p.2.1.2.2.1 p.2.2.2.1.2.1 p.2.2.2.2.1.2.1 p.2.2.2.2.2.1 p.2.2.2.2.2.2.1 p.2.2.2.2.2.2.2.1⟩
abbrev made_l2_e0 : Leaf (Int × Int × Li × Int × Int × Int × Int × Li × Ll × Li) := ⟨[.c [1, 1, 1, 1, 1, 1, 0, 0], .c [1, 1, 1, 1, 1, 1, 0, 1], .c [1, 1, 1, 1, 1, 1, 1]], ⟨[4, 5, 6, 7, 8], ⟨[.own 1 0, .own 2 0, .fn 70 [] [.own 3 0], shI, shI], [.segs [.sl (.int .u8), shI, .i .u32], .segs [.nils, shI, .nils, .nils, .nils], .segs [.ols 4, shI, .ols 5, .nils, .ols 6], .segs [.own 0 0], .lst (.int .i64), .lst (.sl (.int .i64)), .lst (.int .i64)]⟩⟩, fun p => some ((p.1.2.2.2.1, p.1.2.2.2.2.1, p.2.1.1, p.2.1.2.1, p.2.1.2.2.1, p.2.2.1.2.1, p.2.2.2.1.2.1, p.2.2.2.2.2.1, p.2.2.2.2.2.2.1, p.2.2.2.2.2.2.2.1))⟩
noncomputable def made_l2_L (N : Nat) : LoopS := { at_ := made_l2_at, sta := made_l2_st, exits := [([.c [1, 1, 1, 1, 1, 1, 0, 0], .c [1, 1, 1, 1, 1, 1, 0, 1], .c [1, 1, 1, 1, 1, 1, 1]], ⟨[4, 5, 6, 7, 8], ⟨[.own 1 0, .own 2 0, .fn 70 [] [.own 3 0], shI, shI], [.segs [.sl (.int .u8), shI, .i .u32], .segs [.nils, shI, .nils, .nils, .nils], .segs [.ols 4, shI, .ols 5, .nils, .ols 6], .segs [.own 0 0], .lst (.int .i64), .lst (.sl (.int .i64)), .lst (.int .i64)]⟩⟩)], run := fun p k => (made_l2 N N p.1.2.2.2.2.1 p.1.2.2.2.2.2.1 p.1.2.2.2.2.2.2.1 p.1.2.2.2.2.2.2.2.1 p.2.1.1 p.2.1.2.1 p.2.1.2.2.1 p.2.2.2.1.2.1 p.2.2.2.2.1.2.1 p.2.2.2.2.2.1 p.2.2.2.2.2.2.1 p.2.2.2.2.2.2.2.1).bind fun e => k (.inl (((), (), ((), ((), ())), e.1, e.2.1, ()), ((e.2.2.1, e.2.2.2.1, e.2.2.2.2.1, ()), ((), e.2.2.2.2.2.1, (), (), (), ()), ((), e.2.2.2.2.2.2.1, (), (), (), ()), ((), ()), e.2.2.2.2.2.2.2.1, e.2.2.2.2.2.2.2.2.1, e.2.2.2.2.2.2.2.2.2, ()))) }
theorem made_l2_eq (N n_ : Nat) (many : Int) (often : Int) (u : Int) (u2 : Int) (b : Li) (b2 : Int) (b3 : Int) (g : Int) (d : Int) (d2 : Li) (d3 : Ll) (d4 : Li) : ev (Z := Int × Int × Li × Int × Int × Int × Int × Li × Ll × Li) Try.prog (made_sp N) made_B [made_l1_L N, made_l3_L N] [made_l2_h (made_l2 N n_), made_l2_e0] none 400 true made_l2_at (stL made_l2_st (((), (), (), ((), ((), ())), many, often, u, u2, ()), ((b, b2, b3, ()), ((), ()), ((), g, (), (), (), ()), ((), d, (), (), (), ()), d2, d3, d4, ()))) (stH made_l2_st (((), (), (), ((), ((), ())), many, often, u, u2, ()), ((b, b2, b3, ()), ((), ()), ((), g, (), (), (), ()), ((), d, (), (), (), ()), d2, d3, d4, ()))) = made_l2 N (n_ + 1) many often u u2 b b2 b3 g d d2 d3 d4 := by kernel_rfl
theorem made_l2_ok (N : Nat) {top : Bool} : LoopOK Try.prog made_B.c made_B.n made_B.m0 top (made_l2_L N) := loop_of_ev (Z := Int × Int × Li × Int × Int × Int × Int × Li × Ll × Li) (N := N) (fun m p => made_l2 N m p.1.2.2.2.2.1 p.1.2.2.2.2.2.1 p.1.2.2.2.2.2.2.1 p.1.2.2.2.2.2.2.2.1 p.2.1.1 p.2.1.2.1 p.2.1.2.2.1 p.2.2.2.1.2.1 p.2.2.2.2.1.2.1 p.2.2.2.2.2.1 p.2.2.2.2.2.2.1 p.2.2.2.2.2.2.2.1) (fun e => .inl (((), (), ((), ((), ())), e.1, e.2.1, ()), ((e.2.2.1, e.2.2.2.1, e.2.2.2.2.1, ()), ((), e.2.2.2.2.2.1, (), (), (), ()), ((), e.2.2.2.2.2.2.1, (), (), (), ()), ((), ()), e.2.2.2.2.2.2.2.1, e.2.2.2.2.2.2.2.2.1, e.2.2.2.2.2.2.2.2.2, ()))) (fun _ _ _ => rfl) (fun _ => rfl) (fun m z E Xc hE hX hrec hx => leaf_of_ev (B := made_B) (loops := [made_l1_L N, made_l3_L N]) (leaves := [made_l2_h (made_l2 N m), made_l2_e0]) (made_all N) mixed ⟨made_l1_ok N, made_l3_ok N, trivial⟩ hE hX ⟨hrec, (fun p hp => by obtain rfl := Option.some.inj hp; exact hx), trivial⟩ RetOK.no (fun p => made_l2_eq N m p.1.2.2.2.2.1 p.1.2.2.2.2.2.1 p.1.2.2.2.2.2.2.1 p.1.2.2.2.2.2.2.2.1 p.2.1.1 p.2.1.2.1 p.2.1.2.2.1 p.2.2.2.1.2.1 p.2.2.2.2.1.2.1 p.2.2.2.2.2.1 p.2.2.2.2.2.2.1 p.2.2.2.2.2.2.2.1))
abbrev made_l5_at : List PI := [.c [1, 1, 1, 1, 1, 1, 0, 1, 0, 0, 1, 1, 0, 0, 1, 0, 1, 0, 0, 0], .c [1, 1, 1, 1, 1, 1, 0, 1, 0, 0, 1, 1, 0, 0, 1, 0, 1, 0, 0, 1], .l [1, 1, 1, 1, 1, 1, 0, 1, 0, 0, 1, 1, 0, 0, 1, 0, 1, 0, 0], .b 8, .c [1, 1, 1, 1, 1, 1, 0, 1, 0, 0, 1, 1, 0, 0, 1, 1], .b 7, .c [1, 1, 1, 1, 1, 1, 0, 1, 0, 0, 1, 1, 1], .l [1, 1, 1, 1, 1, 1, 0, 1, 0, 0], .b 6, .c [1, 1, 1, 1, 1, 1, 1]]
abbrev made_l5_st : Sta := ⟨[4, 5, 6, 8, 10, 63, 64, 68, 69], ⟨[.own 1 0, .own 2 0, .fn 70 [] [.own 3 0], shI, .ols 4, shI, shI, shI, shI], [.segs [.sl (.int .u8), shI, .i .u32], .segs [.nils, shI, .nils, .nils, .nils], .segs [.ols 5, shI, .ols 6, .ols 7, .ols 8], .segs [.own 0 0], .lst (.int .i64), .lst (.int .i64), .lst (.sl (.int .i64)), .lst (.sl (.int .i64)), .lst (.int .i64)]⟩⟩
abbrev made_l5_h (rec : Int → Int → Int → Int → Int → Li → Int → Int → Int → Int → Li → Li → Ll → Ll → Li → Option (Int × Int × Int × Li × Int × Int × Int × Int × Li × Li × Ll × Ll × Li)) : Leaf (Int × Int × Int × Li × Int × Int × Int × Int × Li × Li × Ll × Ll × Li) := ⟨made_l5_at, made_l5_st, fun p => rec p.1.2.2.2.1 p.1.2.2.2.2.2.1 p.1.2.2.2.2.2.2.1 p.1.2.2.2.2.2.2.2.1 p.1.2.2.2.2.2.2.2.2.1 p.2.1.1 p.2.1.2.1 p.2.1.2.2.1 p.2.2.1.2.1 p.2.2.2.1.2.1 p.2.2.2.2.2.1 p.2.2.2.2.2.2.1 p.2.2.2.2.2.2.2.1 p.2.2.2.2.2.2.2.2.1 p.2.2.2.2.2.2.2.2.2.1⟩
abbrev made_l5_e0 : Leaf (Int × Int × Int × Li × Int × Int × Int × Int × Li × Li × Ll × Ll × Li) := ⟨[.c [1, 1, 1, 1, 1, 1, 0, 1, 0, 0, 1, 1, 0, 0, 1, 1], .b 7, .c [1, 1, 1, 1, 1, 1, 0, 1, 0, 0, 1, 1, 1], .l [1, 1, 1, 1, 1, 1, 0, 1, 0, 0], .b 6, .c [1, 1, 1, 1, 1, 1, 1]], ⟨[4, 5, 6, 8, 10, 63, 64], ⟨[.own 1 0, .own 2 0, .fn 70 [] [.own 3 0], shI, .ols 4, shI, shI], [.segs [.sl (.int .u8), shI, .i .u32], .segs [.nils, shI, .nils, .nils, .nils], .segs [.ols 5, shI, .ols 6, .ols 7, .ols 8], .segs [.own 0 0], .lst (.int .i64), .lst (.int .i64), .lst (.sl (.int .i64)), .lst (.sl (.int .i64)), .lst (.int .i64)]⟩⟩, fun p => some ((p.1.2.2.2.1, p.1.2.2.2.2.2.1, p.1.2.2.2.2.2.2.1, p.2.1.1, p.2.1.2.1, p.2.1.2.2.1, p.2.2.1.2.1, p.2.2.2.1.2.1, p.2.2.2.2.2.1, p.2.2.2.2.2.2.1, p.2.2.2.2.2.2.2.1, p.2.2.2.2.2.2.2.2.1, p.2.2.2.2.2.2.2.2.2.1))⟩
noncomputable def made_l5_L (N : Nat) : LoopS := { at_ := made_l5_at, sta := made_l5_st, exits := [([.c [1, 1, 1, 1, 1, 1, 0, 1, 0, 0, 1, 1, 0, 0, 1, 1], .b 7, .c [1, 1, 1, 1, 1, 1, 0, 1, 0, 0, 1, 1, 1], .l [1, 1, 1, 1, 1, 1, 0, 1, 0, 0], .b 6, .c [1, 1, 1, 1, 1, 1, 1]], ⟨[4, 5, 6, 8, 10, 63, 64], ⟨[.own 1 0, .own 2 0, .fn 70 [] [.own 3 0], shI, .ols 4, shI, shI], [.segs [.sl (.int .u8), shI, .i .u32], .segs [.nils, shI, .nils, .nils, .nils], .segs [.ols 5, shI, .ols 6, .ols 7, .ols 8], .segs [.own 0 0], .lst (.int .i64), .lst (.int .i64), .lst (.sl (.int .i64)), .lst (.sl (.int .i64)), .lst (.int .i64)]⟩⟩)], run := fun p k => (made_l5 N N p.1.2.2.2.1 p.1.2.2.2.2.2.1 p.1.2.2.2.2.2.2.1 p.1.2.2.2.2.2.2.2.1 p.1.2.2.2.2.2.2.2.2.1 p.2.1.1 p.2.1.2.1 p.2.1.2.2.1 p.2.2.1.2.1 p.2.2.2.1.2.1 p.2.2.2.2.2.1 p.2.2.2.2.2.2.1 p.2.2.2.2.2.2.2.1 p.2.2.2.2.2.2.2.2.1 p.2.2.2.2.2.2.2.2.2.1).bind fun e => k (.inl (((), (), ((), ((), ())), e.1, (), e.2.1, e.2.2.1, ()), ((e.2.2.2.1, e.2.2.2.2.1, e.2.2.2.2.2.1, ()), ((), e.2.2.2.2.2.2.1, (), (), (), ()), ((), e.2.2.2.2.2.2.2.1, (), (), (), ()), ((), ()), e.2.2.2.2.2.2.2.2.1, e.2.2.2.2.2.2.2.2.2.1, e.2.2.2.2.2.2.2.2.2.2.1, e.2.2.2.2.2.2.2.2.2.2.2.1, e.2.2.2.2.2.2.2.2.2.2.2.2, ()))) }
theorem made_l5_eq (N n_ : Nat) (often : Int) (u : Int) (u2 : Int) (u3 : Int) (u4 : Int) (value : Li) (value2 : Int) (value3 : Int) (g : Int) (d : Int) (l : Li) (d2 : Li) (d3 : Ll) (d4 : Ll) (d5 : Li) : ev (Z := Int × Int × Int × Li × Int × Int × Int × Int × Li × Li × Ll × Ll × Li) Try.prog (made_sp N) made_B [made_l1_L N, made_l3_L N, made_l2_L N] [made_l5_h (made_l5 N n_), made_l5_e0] none 400 true made_l5_at (stL made_l5_st (((), (), ((), ((), ())), often, (), u, u2, u3, u4, ()), ((value, value2, value3, ()), ((), g, (), (), (), ()), ((), d, (), (), (), ()), ((), ()), l, d2, d3, d4, d5, ()))) (stH made_l5_st (((), (), ((), ((), ())), often, (), u, u2, u3, u4, ()), ((value, value2, value3, ()), ((), g, (), (), (), ()), ((), d, (), (), (), ()), ((), ()), l, d2, d3, d4, d5, ()))) = made_l5 N (n_ + 1) often u u2 u3 u4 value value2 value3 g d l d2 d3 d4 d5 := by kernel_rfl
theorem made_l5_ok (N : Nat) {top : Bool} : LoopOK Try.prog made_B.c made_B.n made_B.m0 top (made_l5_L N) := loop_of_ev (Z := Int × Int × Int × Li × Int × Int × Int × Int × Li × Li × Ll × Ll × Li) (N := N) (fun m p => made_l5 N m p.1.2.2.2.1 p.1.2.2.2.2.2.1 p.1.2.2.2.2.2.2.1 p.1.2.2.2.2.2.2.2.1 p.1.2.2.2.2.2.2.2.2.1 p.2.1.1 p.2.1.2.1 p.2.1.2.2.1 p.2.2.1.2.1 p.2.2.2.1.2.1 p.2.2.2.2.2.1 p.2.2.2.2.2.2.1 p.2.2.2.2.2.2.2.1 p.2.2.2.2.2.2.2.2.1 p.2.2.2.2.2.2.2.2.2.1) (fun e => .inl (((), (), ((), ((), ())), e.1, (), e.2.1, e.2.2.1, ()), ((e.2.2.2.1, e.2.2.2.2.1, e.2.2.2.2.2.1, ()), ((), e.2.2.2.2.2.2.1, (), (), (), ()), ((), e.2.2.2.2.2.2.2.1, (), (), (), ()), ((), ()), e.2.2.2.2.2.2.2.2.1, e.2.2.2.2.2.2.2.2.2.1, e.2.2.2.2.2.2.2.2.2.2.1, e.2.2.2.2.2.2.2.2.2.2.2.1, e.2.2.2.2.2.2.2.2.2.2.2.2, ()))) (fun _ _ _ => rfl) (fun _ => rfl) (fun m z E Xc hE hX hrec hx => leaf_of_ev (B := made_B) (loops := [made_l1_L N, made_l3_L N, made_l2_L N]) (leaves := [made_l5_h (made_l5 N m), made_l5_e0]) (made_all N) mixed ⟨made_l1_ok N, made_l3_ok N, made_l2_ok N, trivial⟩ hE hX ⟨hrec, (fun p hp => by obtain rfl := Option.some.inj hp; exact hx), trivial⟩ RetOK.no (fun p => made_l5_eq N m p.1.2.2.2.1 p.1.2.2.2.2.2.1 p.1.2.2.2.2.2.2.1 p.1.2.2.2.2.2.2.2.1 p.1.2.2.2.2.2.2.2.2.1 p.2.1.1 p.2.1.2.1 p.2.1.2.2.1 p.2.2.1.2.1 p.2.2.2.1.2.1 p.2.2.2.2.2.1 p.2.2.2.2.2.2.1 p.2.2.2.2.2.2.2.1 p.2.2.2.2.2.2.2.2.1 p.2.2.2.2.2.2.2.2.2.1))
abbrev made_l4_at : List PI := [.c [1, 1, 1, 1, 1, 1, 0, 1, 0, 0, 0], .c [1, 1, 1, 1, 1, 1, 0, 1, 0, 0, 1], .l [1, 1, 1, 1, 1, 1, 0, 1, 0, 0], .b 6, .c [1, 1, 1, 1, 1, 1, 1]]
abbrev made_l4_st : Sta := ⟨[4, 5, 6, 8, 63, 64], ⟨[.own 1 0, .own 2 0, .fn 70 [] [.own 3 0], shI, shI, shI], [.segs [.sl (.int .u8), shI, .i .u32], .segs [.nils, shI, .nils, .nils, .nils], .segs [.ols 4, shI, .ols 5, .ols 6, .ols 7], .segs [.own 0 0], .lst (.int .i64), .lst (.sl (.int .i64)), .lst (.sl (.int .i64)), .lst (.int .i64)]⟩⟩
abbrev made_l4_h (rec : Int → Int → Int → Li → Int → Int → Int → Int → Li → Ll → Ll → Li → Option (Li × Int × Int × Int × Int × Li × Ll × Ll × Li)) : Leaf (Li × Int × Int × Int × Int × Li × Ll × Ll × Li) := ⟨made_l4_at, made_l4_st, fun p => rec p.1.2.2.2.1 p.1.2.2.2.2.1 p.1.2.2.2.2.2.1 p.2.1.1 p.2.1.2.1 p.2.1.2.2.1 p.2.2.1.2.1 p.2.2.2.1.2.1 p.2.2.2.2.2.1 p.2.2.2.2.2.2.1 p.2.2.2.2.2.2.2.1 p.2.2.2.2.2.2.2.2.1⟩
abbrev made_l4_e0 : Leaf (Li × Int × Int × Int × Int × Li × Ll × Ll × Li) := ⟨[.c [1, 1, 1, 1, 1, 1, 1, 0], .c [1, 1, 1, 1, 1, 1, 1, 1]], ⟨[4, 5], ⟨[.own 1 0, .own 2 0], [.segs [.sl (.int .u8), shI, .i .u32], .segs [.nils, shI, .nils, .nils, .nils], .segs [.ols 3, shI, .ols 4, .ols 5, .ols 6], .lst (.int .i64), .lst (.sl (.int .i64)), .lst (.sl (.int .i64)), .lst (.int .i64)]⟩⟩, fun p => some ((p.2.1.1, p.2.1.2.1, p.2.1.2.2.1, p.2.2.1.2.1, p.2.2.2.1.2.1, p.2.2.2.2.1, p.2.2.2.2.2.1, p.2.2.2.2.2.2.1, p.2.2.2.2.2.2.2.1))⟩
noncomputable def made_l4_L (N : Nat) : LoopS := { at_ := made_l4_at, sta := made_l4_st, exits := [([.c [1, 1, 1, 1, 1, 1, 1, 0], .c [1, 1, 1, 1, 1, 1, 1, 1]], ⟨[4, 5], ⟨[.own 1 0, .own 2 0], [.segs [.sl (.int .u8), shI, .i .u32], .segs [.nils, shI, .nils, .nils, .nils], .segs [.ols 3, shI, .ols 4, .ols 5, .ols 6], .lst (.int .i64), .lst (.sl (.int .i64)), .lst (.sl (.int .i64)), .lst (.int .i64)]⟩⟩)], run := fun p k => (made_l4 N N p.1.2.2.2.1 p.1.2.2.2.2.1 p.1.2.2.2.2.2.1 p.2.1.1 p.2.1.2.1 p.2.1.2.2.1 p.2.2.1.2.1 p.2.2.2.1.2.1 p.2.2.2.2.2.1 p.2.2.2.2.2.2.1 p.2.2.2.2.2.2.2.1 p.2.2.2.2.2.2.2.2.1).bind fun e => k (.inl (((), (), ()), ((e.1, e.2.1, e.2.2.1, ()), ((), e.2.2.2.1, (), (), (), ()), ((), e.2.2.2.2.1, (), (), (), ()), e.2.2.2.2.2.1, e.2.2.2.2.2.2.1, e.2.2.2.2.2.2.2.1, e.2.2.2.2.2.2.2.2, ()))) }
theorem made_l4_eq (N n_ : Nat) (often : Int) (u : Int) (u2 : Int) (value : Li) (value2 : Int) (value3 : Int) (g : Int) (d : Int) (d2 : Li) (d3 : Ll) (d4 : Ll) (d5 : Li) : ev (Z := Li × Int × Int × Int × Int × Li × Ll × Ll × Li) Try.prog (made_sp N) made_B [made_l1_L N, made_l3_L N, made_l2_L N, made_l5_L N] [made_l4_h (made_l4 N n_), made_l4_e0] none 400 true made_l4_at (stL made_l4_st (((), (), ((), ((), ())), often, u, u2, ()), ((value, value2, value3, ()), ((), g, (), (), (), ()), ((), d, (), (), (), ()), ((), ()), d2, d3, d4, d5, ()))) (stH made_l4_st (((), (), ((), ((), ())), often, u, u2, ()), ((value, value2, value3, ()), ((), g, (), (), (), ()), ((), d, (), (), (), ()), ((), ()), d2, d3, d4, d5, ()))) = made_l4 N (n_ + 1) often u u2 value value2 value3 g d d2 d3 d4 d5 := by kernel_rfl
theorem made_l4_ok (N : Nat) {top : Bool} : LoopOK Try.prog made_B.c made_B.n made_B.m0 top (made_l4_L N) := loop_of_ev (Z := Li × Int × Int × Int × Int × Li × Ll × Ll × Li) (N := N) (fun m p => made_l4 N m p.1.2.2.2.1 p.1.2.2.2.2.1 p.1.2.2.2.2.2.1 p.2.1.1 p.2.1.2.1 p.2.1.2.2.1 p.2.2.1.2.1 p.2.2.2.1.2.1 p.2.2.2.2.2.1 p.2.2.2.2.2.2.1 p.2.2.2.2.2.2.2.1 p.2.2.2.2.2.2.2.2.1) (fun e => .inl (((), (), ()), ((e.1, e.2.1, e.2.2.1, ()), ((), e.2.2.2.1, (), (), (), ()), ((), e.2.2.2.2.1, (), (), (), ()), e.2.2.2.2.2.1, e.2.2.2.2.2.2.1, e.2.2.2.2.2.2.2.1, e.2.2.2.2.2.2.2.2, ()))) (fun _ _ _ => rfl) (fun _ => rfl) (fun m z E Xc hE hX hrec hx => leaf_of_ev (B := made_B) (loops := [made_l1_L N, made_l3_L N, made_l2_L N, made_l5_L N]) (leaves := [made_l4_h (made_l4 N m), made_l4_e0]) (made_all N) mixed ⟨made_l1_ok N, made_l3_ok N, made_l2_ok N, made_l5_ok N, trivial⟩ hE hX ⟨hrec, (fun p hp => by obtain rfl := Option.some.inj hp; exact hx), trivial⟩ RetOK.no (fun p => made_l4_eq N m p.1.2.2.2.1 p.1.2.2.2.2.1 p.1.2.2.2.2.2.1 p.2.1.1 p.2.1.2.1 p.2.1.2.2.1 p.2.2.1.2.1 p.2.2.2.1.2.1 p.2.2.2.2.2.1 p.2.2.2.2.2.2.1 p.2.2.2.2.2.2.2.1 p.2.2.2.2.2.2.2.2.1))
abbrev made_st : Sta := ⟨[0, 1], ⟨[.own 0 0, shI], [.segs [.sl (.int .u8), shI, .i .u32]]⟩⟩
theorem made_eq (N : Nat) (things : Int) (b : Li) (b2 : Int) (b3 : Int) : ev (Z := Li × Int × Ll × Ll × Li × Li × Int × Int) Try.prog (made_sp N) made_B [made_l1_L N, made_l3_L N, made_l2_L N, made_l5_L N, made_l4_L N] [] (some made_rt) 400 false [.c [0], .c [1]] (stL made_st (((), things, ()), ((b, b2, b3, ()), ()))) (stH made_st (((), things, ()), ((b, b2, b3, ()), ()))) = made_S N things b b2 b3 := by kernel_rfl
noncomputable def sp_made (N : Nat) : Spec := { f := 17, ins := ⟨[.own 0 0, shI], [.segs [.sl (.int .u8), shI, .i .u32]]⟩, outs := [⟨[shG], [.segs [.sl (.int .u8), shI, .i .u32]]⟩], run := fun p k => (made_S N p.1.2.1 p.2.1.1 p.2.1.2.1 p.2.1.2.2.1).bind fun r => k (((r.1, r.2.1, r.2.2.1, r.2.2.2.1, r.2.2.2.2.1, ()), ()), ((r.2.2.2.2.2.1, r.2.2.2.2.2.2.1, r.2.2.2.2.2.2.2, ()), ())) }
theorem sp_made_ok (N : Nat) : SpecOK Try.prog (sp_made N) := fn_sound (B := made_B) (loops := [made_l1_L N, made_l3_L N, made_l2_L N, made_l5_L N, made_l4_L N]) (leaves := []) (fun p => made_S N p.1.2.1 p.2.1.1 p.2.1.2.1 p.2.1.2.2.1) (fun r => (((r.1, r.2.1, r.2.2.1, r.2.2.2.1, r.2.2.2.2.1, ()), ()), ((r.2.2.2.2.2.1, r.2.2.2.2.2.2.1, r.2.2.2.2.2.2.2, ()), ()))) made_rt (fun _ _ _ => rfl) (fun r z h => by cases h; rfl) Try.func17 (by kernel_rfl) (by kernel_rfl) (by kernel_rfl) rfl rfl (by kernel_rfl) (fun args w => Sem.pv_run _ _ _ (by kernel_rfl) w) (made_all N) mixed ⟨made_l1_ok N, made_l3_ok N, made_l2_ok N, made_l5_ok N, made_l4_ok N, trivial⟩ (fun z E Xc hE hX hret => trivial) (fun p => made_eq N p.1.2.1 p.2.1.1 p.2.1.2.1 p.2.1.2.2.1)

def rung_l1 (N : Nat) : Nat → Int → Int → Li → Int → Int → Li → Option (Li × Int × Int × Li)
  | 0, _, _, _, _, _, _ => none
  | n_ + 1, u, u2, b, b2, b3, out =>
    br (decide (u2 < u))
      ((stroke_S N u2 b b2 b3).bind fun (x_1, y_2, y_3, y_4) =>
      lim (out.length + [u2].length) <|
      rng u2 (out ++ [u2]).length <|
      get (out ++ [u2]) u2.toNat fun x_5 =>
      rng x_1 (out ++ [u2]).length <|
      get (out ++ [u2]) x_1.toNat fun x_6 =>
      rng x_1 (out ++ [u2]).length <|
      get (out ++ [u2]) x_1.toNat fun _ =>
      rng u2 ((out ++ [u2]).set x_1.toNat x_5).length <|
      get ((out ++ [u2]).set x_1.toNat x_5) u2.toNat fun _ =>
      chk (u2 + 1) <|
      rung_l1 N n_ u (u2 + 1) y_2 y_3 y_4 (((out ++ [u2]).set x_1.toNat x_5).set u2.toNat x_6))
      (some ((b, b2, b3, out)))
def rung_S (N : Nat) (n : Int) (b : Li) (b2 : Int) (b3 : Int) : Option (Li × Li × Int × Int) :=
  (rung_l1 N N (max 0 n) 0 b b2 b3 []).bind fun (g_9, g2_10, g3_11, out_12) =>
  some (out_12, g_9, g2_10, g3_11)
noncomputable def rung_sp (N : Nat) : List Spec := [sp_stroke N]
theorem rung_all (N : Nat) : AllP (SpecOK Try.prog) (rung_sp N) := ⟨sp_stroke_ok N, trivial⟩
noncomputable def rung_c : Code := (Try.f39.body).getD .skip
noncomputable abbrev rung_B : Body := { c := rung_c, n := 36, res := [.tmp 4], outs := [⟨[shL], [.segs [.sl (.int .u8), shI, .i .u32]]⟩], m0 := 1 }
abbrev rung_rt : altD rung_B.outs → Option (Li × Li × Int × Int) := fun r => some (r.1.1, r.2.1.1, r.2.1.2.1, r.2.1.2.2.1)
abbrev rung_l1_at : List PI := [.c [1, 1, 0, 1, 0, 0, 0], .c [1, 1, 0, 1, 0, 0, 1], .l [1, 1, 0, 1, 0, 0], .b 0, .c [1, 1, 1]]
abbrev rung_l1_st : Sta := ⟨[0, 5, 9, 10], ⟨[.own 0 0, .ols 1, shI, shI], [.segs [.sl (.int .u8), shI, .i .u32], .lst (.int .i64)]⟩⟩
abbrev rung_l1_h (rec : Int → Int → Li → Int → Int → Li → Option (Li × Int × Int × Li)) : Leaf (Li × Int × Int × Li) := ⟨rung_l1_at, rung_l1_st, fun p => rec p.1.2.2.1 p.1.2.2.2.1 p.2.1.1 p.2.1.2.1 p.2.1.2.2.1 p.2.2.1⟩
abbrev rung_l1_e0 : Leaf (Li × Int × Int × Li) := ⟨[.c [1, 1, 1, 0], .c [1, 1, 1, 1]], ⟨[5], ⟨[.ols 1], [.segs [.sl (.int .u8), shI, .i .u32], .lst (.int .i64)]⟩⟩, fun p => some ((p.2.1.1, p.2.1.2.1, p.2.1.2.2.1, p.2.2.1))⟩
noncomputable def rung_l1_L (N : Nat) : LoopS := { at_ := rung_l1_at, sta := rung_l1_st, exits := [([.c [1, 1, 1, 0], .c [1, 1, 1, 1]], ⟨[5], ⟨[.ols 1], [.segs [.sl (.int .u8), shI, .i .u32], .lst (.int .i64)]⟩⟩)], run := fun p k => (rung_l1 N N p.1.2.2.1 p.1.2.2.2.1 p.2.1.1 p.2.1.2.1 p.2.1.2.2.1 p.2.2.1).bind fun e => k (.inl (((), ()), ((e.1, e.2.1, e.2.2.1, ()), e.2.2.2, ()))) }
theorem rung_l1_eq (N n_ : Nat) (u : Int) (u2 : Int) (b : Li) (b2 : Int) (b3 : Int) (out : Li) : ev (Z := Li × Int × Int × Li) Try.prog (rung_sp N) rung_B [] [rung_l1_h (rung_l1 N n_), rung_l1_e0] none 400 true rung_l1_at (stL rung_l1_st (((), (), u, u2, ()), ((b, b2, b3, ()), out, ()))) (stH rung_l1_st (((), (), u, u2, ()), ((b, b2, b3, ()), out, ()))) = rung_l1 N (n_ + 1) u u2 b b2 b3 out := by kernel_rfl
theorem rung_l1_ok (N : Nat) {top : Bool} : LoopOK Try.prog rung_B.c rung_B.n rung_B.m0 top (rung_l1_L N) := loop_of_ev (Z := Li × Int × Int × Li) (N := N) (fun m p => rung_l1 N m p.1.2.2.1 p.1.2.2.2.1 p.2.1.1 p.2.1.2.1 p.2.1.2.2.1 p.2.2.1) (fun e => .inl (((), ()), ((e.1, e.2.1, e.2.2.1, ()), e.2.2.2, ()))) (fun _ _ _ => rfl) (fun _ => rfl) (fun m z E Xc hE hX hrec hx => leaf_of_ev (B := rung_B) (loops := []) (leaves := [rung_l1_h (rung_l1 N m), rung_l1_e0]) (rung_all N) mixed trivial hE hX ⟨hrec, (fun p hp => by obtain rfl := Option.some.inj hp; exact hx), trivial⟩ RetOK.no (fun p => rung_l1_eq N m p.1.2.2.1 p.1.2.2.2.1 p.2.1.1 p.2.1.2.1 p.2.1.2.2.1 p.2.2.1))
abbrev rung_st : Sta := ⟨[0, 1], ⟨[.own 0 0, shI], [.segs [.sl (.int .u8), shI, .i .u32]]⟩⟩
theorem rung_eq (N : Nat) (n : Int) (b : Li) (b2 : Int) (b3 : Int) : ev (Z := Li × Li × Int × Int) Try.prog (rung_sp N) rung_B [rung_l1_L N] [] (some rung_rt) 400 false [.c [0], .c [1]] (stL rung_st (((), n, ()), ((b, b2, b3, ()), ()))) (stH rung_st (((), n, ()), ((b, b2, b3, ()), ()))) = rung_S N n b b2 b3 := by kernel_rfl
noncomputable def sp_rung (N : Nat) : Spec := { f := 39, ins := ⟨[.own 0 0, shI], [.segs [.sl (.int .u8), shI, .i .u32]]⟩, outs := [⟨[shL], [.segs [.sl (.int .u8), shI, .i .u32]]⟩], run := fun p k => (rung_S N p.1.2.1 p.2.1.1 p.2.1.2.1 p.2.1.2.2.1).bind fun r => k ((r.1, ()), ((r.2.1, r.2.2.1, r.2.2.2, ()), ())) }
theorem sp_rung_ok (N : Nat) : SpecOK Try.prog (sp_rung N) := fn_sound (B := rung_B) (loops := [rung_l1_L N]) (leaves := []) (fun p => rung_S N p.1.2.1 p.2.1.1 p.2.1.2.1 p.2.1.2.2.1) (fun r => ((r.1, ()), ((r.2.1, r.2.2.1, r.2.2.2, ()), ()))) rung_rt (fun _ _ _ => rfl) (fun r z h => by cases h; rfl) Try.func39 (by kernel_rfl) (by kernel_rfl) (by kernel_rfl) rfl rfl (by kernel_rfl) (fun args w => Sem.pv_run _ _ _ (by kernel_rfl) w) (rung_all N) mixed ⟨rung_l1_ok N, trivial⟩ (fun z E Xc hE hX hret => trivial) (fun p => rung_eq N p.1.2.1 p.2.1.1 p.2.1.2.1 p.2.1.2.2.1)

def copyo_S (N : Nat) (l : Li) : Option Li :=
  grd (lmI (l.length : Int)) <|
  some (l.take (min l.length (List.replicate (l.length : Int).toNat (0 : Int)).length) ++ (List.replicate (l.length : Int).toNat (0 : Int)).drop (min l.length (List.replicate (l.length : Int).toNat (0 : Int)).length))
noncomputable def copyo_sp (N : Nat) : List Spec := []
theorem copyo_all (N : Nat) : AllP (SpecOK Try.prog) (copyo_sp N) := trivial
noncomputable def copyo_c : Code := (Try.f23.body).getD .skip
noncomputable abbrev copyo_B : Body := { c := copyo_c, n := 11, res := [.tmp 2], outs := [⟨[.ols 0], [.lst (.int .i64)]⟩], m0 := 0 }
abbrev copyo_rt : altD copyo_B.outs → Option Li := fun r => some r.2.1
abbrev copyo_st : Sta := ⟨[0], ⟨[shL], []⟩⟩
theorem copyo_eq (N : Nat) (l : Li) : ev (Z := Li) Try.prog (copyo_sp N) copyo_B [] [] (some copyo_rt) 400 false [.c [0], .c [1]] (stL copyo_st ((l, ()), ())) (stH copyo_st ((l, ()), ())) = copyo_S N l := by kernel_rfl
noncomputable def sp_copyo (N : Nat) : Spec := { f := 23, ins := ⟨[shL], []⟩, outs := [⟨[.ols 0], [.lst (.int .i64)]⟩], run := fun p k => (copyo_S N p.1.1).bind fun r => k (((), ()), (r, ())) }
theorem sp_copyo_ok (N : Nat) : SpecOK Try.prog (sp_copyo N) := fn_sound (B := copyo_B) (loops := []) (leaves := []) (fun p => copyo_S N p.1.1) (fun r => (((), ()), (r, ()))) copyo_rt (fun _ _ _ => rfl) (fun r z h => by cases h; rfl) Try.func23 (by kernel_rfl) (by kernel_rfl) (by kernel_rfl) rfl rfl (by kernel_rfl) (fun args w => Sem.pv_run _ _ _ (by kernel_rfl) w) (copyo_all N) mixed trivial (fun z E Xc hE hX hret => trivial) (fun p => copyo_eq N p.1.1)

def copyro_l1 (N : Nat) : Nat → Ll → Int → Int → Ll → Option Ll
  | 0, _, _, _, _ => none
  | n_ + 1, u, u2, u3, out =>
    br (decide (u3 < u2))
      (idx u u3 fun x_1 =>
      (copyi_S N x_1).bind fun x_2 =>
      rng u3 out.length <|
      get out u3.toNat fun _ =>
      chk (u3 + 1) <|
      copyro_l1 N n_ u u2 (u3 + 1) (out.set u3.toNat x_2))
      (some (out))
def copyro_S (N : Nat) (l : Ll) : Option Ll :=
  grd (lmI (l.length : Int)) <|
  (copyro_l1 N N l (l.length : Int) 0 (List.replicate (l.length : Int).toNat ([] : Li))).bind fun out_4 =>
  some out_4
noncomputable def copyro_sp (N : Nat) : List Spec := [sp_copyi N]
theorem copyro_all (N : Nat) : AllP (SpecOK Try.prog) (copyro_sp N) := ⟨sp_copyi_ok N, trivial⟩
noncomputable def copyro_c : Code := (Try.f80.body).getD .skip
noncomputable abbrev copyro_B : Body := { c := copyro_c, n := 23, res := [.tmp 2], outs := [⟨[.ols 0], [.lst (.sl (.int .i64))]⟩], m0 := 0 }
abbrev copyro_rt : altD copyro_B.outs → Option Ll := fun r => some r.2.1
abbrev copyro_l1_at : List PI := [.c [1, 1, 0, 1, 0, 0, 0], .c [1, 1, 0, 1, 0, 0, 1], .l [1, 1, 0, 1, 0, 0], .b 0, .c [1, 1, 1]]
abbrev copyro_l1_st : Sta := ⟨[3, 9, 10, 11], ⟨[.ols 0, shQ, shI, shI], [.lst (.sl (.int .i64))]⟩⟩
abbrev copyro_l1_h (rec : Ll → Int → Int → Ll → Option Ll) : Leaf Ll := ⟨copyro_l1_at, copyro_l1_st, fun p => rec p.1.2.1 p.1.2.2.1 p.1.2.2.2.1 p.2.1⟩
abbrev copyro_l1_e0 : Leaf Ll := ⟨[.c [1, 1, 1, 0], .c [1, 1, 1, 1]], ⟨[3], ⟨[.ols 0], [.lst (.sl (.int .i64))]⟩⟩, fun p => some (p.2.1)⟩
noncomputable def copyro_l1_L (N : Nat) : LoopS := { at_ := copyro_l1_at, sta := copyro_l1_st, exits := [([.c [1, 1, 1, 0], .c [1, 1, 1, 1]], ⟨[3], ⟨[.ols 0], [.lst (.sl (.int .i64))]⟩⟩)], run := fun p k => (copyro_l1 N N p.1.2.1 p.1.2.2.1 p.1.2.2.2.1 p.2.1).bind fun e => k (.inl (((), ()), (e, ()))) }
theorem copyro_l1_eq (N n_ : Nat) (u : Ll) (u2 : Int) (u3 : Int) (out : Ll) : ev (Z := Ll) Try.prog (copyro_sp N) copyro_B [] [copyro_l1_h (copyro_l1 N n_), copyro_l1_e0] none 400 true copyro_l1_at (stL copyro_l1_st (((), u, u2, u3, ()), (out, ()))) (stH copyro_l1_st (((), u, u2, u3, ()), (out, ()))) = copyro_l1 N (n_ + 1) u u2 u3 out := by kernel_rfl
theorem copyro_l1_ok (N : Nat) {top : Bool} : LoopOK Try.prog copyro_B.c copyro_B.n copyro_B.m0 top (copyro_l1_L N) := loop_of_ev (Z := Ll) (N := N) (fun m p => copyro_l1 N m p.1.2.1 p.1.2.2.1 p.1.2.2.2.1 p.2.1) (fun e => .inl (((), ()), (e, ()))) (fun _ _ _ => rfl) (fun _ => rfl) (fun m z E Xc hE hX hrec hx => leaf_of_ev (B := copyro_B) (loops := []) (leaves := [copyro_l1_h (copyro_l1 N m), copyro_l1_e0]) (copyro_all N) mixed trivial hE hX ⟨hrec, (fun p hp => by obtain rfl := Option.some.inj hp; exact hx), trivial⟩ RetOK.no (fun p => copyro_l1_eq N m p.1.2.1 p.1.2.2.1 p.1.2.2.2.1 p.2.1))
abbrev copyro_st : Sta := ⟨[0], ⟨[shQ], []⟩⟩
theorem copyro_eq (N : Nat) (l : Ll) : ev (Z := Ll) Try.prog (copyro_sp N) copyro_B [copyro_l1_L N] [] (some copyro_rt) 400 false [.c [0], .c [1]] (stL copyro_st ((l, ()), ())) (stH copyro_st ((l, ()), ())) = copyro_S N l := by kernel_rfl
noncomputable def sp_copyro (N : Nat) : Spec := { f := 80, ins := ⟨[shQ], []⟩, outs := [⟨[.ols 0], [.lst (.sl (.int .i64))]⟩], run := fun p k => (copyro_S N p.1.1).bind fun r => k (((), ()), (r, ())) }
theorem sp_copyro_ok (N : Nat) : SpecOK Try.prog (sp_copyro N) := fn_sound (B := copyro_B) (loops := [copyro_l1_L N]) (leaves := []) (fun p => copyro_S N p.1.1) (fun r => (((), ()), (r, ()))) copyro_rt (fun _ _ _ => rfl) (fun r z h => by cases h; rfl) Try.func80 (by kernel_rfl) (by kernel_rfl) (by kernel_rfl) rfl rfl (by kernel_rfl) (fun args w => Sem.pv_run _ _ _ (by kernel_rfl) w) (copyro_all N) mixed ⟨copyro_l1_ok N, trivial⟩ (fun z E Xc hE hX hret => trivial) (fun p => copyro_eq N p.1.1)

def copydo_S (N : Nat) (d : Li) (d2 : Int) (d3 : Ll) (d4 : Ll) (d5 : Li) : Option (Li × Int × Ll × Ll × Li) :=
  (copyo_S N d).bind fun x_1 =>
  (copyro_S N d3).bind fun x_2 =>
  (copyro_S N d4).bind fun x_3 =>
  (copyo_S N d5).bind fun x_4 =>
  some (x_1, d2, x_2, x_3, x_4)
noncomputable def copydo_sp (N : Nat) : List Spec := [sp_copyo N, sp_copyro N]
theorem copydo_all (N : Nat) : AllP (SpecOK Try.prog) (copydo_sp N) := ⟨sp_copyo_ok N, sp_copyro_ok N, trivial⟩
noncomputable def copydo_c : Code := (Try.f27.body).getD .skip
noncomputable abbrev copydo_B : Body := { c := copydo_c, n := 18, res := [.cell 2 26], outs := [⟨[.agg [shL, shI, .ols 0, .ols 1, .ols 2]], [.lst (.sl (.int .i64)), .lst (.sl (.int .i64)), .lst (.int .i64)]⟩], m0 := 0 }
abbrev copydo_rt : altD copydo_B.outs → Option (Li × Int × Ll × Ll × Li) := fun r => some (r.1.1.1, r.1.1.2.1, r.2.1, r.2.2.1, r.2.2.2.1)
abbrev copydo_st : Sta := ⟨[0], ⟨[shG], []⟩⟩
theorem copydo_eq (N : Nat) (d : Li) (d2 : Int) (d3 : Ll) (d4 : Ll) (d5 : Li) : ev (Z := Li × Int × Ll × Ll × Li) Try.prog (copydo_sp N) copydo_B [] [] (some copydo_rt) 400 false [.c [0], .c [1]] (stL copydo_st (((d, d2, d3, d4, d5, ()), ()), ())) (stH copydo_st (((d, d2, d3, d4, d5, ()), ()), ())) = copydo_S N d d2 d3 d4 d5 := by kernel_rfl
noncomputable def sp_copydo (N : Nat) : Spec := { f := 27, ins := ⟨[shG], []⟩, outs := [⟨[.agg [shL, shI, .ols 0, .ols 1, .ols 2]], [.lst (.sl (.int .i64)), .lst (.sl (.int .i64)), .lst (.int .i64)]⟩], run := fun p k => (copydo_S N p.1.1.1 p.1.1.2.1 p.1.1.2.2.1 p.1.1.2.2.2.1 p.1.1.2.2.2.2.1).bind fun r => k (((r.1, r.2.1, (), (), (), ()), ()), (r.2.2.1, r.2.2.2.1, r.2.2.2.2, ())) }
theorem sp_copydo_ok (N : Nat) : SpecOK Try.prog (sp_copydo N) := fn_sound (B := copydo_B) (loops := []) (leaves := []) (fun p => copydo_S N p.1.1.1 p.1.1.2.1 p.1.1.2.2.1 p.1.1.2.2.2.1 p.1.1.2.2.2.2.1) (fun r => (((r.1, r.2.1, (), (), (), ()), ()), (r.2.2.1, r.2.2.2.1, r.2.2.2.2, ()))) copydo_rt (fun _ _ _ => rfl) (fun r z h => by cases h; rfl) Try.func27 (by kernel_rfl) (by kernel_rfl) (by kernel_rfl) rfl rfl (by kernel_rfl) (fun args w => Sem.pv_run _ _ _ (by kernel_rfl) w) (copydo_all N) mixed trivial (fun z E Xc hE hX hret => trivial) (fun p => copydo_eq N p.1.1.1 p.1.1.2.1 p.1.1.2.2.1 p.1.1.2.2.2.1 p.1.1.2.2.2.2.1)

def fnamed_l1 (N : Nat) : Nat → Li → Li → Int → Int → Li → Int → Ll → Ll → Li → Li → Int → Ll → Ll → Li → Option (Li × Li × Int × Ll × Ll × Li × Li × Int × Ll × Ll × Li)
  | 0, _, _, _, _, _, _, _, _, _, _, _, _, _, _ => none
  | n_ + 1, found, u, u2, u3, d, d2, d3, d4, d5, o, o2, o3, o4, o5 =>
    br (decide (u3 < u2))
      (idx u u3 fun x_28 =>
      idx d3 u3 fun x_29 =>
      (copyi_S N x_29).bind fun x_30 =>
      idx d5 u3 fun x_31 =>
      rng x_28 o3.length <|
      get o3 x_28.toNat fun _ =>
      rng x_28 o5.length <|
      get o5 x_28.toNat fun _ =>
      chk (u3 + 1) <|
      fnamed_l1 N n_ found u u2 (u3 + 1) d d2 d3 d4 d5 o o2 (o3.set x_28.toNat x_30) o4 (o5.set x_28.toNat x_31))
      (some ((found, d, d2, d3, d4, d5, o, o2, o3, o4, o5)))
def fnamed_l2 (N : Nat) : Nat → Li → Li → Int → Int → Li → Int → Ll → Ll → Li → Li → Int → Ll → Ll → Li → Option (Li × Li × Int × Ll × Ll × Li × Li × Int × Ll × Ll × Li)
  | 0, _, _, _, _, _, _, _, _, _, _, _, _, _, _ => none
  | n_ + 1, found, u, u2, u3, d, d2, d3, d4, d5, o, o2, o3, o4, o5 =>
    br (decide (u3 < u2))
      (idx u u3 fun x_45 =>
      idx d4 u3 fun x_46 =>
      (copyi_S N x_46).bind fun x_47 =>
      rng x_45 o4.length <|
      get o4 x_45.toNat fun _ =>
      chk (u3 + 1) <|
      fnamed_l2 N n_ found u u2 (u3 + 1) d d2 d3 d4 d5 o o2 o3 (o4.set x_45.toNat x_47) o5)
      (some ((found, d, d2, d3, d4, d5, o, o2, o3, o4, o5)))
def fnamed_l3 (N : Nat) : Nat → Li → Li → Li → Int → Int → Option ((Unit) ⊕ (Unit))
  | 0, _, _, _, _, _ => none
  | n_ + 1, one, two, u, u2, u3 =>
    br (decide (u3 < u2))
      (idx u u3 fun x_80 =>
      (containsi_S N one u3).bind fun x_81 =>
      (containsi_S N two x_80).bind fun x_82 =>
      br (!(x_81 == x_82))
        (some (.inl ()))
        (chk (u3 + 1) <|
        fnamed_l3 N n_ one two u u2 (u3 + 1)))
      (some (.inr ()))
def fnamed_S (N : Nat) (numbers : Li) (order : Li) : Option Bool :=
  (hang_S N numbers).bind fun (x_1, y_2, y_3) =>
  (made_S N 5 x_1 y_2 y_3).bind fun (x_4, y_5, y_6, y_7, y_8, y_9, y_10, y_11) =>
  (hang_S N order).bind fun (x_12, y_13, y_14) =>
  (rung_S N (y_6.length : Int) x_12 y_13 y_14).bind fun (x_15, y_16, y_17, y_18) =>
  (rung_S N (y_7.length : Int) y_16 y_17 y_18).bind fun (x_19, y_20, y_21, y_22) =>
  (copydo_S N x_4 y_5 y_6 y_7 y_8).bind fun (x_23, y_24, y_25, y_26, y_27) =>
  (fnamed_l1 N N x_19 x_15 (x_15.length : Int) 0 x_4 y_5 y_6 y_7 y_8 x_23 y_24 y_25 y_26 y_27).bind fun (found_34, d_35, d2_36, d3_37, d4_38, d5_39, o_40, o2_41, o3_42, o4_43, o5_44) =>
  (fnamed_l2 N N found_34 found_34 (found_34.length : Int) 0 d_35 d2_36 d3_37 d4_38 d5_39 o_40 o2_41 o3_42 o4_43 o5_44).bind fun (found_49, d_50, d2_51, d3_52, d4_53, d5_54, o_55, o2_56, o3_57, o4_58, o5_59) =>
  (best_S N d_50 d2_51 d3_52 d4_53 d5_54).bind fun (x_60, y_61, y_62) =>
  (best_S N o_55 o2_56 o3_57 o4_58 o5_59).bind fun (x_63, y_64, y_65) =>
  (richest_S N d_50 d2_51 d3_52 d4_53 d5_54).bind fun (x_66, y_67, y_68) =>
  (richest_S N o_55 o2_56 o3_57 o4_58 o5_59).bind fun (x_69, y_70, y_71) =>
  (count_S N d_50 d2_51 d3_52 d4_53 d5_54).bind fun (x_72, y_73) =>
  (count_S N o_55 o2_56 o3_57 o4_58 o5_59).bind fun (x_74, y_75) =>
  br (!decide (y_62 = 0))
    (some false)
    (br (!decide (y_65 = 0))
      (some false)
      (br (!decide (y_68 = 0))
        (some false)
        (br (!decide (y_71 = 0))
          (some false)
          (br (!decide (y_73 = 0))
            (some false)
            (br (!decide (y_75 = 0))
              (some false)
              (br (!decide (y_61 = y_64))
                (some false)
                (br (!decide (y_67 = y_70))
                  (some false)
                  (br (!decide (x_72 = x_74))
                    (some false)
                    ((spare_S N d_50 d2_51 d3_52 d4_53 d5_54).bind fun (x_76, y_77) =>
                    (spare_S N o_55 o2_56 o3_57 o4_58 o5_59).bind fun (x_78, y_79) =>
                    br (!decide (y_77 = 0))
                      (some false)
                      (br (!decide (y_79 = 0))
                        (some false)
                        (br (!decide ((x_76.length : Int) = (x_78.length : Int)))
                          (some false)
                          ((fnamed_l3 N N x_76 x_78 found_49 (found_49.length : Int) 0).bind fun e => match e with
                          | .inl _ =>
                            some false
                          | .inr _ =>
                            (awake_S N).bind fun x_83 =>
                            some x_83))))))))))))
noncomputable def fnamed_sp (N : Nat) : List Spec := [sp_copydo N, sp_hang N, sp_containsi N, sp_best N, sp_richest N, sp_count N, sp_spare N, sp_awake N, sp_copyi N, sp_made N, sp_rung N]
theorem fnamed_all (N : Nat) : AllP (SpecOK Try.prog) (fnamed_sp N) := ⟨sp_copydo_ok N, sp_hang_ok N, sp_containsi_ok N, sp_best_ok N, sp_richest_ok N, sp_count_ok N, sp_spare_ok N, sp_awake_ok N, sp_copyi_ok N, sp_made_ok N, sp_rung_ok N, trivial⟩
noncomputable def fnamed_c : Code := (Try.f9.body).getD .skip
noncomputable abbrev fnamed_B : Body := { c := fnamed_c, n := 206, res := [.tmp 4], outs := [⟨[.b], []⟩], m0 := 0 }
abbrev fnamed_rt : altD fnamed_B.outs → Option Bool := fun r => some r.1.1
abbrev fnamed_l1_at : List PI := [.c [1, 1, 1, 1, 1, 0, 1, 0, 0, 0], .c [1, 1, 1, 1, 1, 0, 1, 0, 0, 1], .l [1, 1, 1, 1, 1, 0, 1, 0, 0], .b 0, .c [1, 1, 1, 1, 1, 1]]
abbrev fnamed_l1_st : Sta := ⟨[5, 8, 9, 51, 52, 53], ⟨[.own 0 0, shL, .own 1 0, shL, shI, shI], [.segs [shL, shI, shQ, shQ, shL], .segs [shL, shI, .ols 2, .ols 3, .ols 4], .lst (.sl (.int .i64)), .lst (.sl (.int .i64)), .lst (.int .i64)]⟩⟩
abbrev fnamed_l1_h (rec : Li → Li → Int → Int → Li → Int → Ll → Ll → Li → Li → Int → Ll → Ll → Li → Option (Li × Li × Int × Ll × Ll × Li × Li × Int × Ll × Ll × Li)) : Leaf (Li × Li × Int × Ll × Ll × Li × Li × Int × Ll × Ll × Li) := ⟨fnamed_l1_at, fnamed_l1_st, fun p => rec p.1.2.1 p.1.2.2.2.1 p.1.2.2.2.2.1 p.1.2.2.2.2.2.1 p.2.1.1 p.2.1.2.1 p.2.1.2.2.1 p.2.1.2.2.2.1 p.2.1.2.2.2.2.1 p.2.2.1.1 p.2.2.1.2.1 p.2.2.2.1 p.2.2.2.2.1 p.2.2.2.2.2.1⟩
abbrev fnamed_l1_e0 : Leaf (Li × Li × Int × Ll × Ll × Li × Li × Int × Ll × Ll × Li) := ⟨[.c [1, 1, 1, 1, 1, 1, 0, 0], .c [1, 1, 1, 1, 1, 1, 0, 1], .c [1, 1, 1, 1, 1, 1, 1]], ⟨[5, 8, 9], ⟨[.own 0 0, shL, .own 1 0], [.segs [shL, shI, shQ, shQ, shL], .segs [shL, shI, .ols 2, .ols 3, .ols 4], .lst (.sl (.int .i64)), .lst (.sl (.int .i64)), .lst (.int .i64)]⟩⟩, fun p => some ((p.1.2.1, p.2.1.1, p.2.1.2.1, p.2.1.2.2.1, p.2.1.2.2.2.1, p.2.1.2.2.2.2.1, p.2.2.1.1, p.2.2.1.2.1, p.2.2.2.1, p.2.2.2.2.1, p.2.2.2.2.2.1))⟩
noncomputable def fnamed_l1_L (N : Nat) : LoopS := { at_ := fnamed_l1_at, sta := fnamed_l1_st, exits := [([.c [1, 1, 1, 1, 1, 1, 0, 0], .c [1, 1, 1, 1, 1, 1, 0, 1], .c [1, 1, 1, 1, 1, 1, 1]], ⟨[5, 8, 9], ⟨[.own 0 0, shL, .own 1 0], [.segs [shL, shI, shQ, shQ, shL], .segs [shL, shI, .ols 2, .ols 3, .ols 4], .lst (.sl (.int .i64)), .lst (.sl (.int .i64)), .lst (.int .i64)]⟩⟩)], run := fun p k => (fnamed_l1 N N p.1.2.1 p.1.2.2.2.1 p.1.2.2.2.2.1 p.1.2.2.2.2.2.1 p.2.1.1 p.2.1.2.1 p.2.1.2.2.1 p.2.1.2.2.2.1 p.2.1.2.2.2.2.1 p.2.2.1.1 p.2.2.1.2.1 p.2.2.2.1 p.2.2.2.2.1 p.2.2.2.2.2.1).bind fun e => k (.inl (((), e.1, (), ()), ((e.2.1, e.2.2.1, e.2.2.2.1, e.2.2.2.2.1, e.2.2.2.2.2.1, ()), (e.2.2.2.2.2.2.1, e.2.2.2.2.2.2.2.1, (), (), (), ()), e.2.2.2.2.2.2.2.2.1, e.2.2.2.2.2.2.2.2.2.1, e.2.2.2.2.2.2.2.2.2.2, ()))) }
theorem fnamed_l1_eq (N n_ : Nat) (found : Li) (u : Li) (u2 : Int) (u3 : Int) (d : Li) (d2 : Int) (d3 : Ll) (d4 : Ll) (d5 : Li) (o : Li) (o2 : Int) (o3 : Ll) (o4 : Ll) (o5 : Li) : ev (Z := Li × Li × Int × Ll × Ll × Li × Li × Int × Ll × Ll × Li) Try.prog (fnamed_sp N) fnamed_B [] [fnamed_l1_h (fnamed_l1 N n_), fnamed_l1_e0] none 400 true fnamed_l1_at (stL fnamed_l1_st (((), found, (), u, u2, u3, ()), ((d, d2, d3, d4, d5, ()), (o, o2, (), (), (), ()), o3, o4, o5, ()))) (stH fnamed_l1_st (((), found, (), u, u2, u3, ()), ((d, d2, d3, d4, d5, ()), (o, o2, (), (), (), ()), o3, o4, o5, ()))) = fnamed_l1 N (n_ + 1) found u u2 u3 d d2 d3 d4 d5 o o2 o3 o4 o5 := by kernel_rfl
theorem fnamed_l1_ok (N : Nat) {top : Bool} : LoopOK Try.prog fnamed_B.c fnamed_B.n fnamed_B.m0 top (fnamed_l1_L N) := loop_of_ev (Z := Li × Li × Int × Ll × Ll × Li × Li × Int × Ll × Ll × Li) (N := N) (fun m p => fnamed_l1 N m p.1.2.1 p.1.2.2.2.1 p.1.2.2.2.2.1 p.1.2.2.2.2.2.1 p.2.1.1 p.2.1.2.1 p.2.1.2.2.1 p.2.1.2.2.2.1 p.2.1.2.2.2.2.1 p.2.2.1.1 p.2.2.1.2.1 p.2.2.2.1 p.2.2.2.2.1 p.2.2.2.2.2.1) (fun e => .inl (((), e.1, (), ()), ((e.2.1, e.2.2.1, e.2.2.2.1, e.2.2.2.2.1, e.2.2.2.2.2.1, ()), (e.2.2.2.2.2.2.1, e.2.2.2.2.2.2.2.1, (), (), (), ()), e.2.2.2.2.2.2.2.2.1, e.2.2.2.2.2.2.2.2.2.1, e.2.2.2.2.2.2.2.2.2.2, ()))) (fun _ _ _ => rfl) (fun _ => rfl) (fun m z E Xc hE hX hrec hx => leaf_of_ev (B := fnamed_B) (loops := []) (leaves := [fnamed_l1_h (fnamed_l1 N m), fnamed_l1_e0]) (fnamed_all N) mixed trivial hE hX ⟨hrec, (fun p hp => by obtain rfl := Option.some.inj hp; exact hx), trivial⟩ RetOK.no (fun p => fnamed_l1_eq N m p.1.2.1 p.1.2.2.2.1 p.1.2.2.2.2.1 p.1.2.2.2.2.2.1 p.2.1.1 p.2.1.2.1 p.2.1.2.2.1 p.2.1.2.2.2.1 p.2.1.2.2.2.2.1 p.2.2.1.1 p.2.2.1.2.1 p.2.2.2.1 p.2.2.2.2.1 p.2.2.2.2.2.1))
abbrev fnamed_l2_at : List PI := [.c [1, 1, 1, 1, 1, 1, 0, 1, 0, 0, 0], .c [1, 1, 1, 1, 1, 1, 0, 1, 0, 0, 1], .l [1, 1, 1, 1, 1, 1, 0, 1, 0, 0], .b 2, .c [1, 1, 1, 1, 1, 1, 1]]
abbrev fnamed_l2_st : Sta := ⟨[5, 8, 9, 78, 79, 80], ⟨[.own 0 0, shL, .own 1 0, shL, shI, shI], [.segs [shL, shI, shQ, shQ, shL], .segs [shL, shI, .ols 2, .ols 3, .ols 4], .lst (.sl (.int .i64)), .lst (.sl (.int .i64)), .lst (.int .i64)]⟩⟩
abbrev fnamed_l2_h (rec : Li → Li → Int → Int → Li → Int → Ll → Ll → Li → Li → Int → Ll → Ll → Li → Option (Li × Li × Int × Ll × Ll × Li × Li × Int × Ll × Ll × Li)) : Leaf (Li × Li × Int × Ll × Ll × Li × Li × Int × Ll × Ll × Li) := ⟨fnamed_l2_at, fnamed_l2_st, fun p => rec p.1.2.1 p.1.2.2.2.1 p.1.2.2.2.2.1 p.1.2.2.2.2.2.1 p.2.1.1 p.2.1.2.1 p.2.1.2.2.1 p.2.1.2.2.2.1 p.2.1.2.2.2.2.1 p.2.2.1.1 p.2.2.1.2.1 p.2.2.2.1 p.2.2.2.2.1 p.2.2.2.2.2.1⟩
abbrev fnamed_l2_e0 : Leaf (Li × Li × Int × Ll × Ll × Li × Li × Int × Ll × Ll × Li) := ⟨[.c [1, 1, 1, 1, 1, 1, 1, 0], .c [1, 1, 1, 1, 1, 1, 1, 1]], ⟨[5, 8, 9], ⟨[.own 0 0, shL, .own 1 0], [.segs [shL, shI, shQ, shQ, shL], .segs [shL, shI, .ols 2, .ols 3, .ols 4], .lst (.sl (.int .i64)), .lst (.sl (.int .i64)), .lst (.int .i64)]⟩⟩, fun p => some ((p.1.2.1, p.2.1.1, p.2.1.2.1, p.2.1.2.2.1, p.2.1.2.2.2.1, p.2.1.2.2.2.2.1, p.2.2.1.1, p.2.2.1.2.1, p.2.2.2.1, p.2.2.2.2.1, p.2.2.2.2.2.1))⟩
noncomputable def fnamed_l2_L (N : Nat) : LoopS := { at_ := fnamed_l2_at, sta := fnamed_l2_st, exits := [([.c [1, 1, 1, 1, 1, 1, 1, 0], .c [1, 1, 1, 1, 1, 1, 1, 1]], ⟨[5, 8, 9], ⟨[.own 0 0, shL, .own 1 0], [.segs [shL, shI, shQ, shQ, shL], .segs [shL, shI, .ols 2, .ols 3, .ols 4], .lst (.sl (.int .i64)), .lst (.sl (.int .i64)), .lst (.int .i64)]⟩⟩)], run := fun p k => (fnamed_l2 N N p.1.2.1 p.1.2.2.2.1 p.1.2.2.2.2.1 p.1.2.2.2.2.2.1 p.2.1.1 p.2.1.2.1 p.2.1.2.2.1 p.2.1.2.2.2.1 p.2.1.2.2.2.2.1 p.2.2.1.1 p.2.2.1.2.1 p.2.2.2.1 p.2.2.2.2.1 p.2.2.2.2.2.1).bind fun e => k (.inl (((), e.1, (), ()), ((e.2.1, e.2.2.1, e.2.2.2.1, e.2.2.2.2.1, e.2.2.2.2.2.1, ()), (e.2.2.2.2.2.2.1, e.2.2.2.2.2.2.2.1, (), (), (), ()), e.2.2.2.2.2.2.2.2.1, e.2.2.2.2.2.2.2.2.2.1, e.2.2.2.2.2.2.2.2.2.2, ()))) }
theorem fnamed_l2_eq (N n_ : Nat) (found : Li) (u : Li) (u2 : Int) (u3 : Int) (d : Li) (d2 : Int) (d3 : Ll) (d4 : Ll) (d5 : Li) (o : Li) (o2 : Int) (o3 : Ll) (o4 : Ll) (o5 : Li) : ev (Z := Li × Li × Int × Ll × Ll × Li × Li × Int × Ll × Ll × Li) Try.prog (fnamed_sp N) fnamed_B [fnamed_l1_L N] [fnamed_l2_h (fnamed_l2 N n_), fnamed_l2_e0] none 400 true fnamed_l2_at (stL fnamed_l2_st (((), found, (), u, u2, u3, ()), ((d, d2, d3, d4, d5, ()), (o, o2, (), (), (), ()), o3, o4, o5, ()))) (stH fnamed_l2_st (((), found, (), u, u2, u3, ()), ((d, d2, d3, d4, d5, ()), (o, o2, (), (), (), ()), o3, o4, o5, ()))) = fnamed_l2 N (n_ + 1) found u u2 u3 d d2 d3 d4 d5 o o2 o3 o4 o5 := by kernel_rfl
theorem fnamed_l2_ok (N : Nat) {top : Bool} : LoopOK Try.prog fnamed_B.c fnamed_B.n fnamed_B.m0 top (fnamed_l2_L N) := loop_of_ev (Z := Li × Li × Int × Ll × Ll × Li × Li × Int × Ll × Ll × Li) (N := N) (fun m p => fnamed_l2 N m p.1.2.1 p.1.2.2.2.1 p.1.2.2.2.2.1 p.1.2.2.2.2.2.1 p.2.1.1 p.2.1.2.1 p.2.1.2.2.1 p.2.1.2.2.2.1 p.2.1.2.2.2.2.1 p.2.2.1.1 p.2.2.1.2.1 p.2.2.2.1 p.2.2.2.2.1 p.2.2.2.2.2.1) (fun e => .inl (((), e.1, (), ()), ((e.2.1, e.2.2.1, e.2.2.2.1, e.2.2.2.2.1, e.2.2.2.2.2.1, ()), (e.2.2.2.2.2.2.1, e.2.2.2.2.2.2.2.1, (), (), (), ()), e.2.2.2.2.2.2.2.2.1, e.2.2.2.2.2.2.2.2.2.1, e.2.2.2.2.2.2.2.2.2.2, ()))) (fun _ _ _ => rfl) (fun _ => rfl) (fun m z E Xc hE hX hrec hx => leaf_of_ev (B := fnamed_B) (loops := [fnamed_l1_L N]) (leaves := [fnamed_l2_h (fnamed_l2 N m), fnamed_l2_e0]) (fnamed_all N) mixed ⟨fnamed_l1_ok N, trivial⟩ hE hX ⟨hrec, (fun p hp => by obtain rfl := Option.some.inj hp; exact hx), trivial⟩ RetOK.no (fun p => fnamed_l2_eq N m p.1.2.1 p.1.2.2.2.1 p.1.2.2.2.2.1 p.1.2.2.2.2.2.1 p.2.1.1 p.2.1.2.1 p.2.1.2.2.1 p.2.1.2.2.2.1 p.2.1.2.2.2.2.1 p.2.2.1.1 p.2.2.1.2.1 p.2.2.2.1 p.2.2.2.2.1 p.2.2.2.2.2.1))
abbrev fnamed_l3_at : List PI := [.c [1, 1, 1, 1, 1, 1, 1, 1, 1, 1, 1, 1, 1, 1, 1, 1, 1, 0, 1, 0, 0, 0], .c [1, 1, 1, 1, 1, 1, 1, 1, 1, 1, 1, 1, 1, 1, 1, 1, 1, 0, 1, 0, 0, 1], .l [1, 1, 1, 1, 1, 1, 1, 1, 1, 1, 1, 1, 1, 1, 1, 1, 1, 0, 1, 0, 0], .b 4, .c [1, 1, 1, 1, 1, 1, 1, 1, 1, 1, 1, 1, 1, 1, 1, 1, 1, 1]]
abbrev fnamed_l3_st : Sta := ⟨[30, 31, 190, 191, 192], ⟨[shL, shL, shL, shI, shI], []⟩⟩
abbrev fnamed_l3_h (rec : Li → Li → Li → Int → Int → Option ((Unit) ⊕ (Unit))) : Leaf ((Unit) ⊕ (Unit)) := ⟨fnamed_l3_at, fnamed_l3_st, fun p => rec p.1.1 p.1.2.1 p.1.2.2.1 p.1.2.2.2.1 p.1.2.2.2.2.1⟩
abbrev fnamed_l3_e0 : Leaf ((Unit) ⊕ (Unit)) := ⟨[.c [1, 1, 1, 1, 1, 1, 1, 1, 1, 1, 1, 1, 1, 1, 1, 1, 1, 0, 1, 0, 0, 1, 1, 0, 0, 1, 1, 0, 0], .c [1, 1, 1, 1, 1, 1, 1, 1, 1, 1, 1, 1, 1, 1, 1, 1, 1, 0, 1, 0, 0, 1, 1, 0, 0, 1, 1, 0, 1], .b 5, .c [1, 1, 1, 1, 1, 1, 1, 1, 1, 1, 1, 1, 1, 1, 1, 1, 1, 0, 1, 0, 0, 1, 1, 1], .l [1, 1, 1, 1, 1, 1, 1, 1, 1, 1, 1, 1, 1, 1, 1, 1, 1, 0, 1, 0, 0], .b 4, .c [1, 1, 1, 1, 1, 1, 1, 1, 1, 1, 1, 1, 1, 1, 1, 1, 1, 1]], ⟨[], ⟨[], []⟩⟩, fun p => some (.inl ())⟩
abbrev fnamed_l3_e1 : Leaf ((Unit) ⊕ (Unit)) := ⟨[.c [1, 1, 1, 1, 1, 1, 1, 1, 1, 1, 1, 1, 1, 1, 1, 1, 1, 1, 0], .c [1, 1, 1, 1, 1, 1, 1, 1, 1, 1, 1, 1, 1, 1, 1, 1, 1, 1, 1]], ⟨[], ⟨[], []⟩⟩, fun p => some (.inr ())⟩
noncomputable def fnamed_l3_L (N : Nat) : LoopS := { at_ := fnamed_l3_at, sta := fnamed_l3_st, exits := [([.c [1, 1, 1, 1, 1, 1, 1, 1, 1, 1, 1, 1, 1, 1, 1, 1, 1, 0, 1, 0, 0, 1, 1, 0, 0, 1, 1, 0, 0], .c [1, 1, 1, 1, 1, 1, 1, 1, 1, 1, 1, 1, 1, 1, 1, 1, 1, 0, 1, 0, 0, 1, 1, 0, 0, 1, 1, 0, 1], .b 5, .c [1, 1, 1, 1, 1, 1, 1, 1, 1, 1, 1, 1, 1, 1, 1, 1, 1, 0, 1, 0, 0, 1, 1, 1], .l [1, 1, 1, 1, 1, 1, 1, 1, 1, 1, 1, 1, 1, 1, 1, 1, 1, 0, 1, 0, 0], .b 4, .c [1, 1, 1, 1, 1, 1, 1, 1, 1, 1, 1, 1, 1, 1, 1, 1, 1, 1]], ⟨[], ⟨[], []⟩⟩), ([.c [1, 1, 1, 1, 1, 1, 1, 1, 1, 1, 1, 1, 1, 1, 1, 1, 1, 1, 0], .c [1, 1, 1, 1, 1, 1, 1, 1, 1, 1, 1, 1, 1, 1, 1, 1, 1, 1, 1]], ⟨[], ⟨[], []⟩⟩)], run := fun p k => (fnamed_l3 N N p.1.1 p.1.2.1 p.1.2.2.1 p.1.2.2.2.1 p.1.2.2.2.2.1).bind fun e => match e with | .inl x => k (.inl ((), ())) | .inr x => k (.inr (.inl ((), ()))) }
theorem fnamed_l3_eq (N n_ : Nat) (one : Li) (two : Li) (u : Li) (u2 : Int) (u3 : Int) : ev (Z := (Unit) ⊕ (Unit)) Try.prog (fnamed_sp N) fnamed_B [fnamed_l1_L N, fnamed_l2_L N] [fnamed_l3_h (fnamed_l3 N n_), fnamed_l3_e0, fnamed_l3_e1] none 400 true fnamed_l3_at (stL fnamed_l3_st ((one, two, u, u2, u3, ()), ())) (stH fnamed_l3_st ((one, two, u, u2, u3, ()), ())) = fnamed_l3 N (n_ + 1) one two u u2 u3 := by kernel_rfl
theorem fnamed_l3_ok (N : Nat) {top : Bool} : LoopOK Try.prog fnamed_B.c fnamed_B.n fnamed_B.m0 top (fnamed_l3_L N) := loop_of_ev (Z := (Unit) ⊕ (Unit)) (N := N) (fun m p => fnamed_l3 N m p.1.1 p.1.2.1 p.1.2.2.1 p.1.2.2.2.1 p.1.2.2.2.2.1) (fun e => match e with | .inl x => .inl ((), ()) | .inr x => .inr (.inl ((), ()))) (fun _ p k => bind_congr_ (fnamed_l3 N N p.1.1 p.1.2.1 p.1.2.2.1 p.1.2.2.2.1 p.1.2.2.2.2.1) _ _ (fun e => by rcases e with x | x <;> rfl)) (fun _ => rfl) (fun m z E Xc hE hX hrec hx => leaf_of_ev (B := fnamed_B) (loops := [fnamed_l1_L N, fnamed_l2_L N]) (leaves := [fnamed_l3_h (fnamed_l3 N m), fnamed_l3_e0, fnamed_l3_e1]) (fnamed_all N) mixed ⟨fnamed_l1_ok N, fnamed_l2_ok N, trivial⟩ hE hX ⟨hrec, (fun p hp => by obtain rfl := Option.some.inj hp; exact hx), (fun p hp => by obtain rfl := Option.some.inj hp; exact hx), trivial⟩ RetOK.no (fun p => fnamed_l3_eq N m p.1.1 p.1.2.1 p.1.2.2.1 p.1.2.2.2.1 p.1.2.2.2.2.1))
abbrev fnamed_st : Sta := ⟨[0, 1], ⟨[.sl (.int .u8), .sl (.int .u8)], []⟩⟩
theorem fnamed_eq (N : Nat) (numbers : Li) (order : Li) : ev (Z := Bool) Try.prog (fnamed_sp N) fnamed_B [fnamed_l1_L N, fnamed_l2_L N, fnamed_l3_L N] [] (some fnamed_rt) 400 false [.c [0], .c [1]] (stL fnamed_st ((numbers, order, ()), ())) (stH fnamed_st ((numbers, order, ()), ())) = fnamed_S N numbers order := by kernel_rfl
noncomputable def sp_fnamed (N : Nat) : Spec := { f := 9, ins := ⟨[.sl (.int .u8), .sl (.int .u8)], []⟩, outs := [⟨[.b], []⟩], run := fun p k => (fnamed_S N p.1.1 p.1.2.1).bind fun r => k ((r, ()), ()) }
theorem sp_fnamed_ok (N : Nat) : SpecOK Try.prog (sp_fnamed N) := fn_sound (B := fnamed_B) (loops := [fnamed_l1_L N, fnamed_l2_L N, fnamed_l3_L N]) (leaves := []) (fun p => fnamed_S N p.1.1 p.1.2.1) (fun r => ((r, ()), ())) fnamed_rt (fun _ _ _ => rfl) (fun r z h => by cases h; rfl) Try.func9 (by kernel_rfl) (by kernel_rfl) (by kernel_rfl) rfl rfl (by kernel_rfl) (fun args w => Sem.pv_run _ _ _ (by kernel_rfl) w) (fnamed_all N) mixed ⟨fnamed_l1_ok N, fnamed_l2_ok N, fnamed_l3_ok N, trivial⟩ (fun z E Xc hE hX hret => trivial) (fun p => fnamed_eq N p.1.1 p.1.2.1)

end Go.Proofs.Ythncjilcflilcaa

namespace Go.Proofs.Ythncjilcflilcaa
set_option linter.all false
open Go

/-- As many are so of two lists, if there is a way to and fro. -/
theorem countP_bij {α β : Type} {A : List α} {B : List β} {p : α → Bool} {q : β → Bool} (hA : A.Nodup) (hB : B.Nodup) (f : β → α) (g : α → β)
    (h1 : ∀ x ∈ B, q x = true → f x ∈ A ∧ p (f x) = true ∧ g (f x) = x) (h2 : ∀ y ∈ A, p y = true → g y ∈ B ∧ q (g y) = true ∧ f (g y) = y) : A.countP p = B.countP q := by
  rw [List.countP_eq_length_filter, List.countP_eq_length_filter, show (B.filter q).length = ((B.filter q).map f).length by simp]
  refine ((List.perm_ext_iff_of_nodup (List.Pairwise.filter _ hA) ?_).2 fun y => ?_).length_eq
  · unfold List.Nodup
    rw [List.pairwise_map]
    refine (List.Pairwise.filter q hB).imp_of_mem fun {a b} ha hb hab e => hab ?_
    obtain ⟨a1, a2⟩ := List.mem_filter.1 ha
    obtain ⟨b1, b2⟩ := List.mem_filter.1 hb
    rw [← (h1 a a1 a2).2.2, ← (h1 b b1 b2).2.2, e]
  · rw [List.mem_filter, List.mem_map]
    constructor
    · rintro ⟨ha, hp⟩
      obtain ⟨g1, g2, g3⟩ := h2 y ha hp
      exact ⟨g y, List.mem_filter.2 ⟨g1, g2⟩, g3⟩
    · rintro ⟨x, hx, rfl⟩
      obtain ⟨x1, x2⟩ := List.mem_filter.1 hx
      obtain ⟨f1, f2, _⟩ := h1 x x1 x2
      exact ⟨f1, f2⟩
theorem ext_getD {a b : List Int} (hl : a.length = b.length) (h : ∀ j, j < a.length → a.getD j (-1) = b.getD j (-1)) : a = b := by
  refine List.ext_getElem hl fun j h1 h2 => ?_
  have := h j h1
  simpa [List.getD, h1, h2] using this
/-! ### Numbers without one -/
def up (i x : Nat) : Nat := if x < i then x else x + 1
section
variable {n m : Nat} {can : Nat → Nat → Bool} {t : Nat → Nat → Int}
theorem Mt.bd {J : Nat → Int} (h : Mt n m can J) {i : Nat} (hi : i < n) : -1 ≤ J i ∧ J i < m := by
  rcases h.ok i hi with e | ⟨k, e, hk, _⟩ <;> omega
/-! ### Without a found thing -/
theorem IsMax.congr {fr fr' : Nat → Prop} {v : Int} (h : IsMax n m can t fr v) (hf : ∀ k, fr k ↔ fr' k) : IsMax n m can t fr' v := by
  have : fr = fr' := funext fun k => propext (hf k)
  rw [← this]; exact h
/-! ### Without a lost thing -/
/-! ### How many joins join two things -/
theorem mem_joins {l : List Int} {u : Nat} : l ∈ joinsL can m n 0 u ↔ l.length = n ∧ Mt n m can (fnJ l) ∧ ∀ k, u.testBit k = true → ¬ Usd n (fnJ l) k := by
  constructor
  · intro h
    obtain ⟨h1, h2, _⟩ := list_mt (t := fun _ _ => 0) h
    exact ⟨(mem_joinsL.1 h).1, h1, h2⟩
  · rintro ⟨h1, h2⟩
    exact mem_joinsL.2 ⟨h1, okJ_mt.2 (by rw [h1]; exact h2)⟩
theorem val_joins {l : List Int} (h : l.length = n) : valJ t 0 l = wt t n (fnJ l) := by rw [valJ_wt, h]
theorem fn_map {f : Nat → Int} {j : Nat} (h : j < n) : fnJ ((List.range n).map f) j = f j := range_getD h
theorem Mt.congr {J J' : Nat → Int} (h : Mt n m can J) (he : ∀ i, i < n → J i = J' i) : Mt n m can J' := by
  refine ⟨fun i hi => by rw [← he i hi]; exact h.ok i hi, fun i j hi hj hij e => ?_⟩
  rw [← he i hi, ← he j hj] at e
  rw [← he i hi]
  exact h.inj i j hi hj hij e
end
end Go.Proofs.Ythncjilcflilcaa

namespace Go.Proofs.Ythncjilcflilcaa
set_option linter.all false
open Go

theorem drop_cons {α : Type} {l : List α} {k : Nat} (h : k < l.length) (d : α) : l.drop k = l.getD k d :: l.drop (k + 1) := by
  rw [List.drop_eq_getElem_cons h]; simp [List.getD, h]
theorem gets {α : Type} {l : List α} {k : Nat} (h : k < l.length) (d : α) : l[((k : Nat) : Int).toNat]? = some (l.getD k d) := by simp [List.getD, h]
theorem getD_mem {α : Type} {l : List α} {i : Nat} {d : α} (h : i < l.length) : l.getD i d ∈ l := by
  simp [List.getD, h]
theorem nat_succ (k : Nat) : ((k + 1 : Nat) : Int) = (k : Int) + 1 := by omega
theorem in_v (N : Nat) (n lo hi : Int) : in__S N n lo hi = some (decide (lo ≤ n ∧ n ≤ hi)) := by
  unfold in__S br
  by_cases h : lo ≤ n <;> simp [h]
theorem every_gen {α : Type} {f : α → Option Bool} {p : α → Bool} {s : List α} {N : Nat} (hf : ∀ x ∈ s, f x = some (p x)) (hs : s.length ≤ 1000000) (hN : s.length < N) :
    (((ixS (fun x => (f x).bind fun c => some (!c)) N s).bind fun x => some (decide (0 ≤ x))).bind fun x => some (!x)) = some (s.all p) := by
  rw [ixS_any (p := fun x => !p x) (fun x hx => by rw [hf x hx]; rfl) hs hN]
  simp only [Option.bind_some, any_not]
/-- The limits of a desk's numbers. -/
def okv (x : Int) : Bool := decide (-1 ≤ x ∧ x ≤ 5)
def okw (x : Int) : Bool := decide (1 ≤ x ∧ x ≤ 9)
def okr (x : Int) : Bool := decide (0 ≤ x ∧ x ≤ 99)
def okl (n : Nat) (r : List Int) : Bool := decide (r.length = n)
/-- What is looked at is small. -/
structure Sm (W : List Int) (L F : List (List Int)) (R : List Int) : Prop where
  w : W.length ≤ 100
  l : L.length ≤ 100
  f : F.length ≤ 100
  r : R.length ≤ 100
  lr : ∀ x ∈ L, x.length ≤ 100
  fr : ∀ x ∈ F, x.length ≤ 100
section
variable (N : Nat)
theorem ixfv_gen : ∀ (n : Nat) (s : List Int) (u u2 : Int), ixfv_l1 N n s u u2 = ixL (every1v_S N) n s u u2
  | 0, _, _, _ => rfl
  | n + 1, s, u, u2 => by unfold ixfv_l1 ixL; simp only [ixfv_gen n]
theorem ixfva_gen : ∀ (n : Nat) (s : List (List Int)) (u u2 : Int), ixfva_l1 N n s u u2 = ixL (every1va_S N) n s u u2
  | 0, _, _, _ => rfl
  | n + 1, s, u, u2 => by unfold ixfva_l1 ixL; simp only [ixfva_gen n]
theorem ixfw_gen : ∀ (n : Nat) (s : List Int) (u u2 : Int), ixfw_l1 N n s u u2 = ixL (every1w_S N) n s u u2
  | 0, _, _, _ => rfl
  | n + 1, s, u, u2 => by unfold ixfw_l1 ixL; simp only [ixfw_gen n]
theorem ixfr_gen : ∀ (n : Nat) (s : List Int) (u u2 : Int), ixfr_l1 N n s u u2 = ixL (every1r_S N) n s u u2
  | 0, _, _, _ => rfl
  | n + 1, s, u, u2 => by unfold ixfr_l1 ixL; simp only [ixfr_gen n]
end
section
variable {N : Nat} {W : List Int} {s : Int} {L F : List (List Int)} {R : List Int}
theorem everyv_v {l : List Int} (h : l.length ≤ 1000000) (hN : l.length < N) : everyv_S N l = some (l.all okv) := by
  unfold everyv_S cofv_S ixfv_S
  rw [← every_gen (f := check21_S N) (p := okv) (s := l) (N := N) (fun x _ => ?_) h hN]
  · unfold ixS
    rw [ixfv_gen]
    rfl
  · unfold check21_S okv
    rw [in_v]; rfl
theorem everyw_v {l : List Int} (h : l.length ≤ 1000000) (hN : l.length < N) : everyw_S N l = some (l.all okw) := by
  unfold everyw_S cofw_S ixfw_S
  rw [← every_gen (f := check3_S N) (p := okw) (s := l) (N := N) (fun x _ => ?_) h hN]
  · unfold ixS
    rw [ixfw_gen]
    rfl
  · unfold check3_S okw
    rw [in_v]; rfl
theorem everyr_v {l : List Int} (h : l.length ≤ 1000000) (hN : l.length < N) : everyr_S N l = some (l.all okr) := by
  unfold everyr_S cofr_S ixfr_S
  rw [← every_gen (f := check4_S N) (p := okr) (s := l) (N := N) (fun x _ => ?_) h hN]
  · unfold ixS
    rw [ixfr_gen]
    rfl
  · unfold check4_S okr
    rw [in_v]; rfl
theorem everyva_v {l : List (List Int)} (h : l.length ≤ 1000000) (hN : l.length < N) (hr : ∀ x ∈ l, x.length ≤ 1000000 ∧ x.length < N) : everyva_S N l = some (l.all fun r => r.all okv) := by
  unfold everyva_S cofva_S ixfva_S
  rw [← every_gen (f := check2_S N) (p := fun r => r.all okv) (s := l) (N := N) (fun x hx => ?_) h hN]
  · unfold ixS
    rw [ixfva_gen]
    rfl
  · unfold check2_S
    rw [everyv_v (hr x hx).1 (hr x hx).2]; rfl
theorem ixflo_gen : ∀ (n : Nat) (l : List (List Int)) (u u2 : Int), ixflo_l1 N n l u u2 (W, s, L, F, R) = (ixL (fun x => some (!okl W.length x)) n l u u2).map fun r => match r with | .inl i => .inl (i, (W, s, L, F, R)) | .inr _ => .inr (W, s, L, F, R)
  | 0, _, _, _ => rfl
  | n + 1, l, u, u2 => by
    have e : ∀ x, every1lo_S N x (W, s, L, F, R) = some (!okl W.length x, (W, s, L, F, R)) := fun x => by
      unfold every1lo_S check1_S okl
      simp only [Option.bind_some]
      congr 3
      exact decide_eq_decide.2 (by omega)
    unfold ixflo_l1 ixL
    simp only [e, Option.bind_some, ixflo_gen n]
    unfold br
    split
    · unfold idx
      split
      · cases l[u2.toNat]? with
        | none => rfl
        | some a =>
          dsimp only
          cases okl W.length a
          · rfl
          · simp only [Bool.not_true, Bool.false_eq_true, if_false]
            unfold chk
            split <;> rfl
      · rfl
    · rfl
theorem everylo_v {l : List (List Int)} (h : l.length ≤ 1000000) (hN : l.length < N) : everylo_S N l (W, s, L, F, R) = some (l.all (okl W.length)) := by
  unfold everylo_S coflo_S ixflo_S
  rw [← every_gen (f := fun x => some (okl W.length x)) (p := okl W.length) (s := l) (N := N) (fun x _ => rfl) h hN]
  unfold ixS
  rw [ixflo_gen]
  simp only [Option.bind_some]
  cases ixL (fun x => some (!okl W.length x)) N l l.length 0 with
  | none => rfl
  | some r => cases r <;> rfl
end
/-- The error of a desk. -/
def errD (W : List Int) (s : Int) (L F : List (List Int)) (R : List Int) : Int :=
  if ¬ (1 ≤ (W.length : Int) ∧ (W.length : Int) ≤ 5) then 2 else if 6 < (L.length : Int) then 2 else if 6 < (F.length : Int) then 2 else if L.all (okl W.length) = false then 2 else if F.all (okl W.length) = false then 2 else
  if ¬ ((R.length : Int) = (L.length : Int)) then 2 else if (W.all okw && decide (0 ≤ s ∧ s ≤ 3) && R.all okr && (L.all fun r => r.all okv) && F.all fun r => r.all okv) = true then 0 else 3
section
variable {N : Nat} {W : List Int} {s : Int} {L F : List (List Int)} {R : List Int}
theorem check_v (hN : 110 ≤ N) (h : Sm W L F R) : check_S N W s L F R = some (errD W s L F R) := by
  obtain ⟨hw, hl, hf, hr, hlr, hfr⟩ := h
  unfold check_S errD
  rw [in_v]
  simp only [Option.bind_some]
  by_cases c1 : 1 ≤ (W.length : Int) ∧ (W.length : Int) ≤ 5
  rotate_left
  · rw [br_nnd c1, if_pos c1]
  rw [br_nd c1, if_neg (by simpa using c1)]
  by_cases c2 : 6 < (L.length : Int)
  · rw [br_dec c2, if_pos c2]
  rw [br_ndec c2, if_neg c2]
  by_cases c3 : 6 < (F.length : Int)
  · rw [br_dec c3, if_pos c3]
  rw [br_ndec c3, if_neg c3, everylo_v (by omega) (by omega), everylo_v (by omega) (by omega), everyw_v (by omega) (by omega), in_v, everyr_v (by omega) (by omega),
    everyva_v (by omega) (by omega) (fun x hx => ⟨by have := hlr x hx; omega, by have := hlr x hx; omega⟩), everyva_v (by omega) (by omega) (fun x hx => ⟨by have := hfr x hx; omega, by have := hfr x hx; omega⟩)]
  simp only [Option.bind_some]
  cases L.all (okl W.length)
  · rfl
  cases F.all (okl W.length)
  · rfl
  by_cases c4 : (R.length : Int) = (L.length : Int)
  rotate_left
  · simp only [Bool.not_true, br_false, Bool.true_eq_false, if_false]
    rw [br_nnd c4, if_pos c4]
  simp only [Bool.not_true, br_false, Bool.true_eq_false, if_false]
  rw [br_nd c4, if_neg (not_not_intro c4)]
  cases W.all okw <;> cases decide (0 ≤ s ∧ s ≤ 3) <;> cases R.all okr <;> cases (L.all fun r => r.all okv) <;> cases (F.all fun r => r.all okv) <;> rfl
end
section
variable {N : Nat}
theorem copyi_v {l : List Int} (h : l.length ≤ 1000000) : copyi_S N l = some l := by
  unfold copyi_S
  rw [grd_eq (lmI_iff.2 (by omega))]
  simp
theorem take_succ' {α : Type} {l : List α} {k : Nat} (c : k < l.length) (d : α) : l.take (k + 1) = l.take k ++ [l.getD k d] := by
  rw [List.take_add_one]; simp [List.getD, c]
end
end Go.Proofs.Ythncjilcflilcaa

namespace Go.Proofs.Ythncjilcflilcaa
set_option linter.all false
open Go

def tabA (g : Nat → Int) : List Int := (List.range 36).map g
theorem tabA_len (g : Nat → Int) : (tabA g).length = 36 := by simp [tabA]
theorem tabA_get {g : Nat → Int} {x : Nat} (h : x < 36) : (tabA g).getD x 0 = g x := by simp [tabA, List.getD, h]
theorem tabA_set (g : Nat → Int) (x : Nat) (v : Int) : (tabA g).set x v = tabA (upd g x v) := by
  refine List.ext_getElem (by simp [tabA]) fun i h1 h2 => ?_
  simp only [tabA, List.getElem_set, List.getElem_map, List.getElem_range, upd]
  by_cases e : x = i
  · rw [if_pos e, if_pos e.symm]
  · rw [if_neg e, if_neg (Ne.symm e)]
/-- What two descriptions agree in, and how often they slip, up to a trait. -/
def agA (W a b : List Int) (t : Nat) : Int := if a.getD t 0 = b.getD t 0 ∧ a.getD t 0 ≠ -1 then W.getD t 0 else 0
def slA (a b : List Int) (t : Nat) : Int := if a.getD t 0 ≠ -1 ∧ b.getD t 0 ≠ -1 ∧ a.getD t 0 ≠ b.getD t 0 then 1 else 0
def agP (W a b : List Int) (k : Nat) : Int := sumN (agA W a b) k
def slP (a b : List Int) (k : Nat) : Int := sumN (slA a b) k
def agF (W : List Int) (L F : List (List Int)) (i k : Nat) : Int := if i < L.length ∧ k < F.length then agP W (L.getD i []) (F.getD k []) W.length else 0
def slF (W : List Int) (L F : List (List Int)) (i k : Nat) : Int := if i < L.length ∧ k < F.length then slP (L.getD i []) (F.getD k []) W.length else 0
theorem sumN_bound {f : Nat → Int} {m : Int} (h : ∀ i, 0 ≤ f i ∧ f i ≤ m) (hm : 0 ≤ m ∧ m ≤ 10) : ∀ n : Nat, n ≤ 1000 → 0 ≤ sumN f n ∧ sumN f n ≤ 10 * n
  | 0, _ => by simp [sumN]
  | n + 1, hn => by
    have h1 := sumN_bound h hm n (by omega)
    have h2 := h n
    rw [sumN]; omega
/-- A desk without an error. -/
structure Fine (W : List Int) (s : Int) (L F : List (List Int)) (R : List Int) : Prop where
  w1 : 1 ≤ W.length
  w5 : W.length ≤ 5
  l6 : L.length ≤ 6
  f6 : F.length ≤ 6
  lw : ∀ x ∈ L, x.length = W.length
  fw : ∀ x ∈ F, x.length = W.length
  rl : R.length = L.length
  w : ∀ x ∈ W, 1 ≤ x ∧ x ≤ 9
  s : 0 ≤ s ∧ s ≤ 3
  r : ∀ x ∈ R, 0 ≤ x ∧ x ≤ 99
  lv : ∀ r ∈ L, ∀ x ∈ r, -1 ≤ x ∧ x ≤ 5
  fv : ∀ r ∈ F, ∀ x ∈ r, -1 ≤ x ∧ x ≤ 5
section
variable {W : List Int} {s : Int} {L F : List (List Int)} {R : List Int}
theorem errD_iff : errD W s L F R = 0 ↔ Fine W s L F R := by
  unfold errD
  constructor
  · intro h
    split at h
    · cases h
    rename_i c1
    split at h
    · cases h
    rename_i c2
    split at h
    · cases h
    rename_i c3
    split at h
    · cases h
    rename_i c4
    split at h
    · cases h
    rename_i c5
    split at h
    · cases h
    rename_i c6
    split at h
    rotate_left
    · cases h
    rename_i c7
    simp only [Bool.and_eq_true, List.all_eq_true, okw, okr, okv, decide_eq_true_eq] at c7
    simp only [Bool.not_eq_false, List.all_eq_true, okl, decide_eq_true_eq] at c4 c5
    exact ⟨by omega, by omega, by omega, by omega, c4, c5, by omega, c7.1.1.1.1, c7.1.1.1.2, c7.1.1.2, c7.1.2, c7.2⟩
  · intro h
    have c4 : L.all (okl W.length) = true := by simpa [okl] using h.lw
    have c5 : F.all (okl W.length) = true := by simpa [okl] using h.fw
    have h1 := h.w1; have h2 := h.w5; have h3 := h.l6; have h4 := h.f6; have h5 := h.rl
    rw [if_neg (by omega), if_neg (by omega), if_neg (by omega), if_neg (by simp [c4]), if_neg (by simp [c5]), if_neg (by omega), if_pos]
    simp only [Bool.and_eq_true, List.all_eq_true, okw, okr, okv, decide_eq_true_eq]
    exact ⟨⟨⟨⟨h.w, h.s⟩, h.r⟩, h.lv⟩, h.fv⟩
theorem Fine.sm (h : Fine W s L F R) : Sm W L F R := by
  have h1 := h.w1; have h2 := h.w5; have h3 := h.l6; have h4 := h.f6; have h5 := h.rl
  exact ⟨by omega, by omega, by omega, by omega, fun x hx => by have := h.lw x hx; omega, fun x hx => by have := h.fw x hx; omega⟩
/-- The desk at work. -/
def dkT (W : List Int) (s : Int) (L F : List (List Int)) (R : List Int) (A B : Nat → Nat → Int) : Dk := (W, s, L, F, R, tabA (fun x => A (x / 6) (x % 6)), tabA (fun x => B (x / 6) (x % 6)), ())
def dkO (W : List Int) (s : Int) (L F : List (List Int)) (R : List Int) : Dk := dkT W s L F R (agF W L F) (slF W L F)
theorem getD_W (hw : ∀ x ∈ W, 1 ≤ x ∧ x ≤ 9) (t : Nat) : 0 ≤ W.getD t 0 ∧ W.getD t 0 ≤ 9 := by
  by_cases h : t < W.length
  · have := hw _ (getD_mem (d := 0) h); omega
  · have : W.getD t 0 = 0 := by simp [List.getD, List.getElem?_eq_none (show W.length ≤ t by omega)]
    omega
theorem agA_bound (hw : ∀ x ∈ W, 1 ≤ x ∧ x ≤ 9) (a b : List Int) (t : Nat) : 0 ≤ agA W a b t ∧ agA W a b t ≤ 9 := by
  have := getD_W hw t
  unfold agA; split <;> omega
theorem slA_bound (a b : List Int) (t : Nat) : 0 ≤ slA a b t ∧ slA a b t ≤ 1 := by unfold slA; split <;> omega
theorem agP_bound (hw : ∀ x ∈ W, 1 ≤ x ∧ x ≤ 9) (a b : List Int) {t : Nat} (ht : t ≤ 5) : 0 ≤ agP W a b t ∧ agP W a b t ≤ 50 := by
  have := sumN_bound (agA_bound hw a b) (by omega) t (by omega)
  unfold agP; omega
theorem slP_bound (a b : List Int) {t : Nat} (ht : t ≤ 5) : 0 ≤ slP a b t ∧ slP a b t ≤ 50 := by
  have := sumN_bound (slA_bound a b) (by omega) t (by omega)
  unfold slP; omega
theorem upd_upd {α : Type} (J : Nat → α) (i : Nat) (v w : α) : upd (upd J i v) i w = upd J i w := by
  funext x; unfold upd; split <;> rfl
theorem upd_id {α : Type} (J : Nat → α) (i : Nat) : upd J i (J i) = J := by
  funext x; unfold upd; split
  · rename_i e; rw [e]
  · rfl
theorem opened_l3_p {N : Nat} (h : Fine W s L F R) {i k : Nat} (hi : i < 6) (hk : k < 6) {a b : List Int} (ha : a.length = W.length) (hb : b.length = W.length) {u u4 : List (List Int)} {u2 u3 u5 u6 : Int} {o1 o5 : List Int} {o2 : Int} {o3 o4 : List (List Int)} :
    ∀ (n t : Nat) (g g' : Nat → Int), W.length < n + t → t ≤ W.length → g (i * 6 + k) = agP W a b t → g' (i * 6 + k) = slP a b t →
      opened_l3 N n i a k b u u2 u3 u4 u5 u6 a a.length t W s L F R o1 o2 o3 o4 o5 (tabA g) (tabA g') = some ((i : Int), a, u, u2, u3, u4, u5, u6, W, s, L, F, R, o1, o2, o3, o4, o5, tabA (upd g (i * 6 + k) (agP W a b W.length)), tabA (upd g' (i * 6 + k) (slP a b W.length)))
  | 0, t, _, _, hn, ht, _, _ => by omega
  | n + 1, t, g, g', hn, ht, e1, e2 => by
    unfold opened_l3
    have hw5 := h.w5
    by_cases c : t < W.length
    · have hx : i * 6 + k < 36 := by omega
      have hj : ∀ g g' : Nat → Int, opened_j1 N (opened_l3 N n) i a k b u u2 u3 u4 u5 u6 a a.length t W s L F R o1 o2 o3 o4 o5 (tabA g) (tabA g') = opened_l3 N n i a k b u u2 u3 u4 u5 u6 a a.length ((t + 1 : Nat) : Int) W s L F R o1 o2 o3 o4 o5 (tabA g) (tabA g') := fun g g' => by
        unfold opened_j1
        rw [chk_eq (by omega)]; rfl
      have b1 := agP_bound h.w a b (t := t) (by omega)
      have b2 := slP_bound a b (t := t) (by omega)
      have b3 := getD_W h.w t
      have s1 : agP W a b (t + 1) = agP W a b t + agA W a b t := rfl
      have s2 : slP a b (t + 1) = slP a b t + slA a b t := rfl
      rw [br_dec (by omega), idx_eq (by omega) (gets (by omega) 0)]
      unfold agA at s1
      unfold slA at s2
      by_cases c1 : a.getD t 0 = -1
      · rw [if_neg (by omega)] at s1 s2
        rw [br_dec c1, hj, opened_l3_p h hi hk ha hb n (t + 1) g g' (by omega) (by omega) (by omega) (by omega)]
      rw [br_ndec c1, idx_eq (by omega) (gets (by omega) 0)]
      by_cases c2 : b.getD t 0 = -1
      · rw [if_neg (by omega)] at s1 s2
        rw [br_dec c2, hj, opened_l3_p h hi hk ha hb n (t + 1) g g' (by omega) (by omega) (by omega) (by omega)]
      rw [br_ndec c2, idx_eq (by omega) (gets (by omega) 0)]
      by_cases c3 : a.getD t 0 = b.getD t 0
      · rw [if_pos ⟨c3, c1⟩] at s1
        rw [if_neg (by omega)] at s2
        rw [br_dec c3, rng_eq (by omega), rng_eq (by omega)]
        simp only [Int.toNat_natCast]
        rw [get_get 0 (by rw [tabA_len]; exact hx), tabA_get hx, e1, idx_eq (by omega) (gets (k := t) (l := W) (by omega) 0), chk_eq (by omega), rng_eq (by omega), rng_eq (by omega), get_get 0 (by rw [tabA_len]; exact hx), tabA_set, hj,
          opened_l3_p h hi hk ha hb n (t + 1) _ _ (by omega) (by omega) (by rw [upd_self]; omega) (by omega), upd_upd]
      · rw [if_neg (by omega)] at s1
        rw [if_pos ⟨c1, c2, c3⟩] at s2
        rw [br_ndec c3, rng_eq (by omega), rng_eq (by omega)]
        simp only [Int.toNat_natCast]
        rw [get_get 0 (by rw [tabA_len]; exact hx), tabA_get hx, e2, chk_eq (by omega), rng_eq (by omega), rng_eq (by omega), get_get 0 (by rw [tabA_len]; exact hx), tabA_set, hj,
          opened_l3_p h hi hk ha hb n (t + 1) _ _ (by omega) (by omega) (by omega) (by rw [upd_self]; omega), upd_upd]
    · obtain rfl : t = W.length := by omega
      rw [br_ndec (by omega), ← e1, ← e2, upd_id, upd_id]
/-- Tables that are filled up to a pair. -/
def gK (A : Nat → Nat → Int) (i k : Nat) : Nat → Int := fun x => if x / 6 < i ∨ (x / 6 = i ∧ x % 6 < k) then A (x / 6) (x % 6) else 0
theorem gK_step (A : Nat → Nat → Int) {i k : Nat} (hk : k < 6) : upd (gK A i k) (i * 6 + k) (A i k) = gK A i (k + 1) := by
  funext x
  unfold upd gK
  by_cases e : x = i * 6 + k
  · rw [if_pos e, if_pos (by omega), show x / 6 = i by omega, show x % 6 = k by omega]
  · rw [if_neg e]
    by_cases c : x / 6 < i ∨ (x / 6 = i ∧ x % 6 < k)
    · rw [if_pos c, if_pos (by omega)]
    · rw [if_neg c, if_neg (by omega)]
theorem gK_self (A : Nat → Nat → Int) {i k : Nat} (hk : k < 6) : gK A i k (i * 6 + k) = 0 := if_neg (by omega)
theorem gK_row {A : Nat → Nat → Int} {i m : Nat} (h : ∀ k, m ≤ k → A i k = 0) : gK A i m = gK A (i + 1) 0 := by
  funext x
  unfold gK
  by_cases c : x / 6 < i ∨ (x / 6 = i ∧ x % 6 < m)
  · rw [if_pos c, if_pos (by omega)]
  · rw [if_neg c]
    by_cases d : x / 6 = i
    · rw [if_pos (by omega), d, h _ (by omega)]
    · rw [if_neg (by omega)]
theorem gK_all {A : Nat → Nat → Int} {n : Nat} (h : ∀ i k, n ≤ i → A i k = 0) : gK A n 0 = fun x => A (x / 6) (x % 6) := by
  funext x
  unfold gK
  by_cases c : x / 6 < n
  · rw [if_pos (.inl c)]
  · rw [if_neg (by omega), h _ _ (by omega)]
theorem opened_l2_p {N : Nat} (hN : 110 ≤ N) (h : Fine W s L F R) {i : Nat} (hi : i < L.length) {u : List (List Int)} {u2 u3 : Int} {o1 o5 : List Int} {o2 : Int} {o3 o4 : List (List Int)} :
    ∀ (n k : Nat), F.length < n + k → k ≤ F.length →
      opened_l2 N n i (L.getD i []) u u2 u3 F F.length k W s L F R o1 o2 o3 o4 o5 (tabA (gK (agF W L F) i k)) (tabA (gK (slF W L F) i k)) = some (u, u2, u3, W, s, L, F, R, o1, o2, o3, o4, o5, tabA (gK (agF W L F) (i + 1) 0), tabA (gK (slF W L F) (i + 1) 0))
  | 0, k, hn, hk => by omega
  | n + 1, k, hn, hk => by
    unfold opened_l2
    have hl6 := h.l6; have hf6 := h.f6; have hw5 := h.w5
    by_cases c : k < F.length
    · have ih := opened_l2_p hN h hi (u := u) (u2 := u2) (u3 := u3) (o1 := o1) (o5 := o5) (o2 := o2) (o3 := o3) (o4 := o4) n (k + 1) (by omega) (by omega)
      rw [nat_succ] at ih
      have e := opened_l3_p (N := N) h (i := i) (k := k) (by omega) (by omega) (h.lw _ (getD_mem (d := []) hi)) (h.fw _ (getD_mem (d := []) c)) (u := u) (u4 := F) (u2 := u2) (u3 := u3) (u5 := F.length) (u6 := k) (o1 := o1) (o5 := o5) (o2 := o2) (o3 := o3) (o4 := o4)
        N 0 (gK (agF W L F) i k) (gK (slF W L F) i k) (by omega) (by omega) (gK_self _ (by omega)) (gK_self _ (by omega))
      have a1 : agP W (L.getD i []) (F.getD k []) W.length = agF W L F i k := (if_pos ⟨hi, c⟩).symm
      have a2 : slP (L.getD i []) (F.getD k []) W.length = slF W L F i k := (if_pos ⟨hi, c⟩).symm
      rw [a1, a2, gK_step _ (by omega), gK_step _ (by omega), show ((0 : Nat) : Int) = 0 from rfl] at e
      rw [br_dec (by omega), idx_eq (by omega) (gets c []), e]
      simp only [Option.bind_some]
      rw [chk_eq (by omega)]
      exact ih
    · obtain rfl : k = F.length := by omega
      rw [br_ndec (by omega), gK_row (A := agF W L F) (i := i) (m := F.length) (fun k hk => by unfold agF; exact if_neg (by omega)), gK_row (A := slF W L F) (i := i) (m := F.length) (fun k hk => by unfold slF; exact if_neg (by omega))]
theorem opened_l1_p {N : Nat} (hN : 110 ≤ N) (h : Fine W s L F R) {o1 o5 : List Int} {o2 : Int} {o3 o4 : List (List Int)} :
    ∀ (n i : Nat), L.length < n + i → i ≤ L.length →
      opened_l1 N n L L.length i W s L F R o1 o2 o3 o4 o5 (tabA (gK (agF W L F) i 0)) (tabA (gK (slF W L F) i 0)) = some (o1, o2, o3, o4, o5, tabA (fun x => agF W L F (x / 6) (x % 6)), tabA (fun x => slF W L F (x / 6) (x % 6)))
  | 0, i, hn, hi => by omega
  | n + 1, i, hn, hi => by
    unfold opened_l1
    have hl6 := h.l6; have hf6 := h.f6
    by_cases c : i < L.length
    · have ih := opened_l1_p hN h (o1 := o1) (o5 := o5) (o2 := o2) (o3 := o3) (o4 := o4) n (i + 1) (by omega) (by omega)
      rw [nat_succ] at ih
      have e := opened_l2_p hN h c (u := L) (u2 := L.length) (u3 := i) (o1 := o1) (o5 := o5) (o2 := o2) (o3 := o3) (o4 := o4) N 0 (by omega) (by omega)
      rw [show ((0 : Nat) : Int) = 0 from rfl] at e
      rw [br_dec (by omega), idx_eq (by omega) (gets c []), e]
      simp only [Option.bind_some]
      rw [chk_eq (by omega)]
      exact ih
    · obtain rfl : i = L.length := by omega
      rw [br_ndec (by omega), gK_all (A := agF W L F) (fun i k hi => by unfold agF; exact if_neg (by omega)), gK_all (A := slF W L F) (fun i k hi => by unfold slF; exact if_neg (by omega))]
theorem opened_v {N : Nat} (hN : 110 ≤ N) (h : Sm W L F R) : opened_S N W s L F R = some (if errD W s L F R = 0 then .inl (dkO W s L F R, 0) else .inr (errD W s L F R)) := by
  unfold opened_S
  rw [check_v hN h]
  simp only [Option.bind_some]
  by_cases c : errD W s L F R = 0
  · have hF := errD_iff.1 c
    have e := opened_l1_p hN hF (o1 := W) (o2 := s) (o3 := L) (o4 := F) (o5 := R) N 0 (by have := hF.l6; omega) (by omega)
    have z : ∀ A : Nat → Nat → Int, tabA (gK A 0 0) = List.replicate 36 (0 : Int) := fun A => by
      rw [show gK A 0 0 = fun _ => 0 by funext x; exact if_neg (by omega)]; rfl
    rw [z, z, show ((0 : Nat) : Int) = 0 from rfl] at e
    rw [br_nd c, if_pos c, e]; rfl
  · rw [br_nnd c, if_neg c]
end
end Go.Proofs.Ythncjilcflilcaa

namespace Go.Proofs.Ythncjilcflilcaa
set_option linter.all false
open Go

/-! ### All of some numbers -/
def alI (p : Nat → Bool) (n : Nat) : Bool := (List.range' 0 n).all p
theorem alI_iff {p : Nat → Bool} {n : Nat} : alI p n = true ↔ ∀ i, i < n → p i = true := by
  unfold alI
  rw [List.all_eq_true]
  constructor
  · exact fun h i hi => h i (by simp [List.mem_range'_1, hi])
  · exact fun h i hi => h i (by have := List.mem_range'_1.1 hi; omega)
/-! ### Tables -/
def canT (A B : Nat → Nat → Int) (s : Int) (i k : Nat) : Bool := decide (0 < A i k) && decide (B i k ≤ s)
section
variable {W : List Int} {s : Int} {L F : List (List Int)} {R : List Int} {A B : Nat → Nat → Int} {N : Nat}
theorem agD_T {i k : Nat} (hi : i < 6) (hk : k < 6) : agD (dkT W s L F R A B) i k = A i k := by
  unfold agD dkT
  rw [tabA_get (by omega), show (i * 6 + k) / 6 = i by omega, show (i * 6 + k) % 6 = k by omega]
theorem slD_T {i k : Nat} (hi : i < 6) (hk : k < 6) : slD (dkT W s L F R A B) i k = B i k := by
  unfold slD dkT
  rw [tabA_get (by omega), show (i * 6 + k) / 6 = i by omega, show (i * 6 + k) % 6 = k by omega]
theorem get_T {i k : Nat} (hi : i < 6) (hk : k < 6) {Z : Type} {f : Int → Option Z} : get (dkT W s L F R A B).2.2.2.2.2.1 (i * 6 + k) f = f (A i k) := by
  have e := agD_T (W := W) (s := s) (L := L) (F := F) (R := R) (A := A) (B := B) hi hk
  unfold agD at e
  rw [get_get 0 (by unfold dkT; rw [tabA_len]; omega), e]
theorem agF_bound (h : Fine W s L F R) (i k : Nat) : 0 ≤ agF W L F i k ∧ agF W L F i k ≤ 50 := by
  unfold agF
  split
  · exact agP_bound h.w _ _ h.w5
  · omega
abbrev canF (W : List Int) (s : Int) (L F : List (List Int)) : Nat → Nat → Bool := canT (agF W L F) (slF W L F) s
/-! ### A pair -/
/-! ### Joins -/
def inm (m : Nat) (x : Int) : Bool := decide (-1 ≤ x ∧ x ≤ (m : Int) - 1)
def hasB (l : List Int) (x : Int) : Bool := l.any fun y => decide (x = y)
theorem hasB_iff {l : List Int} {x : Int} : hasB l x = true ↔ x ∈ l := by simp [hasB]
def dupI (l : List Int) (i : Nat) : Bool := decide (l.getD i 0 = -1) || !hasB (l.take i) (l.getD i 0)
def cnI (can : Nat → Nat → Bool) (l : List Int) (i : Nat) : Bool := decide (l.getD i 0 = -1) || can i (l.getD i 0).toNat
/-- The error of joins, e that of the desk. -/
def errJ (e : Int) (n m : Nat) (can : Nat → Nat → Bool) (l : List Int) : Int :=
  if ¬ e = 0 then e else if ¬ (l.length : Int) = (n : Int) then 2 else if l.all (inm m) = false then 1 else if alI (dupI l) l.length = false then 5 else if alI (cnI can l) l.length = false then 8 else 0
theorem indexi_gen (v : Int) : ∀ (n : Nat) (l : List Int) (u u2 : Int), indexi_l1 N n l v u u2 = ixL (fun x => some (decide (v = x))) n l u u2
  | 0, _, _, _ => rfl
  | n + 1, l, u, u2 => by unfold indexi_l1 ixL; simp only [indexi_gen v n, Option.bind_some]
theorem containsi_v {l : List Int} (hl : l.length ≤ 1000000) (hN : l.length < N) (v : Int) : containsi_S N l v = some (hasB l v) := by
  unfold containsi_S indexi_S hasB
  rw [← ixS_any (f := fun x => some (decide (v = x))) (s := l) (N := N) (fun x _ => rfl) hl hN]
  unfold ixS
  rw [indexi_gen] <;> rfl
end
end Go.Proofs.Ythncjilcflilcaa

namespace Go.Proofs.Ythncjilcflilcaa
set_option linter.all false
open Go

section
variable {N : Nat}
theorem sum_l1_p {l : List Int} {m : Int} (hl : l.length ≤ 1000) (hm : 0 ≤ m ∧ m ≤ 1000) (hr : ∀ x ∈ l, -m ≤ x ∧ x ≤ m) : ∀ (n k : Nat) (s : Int), l.length < n + k → k ≤ l.length → (-(m * k) ≤ s ∧ s ≤ m * k) → sum_l1 N n s l l.length k = some (s + (l.drop k).sum)
  | 0, k, s, h, _, _ => by omega
  | n + 1, k, s, h, hk, hs => by
    unfold sum_l1
    have hmk : m * (k : Int) ≤ 1000 * 1000 := Int.mul_le_mul hm.2 (by omega) (by omega) (by omega)
    by_cases c : k < l.length
    · have hx := hr _ (getD_mem (d := 0) c)
      have g := gets c 0
      rw [drop_cons c 0]
      generalize l.getD k 0 = x at *
      have e : m * ((k + 1 : Nat) : Int) = m * k + m := by rw [Int.natCast_add, Int.mul_add]; simp
      have ih := sum_l1_p hl hm hr n (k + 1) (s + x) (by omega) (by omega) (by omega)
      rw [nat_succ] at ih
      rw [br_dec (by omega), idx_eq (by omega) g, chk_eq (by omega), chk_eq (by omega), ih, List.sum_cons]
      congr 1; omega
    · rw [br_ndec (by omega), List.drop_of_length_le (by omega)]; simp
theorem sum_v {l : List Int} {m : Int} (hl : l.length ≤ 1000) (hN : l.length < N) (hm : 0 ≤ m ∧ m ≤ 1000) (hr : ∀ x ∈ l, -m ≤ x ∧ x ≤ m) : sum_S N l = some l.sum := by
  unfold sum_S
  have := sum_l1_p (N := N) hl hm hr N 0 0 (by omega) (by omega) (by simp)
  simp only [Int.natCast_zero, List.drop_zero, Int.zero_add] at this
  rw [this]; rfl
end
/-- What joins count, one by one. -/
def wlJ (t : Nat → Nat → Int) : Nat → List Int → List Int
  | _, [] => []
  | i, x :: l => (if x = -1 then [] else [t i x.toNat]) ++ wlJ t (i + 1) l
theorem wlJ_sum (t : Nat → Nat → Int) : ∀ (l : List Int) (i : Nat), (wlJ t i l).sum = valJ t i l
  | [], _ => rfl
  | x :: l, i => by
    rw [wlJ, valJ, List.sum_append, wlJ_sum t l (i + 1)]
    unfold pv
    split <;> simp
theorem wlJ_len (t : Nat → Nat → Int) : ∀ (l : List Int) (i : Nat), (wlJ t i l).length ≤ l.length
  | [], _ => Nat.le_refl _
  | x :: l, i => by
    have := wlJ_len t l (i + 1)
    rw [wlJ, List.length_append, List.length_cons]
    split <;> simp <;> omega
theorem wlJ_bound {t : Nat → Nat → Int} {m : Int} (h : ∀ i k, 0 ≤ t i k ∧ t i k ≤ m) : ∀ (l : List Int) (i : Nat), ∀ x ∈ wlJ t i l, 0 ≤ x ∧ x ≤ m
  | [], _, x, hx => by cases hx
  | y :: l, i, x, hx => by
    rw [wlJ, List.mem_append] at hx
    rcases hx with hx | hx
    · split at hx
      · cases hx
      · simp only [List.mem_singleton] at hx
        subst hx; exact h _ _
    · exact wlJ_bound h l (i + 1) x hx
theorem valJ_bound {t : Nat → Nat → Int} {m : Int} (h : ∀ i k, 0 ≤ t i k ∧ t i k ≤ m) (hm : 0 ≤ m) : ∀ (l : List Int) (i : Nat), 0 ≤ valJ t i l ∧ valJ t i l ≤ m * l.length
  | [], _ => by simp [valJ]
  | x :: l, i => by
    have h1 := valJ_bound h hm l (i + 1)
    have h2 := h i x.toNat
    rw [valJ, List.length_cons, Int.natCast_add, Int.mul_add]
    unfold pv
    split <;> simp <;> omega
section
variable {W : List Int} {s : Int} {L F : List (List Int)} {R : List Int} {A B : Nat → Nat → Int} {N : Nat}
theorem dworth_l1_p {l : List Int} (hl : l.length ≤ 6) (hF : F.length ≤ 6) (hm : l.all (inm F.length) = true) : ∀ (n k : Nat) (acc : List Int), l.length < n + k → k ≤ l.length → acc.length ≤ k → dworth_l1 N n (dkT W s L F R A B) l l.length k acc = some (acc ++ wlJ A k (l.drop k))
  | 0, k, _, h, _, _ => by omega
  | n + 1, k, acc, h, hk, ha => by
    unfold dworth_l1
    by_cases c : k < l.length
    · have hx := List.all_eq_true.1 hm _ (getD_mem (d := 0) c)
      unfold inm at hx
      rw [decide_eq_true_eq] at hx
      have hj : ∀ acc, acc.length ≤ k + 1 → dworth_j1 N (dworth_l1 N n) (dkT W s L F R A B) l l.length k acc = some (acc ++ wlJ A (k + 1) (l.drop (k + 1))) := fun acc ha => by
        have ih := dworth_l1_p hl hF hm n (k + 1) acc (by omega) (by omega) ha
        rw [nat_succ] at ih
        unfold dworth_j1
        rw [chk_eq (by omega), ih]
      rw [br_dec (by omega), idx_eq (by omega) (gets c 0), drop_cons c 0, wlJ]
      by_cases c1 : l.getD k 0 = -1
      · rw [br_nd c1, hj _ (by omega), if_pos c1, List.nil_append]
      · obtain ⟨q, hq⟩ : ∃ q : Nat, l.getD k 0 = q := ⟨(l.getD k 0).toNat, by omega⟩
        rw [br_nnd c1, if_neg c1]
        rw [hq] at hx ⊢
        rw [rng_eq (by omega), rng_eq (by omega)]
        simp only [Int.toNat_natCast]
        rw [get_T (by omega) (by omega), lim_eq (by simp; omega), hj _ (by simp; omega), List.append_assoc]
    · rw [br_ndec (by omega), List.drop_of_length_le (by omega)]
      simp [wlJ]
theorem dworth_v (hN : 110 ≤ N) (hA : ∀ i k, 0 ≤ A i k ∧ A i k ≤ 50) {l : List Int} (hl : l.length ≤ 6) (hF : F.length ≤ 6) (hm : l.all (inm F.length) = true) : dworth_S N (dkT W s L F R A B) l = some (valJ A 0 l) := by
  have e := dworth_l1_p (N := N) (W := W) (s := s) (L := L) (F := F) (R := R) (A := A) (B := B) hl hF hm N 0 [] (by omega) (by omega) (by simp)
  have h1 := wlJ_len A l 0
  rw [show ((0 : Nat) : Int) = 0 from rfl, List.drop_zero, List.nil_append] at e
  unfold dworth_S
  rw [e]
  simp only [Option.bind_some]
  rw [sum_v (m := 1000) (by omega) (by omega) (by omega) (fun x hx => by have := wlJ_bound hA l 0 x hx; omega), wlJ_sum]; rfl
theorem dreward_l1_p {l : List Int} (hl : l.length ≤ 6) (hR : l.length ≤ R.length) : ∀ (n k : Nat) (acc : List Int), l.length < n + k → k ≤ l.length → acc.length ≤ k → dreward_l1 N n (dkT W s L F R A B) l l.length k acc = some (acc ++ wlJ (fun i _ => R.getD i 0) k (l.drop k))
  | 0, k, _, h, _, _ => by omega
  | n + 1, k, acc, h, hk, ha => by
    unfold dreward_l1
    by_cases c : k < l.length
    · have hj : ∀ acc, acc.length ≤ k + 1 → dreward_j1 N (dreward_l1 N n) (dkT W s L F R A B) l l.length k acc = some (acc ++ wlJ (fun i _ => R.getD i 0) (k + 1) (l.drop (k + 1))) := fun acc ha => by
        have ih := dreward_l1_p hl hR n (k + 1) acc (by omega) (by omega) ha
        rw [nat_succ] at ih
        unfold dreward_j1
        rw [chk_eq (by omega), ih]
      rw [br_dec (by omega), idx_eq (by omega) (gets c 0), drop_cons c 0, wlJ]
      by_cases c1 : l.getD k 0 = -1
      · rw [br_nd c1, hj _ (by omega), if_pos c1, List.nil_append]
      · rw [br_nnd c1, if_neg c1, idx_eq (by omega) (show (dkT W s L F R A B).2.2.2.2.1[((k : Nat) : Int).toNat]? = some (R.getD k 0) from gets (l := R) (by omega) 0), lim_eq (by simp; omega), hj _ (by simp; omega), List.append_assoc]
    · rw [br_ndec (by omega), List.drop_of_length_le (by omega)]
      simp [wlJ]
theorem getD_R (hr : ∀ x ∈ R, 0 ≤ x ∧ x ≤ 99) (t : Nat) : 0 ≤ R.getD t 0 ∧ R.getD t 0 ≤ 99 := by
  by_cases h : t < R.length
  · exact hr _ (getD_mem (d := 0) h)
  · have : R.getD t 0 = 0 := by simp [List.getD, List.getElem?_eq_none (show R.length ≤ t by omega)]
    omega
theorem dreward_v (hN : 110 ≤ N) (hr : ∀ x ∈ R, 0 ≤ x ∧ x ≤ 99) {l : List Int} (hl : l.length ≤ 6) (hR : l.length ≤ R.length) : dreward_S N (dkT W s L F R A B) l = some (valJ (fun i _ => R.getD i 0) 0 l) := by
  have e := dreward_l1_p (N := N) (W := W) (s := s) (L := L) (F := F) (R := R) (A := A) (B := B) hl hR N 0 [] (by omega) (by omega) (by simp)
  have h1 := wlJ_len (fun i _ => R.getD i 0) l 0
  rw [show ((0 : Nat) : Int) = 0 from rfl, List.drop_zero, List.nil_append] at e
  unfold dreward_S
  rw [e]
  simp only [Option.bind_some]
  rw [sum_v (m := 1000) (by omega) (by omega) (by omega) (fun x hx => by have := wlJ_bound (t := fun i _ => R.getD i 0) (fun i _ => getD_R hr i) l 0 x hx; omega), wlJ_sum]; rfl
/-- What joins without an error are. -/
theorem errJ_fine {e : Int} {n m : Nat} {can : Nat → Nat → Bool} {l : List Int} (h : errJ e n m can l = 0) : e = 0 ∧ l.length = n ∧ l.all (inm m) = true ∧ alI (dupI l) l.length = true ∧ alI (cnI can l) l.length = true := by
  unfold errJ at h
  split at h
  · rename_i c; exact absurd h c
  rename_i c
  split at h
  · cases h
  rename_i c1
  split at h
  · cases h
  rename_i c2
  split at h
  · cases h
  rename_i c3
  split at h
  · cases h
  rename_i c4
  exact ⟨by omega, by omega, by simpa using c2, by simpa using c3, by simpa using c4⟩
/-! ### What may be joined -/
def mayE (can : Nat → Nat → Bool) (m i : Nat) : List (Int × Unit) := (mayL can m i).map fun (j : Nat) => ((j : Int), ())
theorem mayR_T (hF : F.length ≤ 6) {i : Nat} (hi : i < 6) : mayR (dkT W s L F R A B) (dkT W s L F R A B) i = some (mayE (canT A B s) F.length i) := by
  unfold mayR mayE mayL mayF
  rw [if_pos ⟨⟨by omega, by omega⟩, hF, tabA_len _, tabA_len _⟩]
  congr 2
  simp only [Int.toNat_natCast, Nat.sub_zero]
  rw [← List.range_eq_range']
  refine List.filter_congr fun k hk => ?_
  have hk : k < F.length := by simpa [dkT] using hk
  unfold canD canT
  rw [agD_T hi (by omega), slD_T hi (by omega)]; rfl
end
end Go.Proofs.Ythncjilcflilcaa

namespace Go.Proofs.Ythncjilcflilcaa
set_option linter.all false
open Go

section
variable {W : List Int} {s : Int} {L F : List (List Int)} {R : List Int} {A B : Nat → Nat → Int} {N : Nat}
/-! ### Copies -/
end
end Go.Proofs.Ythncjilcflilcaa

namespace Go.Proofs.Ythncjilcflilcaa
set_option linter.all false
open Go

abbrev MK := List ((Int × Int) × (Int × (Int × Int)))
def lkM (g : MK) (i u : Int) : Option (Int × (Int × Int)) := (g.find? fun (y : (Int × Int) × (Int × (Int × Int))) => Ty.beq (.pair (.int .i64) (.int .i64)) y.1 (i, u)).map (·.2)
theorem lkM_cons (a b : Int) (v : Int × (Int × Int)) (g : MK) (i u : Int) : lkM (((a, b), v) :: g) i u = if a = i ∧ b = u then some v else lkM g i u := by
  have e : Ty.beq (.pair (.int .i64) (.int .i64)) (a, b) (i, u) = decide (a = i ∧ b = u) := by
    show (decide (a = i) && decide (b = u)) = _
    by_cases h1 : a = i <;> by_cases h2 : b = u <;> simp [h1, h2]
  unfold lkM
  rw [List.find?_cons]
  by_cases h : a = i ∧ b = u
  · rw [if_pos h, show (Ty.beq (.pair (.int .i64) (.int .i64)) (((a, b), v) : (Int × Int) × (Int × (Int × Int))).1 (i, u)) = true by rw [e, decide_eq_true h]]; rfl
  · rw [if_neg h, show (Ty.beq (.pair (.int .i64) (.int .i64)) (((a, b), v) : (Int × Int) × (Int × (Int × Int))).1 (i, u)) = false by rw [e, decide_eq_false h]]
theorem lkM_some (g : MK) (i u : Int) : (g.find? fun (y : (Int × Int) × (Int × (Int × Int))) => Ty.beq (.pair (.int .i64) (.int .i64)) y.1 (i, u)).isSome = (lkM g i u).isSome := by
  unfold lkM; rw [Option.isSome_map]
def hasM (g : MK) (i u : Nat) : Prop := (lkM g i u).isSome = true
def subM (g g' : MK) : Prop := ∀ i u : Nat, hasM g i u → hasM g' i u
theorem subM.refl (g : MK) : subM g g := fun _ _ h => h
theorem subM.trans {a b c : MK} (h : subM a b) (k : subM b c) : subM a c := fun i u x => k i u (h i u x)
/-- What is remembered is right, and so is what follows from it. -/
structure MOK (can : Nat → Nat → Bool) (t : Nat → Nat → Int) (m n : Nat) (g : MK) : Prop where
  val : ∀ (i u : Nat) v, lkM g i u = some v → v = rsR can t m (n - i) i u
  clo : ∀ i u : Nat, hasM g i u → i + 1 < n → hasM g (i + 1) u ∧ ∀ k ∈ mayL can m i, u.testBit k = false → hasM g (i + 1) (u ||| 2 ^ k)
theorem MOK.nil {can : Nat → Nat → Bool} {t : Nat → Nat → Int} {m n : Nat} : MOK can t m n [] := ⟨fun i u v h => by simp [lkM] at h, fun i u h => by simp [hasM, lkM] at h⟩
theorem MOK.cons {can : Nat → Nat → Bool} {t : Nat → Nat → Int} {m n : Nat} {g : MK} (h : MOK can t m n g) {i u : Nat} (h1 : i + 1 < n → hasM g (i + 1) u ∧ ∀ k ∈ mayL can m i, u.testBit k = false → hasM g (i + 1) (u ||| 2 ^ k)) :
    MOK can t m n ((((i : Int), (u : Int)), rsR can t m (n - i) i u) :: g) ∧ subM g ((((i : Int), (u : Int)), rsR can t m (n - i) i u) :: g) ∧ hasM ((((i : Int), (u : Int)), rsR can t m (n - i) i u) :: g) i u := by
  have hsub : subM g ((((i : Int), (u : Int)), rsR can t m (n - i) i u) :: g) := fun i' u' hh => by
    unfold hasM at *
    rw [lkM_cons]
    split
    · rfl
    · exact hh
  refine ⟨⟨fun i' u' v hv => ?_, fun i' u' hh hi => ?_⟩, hsub, ?_⟩
  · rw [lkM_cons] at hv
    split at hv
    · rename_i e
      obtain rfl : i = i' := by omega
      obtain rfl : u = u' := by omega
      simp only [Option.some.injEq] at hv
      exact hv.symm
    · exact h.val i' u' v hv
  · unfold hasM at hh
    rw [lkM_cons] at hh
    split at hh
    · rename_i e
      obtain rfl : i = i' := by omega
      obtain rfl : u = u' := by omega
      exact ⟨hsub _ _ (h1 hi).1, fun k hk hb => hsub _ _ ((h1 hi).2 k hk hb)⟩
    · obtain ⟨x, y⟩ := h.clo i' u' hh hi
      exact ⟨hsub _ _ x, fun k hk hb => hsub _ _ (y k hk hb)⟩
  · unfold hasM
    rw [lkM_cons, if_pos ⟨rfl, rfl⟩]; rfl
theorem MOK.get {can : Nat → Nat → Bool} {t : Nat → Nat → Int} {m n : Nat} {g : MK} (h : MOK can t m n g) {i u : Nat} (hh : hasM g i u) : lkM g i u = some (rsR can t m (n - i) i u) := by
  unfold hasM at hh
  cases e : lkM g i u with
  | none => rw [e] at hh; cases hh
  | some v => rw [h.val i u v e]
/-! ### Bounds -/
theorem flatMap_len {α β : Type} {f : α → List β} {B : Nat} : ∀ {l : List α}, (∀ x ∈ l, (f x).length ≤ B) → (l.flatMap f).length ≤ l.length * B
  | [], _ => by simp
  | x :: l, h => by
    have h1 := h x (by simp)
    have h2 := flatMap_len (l := l) (fun y hy => h y (by simp [hy]))
    rw [List.flatMap_cons, List.length_append, List.length_cons, Nat.add_mul]; omega
theorem mayL_len (can : Nat → Nat → Bool) (m i : Nat) : (mayL can m i).length ≤ m := by
  have := List.length_filter_le (can i) (List.range m)
  simpa [mayL] using this
theorem joinsL_len {can : Nat → Nat → Bool} {m : Nat} (hm : m ≤ 6) : ∀ d i u : Nat, (joinsL can m d i u).length ≤ 7 ^ d
  | 0, _, _ => by simp [joinsL]
  | d + 1, i, u => by
    have h1 := joinsL_len (can := can) hm d (i + 1) u
    have h2 : ((mayL can m i).flatMap fun k => if u.testBit k then [] else (joinsL can m d (i + 1) (u ||| 2 ^ k)).map ((k : Int) :: ·)).length ≤ (mayL can m i).length * 7 ^ d := flatMap_len fun k _ => by
      split
      · simp
      · rw [List.length_map]; exact joinsL_len hm d (i + 1) _
    have h3 := mayL_len can m i
    have h4 : (mayL can m i).length * 7 ^ d ≤ 6 * 7 ^ d := Nat.mul_le_mul_right _ (by omega)
    rw [joinsL, List.length_append, List.length_map, Nat.pow_succ]
    omega
theorem rs_bound {can : Nat → Nat → Bool} {t : Nat → Nat → Int} {m : Nat} (hm : m ≤ 6) {T : Int} (ht : ∀ i k, 0 ≤ t i k ∧ t i k ≤ T) (hT : 0 ≤ T) (d i u : Nat) :
    (0 ≤ (rsR can t m d i u).2.1 ∧ (rsR can t m d i u).2.1 ≤ T * d) ∧ 0 ≤ (rsR can t m d i u).2.2 ∧ (rsR can t m d i u).2.2 ≤ ((7 ^ d : Nat) : Int) := by
  obtain ⟨q1, q2, q3⟩ := bl_best (can := can) (t := t) (m := m) d i u
  have hb := rs_bst (can := can) (t := t) (m := m) d i u
  have h1 := valJ_bound ht hT (blR can t m d i u) i
  rw [q2, q3] at h1
  have h2 := List.countP_le_length (p := fun l => decide (valJ t i l = (rsR can t m d i u).2.1)) (l := joinsL can m d i u)
  have h3 := joinsL_len (can := can) hm d i u
  have h4 := hb.ways
  exact ⟨h1, by omega, by omega⟩
theorem bit_of {u k : Nat} : ((((Int.fdiv (u : Int) (2 ^ ((k : Nat) : Int).toNat)).toNat &&& 1 : Nat) : Int) = 1) ↔ u.testBit k = true := by
  have e : (Int.fdiv (u : Int) (2 ^ ((k : Nat) : Int).toNat)).toNat = u / 2 ^ k := by
    rw [Int.toNat_natCast, Int.fdiv_eq_ediv_of_nonneg _ (by exact Int.le_of_lt (Int.pow_pos (by omega)))]
    rw [show ((2 : Int) ^ k) = ((2 ^ k : Nat) : Int) by simp, ← Int.natCast_ediv, Int.toNat_natCast]
  rw [e, Nat.and_one_is_mod, Nat.testBit_eq_decide_div_mod_eq, decide_eq_true_eq]
  omega
theorem fdiv_nn {u k : Nat} : 0 ≤ Int.fdiv (u : Int) (2 ^ ((k : Nat) : Int).toNat) := Int.fdiv_nonneg (by omega) (Int.le_of_lt (Int.pow_pos (by omega)))
theorem pow_small {k : Nat} (hk : k < 6) : ∃ q : Nat, 2 ^ k = q ∧ ((1 : Int) * 2 ^ ((k : Nat) : Int).toNat) = (q : Int) ∧ q < 64 := by
  refine ⟨_, rfl, by simp, ?_⟩
  have : 2 ^ k < 2 ^ 6 := Nat.pow_lt_pow_right (by omega) hk
  simpa using this
theorem or_small {u k : Nat} (hu : u < 64) (hk : k < 6) : u ||| 2 ^ k < 64 := Nat.or_lt_two_pow (n := 6) hu (by obtain ⟨q, h1, _, h2⟩ := pow_small hk; omega)
section
variable {W : List Int} {s : Int} {L F : List (List Int)} {R : List Int} {A B : Nat → Nat → Int} {N : Nat}
/-- The taste for rewards. -/
def richT (A : Nat → Nat → Int) (R : List Int) (i k : Nat) : Int := 595 * A i k + R.getD i 0
theorem tastep_v {i k : Nat} (hi : i < 6) (hk : k < 6) : tastep_S N i k (dkT W s L F R A B) = some (A i k) := by
  unfold tastep_S
  rw [rng_eq (by omega), rng_eq (by omega)]
  simp only [Int.toNat_natCast]
  rw [get_T hi hk]
theorem taster_v (hA : ∀ i k, 0 ≤ A i k ∧ A i k ≤ 50) (hr : ∀ x ∈ R, 0 ≤ x ∧ x ≤ 99) {i k : Nat} (hi : i < 6) (hk : k < 6) (hR : i < R.length) : taster_S N i k (dkT W s L F R A B) = some (richT A R i k) := by
  have h1 := hA i k
  have h2 := getD_R hr i
  unfold taster_S richT
  rw [rng_eq (by omega), rng_eq (by omega)]
  simp only [Int.toNat_natCast]
  rw [get_T hi hk, chk_eq (by omega), idx_eq (by omega) (show (dkT W s L F R A B).2.2.2.2.1[((i : Nat) : Int).toNat]? = some (R.getD i 0) from gets (l := R) hR 0), chk_eq (by omega)]

theorem restp_l1_p {t : Nat → Nat → Int} (hF : F.length ≤ 6) (hL : L.length ≤ 6) (ht : ∀ i k, 0 ≤ t i k ∧ t i k ≤ 30000) (htv : ∀ i k : Nat, i < L.length → k < F.length → tastep_S N i k (dkT W s L F R A B) = some (t i k)) {self : Int → Int → Dk → Dk → Dk → Dk → MK → Option (Int × Int × Int × Dk × Dk × MK)} {i d u : Nat} (hi : i + 1 + d = L.length) (hu : u < 64)
    (hself : ∀ (u : Nat) g, u < 64 → MOK (canT A B s) t F.length L.length g → ∃ g', self ((i : Int) + 1) u (dkT W s L F R A B) (dkT W s L F R A B) (dkT W s L F R A B) (dkT W s L F R A B) g = some ((rsR (canT A B s) t F.length d (i + 1) u).1, (rsR (canT A B s) t F.length d (i + 1) u).2.1, (rsR (canT A B s) t F.length d (i + 1) u).2.2, dkT W s L F R A B, dkT W s L F R A B, g') ∧ MOK (canT A B s) t F.length L.length g' ∧ subM g g' ∧ (i + 1 < L.length → hasM g' (i + 1) u))
    {x4 : Int} {P : Nat} (hP : 7 ^ d = P) : ∀ (ks : List Nat) (g : MK) (b : Int × Int × Int) (Wb : Nat), (∀ k ∈ ks, k < F.length) → MOK (canT A B s) t F.length L.length g → (0 ≤ b.2.1 ∧ b.2.1 ≤ 30000 * (d + 1)) → 0 ≤ b.2.2 → b.2.2 ≤ Wb → Wb + ks.length * P ≤ 10000000 →
      ∃ g', restp_l1 N self (ks.map fun (j : Nat) => ((j : Int), ())) (dkT W s L F R A B) (dkT W s L F R A B) (dkT W s L F R A B) x4 (dkT W s L F R A B) (dkT W s L F R A B) g i u 0 0 0 b.1 b.2.1 b.2.2 =
        some (dkT W s L F R A B, dkT W s L F R A B, g', (i : Int), (u : Int), 0, 0, 0, (ks.foldl (rsS t (rsR (canT A B s) t F.length d (i + 1)) i u) b).1, (ks.foldl (rsS t (rsR (canT A B s) t F.length d (i + 1)) i u) b).2.1, (ks.foldl (rsS t (rsR (canT A B s) t F.length d (i + 1)) i u) b).2.2) ∧
        MOK (canT A B s) t F.length L.length g' ∧ subM g g' ∧ ∀ k ∈ ks, u.testBit k = false → i + 1 < L.length → hasM g' (i + 1) (u ||| 2 ^ k)
  | [], g, b, Wb, _, hg, _, _, _, _ => ⟨g, rfl, hg, subM.refl g, fun k hk => by cases hk⟩
  | k :: ks, g, b, Wb, hk, hg, hb1, hb2, hb3, hWb => by
    have hk0 := hk k (by simp)
    have hks : ∀ x ∈ ks, x < F.length := fun x hx => hk x (by simp [hx])
    rw [List.length_cons, Nat.add_mul, Nat.one_mul] at hWb
    rw [List.map_cons, List.foldl_cons, restp_l1, restp_l1_b]
    dsimp only
    rw [grd_eq (by rw [decide_eq_true_eq]; omega), grd_eq (by rw [decide_eq_true_eq]; exact ⟨fdiv_nn, by omega⟩)]
    by_cases hbit : u.testBit k = true
    · rw [br_dec (bit_of.2 hbit)]
      obtain ⟨g', e1, e2, e3, e4⟩ := restp_l1_p hF hL ht htv hi hu hself (x4 := x4) hP ks g b Wb hks hg hb1 hb2 hb3 (by omega)
      have es : rsS t (rsR (canT A B s) t F.length d (i + 1)) i u b k = b := by unfold rsS; rw [if_pos hbit]
      rw [es]
      refine ⟨g', e1, e2, e3, fun x hx hxb hi => ?_⟩
      rcases List.mem_cons.1 hx with rfl | hx
      · rw [hbit] at hxb; cases hxb
      · exact e4 x hx hxb hi
    · rw [br_ndec (fun h => hbit (bit_of.1 h))]
      obtain ⟨q, hq, p1, p2⟩ := pow_small (k := k) (by omega)
      rw [chk_eq (by omega), grd_eq (by rw [decide_eq_true_eq]; omega), p1, chk_eq (by omega), grd_eq (by rw [decide_eq_true_eq]; omega)]
      simp only [Int.toNat_natCast]
      subst hq
      have hu' := or_small hu (show k < 6 by omega)
      obtain ⟨g1, e1, e2, e3, e4⟩ := hself (u ||| 2 ^ k) g hu' hg
      rw [e1]
      simp only [Option.bind_some]
      rw [htv i k (by omega) hk0]
      simp only [Option.bind_some]
      obtain ⟨⟨r1, r2⟩, r3, r4⟩ := rs_bound (can := canT A B s) (t := t) hF ht (by omega) d (i + 1) (u ||| 2 ^ k)
      have ht0 := ht i k
      have hd : (d : Int) ≤ 5 := by omega
      rw [hP] at r4
      have hbit' : u.testBit k = false := by simpa using hbit
      have fin : ∀ b', rsS t (rsR (canT A B s) t F.length d (i + 1)) i u b k = b' → (0 ≤ b'.2.1 ∧ b'.2.1 ≤ 30000 * (d + 1)) → 0 ≤ b'.2.2 → b'.2.2 ≤ ((Wb + P : Nat) : Int) → ∃ g', restp_l1 N self (ks.map fun (j : Nat) => ((j : Int), ())) (dkT W s L F R A B) (dkT W s L F R A B) (dkT W s L F R A B) x4 (dkT W s L F R A B) (dkT W s L F R A B) g1 i u 0 0 0 b'.1 b'.2.1 b'.2.2 =
        some (dkT W s L F R A B, dkT W s L F R A B, g', (i : Int), (u : Int), 0, 0, 0, (ks.foldl (rsS t (rsR (canT A B s) t F.length d (i + 1)) i u) (rsS t (rsR (canT A B s) t F.length d (i + 1)) i u b k)).1, (ks.foldl (rsS t (rsR (canT A B s) t F.length d (i + 1)) i u) (rsS t (rsR (canT A B s) t F.length d (i + 1)) i u b k)).2.1, (ks.foldl (rsS t (rsR (canT A B s) t F.length d (i + 1)) i u) (rsS t (rsR (canT A B s) t F.length d (i + 1)) i u b k)).2.2) ∧
        MOK (canT A B s) t F.length L.length g' ∧ subM g g' ∧ ∀ x ∈ k :: ks, u.testBit x = false → i + 1 < L.length → hasM g' (i + 1) (u ||| 2 ^ x) := fun b' hb' q1 q2 q3 => by
        obtain ⟨g', f1, f2, f3, f4⟩ := restp_l1_p hF hL ht htv hi hu hself (x4 := x4) hP ks g1 b' (Wb + P) hks e2 q1 q2 q3 (by omega)
        rw [hb']
        refine ⟨g', f1, f2, e3.trans f3, fun x hx hxb hi => ?_⟩
        rcases List.mem_cons.1 hx with rfl | hx
        · exact f3 _ _ (e4 hi)
        · exact f4 x hx hxb hi
      have es : rsS t (rsR (canT A B s) t F.length d (i + 1)) i u b k = if b.2.1 < (rsR (canT A B s) t F.length d (i + 1) (u ||| 2 ^ k)).2.1 + t i k then ((k : Int), (rsR (canT A B s) t F.length d (i + 1) (u ||| 2 ^ k)).2.1 + t i k, (rsR (canT A B s) t F.length d (i + 1) (u ||| 2 ^ k)).2.2)
          else if (rsR (canT A B s) t F.length d (i + 1) (u ||| 2 ^ k)).2.1 + t i k = b.2.1 then (b.1, b.2.1, b.2.2 + (rsR (canT A B s) t F.length d (i + 1) (u ||| 2 ^ k)).2.2) else b := by
        unfold rsS; rw [if_neg hbit]
      have hmul : 30000 * ((d : Int) + 1) = 30000 * d + 30000 := by omega
      rw [chk_eq (by omega)]
      by_cases c1 : b.2.1 < (rsR (canT A B s) t F.length d (i + 1) (u ||| 2 ^ k)).2.1 + t i k
      · rw [if_pos c1] at es
        rw [br_dec c1]
        exact fin _ es ⟨by dsimp only; omega, by dsimp only; omega⟩ (by dsimp only; omega) (by dsimp only; omega)
      · rw [if_neg c1] at es
        rw [br_ndec c1]
        by_cases c2 : (rsR (canT A B s) t F.length d (i + 1) (u ||| 2 ^ k)).2.1 + t i k = b.2.1
        · rw [if_pos c2] at es
          rw [br_dec c2, chk_eq (by omega)]
          exact fin _ es hb1 (by dsimp only; omega) (by dsimp only; omega)
        · rw [if_neg c2] at es
          rw [br_ndec c2]
          exact fin _ es hb1 hb2 (by omega)
theorem restp_R_p {t : Nat → Nat → Int} (hF : F.length ≤ 6) (hL : L.length ≤ 6) (ht : ∀ i k, 0 ≤ t i k ∧ t i k ≤ 30000) (htv : ∀ i k : Nat, i < L.length → k < F.length → tastep_S N i k (dkT W s L F R A B) = some (t i k)) :
    ∀ (fu d i u : Nat) (g : MK), d < fu → i + d = L.length → u < 64 → MOK (canT A B s) t F.length L.length g →
      ∃ g', restp_R N fu i u (dkT W s L F R A B) (dkT W s L F R A B) (dkT W s L F R A B) (dkT W s L F R A B) g = some ((rsR (canT A B s) t F.length d i u).1, (rsR (canT A B s) t F.length d i u).2.1, (rsR (canT A B s) t F.length d i u).2.2, dkT W s L F R A B, dkT W s L F R A B, g') ∧ MOK (canT A B s) t F.length L.length g' ∧ subM g g' ∧ (i < L.length → hasM g' i u)
  | 0, d, i, u, g, h, _, _, _ => by omega
  | fu + 1, d, i, u, g, h, hid, hu, hg => by
    show ∃ g', restp_S N (restp_R N fu) i u (dkT W s L F R A B) (dkT W s L F R A B) (dkT W s L F R A B) (dkT W s L F R A B) g = _ ∧ _
    unfold restp_S
    have hdl : (dkT W s L F R A B).2.2.1.length = L.length := rfl
    rw [hdl]
    cases d with
    | zero =>
      rw [br_dec (by omega)]
      exact ⟨g, rfl, hg, subM.refl g, fun h => by omega⟩
    | succ d =>
      rw [br_ndec (by omega), lkM_some]
      by_cases c : hasM g i u
      · have e := hg.get c
        rw [show L.length - i = d + 1 by omega] at e
        unfold hasM at c
        rw [c, br_true]
        unfold lkM at e
        rw [e]
        exact ⟨g, rfl, hg, subM.refl g, fun _ => c⟩
      · rw [Bool.eq_false_iff.2 c, br_false, chk_eq (by omega)]
        have hself : ∀ (u : Nat) g, u < 64 → MOK (canT A B s) t F.length L.length g → ∃ g', restp_R N fu ((i : Int) + 1) u (dkT W s L F R A B) (dkT W s L F R A B) (dkT W s L F R A B) (dkT W s L F R A B) g = some ((rsR (canT A B s) t F.length d (i + 1) u).1, (rsR (canT A B s) t F.length d (i + 1) u).2.1, (rsR (canT A B s) t F.length d (i + 1) u).2.2, dkT W s L F R A B, dkT W s L F R A B, g') ∧ MOK (canT A B s) t F.length L.length g' ∧ subM g g' ∧ (i + 1 < L.length → hasM g' (i + 1) u) := fun u g hu hg => by
          have := restp_R_p hF hL ht htv fu d (i + 1) u g (by omega) (by omega) hu hg
          rwa [nat_succ] at this
        obtain ⟨g1, e1, e2, e3, e4⟩ := hself u g hu hg
        rw [e1]
        simp only [Option.bind_some]
        have em : may_S N (dkT W s L F R A B) (i : Int) = some (dkT W s L F R A B, dkT W s L F R A B, (i : Int)) := rfl
        rw [em]
        simp only [Option.bind_some]
        rw [mayR_T hF (by omega)]
        simp only [Option.bind_some]
        obtain ⟨⟨r1, r2⟩, r3, r4⟩ := rs_bound (can := canT A B s) (t := t) hF ht (by omega) d (i + 1) u
        have h7 : (7 : Nat) ^ d ≤ 7 ^ 5 := Nat.pow_le_pow_right (by omega) (by omega)
        have h7' : (mayL (canT A B s) F.length i).length * 7 ^ d ≤ 6 * 7 ^ 5 := Nat.mul_le_mul (by have := mayL_len (canT A B s) F.length i; omega) h7
        obtain ⟨g2, f1, f2, f3, f4⟩ := restp_l1_p hF hL ht htv (i := i) (d := d) (u := u) (by omega) hu hself (x4 := (i : Int)) rfl (mayL (canT A B s) F.length i) g1 (-1, (rsR (canT A B s) t F.length d (i + 1) u).2.1, (rsR (canT A B s) t F.length d (i + 1) u).2.2) (7 ^ d)
          (fun k hk => (mem_mayL.1 hk).1) e2 ⟨r1, by dsimp only; omega⟩ r3 r4 (by omega)
        unfold mayE
        rw [f1]
        simp only [Option.bind_some]
        have er : rsR (canT A B s) t F.length (d + 1) i u = (mayL (canT A B s) F.length i).foldl (rsS t (rsR (canT A B s) t F.length d (i + 1)) i u) (-1, (rsR (canT A B s) t F.length d (i + 1) u).2.1, (rsR (canT A B s) t F.length d (i + 1) u).2.2) := rfl
        rw [← er]
        obtain ⟨k1, k2, k3⟩ := f2.cons (i := i) (u := u) (fun hi => ⟨f3 _ _ (e4 hi), fun k hk hb => f4 k hk hb hi⟩)
        rw [show L.length - i = d + 1 by omega] at k1 k2 k3
        exact ⟨_, rfl, k1, e3.trans (f3.trans k2), fun _ => k3⟩
theorem restsp_v {t : Nat → Nat → Int} (hN : 110 ≤ N) (hF : F.length ≤ 6) (hL : L.length ≤ 6) (ht : ∀ i k, 0 ≤ t i k ∧ t i k ≤ 30000) (htv : ∀ i k : Nat, i < L.length → k < F.length → tastep_S N i k (dkT W s L F R A B) = some (t i k)) {u : Nat} (hu : u < 64) :
    ∃ g, restsp_S N (dkT W s L F R A B) (dkT W s L F R A B) u = some g ∧ (0 < L.length → MOK (canT A B s) t F.length L.length g ∧ hasM g 0 u) ∧ lkM g 0 u = some (rsR (canT A B s) t F.length L.length 0 u) := by
  obtain ⟨g, e1, e2, e3, e4⟩ := restp_R_p hF hL ht htv N L.length 0 u [] (by omega) (by omega) hu MOK.nil
  unfold restsp_S restsp_j1
  rw [show ((0 : Nat) : Int) = 0 from rfl] at e1
  rw [e1]
  simp only [Option.bind_some]
  refine ⟨_, rfl, fun h0 => ?_, by rw [lkM_cons, if_pos ⟨rfl, rfl⟩]⟩
  have hg : hasM g 0 u := e4 h0
  obtain ⟨k1, k2, k3⟩ := e2.cons (i := 0) (u := u) (fun hi => e2.clo 0 u hg hi)
  rw [Nat.sub_zero] at k1 k3
  exact ⟨k1, k3⟩
theorem dbestp_l1_p {t : Nat → Nat → Int} (hF : F.length ≤ 6) (hL : L.length ≤ 6) {g : MK} (hg : MOK (canT A B s) t F.length L.length g) : ∀ (n d i u : Nat) (out : List Int), d < n → i + d = L.length → u < 64 → out.length ≤ i → (i < L.length → hasM g i u) →
    dbestp_l1 N n u L.length i g out = some (out ++ blR (canT A B s) t F.length d i u)
  | 0, d, i, u, out, h, _, _, _, _ => by omega
  | n + 1, d, i, u, out, h, hid, hu, ho, hh => by
    unfold dbestp_l1
    cases d with
    | zero =>
      rw [br_ndec (by omega)]
      simp [blR]
    | succ d =>
      have e := hg.get (hh (by omega))
      rw [show L.length - i = d + 1 by omega] at e
      have e' : ((g.find? fun (y : (Int × Int) × (Int × (Int × Int))) => Ty.beq (.pair (.int .i64) (.int .i64)) y.1 ((i : Int), (u : Int))).map (·.2)).getD (Ty.dflt (.pair (.int .i64) (.pair (.int .i64) (.int .i64)))) = rsR (canT A B s) t F.length (d + 1) i u := by
        unfold lkM at e
        rw [e]; rfl
      rw [br_dec (by omega), e', lim_eq (by simp; omega)]
      have hj : ∀ (u' : Nat) x, u' < 64 → (i + 1 < L.length → hasM g (i + 1) u') → dbestp_j1 N (dbestp_l1 N n) u' L.length i g (out ++ [x]) = some (out ++ [x] ++ blR (canT A B s) t F.length d (i + 1) u') := fun u' x hu' hh' => by
        have := dbestp_l1_p hF hL hg n d (i + 1) u' (out ++ [x]) (by omega) (by omega) hu' (by simp; omega) hh'
        rw [nat_succ] at this
        unfold dbestp_j1
        rw [chk_eq (by omega), this]
      rw [blR]
      rcases rs_fnd (can := canT A B s) (t := t) (m := F.length) (d := d) (i := i) (u := u) with ⟨h1, _⟩ | ⟨k, h1, h2, h3, _⟩
      · rw [h1, br_nd (by first | trivial | rfl), if_pos rfl, hj u _ hu (fun hi => (hg.clo i u (hh (by omega)) hi).1)]
        simp
      · obtain ⟨k1, k2⟩ := mem_mayL.1 h2
        obtain ⟨q, hq, p1, p2⟩ := pow_small (k := k) (by omega)
        rw [h1, br_nnd (show ¬ ((k : Int) = -1) by omega)]
        rw [grd_eq (by rw [decide_eq_true_eq]; exact (show (0 : Int) ≤ (k : Int) ∧ (k : Int) ≤ 62 by omega)), p1, chk_eq (by omega), grd_eq (by rw [decide_eq_true_eq]; omega), if_neg (show ¬ ((k : Int) = -1) by omega)]
        simp only [Int.toNat_natCast]
        subst hq
        rw [hj _ _ (or_small hu (by omega)) (fun hi => (hg.clo i u (hh (by omega)) hi).2 k h2 h3)]
        simp
theorem dbestp_v {t : Nat → Nat → Int} (hN : 110 ≤ N) (hF : F.length ≤ 6) (hL : L.length ≤ 6) (ht : ∀ i k, 0 ≤ t i k ∧ t i k ≤ 30000) (htv : ∀ i k : Nat, i < L.length → k < F.length → tastep_S N i k (dkT W s L F R A B) = some (t i k)) :
    dbestp_S N (dkT W s L F R A B) (dkT W s L F R A B) = some (blR (canT A B s) t F.length L.length 0 0) := by
  obtain ⟨g, e1, e2, e3⟩ := restsp_v hN hF hL ht htv (u := 0) (by omega)
  unfold dbestp_S
  rw [show ((0 : Nat) : Int) = 0 from rfl] at e1
  rw [e1]
  simp only [Option.bind_some]
  have hdl : (dkT W s L F R A B).2.2.1.length = L.length := rfl
  rw [hdl]
  by_cases h0 : 0 < L.length
  · obtain ⟨hg, hh⟩ := e2 h0
    have := dbestp_l1_p (N := N) hF hL hg N L.length 0 0 [] (by omega) (by omega) (by omega) (by simp) (fun _ => hh)
    rw [show ((0 : Nat) : Int) = 0 from rfl, List.nil_append] at this
    rw [this]; rfl
  · have hz : L.length = 0 := by omega
    obtain ⟨M, rfl⟩ : ∃ M, N = M + 1 := ⟨N - 1, by omega⟩
    rw [dbestp_l1, hz, br_ndec (by omega)]
    simp [blR]

theorem restr_l1_p {t : Nat → Nat → Int} (hF : F.length ≤ 6) (hL : L.length ≤ 6) (ht : ∀ i k, 0 ≤ t i k ∧ t i k ≤ 30000) (htv : ∀ i k : Nat, i < L.length → k < F.length → taster_S N i k (dkT W s L F R A B) = some (t i k)) {self : Int → Int → Dk → Dk → Dk → Dk → MK → Option (Int × Int × Int × Dk × Dk × MK)} {i d u : Nat} (hi : i + 1 + d = L.length) (hu : u < 64)
    (hself : ∀ (u : Nat) g, u < 64 → MOK (canT A B s) t F.length L.length g → ∃ g', self ((i : Int) + 1) u (dkT W s L F R A B) (dkT W s L F R A B) (dkT W s L F R A B) (dkT W s L F R A B) g = some ((rsR (canT A B s) t F.length d (i + 1) u).1, (rsR (canT A B s) t F.length d (i + 1) u).2.1, (rsR (canT A B s) t F.length d (i + 1) u).2.2, dkT W s L F R A B, dkT W s L F R A B, g') ∧ MOK (canT A B s) t F.length L.length g' ∧ subM g g' ∧ (i + 1 < L.length → hasM g' (i + 1) u))
    {x4 : Int} {P : Nat} (hP : 7 ^ d = P) : ∀ (ks : List Nat) (g : MK) (b : Int × Int × Int) (Wb : Nat), (∀ k ∈ ks, k < F.length) → MOK (canT A B s) t F.length L.length g → (0 ≤ b.2.1 ∧ b.2.1 ≤ 30000 * (d + 1)) → 0 ≤ b.2.2 → b.2.2 ≤ Wb → Wb + ks.length * P ≤ 10000000 →
      ∃ g', restr_l1 N self (ks.map fun (j : Nat) => ((j : Int), ())) (dkT W s L F R A B) (dkT W s L F R A B) (dkT W s L F R A B) x4 (dkT W s L F R A B) (dkT W s L F R A B) g i u 0 0 0 b.1 b.2.1 b.2.2 =
        some (dkT W s L F R A B, dkT W s L F R A B, g', (i : Int), (u : Int), 0, 0, 0, (ks.foldl (rsS t (rsR (canT A B s) t F.length d (i + 1)) i u) b).1, (ks.foldl (rsS t (rsR (canT A B s) t F.length d (i + 1)) i u) b).2.1, (ks.foldl (rsS t (rsR (canT A B s) t F.length d (i + 1)) i u) b).2.2) ∧
        MOK (canT A B s) t F.length L.length g' ∧ subM g g' ∧ ∀ k ∈ ks, u.testBit k = false → i + 1 < L.length → hasM g' (i + 1) (u ||| 2 ^ k)
  | [], g, b, Wb, _, hg, _, _, _, _ => ⟨g, rfl, hg, subM.refl g, fun k hk => by cases hk⟩
  | k :: ks, g, b, Wb, hk, hg, hb1, hb2, hb3, hWb => by
    have hk0 := hk k (by simp)
    have hks : ∀ x ∈ ks, x < F.length := fun x hx => hk x (by simp [hx])
    rw [List.length_cons, Nat.add_mul, Nat.one_mul] at hWb
    rw [List.map_cons, List.foldl_cons, restr_l1, restr_l1_b]
    dsimp only
    rw [grd_eq (by rw [decide_eq_true_eq]; omega), grd_eq (by rw [decide_eq_true_eq]; exact ⟨fdiv_nn, by omega⟩)]
    by_cases hbit : u.testBit k = true
    · rw [br_dec (bit_of.2 hbit)]
      obtain ⟨g', e1, e2, e3, e4⟩ := restr_l1_p hF hL ht htv hi hu hself (x4 := x4) hP ks g b Wb hks hg hb1 hb2 hb3 (by omega)
      have es : rsS t (rsR (canT A B s) t F.length d (i + 1)) i u b k = b := by unfold rsS; rw [if_pos hbit]
      rw [es]
      refine ⟨g', e1, e2, e3, fun x hx hxb hi => ?_⟩
      rcases List.mem_cons.1 hx with rfl | hx
      · rw [hbit] at hxb; cases hxb
      · exact e4 x hx hxb hi
    · rw [br_ndec (fun h => hbit (bit_of.1 h))]
      obtain ⟨q, hq, p1, p2⟩ := pow_small (k := k) (by omega)
      rw [chk_eq (by omega), grd_eq (by rw [decide_eq_true_eq]; omega), p1, chk_eq (by omega), grd_eq (by rw [decide_eq_true_eq]; omega)]
      simp only [Int.toNat_natCast]
      subst hq
      have hu' := or_small hu (show k < 6 by omega)
      obtain ⟨g1, e1, e2, e3, e4⟩ := hself (u ||| 2 ^ k) g hu' hg
      rw [e1]
      simp only [Option.bind_some]
      rw [htv i k (by omega) hk0]
      simp only [Option.bind_some]
      obtain ⟨⟨r1, r2⟩, r3, r4⟩ := rs_bound (can := canT A B s) (t := t) hF ht (by omega) d (i + 1) (u ||| 2 ^ k)
      have ht0 := ht i k
      have hd : (d : Int) ≤ 5 := by omega
      rw [hP] at r4
      have hbit' : u.testBit k = false := by simpa using hbit
      have fin : ∀ b', rsS t (rsR (canT A B s) t F.length d (i + 1)) i u b k = b' → (0 ≤ b'.2.1 ∧ b'.2.1 ≤ 30000 * (d + 1)) → 0 ≤ b'.2.2 → b'.2.2 ≤ ((Wb + P : Nat) : Int) → ∃ g', restr_l1 N self (ks.map fun (j : Nat) => ((j : Int), ())) (dkT W s L F R A B) (dkT W s L F R A B) (dkT W s L F R A B) x4 (dkT W s L F R A B) (dkT W s L F R A B) g1 i u 0 0 0 b'.1 b'.2.1 b'.2.2 =
        some (dkT W s L F R A B, dkT W s L F R A B, g', (i : Int), (u : Int), 0, 0, 0, (ks.foldl (rsS t (rsR (canT A B s) t F.length d (i + 1)) i u) (rsS t (rsR (canT A B s) t F.length d (i + 1)) i u b k)).1, (ks.foldl (rsS t (rsR (canT A B s) t F.length d (i + 1)) i u) (rsS t (rsR (canT A B s) t F.length d (i + 1)) i u b k)).2.1, (ks.foldl (rsS t (rsR (canT A B s) t F.length d (i + 1)) i u) (rsS t (rsR (canT A B s) t F.length d (i + 1)) i u b k)).2.2) ∧
        MOK (canT A B s) t F.length L.length g' ∧ subM g g' ∧ ∀ x ∈ k :: ks, u.testBit x = false → i + 1 < L.length → hasM g' (i + 1) (u ||| 2 ^ x) := fun b' hb' q1 q2 q3 => by
        obtain ⟨g', f1, f2, f3, f4⟩ := restr_l1_p hF hL ht htv hi hu hself (x4 := x4) hP ks g1 b' (Wb + P) hks e2 q1 q2 q3 (by omega)
        rw [hb']
        refine ⟨g', f1, f2, e3.trans f3, fun x hx hxb hi => ?_⟩
        rcases List.mem_cons.1 hx with rfl | hx
        · exact f3 _ _ (e4 hi)
        · exact f4 x hx hxb hi
      have es : rsS t (rsR (canT A B s) t F.length d (i + 1)) i u b k = if b.2.1 < (rsR (canT A B s) t F.length d (i + 1) (u ||| 2 ^ k)).2.1 + t i k then ((k : Int), (rsR (canT A B s) t F.length d (i + 1) (u ||| 2 ^ k)).2.1 + t i k, (rsR (canT A B s) t F.length d (i + 1) (u ||| 2 ^ k)).2.2)
          else if (rsR (canT A B s) t F.length d (i + 1) (u ||| 2 ^ k)).2.1 + t i k = b.2.1 then (b.1, b.2.1, b.2.2 + (rsR (canT A B s) t F.length d (i + 1) (u ||| 2 ^ k)).2.2) else b := by
        unfold rsS; rw [if_neg hbit]
      have hmul : 30000 * ((d : Int) + 1) = 30000 * d + 30000 := by omega
      rw [chk_eq (by omega)]
      by_cases c1 : b.2.1 < (rsR (canT A B s) t F.length d (i + 1) (u ||| 2 ^ k)).2.1 + t i k
      · rw [if_pos c1] at es
        rw [br_dec c1]
        exact fin _ es ⟨by dsimp only; omega, by dsimp only; omega⟩ (by dsimp only; omega) (by dsimp only; omega)
      · rw [if_neg c1] at es
        rw [br_ndec c1]
        by_cases c2 : (rsR (canT A B s) t F.length d (i + 1) (u ||| 2 ^ k)).2.1 + t i k = b.2.1
        · rw [if_pos c2] at es
          rw [br_dec c2, chk_eq (by omega)]
          exact fin _ es hb1 (by dsimp only; omega) (by dsimp only; omega)
        · rw [if_neg c2] at es
          rw [br_ndec c2]
          exact fin _ es hb1 hb2 (by omega)
theorem restr_R_p {t : Nat → Nat → Int} (hF : F.length ≤ 6) (hL : L.length ≤ 6) (ht : ∀ i k, 0 ≤ t i k ∧ t i k ≤ 30000) (htv : ∀ i k : Nat, i < L.length → k < F.length → taster_S N i k (dkT W s L F R A B) = some (t i k)) :
    ∀ (fu d i u : Nat) (g : MK), d < fu → i + d = L.length → u < 64 → MOK (canT A B s) t F.length L.length g →
      ∃ g', restr_R N fu i u (dkT W s L F R A B) (dkT W s L F R A B) (dkT W s L F R A B) (dkT W s L F R A B) g = some ((rsR (canT A B s) t F.length d i u).1, (rsR (canT A B s) t F.length d i u).2.1, (rsR (canT A B s) t F.length d i u).2.2, dkT W s L F R A B, dkT W s L F R A B, g') ∧ MOK (canT A B s) t F.length L.length g' ∧ subM g g' ∧ (i < L.length → hasM g' i u)
  | 0, d, i, u, g, h, _, _, _ => by omega
  | fu + 1, d, i, u, g, h, hid, hu, hg => by
    show ∃ g', restr_S N (restr_R N fu) i u (dkT W s L F R A B) (dkT W s L F R A B) (dkT W s L F R A B) (dkT W s L F R A B) g = _ ∧ _
    unfold restr_S
    have hdl : (dkT W s L F R A B).2.2.1.length = L.length := rfl
    rw [hdl]
    cases d with
    | zero =>
      rw [br_dec (by omega)]
      exact ⟨g, rfl, hg, subM.refl g, fun h => by omega⟩
    | succ d =>
      rw [br_ndec (by omega), lkM_some]
      by_cases c : hasM g i u
      · have e := hg.get c
        rw [show L.length - i = d + 1 by omega] at e
        unfold hasM at c
        rw [c, br_true]
        unfold lkM at e
        rw [e]
        exact ⟨g, rfl, hg, subM.refl g, fun _ => c⟩
      · rw [Bool.eq_false_iff.2 c, br_false, chk_eq (by omega)]
        have hself : ∀ (u : Nat) g, u < 64 → MOK (canT A B s) t F.length L.length g → ∃ g', restr_R N fu ((i : Int) + 1) u (dkT W s L F R A B) (dkT W s L F R A B) (dkT W s L F R A B) (dkT W s L F R A B) g = some ((rsR (canT A B s) t F.length d (i + 1) u).1, (rsR (canT A B s) t F.length d (i + 1) u).2.1, (rsR (canT A B s) t F.length d (i + 1) u).2.2, dkT W s L F R A B, dkT W s L F R A B, g') ∧ MOK (canT A B s) t F.length L.length g' ∧ subM g g' ∧ (i + 1 < L.length → hasM g' (i + 1) u) := fun u g hu hg => by
          have := restr_R_p hF hL ht htv fu d (i + 1) u g (by omega) (by omega) hu hg
          rwa [nat_succ] at this
        obtain ⟨g1, e1, e2, e3, e4⟩ := hself u g hu hg
        rw [e1]
        simp only [Option.bind_some]
        have em : may_S N (dkT W s L F R A B) (i : Int) = some (dkT W s L F R A B, dkT W s L F R A B, (i : Int)) := rfl
        rw [em]
        simp only [Option.bind_some]
        rw [mayR_T hF (by omega)]
        simp only [Option.bind_some]
        obtain ⟨⟨r1, r2⟩, r3, r4⟩ := rs_bound (can := canT A B s) (t := t) hF ht (by omega) d (i + 1) u
        have h7 : (7 : Nat) ^ d ≤ 7 ^ 5 := Nat.pow_le_pow_right (by omega) (by omega)
        have h7' : (mayL (canT A B s) F.length i).length * 7 ^ d ≤ 6 * 7 ^ 5 := Nat.mul_le_mul (by have := mayL_len (canT A B s) F.length i; omega) h7
        obtain ⟨g2, f1, f2, f3, f4⟩ := restr_l1_p hF hL ht htv (i := i) (d := d) (u := u) (by omega) hu hself (x4 := (i : Int)) rfl (mayL (canT A B s) F.length i) g1 (-1, (rsR (canT A B s) t F.length d (i + 1) u).2.1, (rsR (canT A B s) t F.length d (i + 1) u).2.2) (7 ^ d)
          (fun k hk => (mem_mayL.1 hk).1) e2 ⟨r1, by dsimp only; omega⟩ r3 r4 (by omega)
        unfold mayE
        rw [f1]
        simp only [Option.bind_some]
        have er : rsR (canT A B s) t F.length (d + 1) i u = (mayL (canT A B s) F.length i).foldl (rsS t (rsR (canT A B s) t F.length d (i + 1)) i u) (-1, (rsR (canT A B s) t F.length d (i + 1) u).2.1, (rsR (canT A B s) t F.length d (i + 1) u).2.2) := rfl
        rw [← er]
        obtain ⟨k1, k2, k3⟩ := f2.cons (i := i) (u := u) (fun hi => ⟨f3 _ _ (e4 hi), fun k hk hb => f4 k hk hb hi⟩)
        rw [show L.length - i = d + 1 by omega] at k1 k2 k3
        exact ⟨_, rfl, k1, e3.trans (f3.trans k2), fun _ => k3⟩
theorem restsr_v {t : Nat → Nat → Int} (hN : 110 ≤ N) (hF : F.length ≤ 6) (hL : L.length ≤ 6) (ht : ∀ i k, 0 ≤ t i k ∧ t i k ≤ 30000) (htv : ∀ i k : Nat, i < L.length → k < F.length → taster_S N i k (dkT W s L F R A B) = some (t i k)) {u : Nat} (hu : u < 64) :
    ∃ g, restsr_S N (dkT W s L F R A B) (dkT W s L F R A B) u = some g ∧ (0 < L.length → MOK (canT A B s) t F.length L.length g ∧ hasM g 0 u) ∧ lkM g 0 u = some (rsR (canT A B s) t F.length L.length 0 u) := by
  obtain ⟨g, e1, e2, e3, e4⟩ := restr_R_p hF hL ht htv N L.length 0 u [] (by omega) (by omega) hu MOK.nil
  unfold restsr_S restsr_j1
  rw [show ((0 : Nat) : Int) = 0 from rfl] at e1
  rw [e1]
  simp only [Option.bind_some]
  refine ⟨_, rfl, fun h0 => ?_, by rw [lkM_cons, if_pos ⟨rfl, rfl⟩]⟩
  have hg : hasM g 0 u := e4 h0
  obtain ⟨k1, k2, k3⟩ := e2.cons (i := 0) (u := u) (fun hi => e2.clo 0 u hg hi)
  rw [Nat.sub_zero] at k1 k3
  exact ⟨k1, k3⟩
theorem dbestr_l1_p {t : Nat → Nat → Int} (hF : F.length ≤ 6) (hL : L.length ≤ 6) {g : MK} (hg : MOK (canT A B s) t F.length L.length g) : ∀ (n d i u : Nat) (out : List Int), d < n → i + d = L.length → u < 64 → out.length ≤ i → (i < L.length → hasM g i u) →
    dbestr_l1 N n u L.length i g out = some (out ++ blR (canT A B s) t F.length d i u)
  | 0, d, i, u, out, h, _, _, _, _ => by omega
  | n + 1, d, i, u, out, h, hid, hu, ho, hh => by
    unfold dbestr_l1
    cases d with
    | zero =>
      rw [br_ndec (by omega)]
      simp [blR]
    | succ d =>
      have e := hg.get (hh (by omega))
      rw [show L.length - i = d + 1 by omega] at e
      have e' : ((g.find? fun (y : (Int × Int) × (Int × (Int × Int))) => Ty.beq (.pair (.int .i64) (.int .i64)) y.1 ((i : Int), (u : Int))).map (·.2)).getD (Ty.dflt (.pair (.int .i64) (.pair (.int .i64) (.int .i64)))) = rsR (canT A B s) t F.length (d + 1) i u := by
        unfold lkM at e
        rw [e]; rfl
      rw [br_dec (by omega), e', lim_eq (by simp; omega)]
      have hj : ∀ (u' : Nat) x, u' < 64 → (i + 1 < L.length → hasM g (i + 1) u') → dbestr_j1 N (dbestr_l1 N n) u' L.length i g (out ++ [x]) = some (out ++ [x] ++ blR (canT A B s) t F.length d (i + 1) u') := fun u' x hu' hh' => by
        have := dbestr_l1_p hF hL hg n d (i + 1) u' (out ++ [x]) (by omega) (by omega) hu' (by simp; omega) hh'
        rw [nat_succ] at this
        unfold dbestr_j1
        rw [chk_eq (by omega), this]
      rw [blR]
      rcases rs_fnd (can := canT A B s) (t := t) (m := F.length) (d := d) (i := i) (u := u) with ⟨h1, _⟩ | ⟨k, h1, h2, h3, _⟩
      · rw [h1, br_nd (by first | trivial | rfl), if_pos rfl, hj u _ hu (fun hi => (hg.clo i u (hh (by omega)) hi).1)]
        simp
      · obtain ⟨k1, k2⟩ := mem_mayL.1 h2
        obtain ⟨q, hq, p1, p2⟩ := pow_small (k := k) (by omega)
        rw [h1, br_nnd (show ¬ ((k : Int) = -1) by omega)]
        rw [grd_eq (by rw [decide_eq_true_eq]; exact (show (0 : Int) ≤ (k : Int) ∧ (k : Int) ≤ 62 by omega)), p1, chk_eq (by omega), grd_eq (by rw [decide_eq_true_eq]; omega), if_neg (show ¬ ((k : Int) = -1) by omega)]
        simp only [Int.toNat_natCast]
        subst hq
        rw [hj _ _ (or_small hu (by omega)) (fun hi => (hg.clo i u (hh (by omega)) hi).2 k h2 h3)]
        simp
theorem dbestr_v {t : Nat → Nat → Int} (hN : 110 ≤ N) (hF : F.length ≤ 6) (hL : L.length ≤ 6) (ht : ∀ i k, 0 ≤ t i k ∧ t i k ≤ 30000) (htv : ∀ i k : Nat, i < L.length → k < F.length → taster_S N i k (dkT W s L F R A B) = some (t i k)) :
    dbestr_S N (dkT W s L F R A B) (dkT W s L F R A B) = some (blR (canT A B s) t F.length L.length 0 0) := by
  obtain ⟨g, e1, e2, e3⟩ := restsr_v hN hF hL ht htv (u := 0) (by omega)
  unfold dbestr_S
  rw [show ((0 : Nat) : Int) = 0 from rfl] at e1
  rw [e1]
  simp only [Option.bind_some]
  have hdl : (dkT W s L F R A B).2.2.1.length = L.length := rfl
  rw [hdl]
  by_cases h0 : 0 < L.length
  · obtain ⟨hg, hh⟩ := e2 h0
    have := dbestr_l1_p (N := N) hF hL hg N L.length 0 0 [] (by omega) (by omega) (by omega) (by simp) (fun _ => hh)
    rw [show ((0 : Nat) : Int) = 0 from rfl, List.nil_append] at this
    rw [this]; rfl
  · have hz : L.length = 0 := by omega
    obtain ⟨M, rfl⟩ : ∃ M, N = M + 1 := ⟨N - 1, by omega⟩
    rw [dbestr_l1, hz, br_ndec (by omega)]
    simp [blR]

theorem first_v (hN : 110 ≤ N) (hF : F.length ≤ 6) (hL : L.length ≤ 6) (hA : ∀ i k, 0 ≤ A i k ∧ A i k ≤ 50) {u : Nat} (hu : u < 64) : first_S N (dkT W s L F R A B) u = some (rsR (canT A B s) A F.length L.length 0 u) := by
  obtain ⟨g, e1, _, e3⟩ := restsp_v (N := N) (W := W) (s := s) (R := R) (B := B) (A := A) (t := A) hN hF hL (fun i k => by have := hA i k; omega) (fun i k hi hk => tastep_v (by omega) (by omega)) hu
  unfold first_S
  rw [show plain_S N (dkT W s L F R A B) = some (dkT W s L F R A B) from rfl]
  simp only [Option.bind_some]
  rw [e1]
  simp only [Option.bind_some]
  unfold lkM at e3
  rw [e3]; rfl
end
end Go.Proofs.Ythncjilcflilcaa

namespace Go.Proofs.Ythncjilcflilcaa
set_option linter.all false
open Go

/-- All lists of numbers from -1 up to below m. -/
def rowX (m : Nat) (r : List Int) : List (List Int) := (List.range (m + 1)).map fun (k : Nat) => r ++ [(k : Int) - 1]
def listsR (m : Nat) : Nat → List (List Int)
  | 0 => [[]]
  | n + 1 => (listsR m n).flatMap (rowX m)
theorem mem_listsR {m : Nat} : ∀ {n : Nat} {l : List Int}, l ∈ listsR m n ↔ l.length = n ∧ ∀ x ∈ l, -1 ≤ x ∧ x ≤ (m : Int) - 1
  | 0, l => by
    simp only [listsR, List.mem_singleton]
    constructor
    · rintro rfl; exact ⟨rfl, fun x hx => by cases hx⟩
    · rintro ⟨h, _⟩; exact List.eq_nil_of_length_eq_zero h
  | n + 1, l => by
    simp only [listsR, rowX, List.mem_flatMap, List.mem_map, List.mem_range]
    constructor
    · rintro ⟨r, hr, k, hk, rfl⟩
      obtain ⟨h1, h2⟩ := mem_listsR.1 hr
      refine ⟨by simp [h1], fun x hx => ?_⟩
      rcases List.mem_append.1 hx with hx | hx
      · exact h2 x hx
      · simp only [List.mem_singleton] at hx; omega
    · rintro ⟨h1, h2⟩
      have hne : l ≠ [] := fun e => by subst e; simp at h1
      have hlast := h2 _ (List.getLast_mem hne)
      refine ⟨l.dropLast, mem_listsR.2 ⟨by simp [h1], fun x hx => h2 x ((List.dropLast_sublist l).subset hx)⟩, (l.getLast hne + 1).toNat, by omega, ?_⟩
      rw [show (((l.getLast hne + 1).toNat : Nat) : Int) - 1 = l.getLast hne by omega]
      exact List.dropLast_concat_getLast hne
section
variable {N : Nat}
end
/-! ### Joins without an error -/
theorem getD_01 {l : List Int} {i : Nat} (h : i < l.length) : l.getD i 0 = fnJ l i := by simp [fnJ, List.getD, h]
theorem errJ_mt {n m : Nat} {can : Nat → Nat → Bool} {l : List Int} : errJ 0 n m can l = 0 ↔ l ∈ joinsL can m n 0 0 := by
  rw [mem_joinsL, okJ_mt]
  constructor
  · intro h
    obtain ⟨_, h1, h2, h3, h4⟩ := errJ_fine h
    rw [alI_iff] at h3 h4
    refine ⟨h1, ⟨fun i hi => ?_, fun i j hi hj hij he => ?_⟩, fun k hk => by simp at hk⟩
    · have hx := List.all_eq_true.1 h2 _ (getD_mem (d := 0) hi)
      unfold inm at hx
      rw [decide_eq_true_eq, getD_01 hi] at hx
      have hc := h4 i hi
      unfold cnI at hc
      rw [Bool.or_eq_true, decide_eq_true_eq, getD_01 hi] at hc
      rcases hc with hc | hc
      · exact .inl hc
      · by_cases e : fnJ l i = -1
        · exact .inl e
        · exact .inr ⟨(fnJ l i).toNat, by omega, by omega, hc⟩
    · have key : ∀ i j, i < j → j < l.length → fnJ l i = fnJ l j → fnJ l j = -1 := fun i j hij hj he => by
        have hd := h3 j hj
        unfold dupI at hd
        rw [Bool.or_eq_true, decide_eq_true_eq, getD_01 hj, Bool.not_eq_true', ← Bool.not_eq_true, hasB_iff] at hd
        rcases hd with hd | hd
        · exact hd
        · refine absurd ?_ hd
          rw [← he, ← getD_01 (show i < l.length by omega)]
          exact List.mem_iff_getElem.2 ⟨i, by simp; omega, by simp [List.getD, show i < l.length by omega]⟩
      rcases Nat.lt_or_gt_of_ne hij with h | h
      · rw [he]; exact key i j h hj he
      · exact key j i h hi he.symm
  · rintro ⟨hl, h1, _⟩
    have hb : l.all (inm m) = true := by
      rw [List.all_eq_true]
      intro x hx
      obtain ⟨i, hi, rfl⟩ := List.getElem_of_mem hx
      have e : l[i] = fnJ l i := by simp [fnJ, List.getD, hi]
      unfold inm
      rw [decide_eq_true_eq, e]
      rcases h1.ok i hi with h | ⟨k, h, hk, _⟩ <;> omega
    have hd : alI (dupI l) l.length = true := by
      rw [alI_iff]
      intro j hj
      unfold dupI
      rw [Bool.or_eq_true, decide_eq_true_eq, getD_01 hj, Bool.not_eq_true', ← Bool.not_eq_true, hasB_iff]
      by_cases e : fnJ l j = -1
      · exact .inl e
      · refine .inr fun hm => ?_
        obtain ⟨i, hi, he⟩ := List.getElem_of_mem hm
        simp only [List.length_take] at hi
        have hij : i < j := by omega
        refine e (h1.inj j i hj (by omega) (by omega) ?_)
        rw [← he, ← getD_01 (show i < l.length by omega)]
        simp [List.getD, show i < l.length by omega]
    have hc : alI (cnI can l) l.length = true := by
      rw [alI_iff]
      intro i hi
      unfold cnI
      rw [Bool.or_eq_true, decide_eq_true_eq, getD_01 hi]
      rcases h1.ok i hi with h | ⟨k, h, _, hc⟩
      · exact .inl h
      · right; rw [h, Int.toNat_natCast]; exact hc
    unfold errJ
    rw [if_neg (by simp), if_neg (by omega), hb, hd, hc]
    simp
section
variable {W : List Int} {s : Int} {L F : List (List Int)} {R : List Int} {A B : Nat → Nat → Int} {N : Nat}
/-- All joins. -/
def allR (W : List Int) (s : Int) (L F : List (List Int)) : List (List Int) := (listsR F.length L.length).filter fun l => decide (errJ 0 L.length F.length (canF W s L F) l = 0)
theorem mem_allR {l : List Int} : l ∈ allR W s L F ↔ l ∈ joinsL (canF W s L F) F.length L.length 0 0 := by
  unfold allR
  rw [List.mem_filter, decide_eq_true_eq]
  constructor
  · exact fun h => errJ_mt.1 h.2
  · intro h
    have he := errJ_mt.2 h
    refine ⟨mem_listsR.2 ?_, he⟩
    obtain ⟨_, h1, h2, _⟩ := errJ_fine he
    refine ⟨h1, fun x hx => ?_⟩
    have := List.all_eq_true.1 h2 x hx
    unfold inm at this
    rwa [decide_eq_true_eq] at this
theorem joins_facts {l : List Int} (h : l ∈ joinsL (canF W s L F) F.length L.length 0 0) : l.length = L.length ∧ l.all (inm F.length) = true := by
  obtain ⟨_, h1, h2, _⟩ := errJ_fine (errJ_mt.2 h)
  exact ⟨h1, h2⟩
/-- The greatest worth, and in how many ways. -/
def bestV (W : List Int) (s : Int) (L F : List (List Int)) : Int := (rsR (canF W s L F) (agF W L F) F.length L.length 0 0).2.1
def bestN (W : List Int) (s : Int) (L F : List (List Int)) : Int := (rsR (canF W s L F) (agF W L F) F.length L.length 0 0).2.2
/-- All best joins. -/
def bestR (W : List Int) (s : Int) (L F : List (List Int)) : List (List Int) := (allR W s L F).filter fun l => decide (valJ (agF W L F) 0 l = bestV W s L F)
theorem best_le {l : List Int} (h : l ∈ joinsL (canF W s L F) F.length L.length 0 0) : valJ (agF W L F) 0 l ≤ bestV W s L F := (rs_bst (can := canF W s L F) (t := agF W L F) (m := F.length) L.length 0 0).le l h
theorem bl_mem {t : Nat → Nat → Int} : blR (canF W s L F) t F.length L.length 0 0 ∈ joinsL (canF W s L F) F.length L.length 0 0 := by
  obtain ⟨q1, q2, _⟩ := bl_best (can := canF W s L F) (t := t) (m := F.length) L.length 0 0
  exact mem_joinsL.2 ⟨q2, q1⟩
theorem bl_val : valJ (agF W L F) 0 (blR (canF W s L F) (agF W L F) F.length L.length 0 0) = bestV W s L F := (bl_best (can := canF W s L F) (t := agF W L F) (m := F.length) L.length 0 0).2.2
theorem mem_bestR {l : List Int} : l ∈ bestR W s L F ↔ l ∈ joinsL (canF W s L F) F.length L.length 0 0 ∧ valJ (agF W L F) 0 l = bestV W s L F := by
  unfold bestR
  rw [List.mem_filter, mem_allR, decide_eq_true_eq]
end
end Go.Proofs.Ythncjilcflilcaa

namespace Go.Proofs.Ythncjilcflilcaa
set_option linter.all false
open Go

section
variable {W : List Int} {s : Int} {L F : List (List Int)} {R : List Int} {A B : Nat → Nat → Int} {N : Nat}
/-- Best joins. -/
abbrev bestL (W : List Int) (s : Int) (L F : List (List Int)) : List Int := blR (canF W s L F) (agF W L F) F.length L.length 0 0
abbrev richL (W : List Int) (s : Int) (L F : List (List Int)) (R : List Int) : List Int := blR (canF W s L F) (richT (agF W L F) R) F.length L.length 0 0
abbrev rewT (R : List Int) : Nat → Nat → Int := fun i _ => R.getD i 0
theorem best_v (hN : 110 ≤ N) (h : Sm W L F R) : best_S N W s L F R = some (if errD W s L F R = 0 then (bestL W s L F, bestV W s L F, 0) else ([], 0, errD W s L F R)) := by
  unfold best_S
  rw [opened_v hN h]
  by_cases c : errD W s L F R = 0
  rotate_left
  · rw [if_neg c, if_neg c]
    simp only [Option.bind_some]
    rw [br_nnd c]
  have hF := errD_iff.1 c
  rw [if_pos c, if_pos c]
  simp only [Option.bind_some]
  rw [br_nd (by first | trivial | rfl)]
  unfold dkO
  rw [show plain_S N (dkT W s L F R (agF W L F) (slF W L F)) = some (dkT W s L F R (agF W L F) (slF W L F)) from rfl]
  simp only [Option.bind_some]
  have hl6 := hF.l6; have hf6 := hF.f6
  rw [dbestp_v hN hf6 hl6 (t := agF W L F) (fun i k => by have := agF_bound hF i k; omega) (fun i k hi hk => tastep_v (by omega) (by omega))]
  simp only [Option.bind_some]
  obtain ⟨j1, j2⟩ := joins_facts (W := W) (s := s) (L := L) (F := F) (bl_mem (t := agF W L F))
  rw [dworth_v hN (agF_bound hF) (by omega) hf6 j2, bl_val]; rfl
theorem richest_v (hN : 110 ≤ N) (h : Sm W L F R) : richest_S N W s L F R = some (if errD W s L F R = 0 then (richL W s L F R, valJ (rewT R) 0 (richL W s L F R), 0) else ([], 0, errD W s L F R)) := by
  unfold richest_S
  rw [opened_v hN h]
  by_cases c : errD W s L F R = 0
  rotate_left
  · rw [if_neg c, if_neg c]
    simp only [Option.bind_some]
    rw [br_nnd c]
  have hF := errD_iff.1 c
  rw [if_pos c, if_pos c]
  simp only [Option.bind_some]
  rw [br_nd (by first | trivial | rfl)]
  unfold dkO
  rw [show rich_S N (dkT W s L F R (agF W L F) (slF W L F)) = some (dkT W s L F R (agF W L F) (slF W L F)) from rfl]
  simp only [Option.bind_some]
  have hl6 := hF.l6; have hf6 := hF.f6; have hrl := hF.rl
  rw [dbestr_v hN hf6 hl6 (t := richT (agF W L F) R) (fun i k => by have := agF_bound hF i k; have := getD_R hF.r i; unfold richT; omega) (fun i k hi hk => taster_v (agF_bound hF) hF.r (by omega) (by omega) (by omega))]
  simp only [Option.bind_some]
  obtain ⟨j1, j2⟩ := joins_facts (W := W) (s := s) (L := L) (F := F) (bl_mem (t := richT (agF W L F) R))
  rw [dreward_v hN hF.r (Nat.le_trans (Nat.le_of_eq j1) hl6) (Nat.le_of_eq (j1.trans hrl.symm))]; rfl
theorem count_v (hN : 110 ≤ N) (h : Sm W L F R) : count_S N W s L F R = some (if errD W s L F R = 0 then (bestN W s L F, 0) else (0, errD W s L F R)) := by
  unfold count_S
  rw [opened_v hN h]
  by_cases c : errD W s L F R = 0
  rotate_left
  · rw [if_neg c, if_neg c]
    simp only [Option.bind_some]
    rw [br_nnd c]
  have hF := errD_iff.1 c
  rw [if_pos c, if_pos c]
  simp only [Option.bind_some]
  rw [br_nd (by first | trivial | rfl)]
  unfold dkO
  have := first_v (N := N) (W := W) (s := s) (R := R) (B := slF W L F) hN hF.f6 hF.l6 (agF_bound hF) (u := 0) (by omega)
  rw [show ((0 : Nat) : Int) = 0 from rfl] at this
  rw [this]; rfl
/-! ### Rewards -/
theorem valJ_rich (A : Nat → Nat → Int) (R : List Int) : ∀ (l : List Int) (i : Nat), valJ (richT A R) i l = 595 * valJ A i l + valJ (rewT R) i l
  | [], _ => rfl
  | x :: l, i => by
    rw [valJ, valJ, valJ, valJ_rich A R l (i + 1)]
    unfold pv
    split
    · omega
    · have e : rewT R i x.toNat = R.getD i 0 := rfl
      unfold richT; omega
theorem rich_facts (h : Fine W s L F R) : valJ (agF W L F) 0 (richL W s L F R) = bestV W s L F ∧ ∀ l ∈ bestR W s L F, valJ (rewT R) 0 l ≤ valJ (rewT R) 0 (richL W s L F R) := by
  have hr : ∀ l : List Int, l.length = L.length → 0 ≤ valJ (rewT R) 0 l ∧ valJ (rewT R) 0 l ≤ 594 := fun l hl => by
    have := valJ_bound (t := rewT R) (m := 99) (fun i _ => getD_R h.r i) (by omega) l 0
    have := h.l6; omega
  have hle : ∀ l ∈ joinsL (canF W s L F) F.length L.length 0 0, valJ (richT (agF W L F) R) 0 l ≤ valJ (richT (agF W L F) R) 0 (richL W s L F R) := fun l hl => by
    have h1 := (rs_bst (can := canF W s L F) (t := richT (agF W L F) R) (m := F.length) L.length 0 0).le l hl
    rw [← (bl_best (can := canF W s L F) (t := richT (agF W L F) R) (m := F.length) L.length 0 0).2.2] at h1
    exact h1
  have hm : richL W s L F R ∈ joinsL (canF W s L F) F.length L.length 0 0 := bl_mem
  have h1 := hle _ (bl_mem (W := W) (s := s) (L := L) (F := F) (t := agF W L F))
  rw [valJ_rich, valJ_rich, bl_val] at h1
  have h2 := hr _ (joins_facts hm).1
  have h3 := hr _ (joins_facts (bl_mem (W := W) (s := s) (L := L) (F := F) (t := agF W L F))).1
  have h4 := best_le hm
  have h5 : valJ (agF W L F) 0 (richL W s L F R) = bestV W s L F := by omega
  refine ⟨h5, fun l hl => ?_⟩
  obtain ⟨l1, l2⟩ := mem_bestR.1 hl
  have := hle l l1
  rw [valJ_rich, valJ_rich, h5, l2] at this
  omega
/-! ### Prices -/
def vK (W : List Int) (s : Int) (L F : List (List Int)) (k : Nat) : Int := (rsR (canF W s L F) (agF W L F) F.length L.length 0 (2 ^ k)).2.1
theorem isMaxK (k : Nat) : IsMax L.length F.length (canF W s L F) (agF W L F) (· = k) (vK W s L F k) := (rs_max (can := canF W s L F) (t := agF W L F) (m := F.length) L.length (2 ^ k)).congr (fun j => by rw [Nat.testBit_two_pow, decide_eq_true_eq]; exact eq_comm)
theorem map_succ (f : Nat → Int) (k : Nat) : (List.range (k + 1)).map f = (List.range k).map f ++ [f k] := by rw [List.range_succ, List.map_append]; rfl
theorem mapR_sum (f : Nat → Int) : ∀ n : Nat, ((List.range n).map f).sum = sumN f n
  | 0 => rfl
  | n + 1 => by rw [map_succ, List.sum_append, mapR_sum f n, sumN]; simp
end
end Go.Proofs.Ythncjilcflilcaa

namespace Go.Proofs.Ythncjilcflilcaa
set_option linter.all false
open Go

section
variable {N : Nat}
end
section
variable {W : List Int} {s : Int} {L F : List (List Int)} {R : List Int} {A B : Nat → Nat → Int} {N : Nat}
end
end Go.Proofs.Ythncjilcflilcaa

namespace Go.Proofs.Ythncjilcflilcaa
set_option linter.all false
open Go

section
variable {W : List Int} {s : Int} {L F : List (List Int)} {R : List Int} {A B : Nat → Nat → Int} {N : Nat}
/-! ### The reference -/
end
end Go.Proofs.Ythncjilcflilcaa

namespace Go.Proofs.Ythncjilcflilcaa
set_option linter.all false
open Go

section
variable {W : List Int} {s : Int} {L F : List (List Int)} {R : List Int} {A B : Nat → Nat → Int} {N : Nat}
/-! ### What is spare -/
/-- What is spare. -/
def spareR (W : List Int) (s : Int) (L F : List (List Int)) (n : Nat) : List Int := ((List.range n).filter fun k => decide (vK W s L F k = bestV W s L F)).map fun (k : Nat) => (k : Int)
theorem spareR_succ (n : Nat) : spareR W s L F (n + 1) = spareR W s L F n ++ (if vK W s L F n = bestV W s L F then [(n : Int)] else []) := by
  unfold spareR
  rw [List.range_succ, List.filter_append, List.map_append]
  congr 1
  rw [List.filter_cons]
  by_cases h : vK W s L F n = bestV W s L F
  · rw [if_pos (decide_eq_true h), if_pos h]; rfl
  · rw [if_neg (by rw [decide_eq_true_eq]; exact h), if_neg h]; rfl
theorem spareR_len (n : Nat) : (spareR W s L F n).length ≤ n := by
  have := List.length_filter_le (fun k => decide (vK W s L F k = bestV W s L F)) (List.range n)
  simpa [spareR] using this
theorem spare_l1_p (hN : 110 ≤ N) (h : Fine W s L F R) : ∀ n k : Nat, F.length < n + k → k ≤ F.length → spare_l1 N n (dkO W s L F R) F.length k (spareR W s L F k) = some (spareR W s L F F.length)
  | 0, k, hn, _ => by omega
  | n + 1, k, hn, hk => by
    unfold spare_l1
    have hf6 := h.f6; have hl6 := h.l6
    by_cases c : k < F.length
    · have ih := spare_l1_p hN h n (k + 1) (by omega) (by omega)
      rw [nat_succ, spareR_succ] at ih
      obtain ⟨q, hq, p1, p2⟩ := pow_small (k := k) (by omega)
      have hlen := spareR_len (W := W) (s := s) (L := L) (F := F) k
      have e1 := first_v (N := N) (W := W) (s := s) (R := R) (B := slF W L F) hN hf6 hl6 (agF_bound h) (u := q) p2
      have e0 := first_v (N := N) (W := W) (s := s) (R := R) (B := slF W L F) hN hf6 hl6 (agF_bound h) (u := 0) (by omega)
      rw [show ((0 : Nat) : Int) = 0 from rfl] at e0
      rw [br_dec (by omega), grd_eq (by rw [decide_eq_true_eq]; omega), p1, chk_eq (by omega), show first_S N (dkO W s L F R) (q : Int) = _ from e1]
      simp only [Option.bind_some]
      rw [show first_S N (dkO W s L F R) 0 = _ from e0]
      simp only [Option.bind_some]
      subst hq
      have ev : (rsR (canT (agF W L F) (slF W L F) s) (agF W L F) F.length L.length 0 0).2.1 = bestV W s L F := rfl
      have ek : (rsR (canT (agF W L F) (slF W L F) s) (agF W L F) F.length L.length 0 (2 ^ k)).2.1 = vK W s L F k := rfl
      rw [ev, ek]
      unfold spare_j1
      by_cases d : vK W s L F k = bestV W s L F
      · rw [if_pos d] at ih
        rw [br_dec d, lim_eq (by simp; omega), chk_eq (by omega), ih]
      · rw [if_neg d, List.append_nil] at ih
        rw [br_ndec d, chk_eq (by omega), ih]
    · obtain rfl : k = F.length := by omega
      rw [br_ndec (by omega)]
theorem spare_v (hN : 110 ≤ N) (h : Sm W L F R) : spare_S N W s L F R = some (if errD W s L F R = 0 then (spareR W s L F F.length, 0) else ([], errD W s L F R)) := by
  unfold spare_S
  rw [opened_v hN h]
  by_cases c : errD W s L F R = 0
  rotate_left
  · rw [if_neg c, if_neg c]
    simp only [Option.bind_some]
    rw [br_nnd c]
  have hF := errD_iff.1 c
  have e := spare_l1_p hN hF N 0 (by have := hF.f6; omega) (by omega)
  rw [show ((0 : Nat) : Int) = 0 from rfl, show spareR W s L F 0 = [] from rfl] at e
  rw [if_pos c, if_pos c]
  simp only [Option.bind_some]
  rw [br_nd (by first | trivial | rfl), e]; rfl
end
end Go.Proofs.Ythncjilcflilcaa

namespace Go.Proofs.Ythncjilcflilcaa
set_option linter.all false
open Go
/-! ### Bells -/
theorem wrap32 (x : Int) : 0 ≤ IntKind.u32.wrap x ∧ IntKind.u32.wrap x < 4294967296 := by
  have := wrap_inR .u32 x
  have h1 : IntKind.u32.min = 0 := by decide
  have h2 : IntKind.u32.max = 4294967295 := by decide
  unfold inR at this
  rw [h1, h2] at this
  omega
def Bell (b : List Int) (b2 : Int) : Prop := b.length ≤ 9223372036854775807 ∧ 0 ≤ b2 ∧ b2 ≤ b.length
abbrev BellR (b : List Int) (r : List Int × Int × Int) : Prop := r.1 = b ∧ Bell b r.2.1
theorem and_small (n : Nat) : 0 ≤ IntKind.i64.wrap ((n &&& 65535 : Nat) : Int) ∧ IntKind.i64.wrap ((n &&& 65535 : Nat) : Int) ≤ 65535 := by
  have : n &&& 65535 ≤ 65535 := Nat.and_le_right
  rw [wrap64 (by omega)]
  omega
theorem fdiv_nonneg {x : Int} (h : 0 ≤ x) : 0 ≤ Int.fdiv x (2 ^ 7) := by
  rw [Int.fdiv_eq_ediv_of_nonneg _ (by decide)]
  exact Int.ediv_nonneg h (by decide)
theorem ring_j1_ok (N : Nat) {b : List Int} {b2 b3 : Int} (hb : b.length ≤ 9223372036854775807) (h0 : 0 ≤ b2) (h1 : b2 < b.length ∨ b.length = 0 ∧ b2 = 0) : Ok (ring_j1 N b b2 b3) fun r => (0 ≤ r.1 ∧ r.1 ≤ 65535) ∧ BellR b r.2 := by
  unfold ring_j1
  refine Ok.brd (fun h => ?_) (fun h => ?_)
  · refine Ok.idx h0 (by omega) (fun a _ _ => Ok.chk (by omega) (Ok.grd ?_ (Ok.grd ?_ (Ok.some ?_))))
    · simp only [decide_eq_true_eq]; exact ⟨(wrap32 _).1, fdiv_nonneg (wrap32 _).1⟩
    · simp only [decide_eq_true_eq]; exact ⟨Int.natCast_nonneg _, by decide⟩
    · exact ⟨and_small _, rfl, hb, by dsimp only; omega, by dsimp only; omega⟩
  · refine Ok.grd ?_ (Ok.grd ?_ (Ok.some ?_))
    · simp only [decide_eq_true_eq]; exact ⟨(wrap32 _).1, fdiv_nonneg (wrap32 _).1⟩
    · simp only [decide_eq_true_eq]; exact ⟨Int.natCast_nonneg _, by decide⟩
    · exact ⟨and_small _, rfl, hb, by dsimp only; omega, by dsimp only; omega⟩
theorem ring_ok (N : Nat) {b : List Int} {b2 b3 : Int} (hb : Bell b b2) : Ok (ring_S N b b2 b3) fun r => (0 ≤ r.1 ∧ r.1 ≤ 65535) ∧ BellR b r.2 := by
  obtain ⟨h1, h2, h3⟩ := hb
  unfold ring_S
  refine Ok.brd (fun h => ring_j1_ok N h1 (by omega) (by omega)) (fun h => ring_j1_ok N h1 h2 (by omega))
theorem stroke_ok (N : Nat) {n : Int} {b : List Int} {b2 b3 : Int} (hb : Bell b b2) (hn : -1000000 ≤ n ∧ n ≤ 1000000) : Ok (stroke_S N n b b2 b3) fun r => (0 ≤ r.1 ∧ r.1 ≤ max 0 n) ∧ BellR b r.2 := by
  unfold stroke_S
  refine Ok.bind (ring_ok N hb) (fun r hr => ?_)
  obtain ⟨x, c, c2, c3⟩ := r
  refine Ok.chk (by omega) (Ok.grd (by simp only [Bool.not_eq_true', decide_eq_false_iff_not]; omega) (Ok.some ⟨?_, hr.2⟩))
  obtain ⟨⟨h1, h2⟩, _⟩ := hr
  dsimp only at *
  have hm : 0 < max 1 (n + 1) := by omega
  have := Int.tmod_lt_of_pos x hm
  have := Int.tmod_nonneg (max 1 (n + 1)) h1
  omega
theorem strike_ok (N : Nat) {lo hi : Int} {b : List Int} {b2 b3 : Int} (hb : Bell b b2) (hn : (-1000 ≤ lo ∧ lo ≤ 1000) ∧ -1000 ≤ hi ∧ hi ≤ 1000) : Ok (strike_S N lo hi b b2 b3) fun r => (lo ≤ r.1 ∧ r.1 ≤ max lo hi) ∧ BellR b r.2 := by
  unfold strike_S
  refine Ok.chk (by omega) (Ok.bind (stroke_ok N hb (by omega)) (fun r hr => ?_))
  obtain ⟨x, c, c2, c3⟩ := r
  obtain ⟨h, h2⟩ := hr
  dsimp only at *
  refine Ok.chk (by omega) (Ok.some ⟨by dsimp only; omega, h2⟩)
theorem seldom_ok (N : Nat) {n : Int} {b : List Int} {b2 b3 : Int} (hb : Bell b b2) (hn : -1000 ≤ n ∧ n ≤ 1000) : Ok (seldom_S N n b b2 b3) fun r => BellR b r.2 := by
  unfold seldom_S
  refine Ok.chk (by omega) (Ok.bind (stroke_ok N hb (by omega)) (fun r hr => ?_))
  obtain ⟨x, c, c2, c3⟩ := r
  exact Ok.some hr.2

def BelR (b b' : List Int) (b2 : Int) : Prop := b' = b ∧ Bell b b2
/-! ### Desks -/
section
variable {N : Nat} {b : List Int}
theorem made1_ok {often b2 b3 : Int} (ho : -1000 ≤ often ∧ often ≤ 1000) (hb : Bell b b2) : Ok (made1_S N often b b2 b3) fun r => (-1 ≤ r.1 ∧ r.1 ≤ 5) ∧ BelR b r.2.1 r.2.2.1 := by
  unfold made1_S
  refine Ok.bind (seldom_ok N hb ho) ?_
  rintro ⟨x, c1, c2, c3⟩ ⟨hc, hb1⟩
  dsimp only at hc hb1 ⊢
  obtain rfl := hc.symm
  refine Ok.br (fun _ => Ok.some ⟨by dsimp only; omega, rfl, hb1⟩) (fun _ => ?_)
  refine Ok.bind (stroke_ok N hb1 (by omega)) ?_
  rintro ⟨y, d1, d2, d3⟩ ⟨hy, hc, hb2⟩
  dsimp only at hy hc hb2 ⊢
  obtain rfl := hc.symm
  exact Ok.some ⟨by dsimp only; omega, rfl, hb2⟩
theorem made_l1_p {things u g d : Int} (hu : 0 ≤ u ∧ u ≤ 100) : ∀ (n k : Nat) (b2 b3 : Int) (W : List Int), u < n + k → (k : Int) ≤ u → Bell b b2 → W.length = k → (∀ x ∈ W, 1 ≤ x ∧ x ≤ 9) →
    Ok (made_l1 N n things u k b b2 b3 g d W) fun z => z.1 = things ∧ BelR b z.2.1 z.2.2.1 ∧ z.2.2.2.2.1 = g ∧ z.2.2.2.2.2.1 = d ∧ (z.2.2.2.2.2.2.length : Int) = u ∧ ∀ x ∈ z.2.2.2.2.2.2, 1 ≤ x ∧ x ≤ 9
  | 0, k, b2, b3, W, h, _, _, _, _ => by omega
  | n + 1, k, b2, b3, W, h, hk, hb, hW, hw => by
    unfold made_l1
    refine Ok.brd (fun c => ?_) (fun c => Ok.some ⟨rfl, ⟨rfl, hb⟩, rfl, rfl, by dsimp only; omega, hw⟩)
    refine Ok.bind (strike_ok N hb (by omega)) ?_
    rintro ⟨x, c1, c2, c3⟩ ⟨hx, hc, hb1⟩
    dsimp only at hx hc hb1 ⊢
    obtain rfl := hc.symm
    refine Ok.lim (by simp; omega) (Ok.chk (by omega) ?_)
    have := made_l1_p (things := things) (g := g) (d := d) hu n (k + 1) c2 c3 (W ++ [x]) (by omega) (by omega) hb1 (by simp [hW]) (fun w hm => by
      rcases List.mem_append.1 hm with hm | hm
      · exact hw w hm
      · simp at hm; subst hm; omega)
    rw [nat_succ] at this
    exact this
theorem made_l3_p {many often u u2 u3 g d : Int} {d2 : List Int} {d3 : List (List Int)} {d4 : List Int} (ho : 2 ≤ often ∧ often ≤ 5) (hu : 0 ≤ u3 ∧ u3 ≤ 100) : ∀ (n k : Nat) (b2 b3 : Int) (l : List Int), u3 < n + k → (k : Int) ≤ u3 → Bell b b2 → l.length = k → (∀ x ∈ l, -1 ≤ x ∧ x ≤ 5) →
    Ok (made_l3 N n many often u u2 u3 k b b2 b3 g d l d2 d3 d4) fun z => ∃ b2' b3' l', z = (many, often, u, u2, b, b2', b3', g, d, l', d2, d3, d4) ∧ Bell b b2' ∧ (l'.length : Int) = u3 ∧ ∀ x ∈ l', -1 ≤ x ∧ x ≤ 5
  | 0, k, b2, b3, l, h, _, _, _, _ => by omega
  | n + 1, k, b2, b3, l, h, hk, hb, hW, hw => by
    unfold made_l3
    refine Ok.brd (fun c => ?_) (fun c => Ok.some ⟨b2, b3, l, rfl, hb, by omega, hw⟩)
    refine Ok.bind (made1_ok (by omega) hb) ?_
    rintro ⟨x, c1, c2, c3⟩ ⟨hx, hc, hb1⟩
    dsimp only at hx hc hb1 ⊢
    obtain rfl := hc.symm
    refine Ok.lim (by simp; omega) (Ok.chk (by omega) ?_)
    have := made_l3_p (many := many) (often := often) (u := u) (u2 := u2) (g := g) (d := d) (d2 := d2) (d3 := d3) (d4 := d4) ho hu n (k + 1) c2 c3 (l ++ [x]) (by omega) (by omega) hb1 (by simp [hW]) (fun w hm => by
      rcases List.mem_append.1 hm with hm | hm
      · exact hw w hm
      · simp at hm; subst hm; omega)
    rw [nat_succ] at this
    exact this
theorem made_l5_p {often u u2 u3 g d : Int} {d2 : List Int} {d3 d4 : List (List Int)} {d5 : List Int} (ho : 2 ≤ often ∧ often ≤ 5) (hu : 0 ≤ u3 ∧ u3 ≤ 100) : ∀ (n k : Nat) (b2 b3 : Int) (l : List Int), u3 < n + k → (k : Int) ≤ u3 → Bell b b2 → l.length = k → (∀ x ∈ l, -1 ≤ x ∧ x ≤ 5) →
    Ok (made_l5 N n often u u2 u3 k b b2 b3 g d l d2 d3 d4 d5) fun z => ∃ b2' b3' l', z = (often, u, u2, b, b2', b3', g, d, l', d2, d3, d4, d5) ∧ Bell b b2' ∧ (l'.length : Int) = u3 ∧ ∀ x ∈ l', -1 ≤ x ∧ x ≤ 5
  | 0, k, b2, b3, l, h, _, _, _, _ => by omega
  | n + 1, k, b2, b3, l, h, hk, hb, hW, hw => by
    unfold made_l5
    refine Ok.brd (fun c => ?_) (fun c => Ok.some ⟨b2, b3, l, rfl, hb, by omega, hw⟩)
    refine Ok.bind (made1_ok (by omega) hb) ?_
    rintro ⟨x, c1, c2, c3⟩ ⟨hx, hc, hb1⟩
    dsimp only at hx hc hb1 ⊢
    obtain rfl := hc.symm
    refine Ok.lim (by simp; omega) (Ok.chk (by omega) ?_)
    have := made_l5_p (often := often) (u := u) (u2 := u2) (g := g) (d := d) (d2 := d2) (d3 := d3) (d4 := d4) (d5 := d5) ho hu n (k + 1) c2 c3 (l ++ [x]) (by omega) (by omega) hb1 (by simp [hW]) (fun w hm => by
      rcases List.mem_append.1 hm with hm | hm
      · exact hw w hm
      · simp at hm; subst hm; omega)
    rw [nat_succ] at this
    exact this
/-- Descriptions of so many traits. -/
def okRow (m : Nat) (r : List Int) : Prop := r.length = m ∧ ∀ x ∈ r, -1 ≤ x ∧ x ≤ 5
theorem made_l2_p (hN : 110 ≤ N) {many often u g d : Int} {W : List Int} (hW : W.length ≤ 5) (ho : 2 ≤ often ∧ often ≤ 5) (hu : 0 ≤ u ∧ u ≤ 6) : ∀ (n k : Nat) (b2 b3 : Int) (L : List (List Int)) (R : List Int), u < n + k → (k : Int) ≤ u → Bell b b2 → L.length = k → R.length = k → (∀ r ∈ L, okRow W.length r) → (∀ x ∈ R, 0 ≤ x ∧ x ≤ 99) →
    Ok (made_l2 N n many often u k b b2 b3 g d W L R) fun z => ∃ b2' b3' L' R', z = (many, often, b, b2', b3', g, d, W, L', R') ∧ Bell b b2' ∧ ((L'.length : Int) = u ∧ R'.length = L'.length) ∧ (∀ r ∈ L', okRow W.length r) ∧ ∀ x ∈ R', 0 ≤ x ∧ x ≤ 99
  | 0, k, b2, b3, L, R, h, _, _, _, _, _, _ => by omega
  | n + 1, k, b2, b3, L, R, h, hk, hb, hL, hR, hl, hr => by
    unfold made_l2
    refine Ok.brd (fun c => ?_) (fun c => Ok.some ⟨b2, b3, L, R, rfl, hb, ⟨by omega, by omega⟩, hl, hr⟩)
    have e := made_l3_p (N := N) (many := many) (often := often) (u := u) (u2 := (k : Int)) (u3 := W.length) (g := g) (d := d) (d2 := W) (d3 := L) (d4 := R) ho (by omega) N 0 b2 b3 [] (by omega) (by omega) hb rfl (fun x h => by cases h)
    rw [show ((0 : Nat) : Int) = 0 from rfl] at e
    refine Ok.bind e ?_
    rintro _ ⟨b2', b3', l', rfl, hb1, hl1, hl2⟩
    dsimp only
    refine Ok.lim (by simp; omega) (Ok.bind (stroke_ok N hb1 (by omega)) ?_)
    rintro ⟨y, d1, d2, d3⟩ ⟨hy, hc, hb2⟩
    dsimp only at hy hc hb2 ⊢
    obtain rfl := hc.symm
    refine Ok.lim (by simp; omega) (Ok.chk (by omega) ?_)
    have := made_l2_p hN (many := many) (g := g) (d := d) hW ho hu n (k + 1) d2 d3 (L ++ [l']) (R ++ [y]) (by omega) (by omega) hb2 (by simp [hL]) (by simp [hR]) (fun r hm => by
      rcases List.mem_append.1 hm with hm | hm
      · exact hl r hm
      · simp at hm; subst hm; exact ⟨by omega, hl2⟩) (fun x hm => by
      rcases List.mem_append.1 hm with hm | hm
      · exact hr x hm
      · simp at hm; subst hm; omega)
    rw [nat_succ] at this
    exact this
theorem made_l4_p (hN : 110 ≤ N) {often u g d : Int} {W R : List Int} {L : List (List Int)} (hW : W.length ≤ 5) (ho : 2 ≤ often ∧ often ≤ 5) (hu : 0 ≤ u ∧ u ≤ 6) : ∀ (n k : Nat) (b2 b3 : Int) (F : List (List Int)), u < n + k → (k : Int) ≤ u → Bell b b2 → F.length = k → (∀ r ∈ F, okRow W.length r) →
    Ok (made_l4 N n often u k b b2 b3 g d W L F R) fun z => ∃ b2' b3' F', z = (b, b2', b3', g, d, W, L, F', R) ∧ Bell b b2' ∧ (F'.length : Int) = u ∧ ∀ r ∈ F', okRow W.length r
  | 0, k, b2, b3, F, h, _, _, _, _ => by omega
  | n + 1, k, b2, b3, F, h, hk, hb, hL, hl => by
    unfold made_l4
    refine Ok.brd (fun c => ?_) (fun c => Ok.some ⟨b2, b3, F, rfl, hb, by omega, hl⟩)
    have e := made_l5_p (N := N) (often := often) (u := u) (u2 := (k : Int)) (u3 := W.length) (g := g) (d := d) (d2 := W) (d3 := L) (d4 := F) (d5 := R) ho (by omega) N 0 b2 b3 [] (by omega) (by omega) hb rfl (fun x h => by cases h)
    rw [show ((0 : Nat) : Int) = 0 from rfl] at e
    refine Ok.bind e ?_
    rintro _ ⟨b2', b3', l', rfl, hb1, hl1, hl2⟩
    dsimp only
    refine Ok.lim (by simp; omega) (Ok.chk (by omega) ?_)
    have := made_l4_p hN (g := g) (d := d) (L := L) (R := R) hW ho hu n (k + 1) b2' b3' (F ++ [l']) (by omega) (by omega) hb1 (by simp [hL]) (fun r hm => by
      rcases List.mem_append.1 hm with hm | hm
      · exact hl r hm
      · simp at hm; subst hm; exact ⟨by omega, hl2⟩)
    rw [nat_succ] at this
    exact this
theorem made_v (hN : 110 ≤ N) {things b2 b3 : Int} (ht : 0 ≤ things ∧ things ≤ 6) (hb : Bell b b2) :
    Ok (made_S N things b b2 b3) fun z => Fine z.1 z.2.1 z.2.2.1 z.2.2.2.1 z.2.2.2.2.1 ∧ ((z.2.2.1.length : Int) ≤ things ∧ (z.2.2.2.1.length : Int) ≤ things) ∧ z.2.1 ≤ 2 ∧ BelR b z.2.2.2.2.2.1 z.2.2.2.2.2.2.1 := by
  unfold made_S
  refine Ok.bind (stroke_ok N hb (by omega)) ?_
  rintro ⟨x, c1, c2, c3⟩ ⟨hx, hc, hb1⟩
  dsimp only at hx hc hb1 ⊢
  obtain rfl := hc.symm
  refine Ok.bind (strike_ok N hb1 (by omega)) ?_
  rintro ⟨m, d1, d2, d3⟩ ⟨hm, hc, hb2⟩
  dsimp only at hm hc hb2 ⊢
  obtain rfl := hc.symm
  have e1 := made_l1_p (N := N) (things := things) (g := 0) (d := x) (u := m) (by omega) N 0 d2 d3 [] (by omega) (by omega) hb2 rfl (fun w h => by cases h)
  rw [show ((0 : Nat) : Int) = 0 from rfl] at e1
  refine Ok.bind e1 ?_
  rintro ⟨t', f1, f2, f3, g', x', W⟩ ⟨q1, ⟨q2, hb3⟩, q3, q4, hl, hW⟩
  dsimp only at q1 q2 q3 q4 hb3 hl hW ⊢
  obtain rfl := q1.symm
  obtain rfl := q2.symm
  obtain rfl := q3.symm
  obtain rfl := q4.symm
  refine Ok.bind (stroke_ok N hb3 (by omega)) ?_
  rintro ⟨many, h1, h2, h3⟩ ⟨hmany, hc, hb4⟩
  dsimp only at hmany hc hb4 ⊢
  obtain rfl := hc.symm
  refine Ok.bind (strike_ok N hb4 (by omega)) ?_
  rintro ⟨often, i1, i2, i3⟩ ⟨hoften, hc, hb5⟩
  dsimp only at hoften hc hb5 ⊢
  obtain rfl := hc.symm
  refine Ok.bind (stroke_ok N hb5 (by omega)) ?_
  rintro ⟨u, j1, j2, j3⟩ ⟨hu, hc, hb6⟩
  dsimp only at hu hc hb6 ⊢
  obtain rfl := hc.symm
  have e2 := made_l2_p hN (many := many) (often := often) (u := u) (g := 0) (d := x) (W := W) (by omega) (by omega) (by omega) N 0 j2 j3 [] [] (by omega) (by omega) hb6 rfl rfl (fun x h => by cases h) (fun x h => by cases h)
  rw [show ((0 : Nat) : Int) = 0 from rfl] at e2
  refine Ok.bind e2 ?_
  rintro _ ⟨k2, k3, L, R, rfl, hb7, ⟨hL, hR⟩, hl2, hr2⟩
  dsimp only
  have e3 := made_l4_p hN (often := often) (u := many) (g := 0) (d := x) (W := W) (L := L) (R := R) (by omega) (by omega) (by omega) N 0 k2 k3 [] (by omega) (by omega) hb7 rfl (fun x h => by cases h)
  rw [show ((0 : Nat) : Int) = 0 from rfl] at e3
  refine Ok.bind e3 ?_
  rintro _ ⟨l2, l3, F, rfl, hb8, hF, hf2⟩
  dsimp only
  exact Ok.some ⟨⟨by dsimp only; omega, by dsimp only; omega, by dsimp only; omega, by dsimp only; omega, fun r hr => (hl2 r hr).1, fun r hr => (hf2 r hr).1, hR, hW, by dsimp only; omega, hr2, fun r hr => (hl2 r hr).2, fun r hr => (hf2 r hr).2⟩, ⟨by dsimp only; omega, by dsimp only; omega⟩, by dsimp only; omega, rfl, hb8⟩
end
end Go.Proofs.Ythncjilcflilcaa

namespace Go.Proofs.Ythncjilcflilcaa
set_option linter.all false
open Go

section
variable {W : List Int} {s : Int} {L F : List (List Int)} {R : List Int} {A B : Nat → Nat → Int} {N : Nat}
/-! ### Joins that are tried -/
end
end Go.Proofs.Ythncjilcflilcaa

namespace Go.Proofs.Ythncjilcflilcaa
set_option linter.all false
open Go

/-! ### Orders -/
structure PermL (u : Nat) (p : List Int) (τ : Nat → Nat) : Prop where
  len : p.length = u
  bd : ∀ i, i < u → ∃ q : Nat, p.getD i 0 = q ∧ q < u ∧ τ q = i
  inv : ∀ x, x < u → τ x < u ∧ p.getD (τ x) 0 = x
theorem getD_app {l : List Int} {i : Nat} {x : Int} (h : i < l.length) : (l ++ [x]).getD i 0 = l.getD i 0 := by
  simp [List.getD, List.getElem?_append_left h]
theorem getD_last {l : List Int} {x : Int} : (l ++ [x]).getD l.length 0 = x := by simp [List.getD]
theorem PermL.step {k y : Nat} {p : List Int} {τ : Nat → Nat} (h : PermL k p τ) (hy : y ≤ k) : ∃ τ', PermL (k + 1) (((p ++ [(k : Int)]).set y ((p ++ [(k : Int)]).getD k 0)).set k ((p ++ [(k : Int)]).getD y 0)) τ' := by
  have hl := h.len
  have ek : (p ++ [(k : Int)]).getD k 0 = k := by rw [← hl]; exact getD_last
  obtain ⟨q2, e2, b2, t2⟩ : ∃ q2 : Nat, (p ++ [(k : Int)]).getD y 0 = q2 ∧ (y = k ∧ q2 = k ∨ y < k ∧ q2 < k) ∧ (y < k → τ q2 = y) := by
    by_cases c : y = k
    · subst c; exact ⟨y, ek, .inl ⟨rfl, rfl⟩, fun h => by omega⟩
    · obtain ⟨q, x1, x2, x3⟩ := h.bd y (by omega)
      exact ⟨q, by rw [getD_app (by omega), x1], .inr ⟨by omega, x2⟩, fun _ => x3⟩
  rw [ek, e2]
  have l1 : (p ++ [(k : Int)]).length = k + 1 := by simp [hl]
  have gk : (((p ++ [(k : Int)]).set y (k : Int)).set k (q2 : Int)).getD k 0 = q2 := getD_set_self _ _ _ _ (by rw [List.length_set, l1]; omega)
  have gy : y ≠ k → (((p ++ [(k : Int)]).set y (k : Int)).set k (q2 : Int)).getD y 0 = k := fun hne => by
    rw [getD_set_ne _ _ _ _ _ (Ne.symm hne), getD_set_self _ _ _ _ (by rw [l1]; omega)]
  have go : ∀ i, i ≠ k → i ≠ y → i < k → (((p ++ [(k : Int)]).set y (k : Int)).set k (q2 : Int)).getD i 0 = p.getD i 0 := fun i h1 h2 h3 => by
    rw [getD_set_ne _ _ _ _ _ (Ne.symm h1), getD_set_ne _ _ _ _ _ (Ne.symm h2), getD_app (by omega)]
  refine ⟨upd (upd τ k y) q2 k, ⟨by rw [List.length_set, List.length_set, l1], fun i hi => ?_, fun x hx => ?_⟩⟩
  · by_cases c1 : i = k
    · subst c1
      exact ⟨q2, gk, by omega, upd_self _ _ _⟩
    · by_cases c2 : i = y
      · subst c2
        exact ⟨k, gy c1, by omega, by rw [upd_ne (by omega), upd_self]⟩
      · obtain ⟨q, x1, x2, x3⟩ := h.bd i (by omega)
        refine ⟨q, by rw [go i c1 c2 (by omega), x1], by omega, ?_⟩
        rw [upd_ne, upd_ne (by omega), x3]
        rintro rfl
        rcases b2 with ⟨_, b2⟩ | ⟨b2, _⟩
        · omega
        · have := t2 b2; omega
  · by_cases c1 : x = q2
    · subst c1
      rw [upd_self]
      exact ⟨by omega, gk⟩
    · rw [upd_ne c1]
      by_cases c2 : x = k
      · subst c2
        rw [upd_self]
        exact ⟨by omega, gy (by omega)⟩
      · rw [upd_ne c2]
        obtain ⟨x1, x2⟩ := h.inv x (by omega)
        refine ⟨by omega, ?_⟩
        have hne : τ x ≠ y := fun e => by
          rw [e] at x1 x2
          rw [getD_app (by omega), x2] at e2
          omega
        rw [go _ (by omega) hne x1, x2]
section
variable {N : Nat}
theorem rung_l1_q {b : List Int} {u : Nat} (hu : u ≤ 100) : ∀ (n k : Nat) (b2 b3 : Int) (out : List Int) (τ : Nat → Nat), u < n + k → k ≤ u → Bell b b2 → PermL k out τ →
    Ok (rung_l1 N n u k b b2 b3 out) fun z => BelR b z.1 z.2.1 ∧ ∃ τ, PermL u z.2.2.2 τ
  | 0, k, b2, b3, out, τ, h, _, _, _ => by omega
  | n + 1, k, b2, b3, out, τ, h, hk, hb, ho => by
    unfold rung_l1
    have hlen := ho.len
    refine Ok.brd (fun c => ?_) (fun c => Ok.some ⟨⟨rfl, hb⟩, τ, by rw [show u = k by omega]; exact ho⟩)
    refine Ok.bind (stroke_ok N hb (by omega)) ?_
    rintro ⟨y, c1, c2, c3⟩ ⟨hy, hc, hb1⟩
    dsimp only at hy hc hb1 ⊢
    obtain rfl := hc.symm
    obtain ⟨y, rfl⟩ : ∃ q : Nat, y = q := ⟨y.toNat, (Int.toNat_of_nonneg hy.1).symm⟩
    have hl : (out ++ [(k : Int)]).length = k + 1 := by simp [hlen]
    refine Ok.lim (by simp; omega) (Ok.rng (by rw [hl]; omega) ?_)
    simp only [Int.toNat_natCast]
    rw [get_get 0 (by rw [hl]; omega)]
    refine Ok.rng (by rw [hl]; omega) ?_
    rw [get_get 0 (by rw [hl]; omega)]
    refine Ok.rng (by rw [hl]; omega) ?_
    rw [get_get 0 (by rw [hl]; omega)]
    refine Ok.rng (by rw [List.length_set, hl]; omega) ?_
    rw [get_get 0 (by rw [List.length_set, hl]; omega)]
    refine Ok.chk (by omega) ?_
    obtain ⟨τ', hτ⟩ := ho.step (y := y) (by omega)
    have := rung_l1_q hu n (k + 1) c2 c3 _ τ' (by omega) (by omega) hb1 hτ
    rw [nat_succ] at this
    exact this
theorem rung_perm (hN : 110 ≤ N) {b : List Int} {b2 b3 : Int} {u : Nat} (hu : u ≤ 100) (hb : Bell b b2) : Ok (rung_S N u b b2 b3) fun z => (∃ τ, PermL u z.1 τ) ∧ BelR b z.2.1 z.2.2.1 := by
  have e := rung_l1_q (N := N) (b := b) hu N 0 b2 b3 [] (fun _ => 0) (by omega) (by omega) hb ⟨rfl, (fun i h => by omega), fun x h => by omega⟩
  rw [show ((0 : Nat) : Int) = 0 from rfl] at e
  unfold rung_S
  rw [show max 0 (u : Int) = u by omega]
  refine Ok.bind e ?_
  rintro ⟨z1, z2, z3, z4⟩ ⟨h1, h2⟩
  exact Ok.some ⟨h2, h1⟩
end
/-! ### Joins in another order -/
/-- Two ways to and fro. -/
structure TwoW (n : Nat) (a b : Nat → Nat) : Prop where
  la : ∀ x, x < n → a x < n ∧ b (a x) = x
  lb : ∀ x, x < n → b x < n ∧ a (b x) = x
theorem TwoW.symm {n : Nat} {a b : Nat → Nat} (h : TwoW n a b) : TwoW n b a := ⟨h.lb, h.la⟩
theorem perm_sum {l l' : List Int} (h : l.Perm l') : l.sum = l'.sum := by
  induction h with
  | nil => rfl
  | cons x _ ih => simp [ih]
  | swap x y l => simp only [List.sum_cons]; omega
  | trans _ _ h1 h2 => exact h1.trans h2
theorem TwoW.perm {n : Nat} {a b : Nat → Nat} (h : TwoW n a b) : ((List.range n).map a).Perm (List.range n) := by
  refine (List.perm_ext_iff_of_nodup ?_ List.nodup_range).2 fun x => ?_
  · unfold List.Nodup
    rw [List.pairwise_map]
    refine List.Pairwise.imp_of_mem ?_ List.nodup_range
    intro x y hx hy hxy e
    rw [List.mem_range] at hx hy
    exact hxy (by rw [← (h.la x hx).2, e, (h.la y hy).2])
  · rw [List.mem_map]
    constructor
    · rintro ⟨y, hy, rfl⟩
      exact List.mem_range.2 (h.la y (List.mem_range.1 hy)).1
    · intro hx
      have hx' := List.mem_range.1 hx
      exact ⟨b x, List.mem_range.2 (h.lb x hx').1, (h.lb x hx').2⟩
theorem TwoW.sum {n : Nat} {a b : Nat → Nat} (h : TwoW n a b) (f : Nat → Int) : sumN (fun x => f (a x)) n = sumN f n := by
  rw [← mapR_sum, ← mapR_sum]
  have := perm_sum (h.perm.map f)
  rw [List.map_map] at this
  exact this
def mvI (b2 : Nat → Nat) (v : Int) : Int := if v = -1 then -1 else (b2 v.toNat : Nat)
def rnJ (n : Nat) (a1 b2 : Nat → Nat) (l : List Int) : List Int := (List.range n).map fun x => mvI b2 (fnJ l (a1 x))
section
variable {n m : Nat} {a1 b1 a2 b2 : Nat → Nat} {can can' : Nat → Nat → Bool} {t t' : Nat → Nat → Int}
theorem rn_mem (h1 : TwoW n a1 b1) (h2 : TwoW m a2 b2) (hc : ∀ i k, i < n → k < m → can' i k = can (a1 i) (a2 k)) {l : List Int} (hl : l ∈ joinsL can m n 0 0) : rnJ n a1 b2 l ∈ joinsL can' m n 0 0 := by
  obtain ⟨l1, l2, _⟩ := mem_joins.1 hl
  refine mem_joins.2 ⟨by simp [rnJ], ?_, fun k hk => by simp at hk⟩
  have e : ∀ i, i < n → fnJ (rnJ n a1 b2 l) i = mvI b2 (fnJ l (a1 i)) := fun i hi => fn_map hi
  have key : ∀ i, i < n → (fnJ l i = -1 ∧ mvI b2 (fnJ l i) = -1) ∨ ∃ k : Nat, fnJ l i = k ∧ k < m ∧ can i k = true ∧ mvI b2 (fnJ l i) = (b2 k : Nat) := fun i hi => by
    rcases l2.ok i hi with h | ⟨k, x, y, z⟩
    · exact .inl ⟨h, by unfold mvI; rw [if_pos h]⟩
    · refine .inr ⟨k, x, y, z, ?_⟩
      unfold mvI
      rw [if_neg (by omega), x, Int.toNat_natCast]
  refine Mt.congr (J := fun i => mvI b2 (fnJ l (a1 i))) ⟨fun i hi => ?_, fun i j hi hj hij he => ?_⟩ (fun i hi => (e i hi).symm)
  · rcases key (a1 i) (h1.la i hi).1 with ⟨_, h⟩ | ⟨k, x, y, z, w⟩
    · exact .inl h
    · refine .inr ⟨b2 k, w, (h2.lb k y).1, ?_⟩
      rw [hc i _ hi (h2.lb k y).1, (h2.lb k y).2]; exact z
  · have hne : a1 i ≠ a1 j := fun e => hij (by rw [← (h1.la i hi).2, e, (h1.la j hj).2])
    have he : mvI b2 (fnJ l (a1 i)) = mvI b2 (fnJ l (a1 j)) := he
    show mvI b2 (fnJ l (a1 i)) = -1
    rcases key (a1 i) (h1.la i hi).1 with ⟨_, h⟩ | ⟨k, x, y, z, w⟩
    · exact h
    · rcases key (a1 j) (h1.la j hj).1 with ⟨_, h⟩ | ⟨k', x', y', z', w'⟩
      · rw [he]; exact h
      · rw [w, w'] at he
        have hk : k = k' := by
          have hb : b2 k = b2 k' := by omega
          rw [← (h2.lb k y).2, hb, (h2.lb k' y').2]
        have := l2.inj (a1 i) (a1 j) (h1.la i hi).1 (h1.la j hj).1 hne (by rw [x, x', hk])
        omega
theorem rn_val (h1 : TwoW n a1 b1) (h2 : TwoW m a2 b2) (ht : ∀ i k, i < n → k < m → t' i k = t (a1 i) (a2 k)) {l : List Int} (hl : l ∈ joinsL can m n 0 0) : valJ t' 0 (rnJ n a1 b2 l) = valJ t 0 l := by
  obtain ⟨l1, l2, _⟩ := mem_joins.1 hl
  rw [val_joins (n := n) (by simp [rnJ]), val_joins l1]
  unfold wt
  rw [← h1.sum (fun i => pv t i (fnJ l i))]
  refine sumN_congr fun i hi => ?_
  rw [show fnJ (rnJ n a1 b2 l) i = mvI b2 (fnJ l (a1 i)) from fn_map hi]
  rcases l2.ok (a1 i) (h1.la i hi).1 with h | ⟨k, x, y, _⟩
  · rw [h]; simp [mvI, pv]
  · unfold mvI
    rw [if_neg (by omega), x, Int.toNat_natCast, pv_some, pv_some, ht i _ hi (h2.lb k y).1, (h2.lb k y).2]
theorem rn_back (h1 : TwoW n a1 b1) (h2 : TwoW m a2 b2) {l : List Int} (hl : l ∈ joinsL can m n 0 0) : rnJ n b1 a2 (rnJ n a1 b2 l) = l := by
  obtain ⟨l1, l2, _⟩ := mem_joins.1 hl
  refine ext_getD (by simp [rnJ, l1]) fun j hj => ?_
  have hj' : j < n := by simpa [rnJ] using hj
  rw [show (rnJ n b1 a2 (rnJ n a1 b2 l)).getD j (-1) = mvI a2 (fnJ (rnJ n a1 b2 l) (b1 j)) from fn_map hj']
  rw [show fnJ (rnJ n a1 b2 l) (b1 j) = mvI b2 (fnJ l (a1 (b1 j))) from fn_map (h1.lb j hj').1, (h1.lb j hj').2]
  rcases l2.ok j hj' with h | ⟨k, x, y, _⟩
  · rw [h]
    have : l.getD j (-1) = fnJ l j := rfl
    rw [this, h]; rfl
  · have : l.getD j (-1) = fnJ l j := rfl
    rw [this, x]
    unfold mvI
    rw [if_neg (show ¬ ((k : Nat) : Int) = -1 by omega), Int.toNat_natCast, if_neg (by omega), Int.toNat_natCast, (h2.lb k y).2]
theorem rn_count (h1 : TwoW n a1 b1) (h2 : TwoW m a2 b2) (hc : ∀ i k, i < n → k < m → can' i k = can (a1 i) (a2 k)) (ht : ∀ i k, i < n → k < m → t' i k = t (a1 i) (a2 k)) (V : Int) :
    (joinsL can m n 0 0).countP (fun l => decide (valJ t 0 l = V)) = (joinsL can' m n 0 0).countP (fun l => decide (valJ t' 0 l = V)) := by
  have hc' : ∀ i k, i < n → k < m → can i k = can' (b1 i) (b2 k) := fun i k hi hk => by rw [hc _ _ (h1.lb i hi).1 (h2.lb k hk).1, (h1.lb i hi).2, (h2.lb k hk).2]
  have ht' : ∀ i k, i < n → k < m → t i k = t' (b1 i) (b2 k) := fun i k hi hk => by rw [ht _ _ (h1.lb i hi).1 (h2.lb k hk).1, (h1.lb i hi).2, (h2.lb k hk).2]
  refine countP_bij (nodup_joinsL _ _ _) (nodup_joinsL _ _ _) (rnJ n b1 a2) (rnJ n a1 b2) (fun x hx hq => ⟨rn_mem h1.symm h2.symm hc' hx, ?_, rn_back h1.symm h2.symm hx⟩) (fun y hy hp => ⟨rn_mem h1 h2 hc hy, ?_, rn_back h1 h2 hy⟩)
  · rw [decide_eq_true_eq] at hq ⊢
    rw [rn_val (can := can') h1.symm h2.symm ht' hx]; exact hq
  · rw [decide_eq_true_eq] at hp ⊢
    rw [rn_val (can := can) h1 h2 ht hy]; exact hp
end
end Go.Proofs.Ythncjilcflilcaa

namespace Go.Proofs.Ythncjilcflilcaa
set_option linter.all false
open Go

section
variable {n m : Nat} {a1 b1 a2 b2 : Nat → Nat} {can can' : Nat → Nat → Bool} {t t' : Nat → Nat → Int}
theorem bl_in {can : Nat → Nat → Bool} {t : Nat → Nat → Int} : blR can t m n 0 0 ∈ joinsL can m n 0 0 := by
  obtain ⟨q1, q2, _⟩ := bl_best (can := can) (t := t) (m := m) n 0 0
  exact mem_joinsL.2 ⟨q2, q1⟩
theorem rn_V (h1 : TwoW n a1 b1) (h2 : TwoW m a2 b2) (hc : ∀ i k, i < n → k < m → can' i k = can (a1 i) (a2 k)) (ht : ∀ i k, i < n → k < m → t' i k = t (a1 i) (a2 k)) : (rsR can t m n 0 0).2.1 ≤ (rsR can' t' m n 0 0).2.1 := by
  have hm := bl_in (n := n) (m := m) (can := can) (t := t)
  have := (rs_bst (can := can') (t := t') (m := m) n 0 0).le _ (rn_mem h1 h2 hc hm)
  rw [rn_val h1 h2 ht hm, (bl_best (can := can) (t := t) (m := m) n 0 0).2.2] at this
  exact this
end
/-- The same desk, but for the order of its things. -/
structure OrdD (L F : List (List Int)) (R : List Int) (Lo Fo : List (List Int)) (Ro : List Int) (a1 b1 a2 b2 : Nat → Nat) : Prop where
  ll : Lo.length = L.length
  fl : Fo.length = F.length
  w1 : TwoW L.length a1 b1
  w2 : TwoW F.length a2 b2
  gl : ∀ x, x < L.length → Lo.getD x [] = L.getD (a1 x) []
  gr : ∀ x, x < L.length → Ro.getD x 0 = R.getD (a1 x) 0
  gf : ∀ x, x < F.length → Fo.getD x [] = F.getD (a2 x) []
section
variable {W : List Int} {s : Int} {L F Lo Fo : List (List Int)} {R Ro : List Int} {a1 b1 a2 b2 : Nat → Nat} {N : Nat}
theorem OrdD.symm (h : OrdD L F R Lo Fo Ro a1 b1 a2 b2) : OrdD Lo Fo Ro L F R b1 a1 b2 a2 :=
  ⟨h.ll.symm, h.fl.symm, by rw [h.ll]; exact h.w1.symm, by rw [h.fl]; exact h.w2.symm,
   fun x hx => by rw [h.ll] at hx; rw [h.gl _ (h.w1.lb x hx).1, (h.w1.lb x hx).2], fun x hx => by rw [h.ll] at hx; rw [h.gr _ (h.w1.lb x hx).1, (h.w1.lb x hx).2],
   fun x hx => by rw [h.fl] at hx; rw [h.gf _ (h.w2.lb x hx).1, (h.w2.lb x hx).2]⟩
theorem OrdD.ag (h : OrdD L F R Lo Fo Ro a1 b1 a2 b2) {i k : Nat} (hi : i < L.length) (hk : k < F.length) : agF W Lo Fo i k = agF W L F (a1 i) (a2 k) := by
  unfold agF
  rw [if_pos ⟨by rw [h.ll]; exact hi, by rw [h.fl]; exact hk⟩, if_pos ⟨(h.w1.la i hi).1, (h.w2.la k hk).1⟩, h.gl i hi, h.gf k hk]
theorem OrdD.sl (h : OrdD L F R Lo Fo Ro a1 b1 a2 b2) {i k : Nat} (hi : i < L.length) (hk : k < F.length) : slF W Lo Fo i k = slF W L F (a1 i) (a2 k) := by
  unfold slF
  rw [if_pos ⟨by rw [h.ll]; exact hi, by rw [h.fl]; exact hk⟩, if_pos ⟨(h.w1.la i hi).1, (h.w2.la k hk).1⟩, h.gl i hi, h.gf k hk]
theorem OrdD.can (h : OrdD L F R Lo Fo Ro a1 b1 a2 b2) {i k : Nat} (hi : i < L.length) (hk : k < F.length) : canF W s Lo Fo i k = canF W s L F (a1 i) (a2 k) := by
  unfold canF canT
  rw [h.ag hi hk, h.sl hi hk]
theorem OrdD.mem (h : OrdD L F R Lo Fo Ro a1 b1 a2 b2) {l : List Int} (hl : l ∈ joinsL (canF W s L F) F.length L.length 0 0) : rnJ L.length a1 b2 l ∈ joinsL (canF W s Lo Fo) Fo.length Lo.length 0 0 := by
  rw [h.ll, h.fl]
  exact rn_mem h.w1 h.w2 (fun i k hi hk => h.can hi hk) hl
theorem OrdD.val (h : OrdD L F R Lo Fo Ro a1 b1 a2 b2) {l : List Int} (hl : l ∈ joinsL (canF W s L F) F.length L.length 0 0) : valJ (agF W Lo Fo) 0 (rnJ L.length a1 b2 l) = valJ (agF W L F) 0 l := rn_val h.w1 h.w2 (fun i k hi hk => h.ag hi hk) hl
theorem OrdD.rew (h : OrdD L F R Lo Fo Ro a1 b1 a2 b2) {l : List Int} (hl : l ∈ joinsL (canF W s L F) F.length L.length 0 0) : valJ (rewT Ro) 0 (rnJ L.length a1 b2 l) = valJ (rewT R) 0 l := rn_val (t := rewT R) (t' := rewT Ro) h.w1 h.w2 (fun i k hi _ => h.gr i hi) hl
theorem OrdD.bestV_le (h : OrdD L F R Lo Fo Ro a1 b1 a2 b2) : bestV W s L F ≤ bestV W s Lo Fo := by
  have := rn_V h.w1 h.w2 (can := canF W s L F) (can' := canF W s Lo Fo) (t := agF W L F) (t' := agF W Lo Fo) (fun i k hi hk => h.can hi hk) (fun i k hi hk => h.ag hi hk)
  unfold bestV
  rw [h.ll, h.fl]; exact this
theorem OrdD.bestV_eq (h : OrdD L F R Lo Fo Ro a1 b1 a2 b2) : bestV W s L F = bestV W s Lo Fo := Int.le_antisymm h.bestV_le h.symm.bestV_le
theorem OrdD.bestN_eq (h : OrdD L F R Lo Fo Ro a1 b1 a2 b2) : bestN W s L F = bestN W s Lo Fo := by
  have e1 := (rs_bst (can := canF W s L F) (t := agF W L F) (m := F.length) L.length 0 0).ways
  have e2 := (rs_bst (can := canF W s Lo Fo) (t := agF W Lo Fo) (m := Fo.length) Lo.length 0 0).ways
  have hV : (rsR (canF W s L F) (agF W L F) F.length L.length 0 0).2.1 = (rsR (canF W s Lo Fo) (agF W Lo Fo) Fo.length Lo.length 0 0).2.1 := h.bestV_eq (W := W) (s := s)
  unfold bestN
  rw [← e1, ← e2, ← hV, h.ll, h.fl, rn_count h.w1 h.w2 (can' := canF W s Lo Fo) (t' := agF W Lo Fo) (fun i k hi hk => h.can hi hk) (fun i k hi hk => h.ag hi hk)]
theorem OrdD.rich_le (h : OrdD L F R Lo Fo Ro a1 b1 a2 b2) (hF : Fine W s L F R) (hO : Fine W s Lo Fo Ro) : valJ (rewT R) 0 (richL W s L F R) ≤ valJ (rewT Ro) 0 (richL W s Lo Fo Ro) := by
  have hm : richL W s L F R ∈ joinsL (canF W s L F) F.length L.length 0 0 := bl_mem
  have := (rich_facts hO).2 _ (mem_bestR.2 ⟨h.mem hm, by rw [h.val hm, (rich_facts hF).1]; exact h.bestV_eq⟩)
  rw [h.rew hm] at this
  exact this
theorem OrdD.vK_le (h : OrdD L F R Lo Fo Ro a1 b1 a2 b2) {k : Nat} (hk : k < F.length) : vK W s L F k ≤ vK W s Lo Fo (b2 k) := by
  obtain ⟨J, j1, j2, j3⟩ := (isMaxK (W := W) (s := s) (L := L) (F := F) k).ex
  obtain ⟨l1, l2⟩ := mt_list (u := 0) (t := agF W L F) j1 (fun k hk => by simp at hk)
  have hm := h.mem l1
  have hv := h.val l1
  obtain ⟨m1, m2, _⟩ := mem_joins.1 hm
  have hu : ¬ Usd Lo.length (fnJ (rnJ L.length a1 b2 ((List.range L.length).map J))) (b2 k) := by
    rintro ⟨x, hx, e⟩
    rw [h.ll] at hx
    rw [show fnJ (rnJ L.length a1 b2 ((List.range L.length).map J)) x = mvI b2 (fnJ ((List.range L.length).map J) (a1 x)) from fn_map hx, fn_map (h.w1.la x hx).1] at e
    rcases j1.ok (a1 x) (h.w1.la x hx).1 with hj | ⟨q, hj, hq, _⟩
    · rw [hj] at e
      simp [mvI] at e
    · unfold mvI at e
      rw [if_neg (by omega), hj, Int.toNat_natCast] at e
      have hb : b2 q = b2 k := by omega
      have hqk : q = k := by rw [← (h.w2.lb q hq).2, hb, (h.w2.lb k hk).2]
      exact j2 k rfl ⟨a1 x, (h.w1.la x hx).1, by rw [hj, hqk]⟩
  have := (isMaxK (W := W) (s := s) (L := Lo) (F := Fo) (b2 k)).le _ m2 (fun y hy => by rw [hy]; exact hu)
  rw [← val_joins m1, hv, l2, j3] at this
  exact this
theorem OrdD.vK_eq (h : OrdD L F R Lo Fo Ro a1 b1 a2 b2) {k : Nat} (hk : k < F.length) : vK W s L F k = vK W s Lo Fo (b2 k) := by
  refine Int.le_antisymm (h.vK_le hk) ?_
  have := h.symm.vK_le (W := W) (s := s) (k := b2 k) (by rw [h.fl]; exact (h.w2.lb k hk).1)
  rw [(h.w2.lb k hk).2] at this
  exact this
theorem mem_spare {m k : Nat} : (k : Int) ∈ spareR W s L F m ↔ k < m ∧ vK W s L F k = bestV W s L F := by
  unfold spareR
  simp only [List.mem_map, List.mem_filter, List.mem_range, decide_eq_true_eq]
  constructor
  · rintro ⟨j, hj, e⟩
    obtain rfl : j = k := by omega
    exact hj
  · exact fun h => ⟨k, h, rfl⟩
theorem OrdD.spare_len (h : OrdD L F R Lo Fo Ro a1 b1 a2 b2) : (spareR W s L F F.length).length = (spareR W s Lo Fo Fo.length).length := by
  unfold spareR
  rw [List.length_map, List.length_map, ← List.countP_eq_length_filter, ← List.countP_eq_length_filter, h.fl, ← h.w2.symm.perm.countP_eq (fun k => decide (vK W s Lo Fo k = bestV W s Lo Fo)), List.countP_map]
  refine List.countP_congr fun k hk => ?_
  rw [List.mem_range] at hk
  simp only [Function.comp, decide_eq_true_eq]
  rw [← h.vK_eq hk, h.bestV_eq]
/-! ### The desk that is made -/
theorem PermL.two {u : Nat} {p : List Int} {τ : Nat → Nat} (h : PermL u p τ) : TwoW u τ (fun i => (p.getD i 0).toNat) := by
  refine ⟨fun x hx => ⟨(h.inv x hx).1, by rw [(h.inv x hx).2, Int.toNat_natCast]⟩, fun x hx => ?_⟩
  obtain ⟨q, e, h1, h2⟩ := h.bd x hx
  rw [e, Int.toNat_natCast]
  exact ⟨h1, h2⟩
theorem copyro_l1_p {l : List (List Int)} (hl : l.length ≤ 1000000) (hr : ∀ x ∈ l, x.length ≤ 1000000) : ∀ n k : Nat, l.length < n + k → k ≤ l.length → copyro_l1 N n l l.length k (l.take k ++ List.replicate (l.length - k) []) = some l
  | 0, k, h, _ => by omega
  | n + 1, k, h, hk => by
    unfold copyro_l1
    by_cases c : k < l.length
    · have ih := copyro_l1_p hl hr n (k + 1) (by omega) (by omega)
      rw [nat_succ, take_succ' c []] at ih
      rw [br_dec (by omega), idx_eq (by omega) (gets c []), copyi_v (hr _ (getD_mem c))]
      simp only [Option.bind_some, Int.toNat_natCast]
      have hlen : (l.take k ++ List.replicate (l.length - k) ([] : List Int)).length = l.length := by simp; omega
      rw [rng_eq (by rw [hlen]; omega), get_get [] (by rw [hlen]; exact c), chk_eq (by omega), ← ih]
      congr 1
      rw [List.set_append_right _ _ (by simp; omega), show k - (l.take k).length = 0 by simp; omega, show l.length - k = (l.length - (k + 1)) + 1 by omega, List.replicate_succ]
      simp
    · rw [br_ndec (by omega), List.take_of_length_le (by omega), show l.length - k = 0 by omega]; simp
theorem copyro_v {l : List (List Int)} (hl : l.length ≤ 1000000) (hN : l.length < N) (hr : ∀ x ∈ l, x.length ≤ 1000000) : copyro_S N l = some l := by
  unfold copyro_S
  have e := copyro_l1_p (N := N) hl hr N 0 (by omega) (by omega)
  simp only [List.take_zero, List.nil_append, Nat.sub_zero, Int.natCast_zero] at e
  rw [grd_eq (lmI_iff.2 (by omega)), Int.toNat_natCast, e]; rfl
theorem copyol_v {l : List Int} (h : l.length ≤ 1000000) : copyo_S N l = some l := by
  unfold copyo_S
  rw [grd_eq (lmI_iff.2 (by omega))]
  simp
theorem copydo_v (hN : 110 ≤ N) (h : Sm W L F R) : copydo_S N W s L F R = some (W, s, L, F, R) := by
  obtain ⟨hw, hl, hf, hr, hlr, hfr⟩ := h
  unfold copydo_S
  rw [copyol_v (by omega), copyro_v (by omega) (by omega) (fun x hx => by have := hlr x hx; omega), copyro_v (by omega) (by omega) (fun x hx => by have := hfr x hx; omega), copyol_v (by omega)]; rfl
theorem fnamed_l1_p (h : Fine W s L F R) {p : List Int} {τ : Nat → Nat} (hp : PermL L.length p τ) {found : List Int} {o : List Int} {o2 : Int} {o4 : List (List Int)} : ∀ (n k : Nat) (o3 : List (List Int)) (o5 : List Int), L.length < n + k → k ≤ L.length → o3.length = L.length → o5.length = L.length →
    (∀ x, x < L.length → τ x < k → o3.getD x [] = L.getD (τ x) [] ∧ o5.getD x 0 = R.getD (τ x) 0) →
    ∃ o3' o5', fnamed_l1 N n found p p.length k W s L F R o o2 o3 o4 o5 = some (found, W, s, L, F, R, o, o2, o3', o4, o5') ∧ (o3'.length = L.length ∧ o5'.length = L.length) ∧ ∀ x, x < L.length → o3'.getD x [] = L.getD (τ x) [] ∧ o5'.getD x 0 = R.getD (τ x) 0
  | 0, k, o3, o5, hn, _, _, _, _ => by omega
  | n + 1, k, o3, o5, hn, hk, h3, h5, hx => by
    unfold fnamed_l1
    have hl6 := h.l6; have hrl := h.rl; have hpl := hp.len
    by_cases c : k < L.length
    rotate_left
    · rw [br_ndec (by omega)]
      exact ⟨o3, o5, rfl, ⟨h3, h5⟩, fun x hx' => hx x hx' (by have := (hp.inv x hx').1; omega)⟩
    obtain ⟨q, q1, q2, q3⟩ := hp.bd k c
    have hlen : (L.getD k []).length ≤ 1000000 := by have := h.lw _ (getD_mem (d := []) c); have := h.w5; omega
    have ih := fnamed_l1_p h hp (found := found) (o := o) (o2 := o2) (o4 := o4) n (k + 1) (o3.set q (L.getD k [])) (o5.set q (R.getD k 0)) (by omega) (by omega) (by simpa using h3) (by simpa using h5) (fun x hx' ht => by
      by_cases e : x = q
      · subst e
        rw [getD_set_self _ _ _ _ (by omega), getD_set_self _ _ _ _ (by omega), q3]
        exact ⟨rfl, rfl⟩
      · rw [getD_set_ne _ _ _ _ _ (Ne.symm e), getD_set_ne _ _ _ _ _ (Ne.symm e)]
        refine hx x hx' ?_
        have : τ x ≠ k := fun e2 => by
          have := (hp.inv x hx').2
          rw [e2, q1] at this
          omega
        omega)
    rw [nat_succ] at ih
    rw [br_dec (by omega), idx_eq (by omega) (gets (by omega) 0), q1, idx_eq (by omega) (gets c []), copyi_v hlen]
    simp only [Option.bind_some]
    rw [idx_eq (by omega) (gets (by omega) 0), rng_eq (by omega)]
    simp only [Int.toNat_natCast]
    rw [get_get [] (by omega), rng_eq (by omega), get_get 0 (by omega), chk_eq (by omega)]
    exact ih
theorem fnamed_l2_p (h : Fine W s L F R) {p : List Int} {τ : Nat → Nat} (hp : PermL F.length p τ) {found : List Int} {o o5 : List Int} {o2 : Int} {o3 : List (List Int)} : ∀ (n k : Nat) (o4 : List (List Int)), F.length < n + k → k ≤ F.length → o4.length = F.length →
    (∀ x, x < F.length → τ x < k → o4.getD x [] = F.getD (τ x) []) →
    ∃ o4', fnamed_l2 N n found p p.length k W s L F R o o2 o3 o4 o5 = some (found, W, s, L, F, R, o, o2, o3, o4', o5) ∧ o4'.length = F.length ∧ ∀ x, x < F.length → o4'.getD x [] = F.getD (τ x) []
  | 0, k, o4, hn, _, _, _ => by omega
  | n + 1, k, o4, hn, hk, h4, hx => by
    unfold fnamed_l2
    have hf6 := h.f6; have hpl := hp.len
    by_cases c : k < F.length
    rotate_left
    · rw [br_ndec (by omega)]
      exact ⟨o4, rfl, h4, fun x hx' => hx x hx' (by have := (hp.inv x hx').1; omega)⟩
    obtain ⟨q, q1, q2, q3⟩ := hp.bd k c
    have hlen : (F.getD k []).length ≤ 1000000 := by have := h.fw _ (getD_mem (d := []) c); have := h.w5; omega
    have ih := fnamed_l2_p h hp (found := found) (o := o) (o2 := o2) (o3 := o3) (o5 := o5) n (k + 1) (o4.set q (F.getD k [])) (by omega) (by omega) (by simpa using h4) (fun x hx' ht => by
      by_cases e : x = q
      · subst e
        rw [getD_set_self _ _ _ _ (by omega), q3]
      · rw [getD_set_ne _ _ _ _ _ (Ne.symm e)]
        refine hx x hx' ?_
        have : τ x ≠ k := fun e2 => by
          have := (hp.inv x hx').2
          rw [e2, q1] at this
          omega
        omega)
    rw [nat_succ] at ih
    rw [br_dec (by omega), idx_eq (by omega) (gets (by omega) 0), q1, idx_eq (by omega) (gets c []), copyi_v hlen]
    simp only [Option.bind_some]
    rw [rng_eq (by omega)]
    simp only [Int.toNat_natCast]
    rw [get_get [] (by omega), chk_eq (by omega)]
    exact ih
theorem fnamed_l3_p {p one two : List Int} {u : Nat} (hu : p.length = u) (hu6 : u ≤ 6) (h1 : one.length ≤ 6) (h2 : two.length ≤ 6) (hN : 110 ≤ N) (h : ∀ i, i < u → hasB one i = hasB two (p.getD i 0)) : ∀ n k : Nat, u < n + k → k ≤ u → fnamed_l3 N n one two p u k = some (.inr ())
  | 0, k, hn, _ => by omega
  | n + 1, k, hn, hk => by
    unfold fnamed_l3
    by_cases c : k < u
    · have ih := fnamed_l3_p hu hu6 h1 h2 hN h n (k + 1) (by omega) (by omega)
      rw [nat_succ] at ih
      rw [br_dec (by omega), idx_eq (by omega) (gets (by omega) 0), containsi_v (by omega) (by omega), containsi_v (by omega) (by omega)]
      simp only [Option.bind_some]
      rw [h k c, beq_self_eq_true, Bool.not_true, br_false, chk_eq (by omega), ih]
    · rw [br_ndec (by omega)]
theorem fine_of {F1 : Fine W s L F R} (ll : Lo.length = L.length) (fl : Fo.length = F.length) (rl : Ro.length = L.length) (hl : ∀ x ∈ Lo, x ∈ L) (hf : ∀ x ∈ Fo, x ∈ F) (hr : ∀ x ∈ Ro, x ∈ R) : Fine W s Lo Fo Ro :=
  ⟨F1.w1, F1.w5, by rw [ll]; exact F1.l6, by rw [fl]; exact F1.f6, fun x hx => F1.lw x (hl x hx), fun x hx => F1.fw x (hf x hx), by rw [rl, ll], F1.w, F1.s, fun x hx => F1.r x (hr x hx), fun r hr' => F1.lv r (hl r hr'), fun r hr' => F1.fv r (hf r hr')⟩
theorem mem_getD {α : Type} {l : List α} {x d : α} (h : x ∈ l) : ∃ i, i < l.length ∧ l.getD i d = x := by
  obtain ⟨i, hi, e⟩ := List.getElem_of_mem h
  exact ⟨i, hi, by simp [List.getD, hi, e]⟩
end
end Go.Proofs.Ythncjilcflilcaa

namespace Go.Proofs.Ythncjilcflilcaa
set_option linter.all false
open Go
theorem awake_v : awake_S 1100 = some true := by kernel_rfl
end Go.Proofs.Ythncjilcflilcaa

namespace Go.Proofs.Ythncjilcflilcaa
set_option linter.all false
open Go

theorem fnamed_true {a b : List Int} (h0 : Ty.inB (.sl (.int .u8)) a) (h1 : Ty.inB (.sl (.int .u8)) b) : fnamed_S 1100 a b = some true := by
  have l0 : a.length ≤ 9223372036854775807 := h0.1
  have l1 : b.length ≤ 9223372036854775807 := h1.1
  unfold fnamed_S hang_S
  simp only [Option.bind_some]
  obtain ⟨⟨W, s, L, F, R, c, c2, c3⟩, em, hF, hlen, _, _⟩ := made_v (N := 1100) (b := a) (by omega) (things := 5) (b2 := 0) (b3 := 0) (by omega) ⟨l0, by omega, by omega⟩
  dsimp only at hF hlen
  rw [em]
  simp only [Option.bind_some]
  have hl6 := hF.l6; have hf6 := hF.f6; have hrl := hF.rl
  obtain ⟨⟨p1, d1, d2, d3⟩, ep, ⟨τ1, hp1⟩, hc, hb1⟩ := rung_perm (N := 1100) (by omega) (b := b) (b2 := 0) (b3 := 0) (u := L.length) (by omega) ⟨l1, by omega, by omega⟩
  dsimp only at hp1 hc hb1
  subst hc
  rw [ep]
  simp only [Option.bind_some]
  obtain ⟨⟨p2, g1, g2, g3⟩, eq, ⟨τ2, hp2⟩, _, _⟩ := rung_perm (N := 1100) (by omega) (b := d1) (b2 := d2) (b3 := d3) (u := F.length) (by omega) hb1
  dsimp only at hp2
  rw [eq]
  simp only [Option.bind_some]
  rw [copydo_v (by omega) hF.sm]
  simp only [Option.bind_some]
  have hpl1 := hp1.len; have hpl2 := hp2.len
  obtain ⟨Lo, Ro, e1, ⟨ll, rl⟩, x1⟩ := fnamed_l1_p (N := 1100) hF hp1 (found := p2) (o := W) (o2 := s) (o4 := F) 1100 0 L R (by omega) (by omega) rfl hrl (fun x _ h => by omega)
  rw [show ((0 : Nat) : Int) = 0 from rfl] at e1
  rw [e1]
  simp only [Option.bind_some]
  obtain ⟨Fo, e2, fl, x2⟩ := fnamed_l2_p (N := 1100) hF hp2 (found := p2) (o := W) (o2 := s) (o3 := Lo) (o5 := Ro) 1100 0 F (by omega) (by omega) rfl (fun x _ h => by omega)
  rw [show ((0 : Nat) : Int) = 0 from rfl] at e2
  rw [e2]
  simp only [Option.bind_some]
  have ho : OrdD L F R Lo Fo Ro τ1 (fun i => (p1.getD i 0).toNat) τ2 (fun i => (p2.getD i 0).toNat) := ⟨ll, fl, hp1.two, hp2.two, fun x hx => (x1 x hx).1, fun x hx => (x1 x hx).2, x2⟩
  have hO : Fine W s Lo Fo Ro := fine_of (F1 := hF) ll fl rl (fun x hx => by
      obtain ⟨i, hi, e⟩ := mem_getD (d := []) hx
      rw [← e, (x1 i (by omega)).1]
      exact getD_mem (hp1.two.la i (by omega)).1) (fun x hx => by
      obtain ⟨i, hi, e⟩ := mem_getD (d := []) hx
      rw [← e, x2 i (by omega)]
      exact getD_mem (hp2.two.la i (by omega)).1) (fun x hx => by
      obtain ⟨i, hi, e⟩ := mem_getD (d := 0) hx
      rw [← e, (x1 i (by omega)).2]
      exact getD_mem (by rw [hrl]; exact (hp1.two.la i (by omega)).1))
  have z1 := errD_iff.2 hF
  have z2 := errD_iff.2 hO
  rw [best_v (by omega) hF.sm, best_v (by omega) hO.sm, richest_v (by omega) hF.sm, richest_v (by omega) hO.sm, count_v (by omega) hF.sm, count_v (by omega) hO.sm, if_pos z1, if_pos z2, if_pos z1, if_pos z2, if_pos z1, if_pos z2]
  simp only [Option.bind_some]
  have hr : valJ (rewT R) 0 (richL W s L F R) = valJ (rewT Ro) 0 (richL W s Lo Fo Ro) := Int.le_antisymm (ho.rich_le hF hO) (ho.symm.rich_le hO hF)
  have hn : bestN W s L F = bestN W s Lo Fo := ho.bestN_eq
  rw [br_nd (by first | trivial | rfl), br_nd (by first | trivial | rfl), br_nd (by first | trivial | rfl), br_nd (by first | trivial | rfl), br_nd (by first | trivial | rfl), br_nd (by first | trivial | rfl), br_nd ho.bestV_eq, br_nd hr, br_nd hn,
    spare_v (by omega) hF.sm, spare_v (by omega) hO.sm, if_pos z1, if_pos z2]
  simp only [Option.bind_some]
  have hs1 := spareR_len (W := W) (s := s) (L := L) (F := F) F.length
  have hs2 := spareR_len (W := W) (s := s) (L := Lo) (F := Fo) Fo.length
  have hsl := ho.spare_len (W := W) (s := s)
  have e3 := fnamed_l3_p (N := 1100) (p := p2) (one := spareR W s L F F.length) (two := spareR W s Lo Fo Fo.length) (u := F.length) hpl2 (by omega) (by omega) (by omega) (by omega) (fun i hi => by
    obtain ⟨q, q1, q2, q3⟩ := hp2.bd i hi
    rw [q1, Bool.eq_iff_iff, hasB_iff, hasB_iff, mem_spare, mem_spare]
    have hv := ho.vK_eq (W := W) (s := s) hi
    have hv' : vK W s L F i = vK W s Lo Fo q := by rw [hv, q1, Int.toNat_natCast]
    rw [hv', ho.bestV_eq (W := W) (s := s), fl]
    exact ⟨fun h => ⟨q2, h.2⟩, fun h => ⟨hi, h.2⟩⟩) 1100 0 (by omega) (by omega)
  rw [show ((0 : Nat) : Int) = 0 from rfl, ← hpl2] at e3
  rw [br_nd (by first | trivial | rfl), br_nd (by first | trivial | rfl), br_nd (by omega)]
  rw [hpl2] at e3
  rw [hpl2, e3]
  simp only [Option.bind_some]
  rw [awake_v]; rfl
end Go.Proofs.Ythncjilcflilcaa

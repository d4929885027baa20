/-
  Parts of a proof, put together: X7, TM3.
  Conditions: none.
-/
import Derived.Test.YtfamlpbdhhikdaaZh
namespace Go.Proofs.Ytfamlpbdhhikdaa
set_option linter.all false
open Go

def tshortened_j1 (N : Nat) (rec : Int → Int → Int → (List (Int × (Int × Bool))) → (List (Int × (Int × Int))) → Int → (List Int) → Int → Int → (List Int) → (List Int) → Option (Int × (List (Int × (Int × Bool))) × (List (Int × (Int × Int))) × Int × List Int × Int × Int × List Int × List Int)) (pence : Int) (u : Int) (u2 : Int) (t : List (Int × (Int × Bool))) (t2 : List (Int × (Int × Int))) (t3 : Int) (q : List Int) (q2 : Int) (q3 : Int) (all : List Int) (l : List Int) : Option (Int × (List (Int × (Int × Bool))) × (List (Int × (Int × Int))) × Int × List Int × Int × Int × List Int × List Int) :=
  chk (u2 + 1) <|
  rec pence u (u2 + 1) t t2 t3 q q2 q3 all l
def tshortened_l1 (N : Nat) : Nat → Int → Int → Int → (List (Int × (Int × Bool))) → (List (Int × (Int × Int))) → Int → (List Int) → Int → Int → (List Int) → (List Int) → Option (Int × (List (Int × (Int × Bool))) × (List (Int × (Int × Int))) × Int × List Int × Int × Int × List Int × List Int)
  | 0, _, _, _, _, _, _, _, _, _, _, _ => none
  | n_ + 1, pence, u, u2, t, t2, t3, q, q2, q3, all, l =>
    br (decide (u2 < u))
      (lim (all.length + [u2].length) <|
      (seldom_S N 4 q q2 q3).bind fun (x_13, y_14, y_15, y_16) =>
      br (!x_13)
        (lim (l.length + [u2].length) <|
        tshortened_j1 N (tshortened_l1 N n_) pence u u2 t t2 t3 y_14 y_15 y_16 (all ++ [u2]) (l ++ [u2]))
        (tshortened_j1 N (tshortened_l1 N n_) pence u u2 t t2 t3 y_14 y_15 y_16 (all ++ [u2]) l))
      (some ((pence, t, t2, t3, q, q2, q3, all, l)))
def tshortened_l3 (N : Nat) : Nat → (List Int) → Int → Int → Int → (List Int) → Int → Bool → Int → (List (Int × (Int × Int))) → Int → Int → (List (Int × (Int × Bool))) → (List (Int × (Int × Int))) → Int → (List Int) → Int → Int → (List (Int × (Int × Bool))) → (List (Int × (Int × Int))) → Int → Int → Int → Int → Option (List Int × Int × Int × Int × List Int × Int × Bool × (List (Int × (Int × Int))) × Int × Int × (List (Int × (Int × Bool))) × (List (Int × (Int × Int))) × Int × List Int × Int × Int × (List (Int × (Int × Bool))) × (List (Int × (Int × Int))) × Int × Int × Int × Int)
  | 0, _, _, _, _, _, _, _, _, _, _, _, _, _, _, _, _, _, _, _, _, _, _, _ => none
  | n_ + 1, l, e, lo, hi, said, n, core, w, u, u2, u3, t, t2, t3, q, q2, q3, x, x2, x3, y, y2, y3 =>
    br (decide (w ≤ y3))
      (br core
        (chk (hi + 1) <|
        grd (decide ((0 : Int) ≤ lo ∧ (lo : Int) ≤ (hi + 1) ∧ (hi + 1) ≤ (l.length : Int))) <|
        (containsi_S N ((l.take ((hi + 1).toNat)).drop lo.toNat) w).bind fun x_55 =>
        chk (w + 1) <|
        tshortened_l3 N n_ l e lo hi said n x_55 (w + 1) u u2 u3 t t2 t3 q q2 q3 x x2 x3 y y2 y3)
        (chk (w + 1) <|
        tshortened_l3 N n_ l e lo hi said n false (w + 1) u u2 u3 t t2 t3 q q2 q3 x x2 x3 y y2 y3))
      (some ((l, e, lo, hi, said, n, core, u, u2, u3, t, t2, t3, q, q2, q3, x, x2, x3, y, y2, y3)))
def tshortened_j2 (N : Nat) (rec : (List Int) → Int → Int → Int → (List Int) → Int → (List (Int × (Int × Int))) → Int → Int → (List (Int × (Int × Bool))) → (List (Int × (Int × Int))) → Int → (List Int) → Int → Int → (List (Int × (Int × Bool))) → (List (Int × (Int × Int))) → Int → Option (List Int × Int × List Int × Int × (List (Int × (Int × Bool))) × (List (Int × (Int × Int))) × Int × List Int × Int × Int × (List (Int × (Int × Bool))) × (List (Int × (Int × Int))) × Int)) (l : List Int) (e : Int) (lo : Int) (hi : Int) (said : List Int) (n : Int) (u : List (Int × (Int × Int))) (u2 : Int) (u3 : Int) (t : List (Int × (Int × Bool))) (t2 : List (Int × (Int × Int))) (t3 : Int) (q : List Int) (q2 : Int) (q3 : Int) (x : List (Int × (Int × Bool))) (x2 : List (Int × (Int × Int))) (x3 : Int) : Option (List Int × Int × List Int × Int × (List (Int × (Int × Bool))) × (List (Int × (Int × Int))) × Int × List Int × Int × Int × (List (Int × (Int × Bool))) × (List (Int × (Int × Int))) × Int) :=
  chk (u3 + 1) <|
  rec l e lo hi said n u u2 (u3 + 1) t t2 t3 q q2 q3 x x2 x3
def tshortened_l2 (N : Nat) : Nat → (List Int) → Int → Int → Int → (List Int) → Int → (List (Int × (Int × Int))) → Int → Int → (List (Int × (Int × Bool))) → (List (Int × (Int × Int))) → Int → (List Int) → Int → Int → (List (Int × (Int × Bool))) → (List (Int × (Int × Int))) → Int → Option (List Int × Int × List Int × Int × (List (Int × (Int × Bool))) × (List (Int × (Int × Int))) × Int × List Int × Int × Int × (List (Int × (Int × Bool))) × (List (Int × (Int × Int))) × Int)
  | 0, _, _, _, _, _, _, _, _, _, _, _, _, _, _, _, _, _, _ => none
  | n_ + 1, l, e, lo, hi, said, n, u, u2, u3, t, t2, t3, q, q2, q3, x, x2, x3 =>
    br (decide (u3 < u2))
      (idx u u3 fun x_54 =>
      (tshortened_l3 N N l e lo hi said n true x_54.2.1 u u2 u3 t t2 t3 q q2 q3 x x2 x3 x_54.1 x_54.2.1 x_54.2.2).bind fun (l_56, e_57, lo_58, hi_59, said_60, n_61, core_62, u_63, u2_64, u3_65, t_66, t2_67, t3_68, q_69, q2_70, q3_71, x_72, x2_73, x3_74, y_75, y2_76, y3_77) =>
      br core_62
        (chk (hi_59 + 1) <|
        grd (decide ((0 : Int) ≤ lo_58 ∧ (lo_58 : Int) ≤ (hi_59 + 1) ∧ (hi_59 + 1) ≤ (l_56.length : Int))) <|
        (containsi_S N ((l_56.take ((hi_59 + 1).toNat)).drop lo_58.toNat) y_75).bind fun x_78 =>
        br (!x_78)
          (chk (n_61 + 1) <|
          tshortened_j2 N (tshortened_l2 N n_) l_56 e_57 lo_58 hi_59 said_60 (n_61 + 1) u_63 u2_64 u3_65 t_66 t2_67 t3_68 q_69 q2_70 q3_71 x_72 x2_73 x3_74)
          (tshortened_j2 N (tshortened_l2 N n_) l_56 e_57 lo_58 hi_59 said_60 n_61 u_63 u2_64 u3_65 t_66 t2_67 t3_68 q_69 q2_70 q3_71 x_72 x2_73 x3_74))
        (tshortened_j2 N (tshortened_l2 N n_) l_56 e_57 lo_58 hi_59 said_60 n_61 u_63 u2_64 u3_65 t_66 t2_67 t3_68 q_69 q2_70 q3_71 x_72 x2_73 x3_74))
      (some ((l, e, said, n, t, t2, t3, q, q2, q3, x, x2, x3)))
def tshortened_j3 (N : Nat) (rec : (List Int) → Int → Int → (List (Int × (Int × Bool))) → (List (Int × (Int × Int))) → Int → (List Int) → Int → Int → (List (Int × (Int × Bool))) → (List (Int × (Int × Int))) → Int → (List Int) → (List Int) → Option ((List (Int × (Int × Bool))) × (List (Int × (Int × Int))) × Int × (List (Int × (Int × Bool))) × (List (Int × (Int × Int))) × Int × List Int × List Int)) (u : List Int) (u2 : Int) (u3 : Int) (t : List (Int × (Int × Bool))) (t2 : List (Int × (Int × Int))) (t3 : Int) (q : List Int) (q2 : Int) (q3 : Int) (x : List (Int × (Int × Bool))) (x2 : List (Int × (Int × Int))) (x3 : Int) (k : List Int) (once : List Int) : Option ((List (Int × (Int × Bool))) × (List (Int × (Int × Int))) × Int × (List (Int × (Int × Bool))) × (List (Int × (Int × Int))) × Int × List Int × List Int) :=
  chk (u3 + 1) <|
  rec u u2 (u3 + 1) t t2 t3 q q2 q3 x x2 x3 k once
def tshortened_l4 (N : Nat) : Nat → (List Int) → Int → Int → (List (Int × (Int × Bool))) → (List (Int × (Int × Int))) → Int → (List Int) → Int → Int → (List (Int × (Int × Bool))) → (List (Int × (Int × Int))) → Int → (List Int) → (List Int) → Option ((List (Int × (Int × Bool))) × (List (Int × (Int × Int))) × Int × (List (Int × (Int × Bool))) × (List (Int × (Int × Int))) × Int × List Int × List Int)
  | 0, _, _, _, _, _, _, _, _, _, _, _, _, _, _ => none
  | n_ + 1, u, u2, u3, t, t2, t3, q, q2, q3, x, x2, x3, k, once =>
    br (decide (u3 < u2))
      (idx u u3 fun x_92 =>
      (seldom_S N 2 q q2 q3).bind fun (x_93, y_94, y_95, y_96) =>
      br x_93
        (lim (k.length + [u3].length) <|
        lim (once.length + [x_92].length) <|
        tshortened_j3 N (tshortened_l4 N n_) u u2 u3 t t2 t3 y_94 y_95 y_96 x x2 x3 (k ++ [u3]) (once ++ [x_92]))
        (tshortened_j3 N (tshortened_l4 N n_) u u2 u3 t t2 t3 y_94 y_95 y_96 x x2 x3 k once))
      (some ((t, t2, t3, x, x2, x3, k, once)))
def tshortened_S (N : Nat) (numbers : List Int) (tries : List Int) (pence : Int) : Option Bool :=
  (hang_S N numbers).bind fun (x_1, y_2, y_3) =>
  (made_S N 9 3 x_1 y_2 y_3).bind fun (x_4, y_5, y_6, y_7, y_8, y_9) =>
  (hang_S N tries).bind fun (x_10, y_11, y_12) =>
  (tshortened_l1 N N pence (x_4.length : Int) 0 x_4 y_5 y_6 x_10 y_11 y_12 [] []).bind fun (pence_17, t_18, t2_19, t3_20, q_21, q2_22, q3_23, all_24, l_25) =>
  (shorter_S N t_18 t2_19 t3_20 all_24).bind fun (x_26, y_27, y_28, y_29) =>
  br (!decide (y_27 = 0))
    (some false)
    ((same_S N y_28 y_29 x_26 t_18 t2_19 t3_20).bind fun x_30 =>
    br (!x_30)
      (some false)
      ((shorter_S N t_18 t2_19 t3_20 l_25).bind fun (x_31, y_32, y_33, y_34) =>
      br (decide ((l_25.length : Int) = 0))
        (br (decide (y_32 = 2))
          ((awake_S N).bind fun x_35 =>
          some x_35)
          (some false))
        ((lkeeps_S N t_18 t2_19 t3_20 l_25).bind fun (x_36, y_37, y_38) =>
        br (!decide (y_38 = 0))
          (some false)
          (br (!(x_36 == (decide (y_32 = 0))))
            (some false)
            (br (!x_36)
              (br (!decide (y_32 = 8))
                (some false)
                (br (!decide (y_32 = 0))
                  ((awake_S N).bind fun x_39 =>
                  some x_39)
                  (chk (1 + (Int.tmod (IntKind.i64.wrap pence_17) 100)) <|
                  (price_S N t_18 t2_19 t3_20 (1 + (Int.tmod (IntKind.i64.wrap pence_17) 100))).bind fun (x_40, y_41) =>
                  (price_S N y_33 y_34 x_31 (1 + (Int.tmod (IntKind.i64.wrap pence_17) 100))).bind fun (x_42, y_43) =>
                  br (!decide (y_41 = 0))
                    (some false)
                    (br (!decide (y_43 = 0))
                      (some false)
                      (br (decide (x_40 < x_42))
                        (some false)
                        (chk ((1 + (Int.tmod (IntKind.i64.wrap pence_17) 100)) * (l_25.length : Int)) <|
                        br (decide (x_42 < ((1 + (Int.tmod (IntKind.i64.wrap pence_17) 100)) * (l_25.length : Int))))
                          (some false)
                          (br (!decide ((y_33.length : Int) = (l_25.length : Int)))
                            (some false)
                            (br (decide ((t2_19.length : Int) < (y_34.length : Int)))
                              (some false)
                              (chk ((l_25.length : Int) - 1) <|
                              (stroke_S N ((l_25.length : Int) - 1) q_21 q2_22 q3_23).bind fun (x_44, y_45, y_46, y_47) =>
                              chk ((l_25.length : Int) - 1) <|
                              (strike_S N x_44 ((l_25.length : Int) - 1) y_45 y_46 y_47).bind fun (x_48, y_49, y_50, y_51) =>
                              (says__S N y_33 y_34 x_31 x_44 x_48).bind fun (x_52, y_53) =>
                              (tshortened_l2 N N l_25 y_53 x_44 x_48 x_52 0 t2_19 (t2_19.length : Int) 0 t_18 t2_19 t3_20 y_49 y_50 y_51 y_33 y_34 x_31).bind fun (l_79, e_80, said_81, n_82, t_83, t2_84, t3_85, q_86, q2_87, q3_88, x_89, x2_90, x3_91) =>
                              br (!decide (e_80 = 0))
                                (some false)
                                (br (!decide ((said_81.length : Int) = n_82))
                                  (some false)
                                  ((tshortened_l4 N N l_79 (l_79.length : Int) 0 t_83 t2_84 t3_85 q_86 q2_87 q3_88 x_89 x2_90 x3_91 [] []).bind fun (t_97, t2_98, t3_99, x_100, x2_101, x3_102, k_103, once_104) =>
                                  (shorter_S N x_100 x2_101 x3_102 k_103).bind fun (x_105, y_106, y_107, y_108) =>
                                  (shorter_S N t_97 t2_98 t3_99 once_104).bind fun (x_109, y_110, y_111, y_112) =>
                                  br (decide (y_106 = y_110))
                                    ((same_S N y_107 y_108 x_105 y_111 y_112 x_109).bind fun x_113 =>
                                    br x_113
                                      ((awake_S N).bind fun x_114 =>
                                      some x_114)
                                      (some false))
                                    (some false))))))))))))
              (br (!decide (y_32 = 0))
                ((awake_S N).bind fun x_115 =>
                some x_115)
                (chk (1 + (Int.tmod (IntKind.i64.wrap pence_17) 100)) <|
                (price_S N t_18 t2_19 t3_20 (1 + (Int.tmod (IntKind.i64.wrap pence_17) 100))).bind fun (x_116, y_117) =>
                (price_S N y_33 y_34 x_31 (1 + (Int.tmod (IntKind.i64.wrap pence_17) 100))).bind fun (x_118, y_119) =>
                br (!decide (y_117 = 0))
                  (some false)
                  (br (!decide (y_119 = 0))
                    (some false)
                    (br (decide (x_116 < x_118))
                      (some false)
                      (chk ((1 + (Int.tmod (IntKind.i64.wrap pence_17) 100)) * (l_25.length : Int)) <|
                      br (decide (x_118 < ((1 + (Int.tmod (IntKind.i64.wrap pence_17) 100)) * (l_25.length : Int))))
                        (some false)
                        (br (!decide ((y_33.length : Int) = (l_25.length : Int)))
                          (some false)
                          (br (decide ((t2_19.length : Int) < (y_34.length : Int)))
                            (some false)
                            (chk ((l_25.length : Int) - 1) <|
                            (stroke_S N ((l_25.length : Int) - 1) q_21 q2_22 q3_23).bind fun (x_120, y_121, y_122, y_123) =>
                            chk ((l_25.length : Int) - 1) <|
                            (strike_S N x_120 ((l_25.length : Int) - 1) y_121 y_122 y_123).bind fun (x_124, y_125, y_126, y_127) =>
                            (says__S N y_33 y_34 x_31 x_120 x_124).bind fun (x_128, y_129) =>
                            (tshortened_l2 N N l_25 y_129 x_120 x_124 x_128 0 t2_19 (t2_19.length : Int) 0 t_18 t2_19 t3_20 y_125 y_126 y_127 y_33 y_34 x_31).bind fun (l_130, e_131, said_132, n_133, t_134, t2_135, t3_136, q_137, q2_138, q3_139, x_140, x2_141, x3_142) =>
                            br (!decide (e_131 = 0))
                              (some false)
                              (br (!decide ((said_132.length : Int) = n_133))
                                (some false)
                                ((tshortened_l4 N N l_130 (l_130.length : Int) 0 t_134 t2_135 t3_136 q_137 q2_138 q3_139 x_140 x2_141 x3_142 [] []).bind fun (t_143, t2_144, t3_145, x_146, x2_147, x3_148, k_149, once_150) =>
                                (shorter_S N x_146 x2_147 x3_148 k_149).bind fun (x_151, y_152, y_153, y_154) =>
                                (shorter_S N t_143 t2_144 t3_145 once_150).bind fun (x_155, y_156, y_157, y_158) =>
                                br (decide (y_152 = y_156))
                                  ((same_S N y_153 y_154 x_151 y_157 y_158 x_155).bind fun x_159 =>
                                  br x_159
                                    ((awake_S N).bind fun x_160 =>
                                    some x_160)
                                    (some false))
                                  (some false))))))))))))))))
noncomputable def tshortened_sp (N : Nat) : List Spec := [sp_stroke N, sp_strike N, sp_seldom N, sp_hang N, sp_says_ N, sp_containsi N, sp_price N, sp_lkeeps N, sp_shorter N, sp_awake N, sp_same N, sp_made N]
theorem tshortened_all (N : Nat) : AllP (SpecOK Try.prog) (tshortened_sp N) := ⟨sp_stroke_ok N, sp_strike_ok N, sp_seldom_ok N, sp_hang_ok N, sp_says__ok N, sp_containsi_ok N, sp_price_ok N, sp_lkeeps_ok N, sp_shorter_ok N, sp_awake_ok N, sp_same_ok N, sp_made_ok N, trivial⟩
noncomputable def tshortened_c : Code := (Try.f17.body).getD .skip
noncomputable abbrev tshortened_B : Body := { c := tshortened_c, n := 274, res := [.tmp 6], outs := [⟨[.b], []⟩], m0 := 0 }
abbrev tshortened_rt : altD tshortened_B.outs → Option Bool := fun r => some r.1.1
abbrev tshortened_l1_at : List PI := [.c [1, 1, 1, 1, 0, 1, 0, 0, 0], .c [1, 1, 1, 1, 0, 1, 0, 0, 1], .l [1, 1, 1, 1, 0, 1, 0, 0], .b 0, .c [1, 1, 1, 1, 1]]
abbrev tshortened_l1_st : Sta := ⟨[2, 7, 8, 9, 10, 42, 43], ⟨[.i .u8, .own 0 0, .own 1 0, .ols 2, .ols 3, .i .i64, .i .i64], [.segs [.sl (.pair (.int .i64) (.pair (.int .i64) .bool)), .sl (.pair (.int .i64) (.pair (.int .i64) (.int .i64))), .i .i64], .segs [.sl (.int .u8), .i .i64, .i .u32], .lst (.int .i64), .lst (.int .i64)]⟩⟩
abbrev tshortened_l1_h (rec : Int → Int → Int → (List (Int × (Int × Bool))) → (List (Int × (Int × Int))) → Int → (List Int) → Int → Int → (List Int) → (List Int) → Option (Int × (List (Int × (Int × Bool))) × (List (Int × (Int × Int))) × Int × List Int × Int × Int × List Int × List Int)) : Leaf (Int × (List (Int × (Int × Bool))) × (List (Int × (Int × Int))) × Int × List Int × Int × Int × List Int × List Int) := ⟨tshortened_l1_at, tshortened_l1_st, fun p => rec p.1.1 p.1.2.2.2.2.2.1 p.1.2.2.2.2.2.2.1 p.2.1.1 p.2.1.2.1 p.2.1.2.2.1 p.2.2.1.1 p.2.2.1.2.1 p.2.2.1.2.2.1 p.2.2.2.1 p.2.2.2.2.1⟩
abbrev tshortened_l1_e0 : Leaf (Int × (List (Int × (Int × Bool))) × (List (Int × (Int × Int))) × Int × List Int × Int × Int × List Int × List Int) := ⟨[.c [1, 1, 1, 1, 1, 0], .c [1, 1, 1, 1, 1, 1]], ⟨[2, 7, 8, 9, 10], ⟨[.i .u8, .own 0 0, .own 1 0, .ols 2, .ols 3], [.segs [.sl (.pair (.int .i64) (.pair (.int .i64) .bool)), .sl (.pair (.int .i64) (.pair (.int .i64) (.int .i64))), .i .i64], .segs [.sl (.int .u8), .i .i64, .i .u32], .lst (.int .i64), .lst (.int .i64)]⟩⟩, fun p => some ((p.1.1, p.2.1.1, p.2.1.2.1, p.2.1.2.2.1, p.2.2.1.1, p.2.2.1.2.1, p.2.2.1.2.2.1, p.2.2.2.1, p.2.2.2.2.1))⟩
abbrev tshortened_j1_at : List PI := [.c [1, 1, 1, 1, 0, 1, 0, 0, 1, 1, 1], .l [1, 1, 1, 1, 0, 1, 0, 0], .b 0, .c [1, 1, 1, 1, 1]]
abbrev tshortened_j1_st : Sta := ⟨[2, 7, 8, 9, 10, 42, 43], ⟨[.i .u8, .own 0 0, .own 1 0, .ols 2, .ols 3, .i .i64, .i .i64], [.segs [.sl (.pair (.int .i64) (.pair (.int .i64) .bool)), .sl (.pair (.int .i64) (.pair (.int .i64) (.int .i64))), .i .i64], .segs [.sl (.int .u8), .i .i64, .i .u32], .lst (.int .i64), .lst (.int .i64)]⟩⟩
abbrev tshortened_j1_k (N : Nat) (rec : Int → Int → Int → (List (Int × (Int × Bool))) → (List (Int × (Int × Int))) → Int → (List Int) → Int → Int → (List Int) → (List Int) → Option (Int × (List (Int × (Int × Bool))) × (List (Int × (Int × Int))) × Int × List Int × Int × Int × List Int × List Int)) : Leaf (Int × (List (Int × (Int × Bool))) × (List (Int × (Int × Int))) × Int × List Int × Int × Int × List Int × List Int) := ⟨tshortened_j1_at, tshortened_j1_st, fun p => tshortened_j1 N rec p.1.1 p.1.2.2.2.2.2.1 p.1.2.2.2.2.2.2.1 p.2.1.1 p.2.1.2.1 p.2.1.2.2.1 p.2.2.1.1 p.2.2.1.2.1 p.2.2.1.2.2.1 p.2.2.2.1 p.2.2.2.2.1⟩
theorem tshortened_j1_eq (N : Nat) (rec : Int → Int → Int → (List (Int × (Int × Bool))) → (List (Int × (Int × Int))) → Int → (List Int) → Int → Int → (List Int) → (List Int) → Option (Int × (List (Int × (Int × Bool))) × (List (Int × (Int × Int))) × Int × List Int × Int × Int × List Int × List Int)) (pence : Int) (u : Int) (u2 : Int) (t : List (Int × (Int × Bool))) (t2 : List (Int × (Int × Int))) (t3 : Int) (q : List Int) (q2 : Int) (q3 : Int) (all : List Int) (l : List Int) : ev (Z := Int × (List (Int × (Int × Bool))) × (List (Int × (Int × Int))) × Int × List Int × Int × Int × List Int × List Int) Try.prog (tshortened_sp N) tshortened_B [] [tshortened_l1_h rec, tshortened_l1_e0] none 400 true tshortened_j1_at (stL tshortened_j1_st ((pence, (), (), (), (), u, u2, ()), ((t, t2, t3, ()), (q, q2, q3, ()), all, l, ()))) (stH tshortened_j1_st ((pence, (), (), (), (), u, u2, ()), ((t, t2, t3, ()), (q, q2, q3, ()), all, l, ()))) = tshortened_j1 N rec pence u u2 t t2 t3 q q2 q3 all l := by kernel_rfl
theorem tshortened_j1_lf (N : Nat) (rec : Int → Int → Int → (List (Int × (Int × Bool))) → (List (Int × (Int × Int))) → Int → (List Int) → Int → Int → (List Int) → (List Int) → Option (Int × (List (Int × (Int × Bool))) × (List (Int × (Int × Int))) × Int × List Int × Int × Int × List Int × List Int)) {z : Int × (List (Int × (Int × Bool))) × (List (Int × (Int × Int))) × Int × List Int × Int × Int × List Int × List Int} {top : Bool} {E : EE} {Xc : Ctx} (hE : EOK tshortened_B.m0 E) (hX : CxOK top Xc) (hrec : LeafOK Try.prog tshortened_B.c tshortened_B.n tshortened_B.m0 E Xc z (tshortened_l1_h rec)) (h0 : LeafOK Try.prog tshortened_B.c tshortened_B.n tshortened_B.m0 E Xc z tshortened_l1_e0) : LeafOK Try.prog tshortened_B.c tshortened_B.n tshortened_B.m0 E Xc z (tshortened_j1_k N rec) := leaf_of_ev (B := tshortened_B) (loops := []) (leaves := [tshortened_l1_h rec, tshortened_l1_e0]) (tshortened_all N) mixed trivial hE hX ⟨hrec, h0, trivial⟩ RetOK.no (fun p => tshortened_j1_eq N rec p.1.1 p.1.2.2.2.2.2.1 p.1.2.2.2.2.2.2.1 p.2.1.1 p.2.1.2.1 p.2.1.2.2.1 p.2.2.1.1 p.2.2.1.2.1 p.2.2.1.2.2.1 p.2.2.2.1 p.2.2.2.2.1)
noncomputable def tshortened_l1_L (N : Nat) : LoopS := { at_ := tshortened_l1_at, sta := tshortened_l1_st, exits := [([.c [1, 1, 1, 1, 1, 0], .c [1, 1, 1, 1, 1, 1]], ⟨[2, 7, 8, 9, 10], ⟨[.i .u8, .own 0 0, .own 1 0, .ols 2, .ols 3], [.segs [.sl (.pair (.int .i64) (.pair (.int .i64) .bool)), .sl (.pair (.int .i64) (.pair (.int .i64) (.int .i64))), .i .i64], .segs [.sl (.int .u8), .i .i64, .i .u32], .lst (.int .i64), .lst (.int .i64)]⟩⟩)], run := fun p k => (tshortened_l1 N N p.1.1 p.1.2.2.2.2.2.1 p.1.2.2.2.2.2.2.1 p.2.1.1 p.2.1.2.1 p.2.1.2.2.1 p.2.2.1.1 p.2.2.1.2.1 p.2.2.1.2.2.1 p.2.2.2.1 p.2.2.2.2.1).bind fun e => k (.inl ((e.1, (), (), (), (), ()), ((e.2.1, e.2.2.1, e.2.2.2.1, ()), (e.2.2.2.2.1, e.2.2.2.2.2.1, e.2.2.2.2.2.2.1, ()), e.2.2.2.2.2.2.2.1, e.2.2.2.2.2.2.2.2, ()))) }
theorem tshortened_l1_eq (N n_ : Nat) (pence : Int) (u : Int) (u2 : Int) (t : List (Int × (Int × Bool))) (t2 : List (Int × (Int × Int))) (t3 : Int) (q : List Int) (q2 : Int) (q3 : Int) (all : List Int) (l : List Int) : ev (Z := Int × (List (Int × (Int × Bool))) × (List (Int × (Int × Int))) × Int × List Int × Int × Int × List Int × List Int) Try.prog (tshortened_sp N) tshortened_B [] [tshortened_l1_h (tshortened_l1 N n_), tshortened_l1_e0, tshortened_j1_k N (tshortened_l1 N n_)] none 400 true tshortened_l1_at (stL tshortened_l1_st ((pence, (), (), (), (), u, u2, ()), ((t, t2, t3, ()), (q, q2, q3, ()), all, l, ()))) (stH tshortened_l1_st ((pence, (), (), (), (), u, u2, ()), ((t, t2, t3, ()), (q, q2, q3, ()), all, l, ()))) = tshortened_l1 N (n_ + 1) pence u u2 t t2 t3 q q2 q3 all l := by kernel_rfl
theorem tshortened_l1_ok (N : Nat) {top : Bool} : LoopOK Try.prog tshortened_B.c tshortened_B.n tshortened_B.m0 top (tshortened_l1_L N) := loop_of_ev (Z := Int × (List (Int × (Int × Bool))) × (List (Int × (Int × Int))) × Int × List Int × Int × Int × List Int × List Int) (N := N) (fun m p => tshortened_l1 N m p.1.1 p.1.2.2.2.2.2.1 p.1.2.2.2.2.2.2.1 p.2.1.1 p.2.1.2.1 p.2.1.2.2.1 p.2.2.1.1 p.2.2.1.2.1 p.2.2.1.2.2.1 p.2.2.2.1 p.2.2.2.2.1) (fun e => .inl ((e.1, (), (), (), (), ()), ((e.2.1, e.2.2.1, e.2.2.2.1, ()), (e.2.2.2.2.1, e.2.2.2.2.2.1, e.2.2.2.2.2.2.1, ()), e.2.2.2.2.2.2.2.1, e.2.2.2.2.2.2.2.2, ()))) (fun _ _ _ => rfl) (fun _ => rfl) (fun m z E Xc hE hX hrec hx => leaf_of_ev (B := tshortened_B) (loops := []) (leaves := [tshortened_l1_h (tshortened_l1 N m), tshortened_l1_e0, tshortened_j1_k N (tshortened_l1 N m)]) (tshortened_all N) mixed trivial hE hX ⟨hrec, (fun p hp => by obtain rfl := Option.some.inj hp; exact hx), tshortened_j1_lf N _ hE hX hrec (fun p hp => by obtain rfl := Option.some.inj hp; exact hx), trivial⟩ RetOK.no (fun p => tshortened_l1_eq N m p.1.1 p.1.2.2.2.2.2.1 p.1.2.2.2.2.2.2.1 p.2.1.1 p.2.1.2.1 p.2.1.2.2.1 p.2.2.1.1 p.2.2.1.2.1 p.2.2.1.2.2.1 p.2.2.2.1 p.2.2.2.2.1))
abbrev tshortened_l3_at : List PI := [.c [1, 1, 1, 1, 1, 1, 1, 1, 1, 1, 1, 1, 1, 1, 1, 1, 1, 1, 1, 1, 0, 1, 0, 0, 1, 1, 0, 0, 1, 1, 0, 1, 0, 0, 0, 0], .c [1, 1, 1, 1, 1, 1, 1, 1, 1, 1, 1, 1, 1, 1, 1, 1, 1, 1, 1, 1, 0, 1, 0, 0, 1, 1, 0, 0, 1, 1, 0, 1, 0, 0, 0, 1], .c [1, 1, 1, 1, 1, 1, 1, 1, 1, 1, 1, 1, 1, 1, 1, 1, 1, 1, 1, 1, 0, 1, 0, 0, 1, 1, 0, 0, 1, 1, 0, 1, 0, 0, 1], .l [1, 1, 1, 1, 1, 1, 1, 1, 1, 1, 1, 1, 1, 1, 1, 1, 1, 1, 1, 1, 0, 1, 0, 0, 1, 1, 0, 0, 1, 1, 0, 1, 0, 0], .b 4, .c [1, 1, 1, 1, 1, 1, 1, 1, 1, 1, 1, 1, 1, 1, 1, 1, 1, 1, 1, 1, 0, 1, 0, 0, 1, 1, 0, 0, 1, 1, 1], .b 3, .c [1, 1, 1, 1, 1, 1, 1, 1, 1, 1, 1, 1, 1, 1, 1, 1, 1, 1, 1, 1, 0, 1, 0, 0, 1, 1, 1], .l [1, 1, 1, 1, 1, 1, 1, 1, 1, 1, 1, 1, 1, 1, 1, 1, 1, 1, 1, 1, 0, 1, 0, 0], .b 2, .c [1, 1, 1, 1, 1, 1, 1, 1, 1, 1, 1, 1, 1, 1, 1, 1, 1, 1, 1, 1, 1]]
abbrev tshortened_l3_st : Sta := ⟨[7, 8, 10, 13, 14, 21, 22, 23, 24, 26, 27, 28, 184, 185, 186], ⟨[.own 0 0, .own 1 0, .sl (.int .i64), .i .i64, .own 2 0, .i .i64, .i .i64, .sl (.int .i64), .i .i64, .own 3 0, .b, .i .i64, .sl (.pair (.int .i64) (.pair (.int .i64) (.int .i64))), .i .i64, .i .i64], [.segs [.sl (.pair (.int .i64) (.pair (.int .i64) .bool)), .sl (.pair (.int .i64) (.pair (.int .i64) (.int .i64))), .i .i64], .segs [.sl (.int .u8), .i .i64, .i .u32], .segs [.sl (.pair (.int .i64) (.pair (.int .i64) .bool)), .sl (.pair (.int .i64) (.pair (.int .i64) (.int .i64))), .i .i64], .segs [.i .i64, .i .i64, .i .i64]]⟩⟩
abbrev tshortened_l3_h (rec : (List Int) → Int → Int → Int → (List Int) → Int → Bool → Int → (List (Int × (Int × Int))) → Int → Int → (List (Int × (Int × Bool))) → (List (Int × (Int × Int))) → Int → (List Int) → Int → Int → (List (Int × (Int × Bool))) → (List (Int × (Int × Int))) → Int → Int → Int → Int → Option (List Int × Int × Int × Int × List Int × Int × Bool × (List (Int × (Int × Int))) × Int × Int × (List (Int × (Int × Bool))) × (List (Int × (Int × Int))) × Int × List Int × Int × Int × (List (Int × (Int × Bool))) × (List (Int × (Int × Int))) × Int × Int × Int × Int)) : Leaf (List Int × Int × Int × Int × List Int × Int × Bool × (List (Int × (Int × Int))) × Int × Int × (List (Int × (Int × Bool))) × (List (Int × (Int × Int))) × Int × List Int × Int × Int × (List (Int × (Int × Bool))) × (List (Int × (Int × Int))) × Int × Int × Int × Int) := ⟨tshortened_l3_at, tshortened_l3_st, fun p => rec p.1.2.2.1 p.1.2.2.2.1 p.1.2.2.2.2.2.1 p.1.2.2.2.2.2.2.1 p.1.2.2.2.2.2.2.2.1 p.1.2.2.2.2.2.2.2.2.1 p.1.2.2.2.2.2.2.2.2.2.2.1 p.1.2.2.2.2.2.2.2.2.2.2.2.1 p.1.2.2.2.2.2.2.2.2.2.2.2.2.1 p.1.2.2.2.2.2.2.2.2.2.2.2.2.2.1 p.1.2.2.2.2.2.2.2.2.2.2.2.2.2.2.1 p.2.1.1 p.2.1.2.1 p.2.1.2.2.1 p.2.2.1.1 p.2.2.1.2.1 p.2.2.1.2.2.1 p.2.2.2.1.1 p.2.2.2.1.2.1 p.2.2.2.1.2.2.1 p.2.2.2.2.1.1 p.2.2.2.2.1.2.1 p.2.2.2.2.1.2.2.1⟩
abbrev tshortened_l3_e0 : Leaf (List Int × Int × Int × Int × List Int × Int × Bool × (List (Int × (Int × Int))) × Int × Int × (List (Int × (Int × Bool))) × (List (Int × (Int × Int))) × Int × List Int × Int × Int × (List (Int × (Int × Bool))) × (List (Int × (Int × Int))) × Int × Int × Int × Int) := ⟨[.c [1, 1, 1, 1, 1, 1, 1, 1, 1, 1, 1, 1, 1, 1, 1, 1, 1, 1, 1, 1, 0, 1, 0, 0, 1, 1, 0, 0, 1, 1, 1, 0], .c [1, 1, 1, 1, 1, 1, 1, 1, 1, 1, 1, 1, 1, 1, 1, 1, 1, 1, 1, 1, 0, 1, 0, 0, 1, 1, 0, 0, 1, 1, 1, 1], .b 3, .c [1, 1, 1, 1, 1, 1, 1, 1, 1, 1, 1, 1, 1, 1, 1, 1, 1, 1, 1, 1, 0, 1, 0, 0, 1, 1, 1], .l [1, 1, 1, 1, 1, 1, 1, 1, 1, 1, 1, 1, 1, 1, 1, 1, 1, 1, 1, 1, 0, 1, 0, 0], .b 2, .c [1, 1, 1, 1, 1, 1, 1, 1, 1, 1, 1, 1, 1, 1, 1, 1, 1, 1, 1, 1, 1]], ⟨[7, 8, 10, 13, 14, 21, 22, 23, 24, 26, 27, 184, 185, 186], ⟨[.own 0 0, .own 1 0, .sl (.int .i64), .i .i64, .own 2 0, .i .i64, .i .i64, .sl (.int .i64), .i .i64, .own 3 0, .b, .sl (.pair (.int .i64) (.pair (.int .i64) (.int .i64))), .i .i64, .i .i64], [.segs [.sl (.pair (.int .i64) (.pair (.int .i64) .bool)), .sl (.pair (.int .i64) (.pair (.int .i64) (.int .i64))), .i .i64], .segs [.sl (.int .u8), .i .i64, .i .u32], .segs [.sl (.pair (.int .i64) (.pair (.int .i64) .bool)), .sl (.pair (.int .i64) (.pair (.int .i64) (.int .i64))), .i .i64], .segs [.i .i64, .i .i64, .i .i64]]⟩⟩, fun p => some ((p.1.2.2.1, p.1.2.2.2.1, p.1.2.2.2.2.2.1, p.1.2.2.2.2.2.2.1, p.1.2.2.2.2.2.2.2.1, p.1.2.2.2.2.2.2.2.2.1, p.1.2.2.2.2.2.2.2.2.2.2.1, p.1.2.2.2.2.2.2.2.2.2.2.2.1, p.1.2.2.2.2.2.2.2.2.2.2.2.2.1, p.1.2.2.2.2.2.2.2.2.2.2.2.2.2.1, p.2.1.1, p.2.1.2.1, p.2.1.2.2.1, p.2.2.1.1, p.2.2.1.2.1, p.2.2.1.2.2.1, p.2.2.2.1.1, p.2.2.2.1.2.1, p.2.2.2.1.2.2.1, p.2.2.2.2.1.1, p.2.2.2.2.1.2.1, p.2.2.2.2.1.2.2.1))⟩
noncomputable def tshortened_l3_L (N : Nat) : LoopS := { at_ := tshortened_l3_at, sta := tshortened_l3_st, exits := [([.c [1, 1, 1, 1, 1, 1, 1, 1, 1, 1, 1, 1, 1, 1, 1, 1, 1, 1, 1, 1, 0, 1, 0, 0, 1, 1, 0, 0, 1, 1, 1, 0], .c [1, 1, 1, 1, 1, 1, 1, 1, 1, 1, 1, 1, 1, 1, 1, 1, 1, 1, 1, 1, 0, 1, 0, 0, 1, 1, 0, 0, 1, 1, 1, 1], .b 3, .c [1, 1, 1, 1, 1, 1, 1, 1, 1, 1, 1, 1, 1, 1, 1, 1, 1, 1, 1, 1, 0, 1, 0, 0, 1, 1, 1], .l [1, 1, 1, 1, 1, 1, 1, 1, 1, 1, 1, 1, 1, 1, 1, 1, 1, 1, 1, 1, 0, 1, 0, 0], .b 2, .c [1, 1, 1, 1, 1, 1, 1, 1, 1, 1, 1, 1, 1, 1, 1, 1, 1, 1, 1, 1, 1]], ⟨[7, 8, 10, 13, 14, 21, 22, 23, 24, 26, 27, 184, 185, 186], ⟨[.own 0 0, .own 1 0, .sl (.int .i64), .i .i64, .own 2 0, .i .i64, .i .i64, .sl (.int .i64), .i .i64, .own 3 0, .b, .sl (.pair (.int .i64) (.pair (.int .i64) (.int .i64))), .i .i64, .i .i64], [.segs [.sl (.pair (.int .i64) (.pair (.int .i64) .bool)), .sl (.pair (.int .i64) (.pair (.int .i64) (.int .i64))), .i .i64], .segs [.sl (.int .u8), .i .i64, .i .u32], .segs [.sl (.pair (.int .i64) (.pair (.int .i64) .bool)), .sl (.pair (.int .i64) (.pair (.int .i64) (.int .i64))), .i .i64], .segs [.i .i64, .i .i64, .i .i64]]⟩⟩)], run := fun p k => (tshortened_l3 N N p.1.2.2.1 p.1.2.2.2.1 p.1.2.2.2.2.2.1 p.1.2.2.2.2.2.2.1 p.1.2.2.2.2.2.2.2.1 p.1.2.2.2.2.2.2.2.2.1 p.1.2.2.2.2.2.2.2.2.2.2.1 p.1.2.2.2.2.2.2.2.2.2.2.2.1 p.1.2.2.2.2.2.2.2.2.2.2.2.2.1 p.1.2.2.2.2.2.2.2.2.2.2.2.2.2.1 p.1.2.2.2.2.2.2.2.2.2.2.2.2.2.2.1 p.2.1.1 p.2.1.2.1 p.2.1.2.2.1 p.2.2.1.1 p.2.2.1.2.1 p.2.2.1.2.2.1 p.2.2.2.1.1 p.2.2.2.1.2.1 p.2.2.2.1.2.2.1 p.2.2.2.2.1.1 p.2.2.2.2.1.2.1 p.2.2.2.2.1.2.2.1).bind fun e => k (.inl (((), (), e.1, e.2.1, (), e.2.2.1, e.2.2.2.1, e.2.2.2.2.1, e.2.2.2.2.2.1, (), e.2.2.2.2.2.2.1, e.2.2.2.2.2.2.2.1, e.2.2.2.2.2.2.2.2.1, e.2.2.2.2.2.2.2.2.2.1, ()), ((e.2.2.2.2.2.2.2.2.2.2.1, e.2.2.2.2.2.2.2.2.2.2.2.1, e.2.2.2.2.2.2.2.2.2.2.2.2.1, ()), (e.2.2.2.2.2.2.2.2.2.2.2.2.2.1, e.2.2.2.2.2.2.2.2.2.2.2.2.2.2.1, e.2.2.2.2.2.2.2.2.2.2.2.2.2.2.2.1, ()), (e.2.2.2.2.2.2.2.2.2.2.2.2.2.2.2.2.1, e.2.2.2.2.2.2.2.2.2.2.2.2.2.2.2.2.2.1, e.2.2.2.2.2.2.2.2.2.2.2.2.2.2.2.2.2.2.1, ()), (e.2.2.2.2.2.2.2.2.2.2.2.2.2.2.2.2.2.2.2.1, e.2.2.2.2.2.2.2.2.2.2.2.2.2.2.2.2.2.2.2.2.1, e.2.2.2.2.2.2.2.2.2.2.2.2.2.2.2.2.2.2.2.2.2, ()), ()))) }
theorem tshortened_l3_eq (N n_ : Nat) (l : List Int) (e : Int) (lo : Int) (hi : Int) (said : List Int) (n : Int) (core : Bool) (w : Int) (u : List (Int × (Int × Int))) (u2 : Int) (u3 : Int) (t : List (Int × (Int × Bool))) (t2 : List (Int × (Int × Int))) (t3 : Int) (q : List Int) (q2 : Int) (q3 : Int) (x : List (Int × (Int × Bool))) (x2 : List (Int × (Int × Int))) (x3 : Int) (y : Int) (y2 : Int) (y3 : Int) : ev (Z := List Int × Int × Int × Int × List Int × Int × Bool × (List (Int × (Int × Int))) × Int × Int × (List (Int × (Int × Bool))) × (List (Int × (Int × Int))) × Int × List Int × Int × Int × (List (Int × (Int × Bool))) × (List (Int × (Int × Int))) × Int × Int × Int × Int) Try.prog (tshortened_sp N) tshortened_B [tshortened_l1_L N] [tshortened_l3_h (tshortened_l3 N n_), tshortened_l3_e0] none 400 true tshortened_l3_at (stL tshortened_l3_st (((), (), l, e, (), lo, hi, said, n, (), core, w, u, u2, u3, ()), ((t, t2, t3, ()), (q, q2, q3, ()), (x, x2, x3, ()), (y, y2, y3, ()), ()))) (stH tshortened_l3_st (((), (), l, e, (), lo, hi, said, n, (), core, w, u, u2, u3, ()), ((t, t2, t3, ()), (q, q2, q3, ()), (x, x2, x3, ()), (y, y2, y3, ()), ()))) = tshortened_l3 N (n_ + 1) l e lo hi said n core w u u2 u3 t t2 t3 q q2 q3 x x2 x3 y y2 y3 := by kernel_rfl
theorem tshortened_l3_ok (N : Nat) {top : Bool} : LoopOK Try.prog tshortened_B.c tshortened_B.n tshortened_B.m0 top (tshortened_l3_L N) := loop_of_ev (Z := List Int × Int × Int × Int × List Int × Int × Bool × (List (Int × (Int × Int))) × Int × Int × (List (Int × (Int × Bool))) × (List (Int × (Int × Int))) × Int × List Int × Int × Int × (List (Int × (Int × Bool))) × (List (Int × (Int × Int))) × Int × Int × Int × Int) (N := N) (fun m p => tshortened_l3 N m p.1.2.2.1 p.1.2.2.2.1 p.1.2.2.2.2.2.1 p.1.2.2.2.2.2.2.1 p.1.2.2.2.2.2.2.2.1 p.1.2.2.2.2.2.2.2.2.1 p.1.2.2.2.2.2.2.2.2.2.2.1 p.1.2.2.2.2.2.2.2.2.2.2.2.1 p.1.2.2.2.2.2.2.2.2.2.2.2.2.1 p.1.2.2.2.2.2.2.2.2.2.2.2.2.2.1 p.1.2.2.2.2.2.2.2.2.2.2.2.2.2.2.1 p.2.1.1 p.2.1.2.1 p.2.1.2.2.1 p.2.2.1.1 p.2.2.1.2.1 p.2.2.1.2.2.1 p.2.2.2.1.1 p.2.2.2.1.2.1 p.2.2.2.1.2.2.1 p.2.2.2.2.1.1 p.2.2.2.2.1.2.1 p.2.2.2.2.1.2.2.1) (fun e => .inl (((), (), e.1, e.2.1, (), e.2.2.1, e.2.2.2.1, e.2.2.2.2.1, e.2.2.2.2.2.1, (), e.2.2.2.2.2.2.1, e.2.2.2.2.2.2.2.1, e.2.2.2.2.2.2.2.2.1, e.2.2.2.2.2.2.2.2.2.1, ()), ((e.2.2.2.2.2.2.2.2.2.2.1, e.2.2.2.2.2.2.2.2.2.2.2.1, e.2.2.2.2.2.2.2.2.2.2.2.2.1, ()), (e.2.2.2.2.2.2.2.2.2.2.2.2.2.1, e.2.2.2.2.2.2.2.2.2.2.2.2.2.2.1, e.2.2.2.2.2.2.2.2.2.2.2.2.2.2.2.1, ()), (e.2.2.2.2.2.2.2.2.2.2.2.2.2.2.2.2.1, e.2.2.2.2.2.2.2.2.2.2.2.2.2.2.2.2.2.1, e.2.2.2.2.2.2.2.2.2.2.2.2.2.2.2.2.2.2.1, ()), (e.2.2.2.2.2.2.2.2.2.2.2.2.2.2.2.2.2.2.2.1, e.2.2.2.2.2.2.2.2.2.2.2.2.2.2.2.2.2.2.2.2.1, e.2.2.2.2.2.2.2.2.2.2.2.2.2.2.2.2.2.2.2.2.2, ()), ()))) (fun _ _ _ => rfl) (fun _ => rfl) (fun m z E Xc hE hX hrec hx => leaf_of_ev (B := tshortened_B) (loops := [tshortened_l1_L N]) (leaves := [tshortened_l3_h (tshortened_l3 N m), tshortened_l3_e0]) (tshortened_all N) mixed ⟨tshortened_l1_ok N, trivial⟩ hE hX ⟨hrec, (fun p hp => by obtain rfl := Option.some.inj hp; exact hx), trivial⟩ RetOK.no (fun p => tshortened_l3_eq N m p.1.2.2.1 p.1.2.2.2.1 p.1.2.2.2.2.2.1 p.1.2.2.2.2.2.2.1 p.1.2.2.2.2.2.2.2.1 p.1.2.2.2.2.2.2.2.2.1 p.1.2.2.2.2.2.2.2.2.2.2.1 p.1.2.2.2.2.2.2.2.2.2.2.2.1 p.1.2.2.2.2.2.2.2.2.2.2.2.2.1 p.1.2.2.2.2.2.2.2.2.2.2.2.2.2.1 p.1.2.2.2.2.2.2.2.2.2.2.2.2.2.2.1 p.2.1.1 p.2.1.2.1 p.2.1.2.2.1 p.2.2.1.1 p.2.2.1.2.1 p.2.2.1.2.2.1 p.2.2.2.1.1 p.2.2.2.1.2.1 p.2.2.2.1.2.2.1 p.2.2.2.2.1.1 p.2.2.2.2.1.2.1 p.2.2.2.2.1.2.2.1))
abbrev tshortened_l2_at : List PI := [.c [1, 1, 1, 1, 1, 1, 1, 1, 1, 1, 1, 1, 1, 1, 1, 1, 1, 1, 1, 1, 0, 1, 0, 0, 0], .c [1, 1, 1, 1, 1, 1, 1, 1, 1, 1, 1, 1, 1, 1, 1, 1, 1, 1, 1, 1, 0, 1, 0, 0, 1], .l [1, 1, 1, 1, 1, 1, 1, 1, 1, 1, 1, 1, 1, 1, 1, 1, 1, 1, 1, 1, 0, 1, 0, 0], .b 2, .c [1, 1, 1, 1, 1, 1, 1, 1, 1, 1, 1, 1, 1, 1, 1, 1, 1, 1, 1, 1, 1]]
abbrev tshortened_l2_st : Sta := ⟨[7, 8, 10, 13, 14, 21, 22, 23, 24, 184, 185, 186], ⟨[.own 0 0, .own 1 0, .sl (.int .i64), .i .i64, .own 2 0, .i .i64, .i .i64, .sl (.int .i64), .i .i64, .sl (.pair (.int .i64) (.pair (.int .i64) (.int .i64))), .i .i64, .i .i64], [.segs [.sl (.pair (.int .i64) (.pair (.int .i64) .bool)), .sl (.pair (.int .i64) (.pair (.int .i64) (.int .i64))), .i .i64], .segs [.sl (.int .u8), .i .i64, .i .u32], .segs [.sl (.pair (.int .i64) (.pair (.int .i64) .bool)), .sl (.pair (.int .i64) (.pair (.int .i64) (.int .i64))), .i .i64]]⟩⟩
abbrev tshortened_l2_h (rec : (List Int) → Int → Int → Int → (List Int) → Int → (List (Int × (Int × Int))) → Int → Int → (List (Int × (Int × Bool))) → (List (Int × (Int × Int))) → Int → (List Int) → Int → Int → (List (Int × (Int × Bool))) → (List (Int × (Int × Int))) → Int → Option (List Int × Int × List Int × Int × (List (Int × (Int × Bool))) × (List (Int × (Int × Int))) × Int × List Int × Int × Int × (List (Int × (Int × Bool))) × (List (Int × (Int × Int))) × Int)) : Leaf (List Int × Int × List Int × Int × (List (Int × (Int × Bool))) × (List (Int × (Int × Int))) × Int × List Int × Int × Int × (List (Int × (Int × Bool))) × (List (Int × (Int × Int))) × Int) := ⟨tshortened_l2_at, tshortened_l2_st, fun p => rec p.1.2.2.1 p.1.2.2.2.1 p.1.2.2.2.2.2.1 p.1.2.2.2.2.2.2.1 p.1.2.2.2.2.2.2.2.1 p.1.2.2.2.2.2.2.2.2.1 p.1.2.2.2.2.2.2.2.2.2.1 p.1.2.2.2.2.2.2.2.2.2.2.1 p.1.2.2.2.2.2.2.2.2.2.2.2.1 p.2.1.1 p.2.1.2.1 p.2.1.2.2.1 p.2.2.1.1 p.2.2.1.2.1 p.2.2.1.2.2.1 p.2.2.2.1.1 p.2.2.2.1.2.1 p.2.2.2.1.2.2.1⟩
abbrev tshortened_l2_e0 : Leaf (List Int × Int × List Int × Int × (List (Int × (Int × Bool))) × (List (Int × (Int × Int))) × Int × List Int × Int × Int × (List (Int × (Int × Bool))) × (List (Int × (Int × Int))) × Int) := ⟨[.c [1, 1, 1, 1, 1, 1, 1, 1, 1, 1, 1, 1, 1, 1, 1, 1, 1, 1, 1, 1, 1, 0, 0], .c [1, 1, 1, 1, 1, 1, 1, 1, 1, 1, 1, 1, 1, 1, 1, 1, 1, 1, 1, 1, 1, 0, 1], .c [1, 1, 1, 1, 1, 1, 1, 1, 1, 1, 1, 1, 1, 1, 1, 1, 1, 1, 1, 1, 1, 1]], ⟨[7, 8, 10, 13, 14, 23, 24], ⟨[.own 0 0, .own 1 0, .sl (.int .i64), .i .i64, .own 2 0, .sl (.int .i64), .i .i64], [.segs [.sl (.pair (.int .i64) (.pair (.int .i64) .bool)), .sl (.pair (.int .i64) (.pair (.int .i64) (.int .i64))), .i .i64], .segs [.sl (.int .u8), .i .i64, .i .u32], .segs [.sl (.pair (.int .i64) (.pair (.int .i64) .bool)), .sl (.pair (.int .i64) (.pair (.int .i64) (.int .i64))), .i .i64]]⟩⟩, fun p => some ((p.1.2.2.1, p.1.2.2.2.1, p.1.2.2.2.2.2.1, p.1.2.2.2.2.2.2.1, p.2.1.1, p.2.1.2.1, p.2.1.2.2.1, p.2.2.1.1, p.2.2.1.2.1, p.2.2.1.2.2.1, p.2.2.2.1.1, p.2.2.2.1.2.1, p.2.2.2.1.2.2.1))⟩
abbrev tshortened_j2_at : List PI := [.c [1, 1, 1, 1, 1, 1, 1, 1, 1, 1, 1, 1, 1, 1, 1, 1, 1, 1, 1, 1, 0, 1, 0, 0, 1, 1, 1], .l [1, 1, 1, 1, 1, 1, 1, 1, 1, 1, 1, 1, 1, 1, 1, 1, 1, 1, 1, 1, 0, 1, 0, 0], .b 2, .c [1, 1, 1, 1, 1, 1, 1, 1, 1, 1, 1, 1, 1, 1, 1, 1, 1, 1, 1, 1, 1]]
abbrev tshortened_j2_st : Sta := ⟨[7, 8, 10, 13, 14, 21, 22, 23, 24, 184, 185, 186], ⟨[.own 0 0, .own 1 0, .sl (.int .i64), .i .i64, .own 2 0, .i .i64, .i .i64, .sl (.int .i64), .i .i64, .sl (.pair (.int .i64) (.pair (.int .i64) (.int .i64))), .i .i64, .i .i64], [.segs [.sl (.pair (.int .i64) (.pair (.int .i64) .bool)), .sl (.pair (.int .i64) (.pair (.int .i64) (.int .i64))), .i .i64], .segs [.sl (.int .u8), .i .i64, .i .u32], .segs [.sl (.pair (.int .i64) (.pair (.int .i64) .bool)), .sl (.pair (.int .i64) (.pair (.int .i64) (.int .i64))), .i .i64]]⟩⟩
abbrev tshortened_j2_k (N : Nat) (rec : (List Int) → Int → Int → Int → (List Int) → Int → (List (Int × (Int × Int))) → Int → Int → (List (Int × (Int × Bool))) → (List (Int × (Int × Int))) → Int → (List Int) → Int → Int → (List (Int × (Int × Bool))) → (List (Int × (Int × Int))) → Int → Option (List Int × Int × List Int × Int × (List (Int × (Int × Bool))) × (List (Int × (Int × Int))) × Int × List Int × Int × Int × (List (Int × (Int × Bool))) × (List (Int × (Int × Int))) × Int)) : Leaf (List Int × Int × List Int × Int × (List (Int × (Int × Bool))) × (List (Int × (Int × Int))) × Int × List Int × Int × Int × (List (Int × (Int × Bool))) × (List (Int × (Int × Int))) × Int) := ⟨tshortened_j2_at, tshortened_j2_st, fun p => tshortened_j2 N rec p.1.2.2.1 p.1.2.2.2.1 p.1.2.2.2.2.2.1 p.1.2.2.2.2.2.2.1 p.1.2.2.2.2.2.2.2.1 p.1.2.2.2.2.2.2.2.2.1 p.1.2.2.2.2.2.2.2.2.2.1 p.1.2.2.2.2.2.2.2.2.2.2.1 p.1.2.2.2.2.2.2.2.2.2.2.2.1 p.2.1.1 p.2.1.2.1 p.2.1.2.2.1 p.2.2.1.1 p.2.2.1.2.1 p.2.2.1.2.2.1 p.2.2.2.1.1 p.2.2.2.1.2.1 p.2.2.2.1.2.2.1⟩
theorem tshortened_j2_eq (N : Nat) (rec : (List Int) → Int → Int → Int → (List Int) → Int → (List (Int × (Int × Int))) → Int → Int → (List (Int × (Int × Bool))) → (List (Int × (Int × Int))) → Int → (List Int) → Int → Int → (List (Int × (Int × Bool))) → (List (Int × (Int × Int))) → Int → Option (List Int × Int × List Int × Int × (List (Int × (Int × Bool))) × (List (Int × (Int × Int))) × Int × List Int × Int × Int × (List (Int × (Int × Bool))) × (List (Int × (Int × Int))) × Int)) (l : List Int) (e : Int) (lo : Int) (hi : Int) (said : List Int) (n : Int) (u : List (Int × (Int × Int))) (u2 : Int) (u3 : Int) (t : List (Int × (Int × Bool))) (t2 : List (Int × (Int × Int))) (t3 : Int) (q : List Int) (q2 : Int) (q3 : Int) (x : List (Int × (Int × Bool))) (x2 : List (Int × (Int × Int))) (x3 : Int) : ev (Z := List Int × Int × List Int × Int × (List (Int × (Int × Bool))) × (List (Int × (Int × Int))) × Int × List Int × Int × Int × (List (Int × (Int × Bool))) × (List (Int × (Int × Int))) × Int) Try.prog (tshortened_sp N) tshortened_B [tshortened_l1_L N, tshortened_l3_L N] [tshortened_l2_h rec, tshortened_l2_e0] none 400 true tshortened_j2_at (stL tshortened_j2_st (((), (), l, e, (), lo, hi, said, n, u, u2, u3, ()), ((t, t2, t3, ()), (q, q2, q3, ()), (x, x2, x3, ()), ()))) (stH tshortened_j2_st (((), (), l, e, (), lo, hi, said, n, u, u2, u3, ()), ((t, t2, t3, ()), (q, q2, q3, ()), (x, x2, x3, ()), ()))) = tshortened_j2 N rec l e lo hi said n u u2 u3 t t2 t3 q q2 q3 x x2 x3 := by kernel_rfl
theorem tshortened_j2_lf (N : Nat) (rec : (List Int) → Int → Int → Int → (List Int) → Int → (List (Int × (Int × Int))) → Int → Int → (List (Int × (Int × Bool))) → (List (Int × (Int × Int))) → Int → (List Int) → Int → Int → (List (Int × (Int × Bool))) → (List (Int × (Int × Int))) → Int → Option (List Int × Int × List Int × Int × (List (Int × (Int × Bool))) × (List (Int × (Int × Int))) × Int × List Int × Int × Int × (List (Int × (Int × Bool))) × (List (Int × (Int × Int))) × Int)) {z : List Int × Int × List Int × Int × (List (Int × (Int × Bool))) × (List (Int × (Int × Int))) × Int × List Int × Int × Int × (List (Int × (Int × Bool))) × (List (Int × (Int × Int))) × Int} {top : Bool} {E : EE} {Xc : Ctx} (hE : EOK tshortened_B.m0 E) (hX : CxOK top Xc) (hrec : LeafOK Try.prog tshortened_B.c tshortened_B.n tshortened_B.m0 E Xc z (tshortened_l2_h rec)) (h0 : LeafOK Try.prog tshortened_B.c tshortened_B.n tshortened_B.m0 E Xc z tshortened_l2_e0) : LeafOK Try.prog tshortened_B.c tshortened_B.n tshortened_B.m0 E Xc z (tshortened_j2_k N rec) := leaf_of_ev (B := tshortened_B) (loops := [tshortened_l1_L N, tshortened_l3_L N]) (leaves := [tshortened_l2_h rec, tshortened_l2_e0]) (tshortened_all N) mixed ⟨tshortened_l1_ok N, tshortened_l3_ok N, trivial⟩ hE hX ⟨hrec, h0, trivial⟩ RetOK.no (fun p => tshortened_j2_eq N rec p.1.2.2.1 p.1.2.2.2.1 p.1.2.2.2.2.2.1 p.1.2.2.2.2.2.2.1 p.1.2.2.2.2.2.2.2.1 p.1.2.2.2.2.2.2.2.2.1 p.1.2.2.2.2.2.2.2.2.2.1 p.1.2.2.2.2.2.2.2.2.2.2.1 p.1.2.2.2.2.2.2.2.2.2.2.2.1 p.2.1.1 p.2.1.2.1 p.2.1.2.2.1 p.2.2.1.1 p.2.2.1.2.1 p.2.2.1.2.2.1 p.2.2.2.1.1 p.2.2.2.1.2.1 p.2.2.2.1.2.2.1)
noncomputable def tshortened_l2_L (N : Nat) : LoopS := { at_ := tshortened_l2_at, sta := tshortened_l2_st, exits := [([.c [1, 1, 1, 1, 1, 1, 1, 1, 1, 1, 1, 1, 1, 1, 1, 1, 1, 1, 1, 1, 1, 0, 0], .c [1, 1, 1, 1, 1, 1, 1, 1, 1, 1, 1, 1, 1, 1, 1, 1, 1, 1, 1, 1, 1, 0, 1], .c [1, 1, 1, 1, 1, 1, 1, 1, 1, 1, 1, 1, 1, 1, 1, 1, 1, 1, 1, 1, 1, 1]], ⟨[7, 8, 10, 13, 14, 23, 24], ⟨[.own 0 0, .own 1 0, .sl (.int .i64), .i .i64, .own 2 0, .sl (.int .i64), .i .i64], [.segs [.sl (.pair (.int .i64) (.pair (.int .i64) .bool)), .sl (.pair (.int .i64) (.pair (.int .i64) (.int .i64))), .i .i64], .segs [.sl (.int .u8), .i .i64, .i .u32], .segs [.sl (.pair (.int .i64) (.pair (.int .i64) .bool)), .sl (.pair (.int .i64) (.pair (.int .i64) (.int .i64))), .i .i64]]⟩⟩)], run := fun p k => (tshortened_l2 N N p.1.2.2.1 p.1.2.2.2.1 p.1.2.2.2.2.2.1 p.1.2.2.2.2.2.2.1 p.1.2.2.2.2.2.2.2.1 p.1.2.2.2.2.2.2.2.2.1 p.1.2.2.2.2.2.2.2.2.2.1 p.1.2.2.2.2.2.2.2.2.2.2.1 p.1.2.2.2.2.2.2.2.2.2.2.2.1 p.2.1.1 p.2.1.2.1 p.2.1.2.2.1 p.2.2.1.1 p.2.2.1.2.1 p.2.2.1.2.2.1 p.2.2.2.1.1 p.2.2.2.1.2.1 p.2.2.2.1.2.2.1).bind fun e => k (.inl (((), (), e.1, e.2.1, (), e.2.2.1, e.2.2.2.1, ()), ((e.2.2.2.2.1, e.2.2.2.2.2.1, e.2.2.2.2.2.2.1, ()), (e.2.2.2.2.2.2.2.1, e.2.2.2.2.2.2.2.2.1, e.2.2.2.2.2.2.2.2.2.1, ()), (e.2.2.2.2.2.2.2.2.2.2.1, e.2.2.2.2.2.2.2.2.2.2.2.1, e.2.2.2.2.2.2.2.2.2.2.2.2, ()), ()))) }
theorem tshortened_l2_eq (N n_ : Nat) (l : List Int) (e : Int) (lo : Int) (hi : Int) (said : List Int) (n : Int) (u : List (Int × (Int × Int))) (u2 : Int) (u3 : Int) (t : List (Int × (Int × Bool))) (t2 : List (Int × (Int × Int))) (t3 : Int) (q : List Int) (q2 : Int) (q3 : Int) (x : List (Int × (Int × Bool))) (x2 : List (Int × (Int × Int))) (x3 : Int) : ev (Z := List Int × Int × List Int × Int × (List (Int × (Int × Bool))) × (List (Int × (Int × Int))) × Int × List Int × Int × Int × (List (Int × (Int × Bool))) × (List (Int × (Int × Int))) × Int) Try.prog (tshortened_sp N) tshortened_B [tshortened_l1_L N, tshortened_l3_L N] [tshortened_l2_h (tshortened_l2 N n_), tshortened_l2_e0, tshortened_j2_k N (tshortened_l2 N n_)] none 400 true tshortened_l2_at (stL tshortened_l2_st (((), (), l, e, (), lo, hi, said, n, u, u2, u3, ()), ((t, t2, t3, ()), (q, q2, q3, ()), (x, x2, x3, ()), ()))) (stH tshortened_l2_st (((), (), l, e, (), lo, hi, said, n, u, u2, u3, ()), ((t, t2, t3, ()), (q, q2, q3, ()), (x, x2, x3, ()), ()))) = tshortened_l2 N (n_ + 1) l e lo hi said n u u2 u3 t t2 t3 q q2 q3 x x2 x3 := by kernel_rfl
theorem tshortened_l2_ok (N : Nat) {top : Bool} : LoopOK Try.prog tshortened_B.c tshortened_B.n tshortened_B.m0 top (tshortened_l2_L N) := loop_of_ev (Z := List Int × Int × List Int × Int × (List (Int × (Int × Bool))) × (List (Int × (Int × Int))) × Int × List Int × Int × Int × (List (Int × (Int × Bool))) × (List (Int × (Int × Int))) × Int) (N := N) (fun m p => tshortened_l2 N m p.1.2.2.1 p.1.2.2.2.1 p.1.2.2.2.2.2.1 p.1.2.2.2.2.2.2.1 p.1.2.2.2.2.2.2.2.1 p.1.2.2.2.2.2.2.2.2.1 p.1.2.2.2.2.2.2.2.2.2.1 p.1.2.2.2.2.2.2.2.2.2.2.1 p.1.2.2.2.2.2.2.2.2.2.2.2.1 p.2.1.1 p.2.1.2.1 p.2.1.2.2.1 p.2.2.1.1 p.2.2.1.2.1 p.2.2.1.2.2.1 p.2.2.2.1.1 p.2.2.2.1.2.1 p.2.2.2.1.2.2.1) (fun e => .inl (((), (), e.1, e.2.1, (), e.2.2.1, e.2.2.2.1, ()), ((e.2.2.2.2.1, e.2.2.2.2.2.1, e.2.2.2.2.2.2.1, ()), (e.2.2.2.2.2.2.2.1, e.2.2.2.2.2.2.2.2.1, e.2.2.2.2.2.2.2.2.2.1, ()), (e.2.2.2.2.2.2.2.2.2.2.1, e.2.2.2.2.2.2.2.2.2.2.2.1, e.2.2.2.2.2.2.2.2.2.2.2.2, ()), ()))) (fun _ _ _ => rfl) (fun _ => rfl) (fun m z E Xc hE hX hrec hx => leaf_of_ev (B := tshortened_B) (loops := [tshortened_l1_L N, tshortened_l3_L N]) (leaves := [tshortened_l2_h (tshortened_l2 N m), tshortened_l2_e0, tshortened_j2_k N (tshortened_l2 N m)]) (tshortened_all N) mixed ⟨tshortened_l1_ok N, tshortened_l3_ok N, trivial⟩ hE hX ⟨hrec, (fun p hp => by obtain rfl := Option.some.inj hp; exact hx), tshortened_j2_lf N _ hE hX hrec (fun p hp => by obtain rfl := Option.some.inj hp; exact hx), trivial⟩ RetOK.no (fun p => tshortened_l2_eq N m p.1.2.2.1 p.1.2.2.2.1 p.1.2.2.2.2.2.1 p.1.2.2.2.2.2.2.1 p.1.2.2.2.2.2.2.2.1 p.1.2.2.2.2.2.2.2.2.1 p.1.2.2.2.2.2.2.2.2.2.1 p.1.2.2.2.2.2.2.2.2.2.2.1 p.1.2.2.2.2.2.2.2.2.2.2.2.1 p.2.1.1 p.2.1.2.1 p.2.1.2.2.1 p.2.2.1.1 p.2.2.1.2.1 p.2.2.1.2.2.1 p.2.2.2.1.1 p.2.2.2.1.2.1 p.2.2.2.1.2.2.1))
abbrev tshortened_l4_at : List PI := [.c [1, 1, 1, 1, 1, 1, 1, 1, 1, 1, 1, 1, 1, 1, 1, 1, 1, 1, 1, 1, 1, 1, 1, 0, 1, 0, 0, 0], .c [1, 1, 1, 1, 1, 1, 1, 1, 1, 1, 1, 1, 1, 1, 1, 1, 1, 1, 1, 1, 1, 1, 1, 0, 1, 0, 0, 1], .l [1, 1, 1, 1, 1, 1, 1, 1, 1, 1, 1, 1, 1, 1, 1, 1, 1, 1, 1, 1, 1, 1, 1, 0, 1, 0, 0], .b 6, .c [1, 1, 1, 1, 1, 1, 1, 1, 1, 1, 1, 1, 1, 1, 1, 1, 1, 1, 1, 1, 1, 1, 1, 1]]
abbrev tshortened_l4_st : Sta := ⟨[7, 8, 14, 29, 30, 233, 234, 235], ⟨[.own 0 0, .own 1 0, .own 2 0, .ols 3, .ols 4, .sl (.int .i64), .i .i64, .i .i64], [.segs [.sl (.pair (.int .i64) (.pair (.int .i64) .bool)), .sl (.pair (.int .i64) (.pair (.int .i64) (.int .i64))), .i .i64], .segs [.sl (.int .u8), .i .i64, .i .u32], .segs [.sl (.pair (.int .i64) (.pair (.int .i64) .bool)), .sl (.pair (.int .i64) (.pair (.int .i64) (.int .i64))), .i .i64], .lst (.int .i64), .lst (.int .i64)]⟩⟩
abbrev tshortened_l4_h (rec : (List Int) → Int → Int → (List (Int × (Int × Bool))) → (List (Int × (Int × Int))) → Int → (List Int) → Int → Int → (List (Int × (Int × Bool))) → (List (Int × (Int × Int))) → Int → (List Int) → (List Int) → Option ((List (Int × (Int × Bool))) × (List (Int × (Int × Int))) × Int × (List (Int × (Int × Bool))) × (List (Int × (Int × Int))) × Int × List Int × List Int)) : Leaf ((List (Int × (Int × Bool))) × (List (Int × (Int × Int))) × Int × (List (Int × (Int × Bool))) × (List (Int × (Int × Int))) × Int × List Int × List Int) := ⟨tshortened_l4_at, tshortened_l4_st, fun p => rec p.1.2.2.2.2.2.1 p.1.2.2.2.2.2.2.1 p.1.2.2.2.2.2.2.2.1 p.2.1.1 p.2.1.2.1 p.2.1.2.2.1 p.2.2.1.1 p.2.2.1.2.1 p.2.2.1.2.2.1 p.2.2.2.1.1 p.2.2.2.1.2.1 p.2.2.2.1.2.2.1 p.2.2.2.2.1 p.2.2.2.2.2.1⟩
abbrev tshortened_l4_e0 : Leaf ((List (Int × (Int × Bool))) × (List (Int × (Int × Int))) × Int × (List (Int × (Int × Bool))) × (List (Int × (Int × Int))) × Int × List Int × List Int) := ⟨[.c [1, 1, 1, 1, 1, 1, 1, 1, 1, 1, 1, 1, 1, 1, 1, 1, 1, 1, 1, 1, 1, 1, 1, 1, 0], .c [1, 1, 1, 1, 1, 1, 1, 1, 1, 1, 1, 1, 1, 1, 1, 1, 1, 1, 1, 1, 1, 1, 1, 1, 1]], ⟨[7, 14, 29, 30], ⟨[.own 0 0, .own 1 0, .ols 2, .ols 3], [.segs [.sl (.pair (.int .i64) (.pair (.int .i64) .bool)), .sl (.pair (.int .i64) (.pair (.int .i64) (.int .i64))), .i .i64], .segs [.sl (.pair (.int .i64) (.pair (.int .i64) .bool)), .sl (.pair (.int .i64) (.pair (.int .i64) (.int .i64))), .i .i64], .lst (.int .i64), .lst (.int .i64)]⟩⟩, fun p => some ((p.2.1.1, p.2.1.2.1, p.2.1.2.2.1, p.2.2.1.1, p.2.2.1.2.1, p.2.2.1.2.2.1, p.2.2.2.1, p.2.2.2.2.1))⟩
abbrev tshortened_j3_at : List PI := [.c [1, 1, 1, 1, 1, 1, 1, 1, 1, 1, 1, 1, 1, 1, 1, 1, 1, 1, 1, 1, 1, 1, 1, 0, 1, 0, 0, 1, 1, 1], .l [1, 1, 1, 1, 1, 1, 1, 1, 1, 1, 1, 1, 1, 1, 1, 1, 1, 1, 1, 1, 1, 1, 1, 0, 1, 0, 0], .b 6, .c [1, 1, 1, 1, 1, 1, 1, 1, 1, 1, 1, 1, 1, 1, 1, 1, 1, 1, 1, 1, 1, 1, 1, 1]]
abbrev tshortened_j3_st : Sta := ⟨[7, 8, 14, 29, 30, 233, 234, 235], ⟨[.own 0 0, .own 1 0, .own 2 0, .ols 3, .ols 4, .sl (.int .i64), .i .i64, .i .i64], [.segs [.sl (.pair (.int .i64) (.pair (.int .i64) .bool)), .sl (.pair (.int .i64) (.pair (.int .i64) (.int .i64))), .i .i64], .segs [.sl (.int .u8), .i .i64, .i .u32], .segs [.sl (.pair (.int .i64) (.pair (.int .i64) .bool)), .sl (.pair (.int .i64) (.pair (.int .i64) (.int .i64))), .i .i64], .lst (.int .i64), .lst (.int .i64)]⟩⟩
abbrev tshortened_j3_k (N : Nat) (rec : (List Int) → Int → Int → (List (Int × (Int × Bool))) → (List (Int × (Int × Int))) → Int → (List Int) → Int → Int → (List (Int × (Int × Bool))) → (List (Int × (Int × Int))) → Int → (List Int) → (List Int) → Option ((List (Int × (Int × Bool))) × (List (Int × (Int × Int))) × Int × (List (Int × (Int × Bool))) × (List (Int × (Int × Int))) × Int × List Int × List Int)) : Leaf ((List (Int × (Int × Bool))) × (List (Int × (Int × Int))) × Int × (List (Int × (Int × Bool))) × (List (Int × (Int × Int))) × Int × List Int × List Int) := ⟨tshortened_j3_at, tshortened_j3_st, fun p => tshortened_j3 N rec p.1.2.2.2.2.2.1 p.1.2.2.2.2.2.2.1 p.1.2.2.2.2.2.2.2.1 p.2.1.1 p.2.1.2.1 p.2.1.2.2.1 p.2.2.1.1 p.2.2.1.2.1 p.2.2.1.2.2.1 p.2.2.2.1.1 p.2.2.2.1.2.1 p.2.2.2.1.2.2.1 p.2.2.2.2.1 p.2.2.2.2.2.1⟩
theorem tshortened_j3_eq (N : Nat) (rec : (List Int) → Int → Int → (List (Int × (Int × Bool))) → (List (Int × (Int × Int))) → Int → (List Int) → Int → Int → (List (Int × (Int × Bool))) → (List (Int × (Int × Int))) → Int → (List Int) → (List Int) → Option ((List (Int × (Int × Bool))) × (List (Int × (Int × Int))) × Int × (List (Int × (Int × Bool))) × (List (Int × (Int × Int))) × Int × List Int × List Int)) (u : List Int) (u2 : Int) (u3 : Int) (t : List (Int × (Int × Bool))) (t2 : List (Int × (Int × Int))) (t3 : Int) (q : List Int) (q2 : Int) (q3 : Int) (x : List (Int × (Int × Bool))) (x2 : List (Int × (Int × Int))) (x3 : Int) (k : List Int) (once : List Int) : ev (Z := (List (Int × (Int × Bool))) × (List (Int × (Int × Int))) × Int × (List (Int × (Int × Bool))) × (List (Int × (Int × Int))) × Int × List Int × List Int) Try.prog (tshortened_sp N) tshortened_B [tshortened_l1_L N, tshortened_l3_L N, tshortened_l2_L N] [tshortened_l4_h rec, tshortened_l4_e0] none 400 true tshortened_j3_at (stL tshortened_j3_st (((), (), (), (), (), u, u2, u3, ()), ((t, t2, t3, ()), (q, q2, q3, ()), (x, x2, x3, ()), k, once, ()))) (stH tshortened_j3_st (((), (), (), (), (), u, u2, u3, ()), ((t, t2, t3, ()), (q, q2, q3, ()), (x, x2, x3, ()), k, once, ()))) = tshortened_j3 N rec u u2 u3 t t2 t3 q q2 q3 x x2 x3 k once := by kernel_rfl
theorem tshortened_j3_lf (N : Nat) (rec : (List Int) → Int → Int → (List (Int × (Int × Bool))) → (List (Int × (Int × Int))) → Int → (List Int) → Int → Int → (List (Int × (Int × Bool))) → (List (Int × (Int × Int))) → Int → (List Int) → (List Int) → Option ((List (Int × (Int × Bool))) × (List (Int × (Int × Int))) × Int × (List (Int × (Int × Bool))) × (List (Int × (Int × Int))) × Int × List Int × List Int)) {z : (List (Int × (Int × Bool))) × (List (Int × (Int × Int))) × Int × (List (Int × (Int × Bool))) × (List (Int × (Int × Int))) × Int × List Int × List Int} {top : Bool} {E : EE} {Xc : Ctx} (hE : EOK tshortened_B.m0 E) (hX : CxOK top Xc) (hrec : LeafOK Try.prog tshortened_B.c tshortened_B.n tshortened_B.m0 E Xc z (tshortened_l4_h rec)) (h0 : LeafOK Try.prog tshortened_B.c tshortened_B.n tshortened_B.m0 E Xc z tshortened_l4_e0) : LeafOK Try.prog tshortened_B.c tshortened_B.n tshortened_B.m0 E Xc z (tshortened_j3_k N rec) := leaf_of_ev (B := tshortened_B) (loops := [tshortened_l1_L N, tshortened_l3_L N, tshortened_l2_L N]) (leaves := [tshortened_l4_h rec, tshortened_l4_e0]) (tshortened_all N) mixed ⟨tshortened_l1_ok N, tshortened_l3_ok N, tshortened_l2_ok N, trivial⟩ hE hX ⟨hrec, h0, trivial⟩ RetOK.no (fun p => tshortened_j3_eq N rec p.1.2.2.2.2.2.1 p.1.2.2.2.2.2.2.1 p.1.2.2.2.2.2.2.2.1 p.2.1.1 p.2.1.2.1 p.2.1.2.2.1 p.2.2.1.1 p.2.2.1.2.1 p.2.2.1.2.2.1 p.2.2.2.1.1 p.2.2.2.1.2.1 p.2.2.2.1.2.2.1 p.2.2.2.2.1 p.2.2.2.2.2.1)
noncomputable def tshortened_l4_L (N : Nat) : LoopS := { at_ := tshortened_l4_at, sta := tshortened_l4_st, exits := [([.c [1, 1, 1, 1, 1, 1, 1, 1, 1, 1, 1, 1, 1, 1, 1, 1, 1, 1, 1, 1, 1, 1, 1, 1, 0], .c [1, 1, 1, 1, 1, 1, 1, 1, 1, 1, 1, 1, 1, 1, 1, 1, 1, 1, 1, 1, 1, 1, 1, 1, 1]], ⟨[7, 14, 29, 30], ⟨[.own 0 0, .own 1 0, .ols 2, .ols 3], [.segs [.sl (.pair (.int .i64) (.pair (.int .i64) .bool)), .sl (.pair (.int .i64) (.pair (.int .i64) (.int .i64))), .i .i64], .segs [.sl (.pair (.int .i64) (.pair (.int .i64) .bool)), .sl (.pair (.int .i64) (.pair (.int .i64) (.int .i64))), .i .i64], .lst (.int .i64), .lst (.int .i64)]⟩⟩)], run := fun p k => (tshortened_l4 N N p.1.2.2.2.2.2.1 p.1.2.2.2.2.2.2.1 p.1.2.2.2.2.2.2.2.1 p.2.1.1 p.2.1.2.1 p.2.1.2.2.1 p.2.2.1.1 p.2.2.1.2.1 p.2.2.1.2.2.1 p.2.2.2.1.1 p.2.2.2.1.2.1 p.2.2.2.1.2.2.1 p.2.2.2.2.1 p.2.2.2.2.2.1).bind fun e => k (.inl (((), (), (), (), ()), ((e.1, e.2.1, e.2.2.1, ()), (e.2.2.2.1, e.2.2.2.2.1, e.2.2.2.2.2.1, ()), e.2.2.2.2.2.2.1, e.2.2.2.2.2.2.2, ()))) }
theorem tshortened_l4_eq (N n_ : Nat) (u : List Int) (u2 : Int) (u3 : Int) (t : List (Int × (Int × Bool))) (t2 : List (Int × (Int × Int))) (t3 : Int) (q : List Int) (q2 : Int) (q3 : Int) (x : List (Int × (Int × Bool))) (x2 : List (Int × (Int × Int))) (x3 : Int) (k : List Int) (once : List Int) : ev (Z := (List (Int × (Int × Bool))) × (List (Int × (Int × Int))) × Int × (List (Int × (Int × Bool))) × (List (Int × (Int × Int))) × Int × List Int × List Int) Try.prog (tshortened_sp N) tshortened_B [tshortened_l1_L N, tshortened_l3_L N, tshortened_l2_L N] [tshortened_l4_h (tshortened_l4 N n_), tshortened_l4_e0, tshortened_j3_k N (tshortened_l4 N n_)] none 400 true tshortened_l4_at (stL tshortened_l4_st (((), (), (), (), (), u, u2, u3, ()), ((t, t2, t3, ()), (q, q2, q3, ()), (x, x2, x3, ()), k, once, ()))) (stH tshortened_l4_st (((), (), (), (), (), u, u2, u3, ()), ((t, t2, t3, ()), (q, q2, q3, ()), (x, x2, x3, ()), k, once, ()))) = tshortened_l4 N (n_ + 1) u u2 u3 t t2 t3 q q2 q3 x x2 x3 k once := by kernel_rfl
theorem tshortened_l4_ok (N : Nat) {top : Bool} : LoopOK Try.prog tshortened_B.c tshortened_B.n tshortened_B.m0 top (tshortened_l4_L N) := loop_of_ev (Z := (List (Int × (Int × Bool))) × (List (Int × (Int × Int))) × Int × (List (Int × (Int × Bool))) × (List (Int × (Int × Int))) × Int × List Int × List Int) (N := N) (fun m p => tshortened_l4 N m p.1.2.2.2.2.2.1 p.1.2.2.2.2.2.2.1 p.1.2.2.2.2.2.2.2.1 p.2.1.1 p.2.1.2.1 p.2.1.2.2.1 p.2.2.1.1 p.2.2.1.2.1 p.2.2.1.2.2.1 p.2.2.2.1.1 p.2.2.2.1.2.1 p.2.2.2.1.2.2.1 p.2.2.2.2.1 p.2.2.2.2.2.1) (fun e => .inl (((), (), (), (), ()), ((e.1, e.2.1, e.2.2.1, ()), (e.2.2.2.1, e.2.2.2.2.1, e.2.2.2.2.2.1, ()), e.2.2.2.2.2.2.1, e.2.2.2.2.2.2.2, ()))) (fun _ _ _ => rfl) (fun _ => rfl) (fun m z E Xc hE hX hrec hx => leaf_of_ev (B := tshortened_B) (loops := [tshortened_l1_L N, tshortened_l3_L N, tshortened_l2_L N]) (leaves := [tshortened_l4_h (tshortened_l4 N m), tshortened_l4_e0, tshortened_j3_k N (tshortened_l4 N m)]) (tshortened_all N) mixed ⟨tshortened_l1_ok N, tshortened_l3_ok N, tshortened_l2_ok N, trivial⟩ hE hX ⟨hrec, (fun p hp => by obtain rfl := Option.some.inj hp; exact hx), tshortened_j3_lf N _ hE hX hrec (fun p hp => by obtain rfl := Option.some.inj hp; exact hx), trivial⟩ RetOK.no (fun p => tshortened_l4_eq N m p.1.2.2.2.2.2.1 p.1.2.2.2.2.2.2.1 p.1.2.2.2.2.2.2.2.1 p.2.1.1 p.2.1.2.1 p.2.1.2.2.1 p.2.2.1.1 p.2.2.1.2.1 p.2.2.1.2.2.1 p.2.2.2.1.1 p.2.2.2.1.2.1 p.2.2.2.1.2.2.1 p.2.2.2.2.1 p.2.2.2.2.2.1))
abbrev tshortened_st : Sta := ⟨[0, 1, 2], ⟨[.sl (.int .u8), .sl (.int .u8), .i .u8], []⟩⟩
theorem tshortened_eq (N : Nat) (numbers : List Int) (tries : List Int) (pence : Int) : ev (Z := Bool) Try.prog (tshortened_sp N) tshortened_B [tshortened_l1_L N, tshortened_l3_L N, tshortened_l2_L N, tshortened_l4_L N] [] (some tshortened_rt) 400 false [.c [0], .c [1]] (stL tshortened_st ((numbers, tries, pence, ()), ())) (stH tshortened_st ((numbers, tries, pence, ()), ())) = tshortened_S N numbers tries pence := by kernel_rfl
noncomputable def sp_tshortened (N : Nat) : Spec := { f := 17, ins := ⟨[.sl (.int .u8), .sl (.int .u8), .i .u8], []⟩, outs := [⟨[.b], []⟩], run := fun p k => (tshortened_S N p.1.1 p.1.2.1 p.1.2.2.1).bind fun r => k ((r, ()), ()) }
theorem sp_tshortened_ok (N : Nat) : SpecOK Try.prog (sp_tshortened N) := fn_sound (B := tshortened_B) (loops := [tshortened_l1_L N, tshortened_l3_L N, tshortened_l2_L N, tshortened_l4_L N]) (leaves := []) (fun p => tshortened_S N p.1.1 p.1.2.1 p.1.2.2.1) (fun r => ((r, ()), ())) tshortened_rt (fun _ _ _ => rfl) (fun r z h => by cases h; rfl) Try.func17 (by kernel_rfl) (by kernel_rfl) (by kernel_rfl) rfl rfl (by kernel_rfl) (fun args w => Sem.pv_run _ _ _ (by kernel_rfl) w) (tshortened_all N) mixed ⟨tshortened_l1_ok N, tshortened_l3_ok N, tshortened_l2_ok N, tshortened_l4_ok N, trivial⟩ (fun z E Xc hE hX hret => trivial) (fun p => tshortened_eq N p.1.1 p.1.2.1 p.1.2.2.1)

end Go.Proofs.Ytfamlpbdhhikdaa

namespace Go.Proofs.Ytfamlpbdhhikdaa
set_option linter.all false
open Go

theorem okC_up {m m' : Int} (h : m ≤ m') : ∀ {c : List Int} {lo : Int}, okC m lo c → okC m' lo c
  | [], _, _ => trivial
  | a :: r, lo, ⟨⟨h1, h2⟩, h3⟩ => ⟨⟨h1, by omega⟩, okC_up h h3⟩
theorem okC_snoc {m : Int} : ∀ {c : List Int} {lo : Int}, okC m lo c → lo ≤ m → okC (m + 1) lo (c ++ [m])
  | [], lo, _, h => ⟨⟨h, by omega⟩, trivial⟩
  | a :: r, lo, ⟨⟨h1, h2⟩, h3⟩, h => ⟨⟨h1, by omega⟩, okC_snoc h3 (by omega)⟩
section
variable {N : Nat} {ws : List Wd} {ts : List Tn} {br_ : Int} (hN : 110 ≤ N) {b : List Int}
include hN
theorem tshortened_l1_p {p : Int} (hn : ws.length ≤ 12) : ∀ (n k : Nat) (b2 b3 : Int) (L : List Int), ws.length < n + k → k ≤ ws.length → Bell b b2 → okC k 0 L →
    Ok (tshortened_l1 N n p ws.length k ws ts br_ b b2 b3 (wordsL 0 k) L) fun z => z.1 = p ∧ z.2.1 = ws ∧ z.2.2.1 = ts ∧ z.2.2.2.1 = br_ ∧ BelR b z.2.2.2.2.1 z.2.2.2.2.2.1 ∧ z.2.2.2.2.2.2.2.1 = wordsL 0 ws.length ∧ okC ws.length 0 z.2.2.2.2.2.2.2.2
  | 0, k, b2, b3, L, h, _, _, _ => by omega
  | n + 1, k, b2, b3, L, h, hk, hb, hL => by
    unfold tshortened_l1
    refine Ok.brd (fun c => ?_) (fun c => ?_)
    · have c' : k < ws.length := by omega
      have hlen : L.length ≤ 12 := by
        by_cases e : L = []
        · subst e; simp
        · have := okC_len hL e; omega
      have hj : ∀ b2 b3 L, Bell b b2 → okC ((k + 1 : Nat) : Int) 0 L → Ok (tshortened_j1 N (tshortened_l1 N n) p ws.length k ws ts br_ b b2 b3 (wordsL 0 k ++ [(k : Int)]) L) fun z => z.1 = p ∧ z.2.1 = ws ∧ z.2.2.1 = ts ∧ z.2.2.2.1 = br_ ∧ BelR b z.2.2.2.2.1 z.2.2.2.2.2.1 ∧ z.2.2.2.2.2.2.2.1 = wordsL 0 ws.length ∧ okC ws.length 0 z.2.2.2.2.2.2.2.2 := by
        intro b2 b3 L hb hL
        have ih := tshortened_l1_p (p := p) hn n (k + 1) b2 b3 L (by omega) (by omega) hb hL
        rw [show ((k + 1 : Nat) : Int) = (k : Int) + 1 by omega, wordsL_snoc (by omega)] at ih
        unfold tshortened_j1
        exact Ok.chk (by omega) ih
      refine Ok.lim (by rw [wordsL_len]; simp; omega) (Ok.bind (seldom_ok N hb (by omega)) ?_)
      rintro ⟨z, e1, e2, e3⟩ ⟨hc, hb3⟩
      dsimp only at hc hb3 ⊢
      obtain rfl := hc.symm
      refine Ok.br (fun _ => Ok.lim (by simp; omega) (hj _ _ _ hb3 ?_)) (fun _ => hj _ _ _ hb3 (okC_up (by omega) hL))
      have := okC_snoc hL (by omega)
      rwa [show (k : Int) + 1 = ((k + 1 : Nat) : Int) by omega] at this
    · obtain rfl : k = ws.length := by omega
      exact Ok.some ⟨rfl, rfl, rfl, rfl, ⟨rfl, hb⟩, rfl, hL⟩
omit hN
theorem tshortened_l3_p {l : List Int} (hl : l.length ≤ 100) (hN : 110 ≤ N) {lo hi : Nat} (h1 : lo ≤ hi) (h2 : hi < l.length) {e n' : Int} {said : List Int} {u : List Tn} {u2 u3 : Int} {q : List Int} {q2 q3 : Int} {x : List Wd} {x2 : List Tn} {x3 : Int} {y : Tn} (hy : -1000 ≤ y.2.1 ∧ y.2.2 ≤ 1000) : ∀ (n : Nat) (w : Int) (core : Bool), (y.2.2 + 1 - w).toNat < n → y.2.1 ≤ w →
    tshortened_l3 N n l e lo hi said n' core w u u2 u3 ws ts br_ q q2 q3 x x2 x3 y.1 y.2.1 y.2.2 = some (l, e, (lo : Int), (hi : Int), said, n', (core && (wordsL w (y.2.2 + 1)).all fun w => ((l.take (hi + 1)).drop lo).contains w), u, u2, u3, ws, ts, br_, q, q2, q3, x, x2, x3, y.1, y.2.1, y.2.2)
  | 0, w, _, h, _ => by omega
  | n + 1, w, core, h, h3 => by
    unfold tshortened_l3
    by_cases c : w ≤ y.2.2
    · have ew : wordsL w (y.2.2 + 1) = w :: wordsL (w + 1) (y.2.2 + 1) := by
        unfold wordsL
        rw [show (y.2.2 + 1 - w).toNat = (y.2.2 + 1 - (w + 1)).toNat + 1 by omega, List.range_succ_eq_map, List.map_cons, List.map_map]
        congr 1
        · simp
        · refine List.map_congr_left fun i _ => ?_
          simp only [Function.comp]; omega
      have ih := fun core => tshortened_l3_p hl hN h1 h2 hy (e := e) (n' := n') (said := said) (u := u) (u2 := u2) (u3 := u3) (q := q) (q2 := q2) (q3 := q3) (x := x) (x2 := x2) (x3 := x3) n (w + 1) core (by omega) (by omega)
      rw [ew, List.all_cons, br_dec c]
      cases core
      · rw [br_false, chk_eq (by omega), ih]; rfl
      · rw [br_true, chk_eq (by omega), grd_eq (by simp; omega), show ((hi : Int) + 1).toNat = hi + 1 by omega, Int.toNat_natCast, containsi_v (by simp; omega) (by simp; omega)]
        simp only [Option.bind_some]
        rw [chk_eq (by omega), ih]; rfl
    · rw [br_ndec c]
      have : wordsL w (y.2.2 + 1) = [] := by unfold wordsL; rw [show (y.2.2 + 1 - w).toNat = 0 by omega]; rfl
      rw [this]; simp
theorem tshortened_l2_p {l : List Int} (hl : l.length ≤ 100) (hN : 110 ≤ N) {lo hi : Nat} (h1 : lo ≤ hi) (h2 : hi < l.length) (hF : TFine ws ts br_) {e : Int} {said : List Int} {q : List Int} {q2 q3 : Int} {x : List Wd} {x2 : List Tn} {x3 : Int} : ∀ (n k : Nat) (n' : Nat), ts.length < n + k → k ≤ ts.length → n' ≤ k →
    tshortened_l2 N n l e lo hi said n' ts ts.length k ws ts br_ q q2 q3 x x2 x3 = some (l, e, said, ((n' + (ts.drop k).countP (sayP ((l.take (hi + 1)).drop lo)) : Nat) : Int), ws, ts, br_, q, q2, q3, x, x2, x3)
  | 0, k, n', h, _, _ => by omega
  | n + 1, k, n', h, hk, hn' => by
    have ht := hF.t; have hn := hF.n
    unfold tshortened_l2
    by_cases c : k < ts.length
    · have g := gets c (0, 0, 0)
      have hx := hF.x _ (getD_mem (d := (0, 0, 0)) c)
      rw [drop_cons c (0, 0, 0)]
      generalize ts.getD k (0, 0, 0) = y at *
      have hj : ∀ m : Nat, m ≤ k + 1 → tshortened_j2 N (tshortened_l2 N n) l e lo hi said m ts ts.length k ws ts br_ q q2 q3 x x2 x3 = some (l, e, said, ((m + (ts.drop (k + 1)).countP (sayP ((l.take (hi + 1)).drop lo)) : Nat) : Int), ws, ts, br_, q, q2, q3, x, x2, x3) := by
        intro m hm
        have ih := tshortened_l2_p hl hN h1 h2 hF (e := e) (said := said) (q := q) (q2 := q2) (q3 := q3) (x := x) (x2 := x2) (x3 := x3) n (k + 1) m (by omega) (by omega) hm
        rw [show ((k + 1 : Nat) : Int) = (k : Int) + 1 by omega] at ih
        unfold tshortened_j2
        rw [chk_eq (by omega), ih]
      rw [br_dec (by omega), idx_eq (by omega) g, tshortened_l3_p hl hN h1 h2 (by omega) N _ _ (by omega) (by omega)]
      simp only [Option.bind_some, Bool.true_and]
      rw [List.countP_cons]
      generalize (ts.drop (k + 1)).countP (sayP ((l.take (hi + 1)).drop lo)) = C at hj ⊢
      have hs : sayP ((l.take (hi + 1)).drop lo) y = (((wordsL y.2.1 (y.2.2 + 1)).all fun w => ((l.take (hi + 1)).drop lo).contains w) && !((l.take (hi + 1)).drop lo).contains y.1) := rfl
      rw [hs]
      cases hc : (wordsL y.2.1 (y.2.2 + 1)).all fun w => ((l.take (hi + 1)).drop lo).contains w
      · rw [br_false, hj n' (by omega)]
        simp
      · rw [br_true, chk_eq (by omega), grd_eq (by simp; omega), show ((hi : Int) + 1).toNat = hi + 1 by omega, Int.toNat_natCast, containsi_v (by simp; omega) (by simp; omega)]
        simp only [Option.bind_some]
        cases ((l.take (hi + 1)).drop lo).contains y.1
        · have := hj (n' + 1) (by omega)
          rw [show ((n' + 1 : Nat) : Int) = (n' : Int) + 1 by omega] at this
          rw [Bool.not_false, br_true, chk_eq (by omega), this]
          simp
          omega
        · rw [Bool.not_true, br_false, hj n' (by omega)]
          simp
    · rw [br_ndec (by omega), List.drop_of_length_le (l := ts) (i := k) (by omega)]; simp
theorem tshortened_l4_p {l : List Int} (hl : l.length ≤ 100) {x : List Wd} {x2 : List Tn} {x3 : Int} : ∀ (n k : Nat) (b2 b3 : Int) (K : List Int), l.length < n + k → k ≤ l.length → Bell b b2 → okC k 0 K →
    Ok (tshortened_l4 N n l l.length k ws ts br_ b b2 b3 x x2 x3 K (pick l K)) fun z => ∃ K', z = (ws, ts, br_, x, x2, x3, K', pick l K') ∧ okC l.length 0 K'
  | 0, k, b2, b3, K, h, _, _, _ => by omega
  | n + 1, k, b2, b3, K, h, hk, hb, hK => by
    unfold tshortened_l4
    refine Ok.brd (fun c => ?_) (fun c => ?_)
    · have c' : k < l.length := by omega
      have hlen : K.length ≤ 100 := by
        by_cases e : K = []
        · subst e; simp
        · have := okC_len hK e; omega
      have hj : ∀ b2 b3 K, Bell b b2 → okC ((k + 1 : Nat) : Int) 0 K → Ok (tshortened_j3 N (tshortened_l4 N n) l l.length k ws ts br_ b b2 b3 x x2 x3 K (pick l K)) fun z => ∃ K', z = (ws, ts, br_, x, x2, x3, K', pick l K') ∧ okC l.length 0 K' := by
        intro b2 b3 K hb hK
        have ih := tshortened_l4_p hl (x := x) (x2 := x2) (x3 := x3) n (k + 1) b2 b3 K (by omega) (by omega) hb hK
        rw [show ((k + 1 : Nat) : Int) = (k : Int) + 1 by omega] at ih
        unfold tshortened_j3
        exact Ok.chk (by omega) ih
      refine Ok.idx (by omega) (by omega) (fun a ha _ => Ok.bind (seldom_ok N hb (by omega)) ?_)
      have ea : a = l.getD k 0 := by
        have := gets c' 0
        rw [this] at ha; cases ha; rfl
      rintro ⟨z, e1, e2, e3⟩ ⟨hc, hb3⟩
      dsimp only at hc hb3 ⊢
      obtain rfl := hc.symm
      refine Ok.br (fun _ => Ok.lim (by simp; omega) (Ok.lim (by simp [pick]; omega) ?_)) (fun _ => hj _ _ _ hb3 (okC_up (by omega) hK))
      have hs := okC_snoc hK (by omega)
      rw [show (k : Int) + 1 = ((k + 1 : Nat) : Int) by omega] at hs
      have := hj e2 e3 _ hb3 hs
      have ep : pick l (K ++ [(k : Int)]) = pick l K ++ [a] := by
        unfold pick
        rw [List.map_append, List.map_singleton, Int.toNat_natCast, ea]
      rw [ep] at this
      exact this
    · obtain rfl : k = l.length := by omega
      exact Ok.some ⟨K, rfl, hK⟩
end
theorem u8_in {p : Int} (h : Ty.inB (.int .u8) p) : 0 ≤ p ∧ p < 256 := by
  have h' : inR .u8 p := h
  unfold inR at h'
  have a : IntKind.u8.min = 0 := by decide
  have b : IntKind.u8.max = 255 := by decide
  omega
theorem tshortened_true {ns qs : List Int} {p : Int} (h1 : Ty.inB (.sl (.int .u8)) ns) (h2 : Ty.inB (.sl (.int .u8)) qs) (h3 : Ty.inB (.int .u8) p) : tshortened_S 1100 ns qs p = some true := by
  have aw : Ok ((awake_S 1100).bind fun x => some x) (· = true) := by rw [awake_v]; exact ⟨_, rfl, rfl⟩
  have l1 : ns.length ≤ 9223372036854775807 := h1.1
  have l2 : qs.length ≤ 9223372036854775807 := h2.1
  have p0 : 0 ≤ p ∧ p < 256 := by
    exact u8_in h3
  suffices hs : Ok (tshortened_S 1100 ns qs p) (· = true) by
    obtain ⟨r, e, rfl⟩ := hs
    exact e
  unfold tshortened_S hang_S
  simp only [Option.bind_some]
  obtain ⟨⟨ws, ts, br_, b, b2, b3⟩, em, hF, hm, hb⟩ := made_v (N := 1100) (b := ns) (by omega) (words := 9) (turns := 3) (b2 := 0) (b3 := 0) (by omega) (by omega) ⟨l1, by omega, by omega⟩
  dsimp only at hF hm hb
  rw [em]
  simp only [Option.bind_some]
  have hn := hF.n; have ht := hF.t; have hn0 := hF.n0
  have c0 := checkT_of hF
  have hq : Bell qs 0 := ⟨l2, by omega, by omega⟩
  have e1 := tshortened_l1_p (N := 1100) (ws := ws) (ts := ts) (br_ := br_) (p := p) (by omega) (b := qs) hn 1100 0 0 0 [] (by omega) (by omega) hq trivial
  simp only [Int.natCast_zero] at e1
  rw [wordsL_nil (a := 0) (b := 0) (by omega)] at e1
  refine Ok.bind e1 ?_
  rintro ⟨p', t', t2', t3', q, q2, q3, all, l⟩ ⟨z1, z2, z3, z4, ⟨hqq, hq2⟩, z5, hl⟩
  dsimp only at z1 z2 z3 z4 z5 hqq hq2 hl ⊢
  subst z1 z2 z3 z4 z5
  obtain rfl := hqq.symm
  have hll : l.length ≤ 12 := by
    by_cases e : l = []
    · subst e; simp
    · have := okC_len hl e; omega
  have hwl : (wordsL 0 (t'.length : Int)).length ≤ 12 := by rw [wordsL_len]; omega
  rw [shorter_v (by omega) (by omega) (by omega) (by omega), shR_all hF]
  simp only [Option.bind_some]
  rw [br_nd (by first | trivial | rfl), same_v (by omega) (by omega) (by omega) (by omega)]
  simp only [Option.bind_some]
  rw [Bool.not_true, br_false, shorter_v (by omega) (by omega) (by omega) (by omega)]
  simp only [Option.bind_some]
  by_cases h0 : l = []
  · subst h0
    have : shR t' t2' t3' [] = (0, 2, [], []) := by unfold shR keptE; rw [c0]; rfl
    rw [this]
    simp only [List.length_nil]
    rw [br_dec (by first | trivial | rfl), br_dec (by first | trivial | rfl)]
    exact aw
  have hasc := okC_asc hl
  have hin : inW t' l := okC_mem hl
  have hk0 := keptE_of c0 h0 hin hasc
  have hpos := List.length_pos_iff.2 h0
  rw [br_ndec (by omega), lkeeps_v (by omega) (by omega) (by omega) (by omega)]
  simp only [Option.bind_some]
  unfold keepsR
  rw [hk0, if_neg (by simp)]
  simp only
  rw [br_nd (by first | trivial | rfl)]
  cases hkeep : t2'.all (keepP l)
  · have : shR t' t2' t3' l = (0, 8, [], []) := by unfold shR; rw [hk0, hkeep]; rfl
    rw [this]
    simp only
    rw [show (!(false == decide ((8 : Int) = 0))) = false from rfl, br_false, Bool.not_false, br_true, br_nd (by first | trivial | rfl), br_nnd (by decide)]
    exact aw
  have eR : shR t' t2' t3' l = (t3', 0, shW t' l t'.length, t2'.filterMap (trV l)) := by unfold shR; rw [hk0, hkeep]; rfl
  have hF2 := shW_fine hF hasc hin h0
  have c2 := checkT_of hF2
  have hlen2 := shW_len t' t'.length l
  have hfl := filterMap_len (f := trV l) t2'
  rw [eR]
  simp only
  rw [show (!(true == decide True)) = false from rfl, br_false, Bool.not_true, br_false, br_nd (by first | trivial | rfl)]
  have hp : IntKind.i64.wrap p' = p' := IntWalk.i64_in _ (by omega)
  have hp1 : Int.tmod p' 100 = p' % 100 := Int.tmod_eq_emod_of_nonneg (by omega)
  rw [hp, hp1]
  have hpp : 1 ≤ 1 + p' % 100 ∧ 1 + p' % 100 ≤ 100 := by omega
  generalize 1 + p' % 100 = each at hpp ⊢
  have hb1 := priceN_bound t'
  have hb2 := priceN_bound (shW t' l t'.length)
  have hle := priceN_kept (t'.length : Int) hl (by omega)
  rw [show (0 : Int).toNat = 0 from rfl, List.drop_zero] at hle
  rw [chk_eq (by omega), price_v (by omega) (by omega) (by omega), price_v (by omega) (by omega) (by omega)]
  simp only [Option.bind_some]
  unfold priceR
  rw [c0, c2, if_neg (by simp), if_neg (by omega), if_neg (by simp), if_neg (by omega)]
  simp only
  have m1 : priceN (shW t' l t'.length) * each ≤ priceN t' * each := Int.mul_le_mul_of_nonneg_right hle (by omega)
  have m2 : each * (l.length : Int) ≤ priceN (shW t' l t'.length) * each := by
    rw [Int.mul_comm each]
    exact Int.mul_le_mul_of_nonneg_right (by omega) (by omega)
  have m3 : each * (l.length : Int) ≤ 100 * 12 := Int.mul_le_mul (by omega) (by omega) (by omega) (by omega)
  have m4 : 0 ≤ each * (l.length : Int) := Int.mul_nonneg (by omega) (by omega)
  rw [br_nd (by first | trivial | rfl), br_nd (by first | trivial | rfl), br_ndec (by omega), chk_eq (by omega), br_ndec (by omega), br_nd (by omega), br_ndec (by omega)]
  refine Ok.chk (by omega) (Ok.bind (stroke_ok 1100 hq2 (by omega)) ?_)
  rintro ⟨lo, d1, d2, d3⟩ ⟨hlo, hc, hb3⟩
  dsimp only at hlo hc hb3 ⊢
  obtain rfl := hc.symm
  refine Ok.chk (by omega) (Ok.bind (strike_ok 1100 hb3 (by omega)) ?_)
  rintro ⟨hi, f1, f2, f3⟩ ⟨hhi, hc, hb4⟩
  dsimp only at hhi hc hb4 ⊢
  obtain rfl := hc.symm
  obtain ⟨lo, rfl⟩ : ∃ k : Nat, lo = k := ⟨lo.toNat, by omega⟩
  obtain ⟨hi, rfl⟩ : ∃ k : Nat, hi = k := ⟨hi.toNat, by omega⟩
  have hsaid := said_part hF hasc hin hkeep (lo := lo) (hi := hi) (by omega) (by omega)
  rw [says_v (by omega) (by omega) (by omega)]
  simp only [Option.bind_some]
  unfold saysR
  rw [c2, if_neg (by simp), if_neg (by simp [inT, hlen2]; omega), if_neg (by simp [inT, hlen2]; omega), if_neg (by omega)]
  simp only
  have e2 := tshortened_l2_p (N := 1100) (l := l) (by omega) (by omega) (lo := lo) (hi := hi) (by omega) (by omega) hF (e := 0) (said := turnL (t2'.filterMap (trV l)) lo ((hi : Int) + 1)) (q := qs) (q2 := f2) (q3 := f3) (x := shW t' l t'.length) (x2 := t2'.filterMap (trV l)) (x3 := t3') 1100 0 0 (by omega) (by omega) (by omega)
  simp only [Int.natCast_zero, List.drop_zero, Nat.zero_add] at e2
  rw [e2]
  simp only [Option.bind_some]
  rw [br_nd (by first | trivial | rfl), br_nd hsaid]
  have e4 := tshortened_l4_p (N := 1100) (ws := t') (ts := t2') (br_ := t3') (b := qs) (l := l) (by omega) (x := shW t' l t'.length) (x2 := t2'.filterMap (trV l)) (x3 := t3') 1100 0 f2 f3 [] (by omega) (by omega) hb4 trivial
  simp only [Int.natCast_zero] at e4
  refine Ok.bind e4 ?_
  rintro z ⟨K, rfl, hK⟩
  dsimp only
  have hKl : K.length ≤ 12 := by
    by_cases e : K = []
    · subst e; simp
    · have := okC_len hK e; omega
  have hpl : (pick l K).length = K.length := by simp [pick]
  rw [shorter_v (by omega) (by omega) (by omega) (by omega), shorter_v (by omega) (by omega) (by omega) (by omega), shR_twice hF hasc hin h0 hkeep (okC_asc hK) (okC_mem hK)]
  simp only [Option.bind_some]
  have hsl := shR_len (ws := t') (ts := t2') (br_ := t3') (pick l K) (by omega)
  generalize shR t' t2' t3' (pick l K) = z at hsl ⊢
  obtain ⟨za, zb, zc, zd⟩ := z
  dsimp only at hsl ⊢
  rw [br_dec (by first | trivial | rfl), same_v (by omega) (by omega) (by omega) (by omega)]
  simp only [Option.bind_some]
  rw [br_true]
  exact aw
end Go.Proofs.Ytfamlpbdhhikdaa

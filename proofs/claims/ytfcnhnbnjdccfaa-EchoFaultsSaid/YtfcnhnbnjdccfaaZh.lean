/-
  Parts of a proof, put together: E4, Pl12, Pl13.
  Conditions: none.
-/
import Derived.Test.YtfcnhnbnjdccfaaZe
import Derived.Test.YtfcnhnbnjdccfaaZf
import Derived.Test.YtfcnhnbnjdccfaaZg
namespace Go.Proofs.Ytfcnhnbnjdccfaa
set_option linter.all false
open Go

def musts1_S (N : Nat) (p : Int) (p2 : Int) (u : Int) : Option Bool :=
  br (decide (p = u))
    (some true)
    (some (decide (p2 = u)))
def every1m_S (N : Nat) (x : Int) (x2 : Int) (g : Int) : Option (Bool × Int) :=
  (musts1_S N x x2 g).bind fun x_1 =>
  some ((!x_1), g)
def ixfm_l1 (N : Nat) : Nat → (List (Int × Int)) → Int → Int → Int → Option ((Int × Int) ⊕ (Int))
  | 0, _, _, _, _ => none
  | n_ + 1, s, u, u2, f =>
    br (decide (u2 < u))
      (idx s u2 fun x_1 =>
      (every1m_S N x_1.1 x_1.2 f).bind fun (x_2, y_3) =>
      br x_2
        (some (.inl (u2, y_3)))
        (chk (u2 + 1) <|
        ixfm_l1 N n_ s u (u2 + 1) y_3))
      (some (.inr f))
def ixfm_S (N : Nat) (s : List (Int × Int)) (f : Int) : Option (Int × Int) :=
  (ixfm_l1 N N s (s.length : Int) 0 f).bind fun e => match e with
  | .inl (i_4, g_5) =>
    some (i_4, g_5)
  | .inr g_6 =>
    some (-1, g_6)
def cofm_S (N : Nat) (s : List (Int × Int)) (f : Int) : Option (Bool × Int) :=
  (ixfm_S N s f).bind fun (x_1, y_2) =>
  some ((decide (0 ≤ x_1)), y_2)
def everym_S (N : Nat) (l : List (Int × Int)) (holds : Int) : Option Bool :=
  (cofm_S N l holds).bind fun (x_1, y_2) =>
  some (!x_1)
def musts_j1 (N : Nat) (rec : (List (Int × Int)) → Int → Int → (List Int) → Option (List Int)) (l : List (Int × Int)) (u : Int) (u2 : Int) (out : List Int) : Option (List Int) :=
  chk (u2 + 1) <|
  rec l u (u2 + 1) out
def musts_l1 (N : Nat) : Nat → (List (Int × Int)) → Int → Int → (List Int) → Option (List Int)
  | 0, _, _, _, _ => none
  | n_ + 1, l, u, u2, out =>
    br (decide (u2 < u))
      ((everym_S N l u2).bind fun x_3 =>
      br x_3
        (lim (out.length + [u2].length) <|
        musts_j1 N (musts_l1 N n_) l u u2 (out ++ [u2]))
        (musts_j1 N (musts_l1 N n_) l u u2 out))
      (some (out))
def musts_S (N : Nat) (e : List (List Int)) (e2 : List Int) (e3 : Int) : Option (List Int × Int) :=
  (check_S N e e2 e3).bind fun x_1 =>
  br (!decide (x_1 = 0))
    (some ([], x_1))
    ((epairs_S N e e2 e3).bind fun x_2 =>
    br (decide ((x_2.length : Int) = 0))
      (some ([], 6))
      ((musts_l1 N N x_2 (e.length : Int) 0 []).bind fun out_4 =>
      some (out_4, 0)))
def eother_l2 (N : Nat) : Nat → Int → (List (Int × Int)) → (List Int) → Bool → Int → (List (Int × Int)) → Int → Int → Int → Int → (List (List Int)) → (List Int) → Int → Int → Int → Int → Int → Option ((Unit) ⊕ (Int × (List (Int × Int)) × List Int × Bool × (List (Int × Int)) × Int × Int × List (List Int) × List Int × Int × Int × Int))
  | 0, _, _, _, _, _, _, _, _, _, _, _, _, _, _, _, _, _ => none
  | n_ + 1, least, can, musts, met, n, u, u2, u3, u4, u5, x, x2, x3, best, best2, p, p2 =>
    br (decide (u5 < u4))
      ((least_S N x x2 x3 p u5).bind fun (x_22, y_23) =>
      (dist_S N x x2 x3 p2 u5).bind fun (x_24, y_25) =>
      br (!decide (y_23 = 0))
        (some (.inl ()))
        (br (!decide (y_25 = 0))
          (some (.inl ()))
          (chk (n + x_24) <|
          br (decide ((n + x_24) < x_22))
            (some (.inl ()))
            (chk (x_22 + x_24) <|
            br (decide ((x_22 + x_24) < n))
              (some (.inl ()))
              (chk (u5 + 1) <|
              eother_l2 N n_ least can musts met n u u2 u3 u4 (u5 + 1) x x2 x3 best best2 p p2)))))
      (some (.inr (least, can, musts, met, u, u2, u3, x, x2, x3, best, best2)))
def eother_l1 (N : Nat) : Nat → Int → (List (Int × Int)) → (List Int) → Bool → (List (Int × Int)) → Int → Int → (List (List Int)) → (List Int) → Int → Int → Int → Option ((Unit) ⊕ ((Unit) ⊕ ((List (Int × Int)) × List Int × Bool × List (List Int) × List Int × Int)))
  | 0, _, _, _, _, _, _, _, _, _, _, _, _ => none
  | n_ + 1, least, can, musts, met, u, u2, u3, x, x2, x3, best, best2 =>
    br (decide (u3 < u2))
      (idx u u3 fun x_19 =>
      (least_S N x x2 x3 x_19.1 x_19.2).bind fun (x_20, y_21) =>
      br (!decide (y_21 = 0))
        (some (.inl ()))
        (br (decide (x_20 < least))
          (some (.inl ()))
          (br (decide (x_19.1 = best) && decide (x_19.2 = best2))
            (br (!decide (x_20 = least))
              (some (.inl ()))
              (br (decide (x_20 = least))
                (br (!met)
                  (br (!(decide (x_19.1 = best) && decide (x_19.2 = best2)))
                    (some (.inl ()))
                    (br met
                      ((eother_l2 N N least can musts true x_20 u u2 u3 (x.length : Int) 0 x x2 x3 best best2 x_19.1 x_19.2).bind fun e => match e with
                      | .inl _ =>
                        some (.inr (.inl ()))
                      | .inr (least_26, can_27, musts_28, met_29, u_30, u2_31, u3_32, x_33, x2_34, x3_35, best_36, best2_37) =>
                        chk (u3_32 + 1) <|
                        eother_l1 N n_ least_26 can_27 musts_28 met_29 u_30 u2_31 (u3_32 + 1) x_33 x2_34 x3_35 best_36 best2_37)
                      ((eother_l2 N N least can musts (decide (x_19.1 = best) && decide (x_19.2 = best2)) x_20 u u2 u3 (x.length : Int) 0 x x2 x3 best best2 x_19.1 x_19.2).bind fun e => match e with
                      | .inl _ =>
                        some (.inr (.inl ()))
                      | .inr (least_38, can_39, musts_40, met_41, u_42, u2_43, u3_44, x_45, x2_46, x3_47, best_48, best2_49) =>
                        chk (u3_44 + 1) <|
                        eother_l1 N n_ least_38 can_39 musts_40 met_41 u_42 u2_43 (u3_44 + 1) x_45 x2_46 x3_47 best_48 best2_49)))
                  (br met
                    ((eother_l2 N N least can musts true x_20 u u2 u3 (x.length : Int) 0 x x2 x3 best best2 x_19.1 x_19.2).bind fun e => match e with
                    | .inl _ =>
                      some (.inr (.inl ()))
                    | .inr (least_50, can_51, musts_52, met_53, u_54, u2_55, u3_56, x_57, x2_58, x3_59, best_60, best2_61) =>
                      chk (u3_56 + 1) <|
                      eother_l1 N n_ least_50 can_51 musts_52 met_53 u_54 u2_55 (u3_56 + 1) x_57 x2_58 x3_59 best_60 best2_61)
                    ((eother_l2 N N least can musts (decide (x_19.1 = best) && decide (x_19.2 = best2)) x_20 u u2 u3 (x.length : Int) 0 x x2 x3 best best2 x_19.1 x_19.2).bind fun e => match e with
                    | .inl _ =>
                      some (.inr (.inl ()))
                    | .inr (least_62, can_63, musts_64, met_65, u_66, u2_67, u3_68, x_69, x2_70, x3_71, best_72, best2_73) =>
                      chk (u3_68 + 1) <|
                      eother_l1 N n_ least_62 can_63 musts_64 met_65 u_66 u2_67 (u3_68 + 1) x_69 x2_70 x3_71 best_72 best2_73)))
                (br met
                  ((eother_l2 N N least can musts true x_20 u u2 u3 (x.length : Int) 0 x x2 x3 best best2 x_19.1 x_19.2).bind fun e => match e with
                  | .inl _ =>
                    some (.inr (.inl ()))
                  | .inr (least_74, can_75, musts_76, met_77, u_78, u2_79, u3_80, x_81, x2_82, x3_83, best_84, best2_85) =>
                    chk (u3_80 + 1) <|
                    eother_l1 N n_ least_74 can_75 musts_76 met_77 u_78 u2_79 (u3_80 + 1) x_81 x2_82 x3_83 best_84 best2_85)
                  ((eother_l2 N N least can musts (decide (x_19.1 = best) && decide (x_19.2 = best2)) x_20 u u2 u3 (x.length : Int) 0 x x2 x3 best best2 x_19.1 x_19.2).bind fun e => match e with
                  | .inl _ =>
                    some (.inr (.inl ()))
                  | .inr (least_86, can_87, musts_88, met_89, u_90, u2_91, u3_92, x_93, x2_94, x3_95, best_96, best2_97) =>
                    chk (u3_92 + 1) <|
                    eother_l1 N n_ least_86 can_87 musts_88 met_89 u_90 u2_91 (u3_92 + 1) x_93 x2_94 x3_95 best_96 best2_97))))
            (br (decide (x_20 = least))
              (br (!met)
                (br (!(decide (x_19.1 = best) && decide (x_19.2 = best2)))
                  (some (.inl ()))
                  (br met
                    ((eother_l2 N N least can musts true x_20 u u2 u3 (x.length : Int) 0 x x2 x3 best best2 x_19.1 x_19.2).bind fun e => match e with
                    | .inl _ =>
                      some (.inr (.inl ()))
                    | .inr (least_98, can_99, musts_100, met_101, u_102, u2_103, u3_104, x_105, x2_106, x3_107, best_108, best2_109) =>
                      chk (u3_104 + 1) <|
                      eother_l1 N n_ least_98 can_99 musts_100 met_101 u_102 u2_103 (u3_104 + 1) x_105 x2_106 x3_107 best_108 best2_109)
                    ((eother_l2 N N least can musts (decide (x_19.1 = best) && decide (x_19.2 = best2)) x_20 u u2 u3 (x.length : Int) 0 x x2 x3 best best2 x_19.1 x_19.2).bind fun e => match e with
                    | .inl _ =>
                      some (.inr (.inl ()))
                    | .inr (least_110, can_111, musts_112, met_113, u_114, u2_115, u3_116, x_117, x2_118, x3_119, best_120, best2_121) =>
                      chk (u3_116 + 1) <|
                      eother_l1 N n_ least_110 can_111 musts_112 met_113 u_114 u2_115 (u3_116 + 1) x_117 x2_118 x3_119 best_120 best2_121)))
                (br met
                  ((eother_l2 N N least can musts true x_20 u u2 u3 (x.length : Int) 0 x x2 x3 best best2 x_19.1 x_19.2).bind fun e => match e with
                  | .inl _ =>
                    some (.inr (.inl ()))
                  | .inr (least_122, can_123, musts_124, met_125, u_126, u2_127, u3_128, x_129, x2_130, x3_131, best_132, best2_133) =>
                    chk (u3_128 + 1) <|
                    eother_l1 N n_ least_122 can_123 musts_124 met_125 u_126 u2_127 (u3_128 + 1) x_129 x2_130 x3_131 best_132 best2_133)
                  ((eother_l2 N N least can musts (decide (x_19.1 = best) && decide (x_19.2 = best2)) x_20 u u2 u3 (x.length : Int) 0 x x2 x3 best best2 x_19.1 x_19.2).bind fun e => match e with
                  | .inl _ =>
                    some (.inr (.inl ()))
                  | .inr (least_134, can_135, musts_136, met_137, u_138, u2_139, u3_140, x_141, x2_142, x3_143, best_144, best2_145) =>
                    chk (u3_140 + 1) <|
                    eother_l1 N n_ least_134 can_135 musts_136 met_137 u_138 u2_139 (u3_140 + 1) x_141 x2_142 x3_143 best_144 best2_145)))
              (br met
                ((eother_l2 N N least can musts true x_20 u u2 u3 (x.length : Int) 0 x x2 x3 best best2 x_19.1 x_19.2).bind fun e => match e with
                | .inl _ =>
                  some (.inr (.inl ()))
                | .inr (least_146, can_147, musts_148, met_149, u_150, u2_151, u3_152, x_153, x2_154, x3_155, best_156, best2_157) =>
                  chk (u3_152 + 1) <|
                  eother_l1 N n_ least_146 can_147 musts_148 met_149 u_150 u2_151 (u3_152 + 1) x_153 x2_154 x3_155 best_156 best2_157)
                ((eother_l2 N N least can musts (decide (x_19.1 = best) && decide (x_19.2 = best2)) x_20 u u2 u3 (x.length : Int) 0 x x2 x3 best best2 x_19.1 x_19.2).bind fun e => match e with
                | .inl _ =>
                  some (.inr (.inl ()))
                | .inr (least_158, can_159, musts_160, met_161, u_162, u2_163, u3_164, x_165, x2_166, x3_167, best_168, best2_169) =>
                  chk (u3_164 + 1) <|
                  eother_l1 N n_ least_158 can_159 musts_160 met_161 u_162 u2_163 (u3_164 + 1) x_165 x2_166 x3_167 best_168 best2_169))))))
      (some (.inr (.inr (can, musts, met, x, x2, x3))))
def eother_l4 (N : Nat) : Nat → (List (Int × Int)) → (List Int) → Bool → Int → Bool → Int → Int → (List (Int × Int)) → Int → Int → (List (List Int)) → (List Int) → Int → Option ((List (Int × Int)) × List Int × Bool × Int × Bool × Int × Int × List (List Int) × List Int × Int)
  | 0, _, _, _, _, _, _, _, _, _, _, _, _, _ => none
  | n_ + 1, can, musts, met, t, all, u, u2, u3, u4, u5, x, x2, x3 =>
    br (decide (u5 < u4))
      (idx u3 u5 fun x_176 =>
      br all
        (br (decide (x_176.1 = t))
          (chk (u5 + 1) <|
          eother_l4 N n_ can musts met t true u u2 u3 u4 (u5 + 1) x x2 x3)
          (chk (u5 + 1) <|
          eother_l4 N n_ can musts met t (decide (x_176.2 = t)) u u2 u3 u4 (u5 + 1) x x2 x3))
        (chk (u5 + 1) <|
        eother_l4 N n_ can musts met t false u u2 u3 u4 (u5 + 1) x x2 x3))
      (some ((can, musts, met, t, all, u, u2, x, x2, x3)))
def eother_l5 (N : Nat) : Nat → (List (Int × Int)) → (List Int) → Bool → Int → (List Int) → Int → Int → Int → Int → (List (List Int)) → (List Int) → Int → Option ((Unit) ⊕ ((List (Int × Int)) × List Int × Bool × Int × Int × List (List Int) × List Int × Int))
  | 0, _, _, _, _, _, _, _, _, _, _, _, _ => none
  | n_ + 1, can, musts, met, t, l, u, u2, u3, u4, x, x2, x3 =>
    br (decide (u4 < u3))
      ((containsi_S N l u4).bind fun x_190 =>
      (containsp_S N can (min t u4) (max t u4)).bind fun x_191 =>
      br (!(x_190 == x_191))
        (some (.inl ()))
        (chk (u4 + 1) <|
        eother_l5 N n_ can musts met t l u u2 u3 (u4 + 1) x x2 x3))
      (some (.inr (can, musts, met, u, u2, x, x2, x3)))
def eother_l3 (N : Nat) : Nat → (List (Int × Int)) → (List Int) → Bool → Int → Int → (List (List Int)) → (List Int) → Int → Option ((Unit) ⊕ ((Unit) ⊕ (Bool)))
  | 0, _, _, _, _, _, _, _, _ => none
  | n_ + 1, can, musts, met, u, u2, x, x2, x3 =>
    br (decide (u2 < u))
      ((eother_l4 N N can musts met u2 (decide (0 < (can.length : Int))) u u2 can (can.length : Int) 0 x x2 x3).bind fun (can_177, musts_178, met_179, t_180, all_181, u_182, u2_183, x_184, x2_185, x3_186) =>
      (with__S N x_184 x2_185 x3_186 t_180).bind fun (x_187, y_188) =>
      br (!decide (y_188 = 0))
        (some (.inl ()))
        ((containsi_S N musts_178 t_180).bind fun x_189 =>
        br (!(all_181 == x_189))
          (some (.inl ()))
          ((eother_l5 N N can_177 musts_178 met_179 t_180 x_187 u_182 u2_183 (x_184.length : Int) 0 x_184 x2_185 x3_186).bind fun e => match e with
          | .inl _ =>
            some (.inr (.inl ()))
          | .inr (can_192, musts_193, met_194, u_195, u2_196, x_197, x2_198, x3_199) =>
            chk (u2_196 + 1) <|
            eother_l3 N n_ can_192 musts_193 met_194 u_195 (u2_196 + 1) x_197 x2_198 x3_199)))
      (some (.inr (.inr met)))
def eother_S (N : Nat) (numbers : List Int) : Option Bool :=
  (hang_S N numbers).bind fun (x_1, y_2, y_3) =>
  (made_S N 4 5 8 x_1 y_2 y_3).bind fun (x_4, y_5, y_6, y_7, y_8, y_9) =>
  (closest_S N x_4 y_5 y_6).bind fun (x_10, y_11, y_12, y_13) =>
  (pairs_S N x_4 y_5 y_6).bind fun (x_14, y_15) =>
  (musts_S N x_4 y_5 y_6).bind fun (x_16, y_17) =>
  br (!decide (y_13 = 0))
    (some false)
    (br (!decide (y_15 = 0))
      (some false)
      (br (!((decide (y_17 = 6)) == (decide ((x_14.length : Int) = 0))))
        (some false)
        (br (!decide (y_17 = 0))
          (br (!decide (y_17 = 6))
            (some false)
            ((lpairs_S N x_4 y_5 y_6).bind fun x_18 =>
            (eother_l1 N N y_12 x_14 x_16 false x_18 (x_18.length : Int) 0 x_4 y_5 y_6 x_10 y_11).bind fun e => match e with
            | .inl _ =>
              some false
            | .inr (.inl _) =>
              some false
            | .inr (.inr (can_170, musts_171, met_172, x_173, x2_174, x3_175)) =>
              (eother_l3 N N can_170 musts_171 met_172 (x_173.length : Int) 0 x_173 x2_174 x3_175).bind fun e => match e with
              | .inl _ =>
                some false
              | .inr (.inl _) =>
                some false
              | .inr (.inr met_200) =>
                br met_200
                  ((awake_S N).bind fun x_201 =>
                  some x_201)
                  (some false)))
          ((lpairs_S N x_4 y_5 y_6).bind fun x_202 =>
          (eother_l1 N N y_12 x_14 x_16 false x_202 (x_202.length : Int) 0 x_4 y_5 y_6 x_10 y_11).bind fun e => match e with
          | .inl _ =>
            some false
          | .inr (.inl _) =>
            some false
          | .inr (.inr (can_203, musts_204, met_205, x_206, x2_207, x3_208)) =>
            (eother_l3 N N can_203 musts_204 met_205 (x_206.length : Int) 0 x_206 x2_207 x3_208).bind fun e => match e with
            | .inl _ =>
              some false
            | .inr (.inl _) =>
              some false
            | .inr (.inr met_209) =>
              br met_209
                ((awake_S N).bind fun x_210 =>
                some x_210)
                (some false)))))
def off_S (N : Nat) (n : Int) (lo : Int) (hi : Int) : Option Bool :=
  br (decide (n < lo))
    (some true)
    (some (decide (hi < n)))
noncomputable def off_sp (N : Nat) : List Spec := []
theorem off_all (N : Nat) : AllP (SpecOK Try.prog) (off_sp N) := trivial
noncomputable def off_c : Code := (Try.f96.body).getD .skip
noncomputable abbrev off_B : Body := { c := off_c, n := 15, res := [.tmp 6], outs := [⟨[.b], []⟩], m0 := 0 }
abbrev off_rt : altD off_B.outs → Option Bool := fun r => some r.1.1
abbrev off_st : Sta := ⟨[0, 1, 2], ⟨[.i .i64, .i .i64, .i .i64], []⟩⟩
theorem off_eq (N : Nat) (n : Int) (lo : Int) (hi : Int) : ev (Z := Bool) Try.prog (off_sp N) off_B [] [] (some off_rt) 400 false [.c [0], .c [1]] (stL off_st ((n, lo, hi, ()), ())) (stH off_st ((n, lo, hi, ()), ())) = off_S N n lo hi := by kernel_rfl
noncomputable def sp_off (N : Nat) : Spec := { f := 96, ins := ⟨[.i .i64, .i .i64, .i .i64], []⟩, outs := [⟨[.b], []⟩], run := fun p k => (off_S N p.1.1 p.1.2.1 p.1.2.2.1).bind fun r => k ((r, ()), ()) }
theorem sp_off_ok (N : Nat) : SpecOK Try.prog (sp_off N) := fn_sound (B := off_B) (loops := []) (leaves := []) (fun p => off_S N p.1.1 p.1.2.1 p.1.2.2.1) (fun r => ((r, ()), ())) off_rt (fun _ _ _ => rfl) (fun r z h => by cases h; rfl) Try.func96 (by kernel_rfl) (by kernel_rfl) (by kernel_rfl) rfl rfl (by kernel_rfl) (fun args w => Sem.pv_run _ _ _ (by kernel_rfl) w) (off_all N) mixed trivial (fun z E Xc hE hX hret => trivial) (fun p => off_eq N p.1.1 p.1.2.1 p.1.2.2.1)

def rcheck_l1 (N : Nat) : Nat → Int → (List (List Int)) → (List Int) → Int → Option ((Unit) ⊕ (List (List Int) × List Int × Int))
  | 0, _, _, _, _ => none
  | n_ + 1, t, e, e2, e3 =>
    br (decide (t < (e.length : Int)))
      (idx e t fun x_2 =>
      (off_S N (x_2.length : Int) 1 6).bind fun x_3 =>
      br x_3
        (some (.inl ()))
        (chk (t + 1) <|
        rcheck_l1 N n_ (t + 1) e e2 e3))
      (some (.inr (e, e2, e3)))
def rcheck_l3 (N : Nat) : Nat → Int → Int → (List (List Int)) → (List Int) → Int → Option ((Unit) ⊕ (Int × List (List Int) × List Int × Int))
  | 0, _, _, _, _, _ => none
  | n_ + 1, t, k, e, e2, e3 =>
    idx e t fun x_7 =>
    br (decide (k < (x_7.length : Int)))
      (idx e t fun x_8 =>
      idx x_8 k fun x_9 =>
      (off_S N x_9 0 9).bind fun x_10 =>
      br x_10
        (some (.inl ()))
        (chk (k + 1) <|
        rcheck_l3 N n_ t (k + 1) e e2 e3))
      (some (.inr (t, e, e2, e3)))
def rcheck_l2 (N : Nat) : Nat → Int → (List (List Int)) → (List Int) → Int → Option ((Unit) ⊕ (List (List Int) × List Int × Int))
  | 0, _, _, _, _ => none
  | n_ + 1, t, e, e2, e3 =>
    br (decide (t < (e.length : Int)))
      ((rcheck_l3 N N t 0 e e2 e3).bind fun e => match e with
      | .inl _ =>
        some (.inl ())
      | .inr (t_11, e_12, e2_13, e3_14) =>
        chk (t_11 + 1) <|
        rcheck_l2 N n_ (t_11 + 1) e_12 e2_13 e3_14)
      (some (.inr (e, e2, e3)))
def rcheck_l4 (N : Nat) : Nat → Int → (List (List Int)) → (List Int) → Int → Option ((Unit) ⊕ (List (List Int) × List Int × Int))
  | 0, _, _, _, _ => none
  | n_ + 1, i, e, e2, e3 =>
    br (decide (i < (e2.length : Int)))
      (idx e2 i fun x_18 =>
      (off_S N x_18 0 9).bind fun x_19 =>
      br x_19
        (some (.inl ()))
        (chk (i + 1) <|
        rcheck_l4 N n_ (i + 1) e e2 e3))
      (some (.inr (e, e2, e3)))
def rcheck_S (N : Nat) (e : List (List Int)) (e2 : List Int) (e3 : Int) : Option Int :=
  (off_S N (e.length : Int) 1 5).bind fun x_1 =>
  br x_1
    (some 2)
    (br (decide (10 < (e2.length : Int)))
      (some 2)
      ((rcheck_l1 N N 0 e e2 e3).bind fun e => match e with
      | .inl _ =>
        some 2
      | .inr (e_4, e2_5, e3_6) =>
        (rcheck_l2 N N 0 e_4 e2_5 e3_6).bind fun e => match e with
        | .inl _ =>
          some 3
        | .inr (e_15, e2_16, e3_17) =>
          (rcheck_l4 N N 0 e_15 e2_16 e3_17).bind fun e => match e with
          | .inl _ =>
            some 3
          | .inr (e_20, e2_21, e3_22) =>
            (off_S N e3_22 0 8).bind fun x_23 =>
            br x_23
              (some 3)
              (some 0)))
noncomputable def rcheck_sp (N : Nat) : List Spec := [sp_off N]
theorem rcheck_all (N : Nat) : AllP (SpecOK Try.prog) (rcheck_sp N) := ⟨sp_off_ok N, trivial⟩
noncomputable def rcheck_c : Code := (Try.f41.body).getD .skip
noncomputable abbrev rcheck_B : Body := { c := rcheck_c, n := 73, res := [.tmp 2], outs := [⟨[.i .i64], []⟩], m0 := 0 }
abbrev rcheck_rt : altD rcheck_B.outs → Option Int := fun r => some r.1.1
abbrev rcheck_l1_at : List PI := [.c [1, 1, 0, 1, 0, 0, 0, 0], .c [1, 1, 0, 1, 0, 0, 0, 1], .c [1, 1, 0, 1, 0, 0, 1], .l [1, 1, 0, 1, 0, 0], .b 0, .c [1, 1, 1]]
abbrev rcheck_l1_st : Sta := ⟨[1, 3], ⟨[.own 0 0, .i .i64], [.segs [.sl (.sl (.int .i64)), .sl (.int .i64), .i .i64]]⟩⟩
abbrev rcheck_l1_h (rec : Int → (List (List Int)) → (List Int) → Int → Option ((Unit) ⊕ (List (List Int) × List Int × Int))) : Leaf ((Unit) ⊕ (List (List Int) × List Int × Int)) := ⟨rcheck_l1_at, rcheck_l1_st, fun p => rec p.1.2.1 p.2.1.1 p.2.1.2.1 p.2.1.2.2.1⟩
abbrev rcheck_l1_e0 : Leaf ((Unit) ⊕ (List (List Int) × List Int × Int)) := ⟨[.c [1, 1, 0, 1, 0, 0, 1, 0, 0, 1, 0, 0], .c [1, 1, 0, 1, 0, 0, 1, 0, 0, 1, 0, 1], .b 1, .c [1, 1, 0, 1, 0, 0, 1, 1], .l [1, 1, 0, 1, 0, 0], .b 0, .c [1, 1, 1]], ⟨[], ⟨[], []⟩⟩, fun p => some (.inl ())⟩
abbrev rcheck_l1_e1 : Leaf ((Unit) ⊕ (List (List Int) × List Int × Int)) := ⟨[.c [1, 1, 1, 0, 0], .c [1, 1, 1, 0, 1], .c [1, 1, 1, 1]], ⟨[1], ⟨[.own 0 0], [.segs [.sl (.sl (.int .i64)), .sl (.int .i64), .i .i64]]⟩⟩, fun p => some (.inr (p.2.1.1, p.2.1.2.1, p.2.1.2.2.1))⟩
noncomputable def rcheck_l1_L (N : Nat) : LoopS := { at_ := rcheck_l1_at, sta := rcheck_l1_st, exits := [([.c [1, 1, 0, 1, 0, 0, 1, 0, 0, 1, 0, 0], .c [1, 1, 0, 1, 0, 0, 1, 0, 0, 1, 0, 1], .b 1, .c [1, 1, 0, 1, 0, 0, 1, 1], .l [1, 1, 0, 1, 0, 0], .b 0, .c [1, 1, 1]], ⟨[], ⟨[], []⟩⟩), ([.c [1, 1, 1, 0, 0], .c [1, 1, 1, 0, 1], .c [1, 1, 1, 1]], ⟨[1], ⟨[.own 0 0], [.segs [.sl (.sl (.int .i64)), .sl (.int .i64), .i .i64]]⟩⟩)], run := fun p k => (rcheck_l1 N N p.1.2.1 p.2.1.1 p.2.1.2.1 p.2.1.2.2.1).bind fun e => match e with | .inl x => k (.inl ((), ())) | .inr x => k (.inr (.inl (((), ()), ((x.1, x.2.1, x.2.2, ()), ())))) }
theorem rcheck_l1_eq (N n_ : Nat) (t : Int) (e : List (List Int)) (e2 : List Int) (e3 : Int) : ev (Z := (Unit) ⊕ (List (List Int) × List Int × Int)) Try.prog (rcheck_sp N) rcheck_B [] [rcheck_l1_h (rcheck_l1 N n_), rcheck_l1_e0, rcheck_l1_e1] none 400 true rcheck_l1_at (stL rcheck_l1_st (((), t, ()), ((e, e2, e3, ()), ()))) (stH rcheck_l1_st (((), t, ()), ((e, e2, e3, ()), ()))) = rcheck_l1 N (n_ + 1) t e e2 e3 := by kernel_rfl
theorem rcheck_l1_ok (N : Nat) {top : Bool} : LoopOK Try.prog rcheck_B.c rcheck_B.n rcheck_B.m0 top (rcheck_l1_L N) := loop_of_ev (Z := (Unit) ⊕ (List (List Int) × List Int × Int)) (N := N) (fun m p => rcheck_l1 N m p.1.2.1 p.2.1.1 p.2.1.2.1 p.2.1.2.2.1) (fun e => match e with | .inl x => .inl ((), ()) | .inr x => .inr (.inl (((), ()), ((x.1, x.2.1, x.2.2, ()), ())))) (fun _ p k => bind_congr_ (rcheck_l1 N N p.1.2.1 p.2.1.1 p.2.1.2.1 p.2.1.2.2.1) _ _ (fun e => by rcases e with x | x <;> rfl)) (fun _ => rfl) (fun m z E Xc hE hX hrec hx => leaf_of_ev (B := rcheck_B) (loops := []) (leaves := [rcheck_l1_h (rcheck_l1 N m), rcheck_l1_e0, rcheck_l1_e1]) (rcheck_all N) mixed trivial hE hX ⟨hrec, (fun p hp => by obtain rfl := Option.some.inj hp; exact hx), (fun p hp => by obtain rfl := Option.some.inj hp; exact hx), trivial⟩ RetOK.no (fun p => rcheck_l1_eq N m p.1.2.1 p.2.1.1 p.2.1.2.1 p.2.1.2.2.1))
abbrev rcheck_l3_at : List PI := [.c [1, 1, 1, 0, 1, 0, 0, 1, 0, 0, 1, 0, 0, 0, 0], .c [1, 1, 1, 0, 1, 0, 0, 1, 0, 0, 1, 0, 0, 0, 1], .c [1, 1, 1, 0, 1, 0, 0, 1, 0, 0, 1, 0, 0, 1], .l [1, 1, 1, 0, 1, 0, 0, 1, 0, 0, 1, 0, 0], .b 4, .b 3, .c [1, 1, 1, 0, 1, 0, 0, 1, 1], .l [1, 1, 1, 0, 1, 0, 0], .b 2, .c [1, 1, 1, 1]]
abbrev rcheck_l3_st : Sta := ⟨[1, 4, 5], ⟨[.own 0 0, .i .i64, .i .i64], [.segs [.sl (.sl (.int .i64)), .sl (.int .i64), .i .i64]]⟩⟩
abbrev rcheck_l3_h (rec : Int → Int → (List (List Int)) → (List Int) → Int → Option ((Unit) ⊕ (Int × List (List Int) × List Int × Int))) : Leaf ((Unit) ⊕ (Int × List (List Int) × List Int × Int)) := ⟨rcheck_l3_at, rcheck_l3_st, fun p => rec p.1.2.1 p.1.2.2.1 p.2.1.1 p.2.1.2.1 p.2.1.2.2.1⟩
abbrev rcheck_l3_e0 : Leaf ((Unit) ⊕ (Int × List (List Int) × List Int × Int)) := ⟨[.c [1, 1, 1, 0, 1, 0, 0, 1, 0, 0, 1, 0, 0, 1, 0, 0, 1, 0, 0], .c [1, 1, 1, 0, 1, 0, 0, 1, 0, 0, 1, 0, 0, 1, 0, 0, 1, 0, 1], .b 5, .c [1, 1, 1, 0, 1, 0, 0, 1, 0, 0, 1, 0, 0, 1, 1], .l [1, 1, 1, 0, 1, 0, 0, 1, 0, 0, 1, 0, 0], .b 4, .b 3, .c [1, 1, 1, 0, 1, 0, 0, 1, 1], .l [1, 1, 1, 0, 1, 0, 0], .b 2, .c [1, 1, 1, 1]], ⟨[], ⟨[], []⟩⟩, fun p => some (.inl ())⟩
abbrev rcheck_l3_e1 : Leaf ((Unit) ⊕ (Int × List (List Int) × List Int × Int)) := ⟨[.c [1, 1, 1, 0, 1, 0, 0, 1, 1], .l [1, 1, 1, 0, 1, 0, 0], .b 2, .c [1, 1, 1, 1]], ⟨[1, 4], ⟨[.own 0 0, .i .i64], [.segs [.sl (.sl (.int .i64)), .sl (.int .i64), .i .i64]]⟩⟩, fun p => some (.inr (p.1.2.1, p.2.1.1, p.2.1.2.1, p.2.1.2.2.1))⟩
noncomputable def rcheck_l3_L (N : Nat) : LoopS := { at_ := rcheck_l3_at, sta := rcheck_l3_st, exits := [([.c [1, 1, 1, 0, 1, 0, 0, 1, 0, 0, 1, 0, 0, 1, 0, 0, 1, 0, 0], .c [1, 1, 1, 0, 1, 0, 0, 1, 0, 0, 1, 0, 0, 1, 0, 0, 1, 0, 1], .b 5, .c [1, 1, 1, 0, 1, 0, 0, 1, 0, 0, 1, 0, 0, 1, 1], .l [1, 1, 1, 0, 1, 0, 0, 1, 0, 0, 1, 0, 0], .b 4, .b 3, .c [1, 1, 1, 0, 1, 0, 0, 1, 1], .l [1, 1, 1, 0, 1, 0, 0], .b 2, .c [1, 1, 1, 1]], ⟨[], ⟨[], []⟩⟩), ([.c [1, 1, 1, 0, 1, 0, 0, 1, 1], .l [1, 1, 1, 0, 1, 0, 0], .b 2, .c [1, 1, 1, 1]], ⟨[1, 4], ⟨[.own 0 0, .i .i64], [.segs [.sl (.sl (.int .i64)), .sl (.int .i64), .i .i64]]⟩⟩)], run := fun p k => (rcheck_l3 N N p.1.2.1 p.1.2.2.1 p.2.1.1 p.2.1.2.1 p.2.1.2.2.1).bind fun e => match e with | .inl x => k (.inl ((), ())) | .inr x => k (.inr (.inl (((), x.1, ()), ((x.2.1, x.2.2.1, x.2.2.2, ()), ())))) }
theorem rcheck_l3_eq (N n_ : Nat) (t : Int) (k : Int) (e : List (List Int)) (e2 : List Int) (e3 : Int) : ev (Z := (Unit) ⊕ (Int × List (List Int) × List Int × Int)) Try.prog (rcheck_sp N) rcheck_B [rcheck_l1_L N] [rcheck_l3_h (rcheck_l3 N n_), rcheck_l3_e0, rcheck_l3_e1] none 400 true rcheck_l3_at (stL rcheck_l3_st (((), t, k, ()), ((e, e2, e3, ()), ()))) (stH rcheck_l3_st (((), t, k, ()), ((e, e2, e3, ()), ()))) = rcheck_l3 N (n_ + 1) t k e e2 e3 := by kernel_rfl
theorem rcheck_l3_ok (N : Nat) {top : Bool} : LoopOK Try.prog rcheck_B.c rcheck_B.n rcheck_B.m0 top (rcheck_l3_L N) := loop_of_ev (Z := (Unit) ⊕ (Int × List (List Int) × List Int × Int)) (N := N) (fun m p => rcheck_l3 N m p.1.2.1 p.1.2.2.1 p.2.1.1 p.2.1.2.1 p.2.1.2.2.1) (fun e => match e with | .inl x => .inl ((), ()) | .inr x => .inr (.inl (((), x.1, ()), ((x.2.1, x.2.2.1, x.2.2.2, ()), ())))) (fun _ p k => bind_congr_ (rcheck_l3 N N p.1.2.1 p.1.2.2.1 p.2.1.1 p.2.1.2.1 p.2.1.2.2.1) _ _ (fun e => by rcases e with x | x <;> rfl)) (fun _ => rfl) (fun m z E Xc hE hX hrec hx => leaf_of_ev (B := rcheck_B) (loops := [rcheck_l1_L N]) (leaves := [rcheck_l3_h (rcheck_l3 N m), rcheck_l3_e0, rcheck_l3_e1]) (rcheck_all N) mixed ⟨rcheck_l1_ok N, trivial⟩ hE hX ⟨hrec, (fun p hp => by obtain rfl := Option.some.inj hp; exact hx), (fun p hp => by obtain rfl := Option.some.inj hp; exact hx), trivial⟩ RetOK.no (fun p => rcheck_l3_eq N m p.1.2.1 p.1.2.2.1 p.2.1.1 p.2.1.2.1 p.2.1.2.2.1))
abbrev rcheck_l2_at : List PI := [.c [1, 1, 1, 0, 1, 0, 0, 0, 0], .c [1, 1, 1, 0, 1, 0, 0, 0, 1], .c [1, 1, 1, 0, 1, 0, 0, 1], .l [1, 1, 1, 0, 1, 0, 0], .b 2, .c [1, 1, 1, 1]]
abbrev rcheck_l2_st : Sta := ⟨[1, 4], ⟨[.own 0 0, .i .i64], [.segs [.sl (.sl (.int .i64)), .sl (.int .i64), .i .i64]]⟩⟩
abbrev rcheck_l2_h (rec : Int → (List (List Int)) → (List Int) → Int → Option ((Unit) ⊕ (List (List Int) × List Int × Int))) : Leaf ((Unit) ⊕ (List (List Int) × List Int × Int)) := ⟨rcheck_l2_at, rcheck_l2_st, fun p => rec p.1.2.1 p.2.1.1 p.2.1.2.1 p.2.1.2.2.1⟩
abbrev rcheck_l2_e0 : Leaf ((Unit) ⊕ (List (List Int) × List Int × Int)) := ⟨[.c [1, 1, 1, 0, 1, 0, 0, 1, 0, 0, 1, 0, 0, 1, 0, 0, 1, 0, 0], .c [1, 1, 1, 0, 1, 0, 0, 1, 0, 0, 1, 0, 0, 1, 0, 0, 1, 0, 1], .b 5, .c [1, 1, 1, 0, 1, 0, 0, 1, 0, 0, 1, 0, 0, 1, 1], .l [1, 1, 1, 0, 1, 0, 0, 1, 0, 0, 1, 0, 0], .b 4, .b 3, .c [1, 1, 1, 0, 1, 0, 0, 1, 1], .l [1, 1, 1, 0, 1, 0, 0], .b 2, .c [1, 1, 1, 1]], ⟨[], ⟨[], []⟩⟩, fun p => some (.inl ())⟩
abbrev rcheck_l2_e1 : Leaf ((Unit) ⊕ (List (List Int) × List Int × Int)) := ⟨[.c [1, 1, 1, 1, 0, 0], .c [1, 1, 1, 1, 0, 1], .c [1, 1, 1, 1, 1]], ⟨[1], ⟨[.own 0 0], [.segs [.sl (.sl (.int .i64)), .sl (.int .i64), .i .i64]]⟩⟩, fun p => some (.inr (p.2.1.1, p.2.1.2.1, p.2.1.2.2.1))⟩
noncomputable def rcheck_l2_L (N : Nat) : LoopS := { at_ := rcheck_l2_at, sta := rcheck_l2_st, exits := [([.c [1, 1, 1, 0, 1, 0, 0, 1, 0, 0, 1, 0, 0, 1, 0, 0, 1, 0, 0], .c [1, 1, 1, 0, 1, 0, 0, 1, 0, 0, 1, 0, 0, 1, 0, 0, 1, 0, 1], .b 5, .c [1, 1, 1, 0, 1, 0, 0, 1, 0, 0, 1, 0, 0, 1, 1], .l [1, 1, 1, 0, 1, 0, 0, 1, 0, 0, 1, 0, 0], .b 4, .b 3, .c [1, 1, 1, 0, 1, 0, 0, 1, 1], .l [1, 1, 1, 0, 1, 0, 0], .b 2, .c [1, 1, 1, 1]], ⟨[], ⟨[], []⟩⟩), ([.c [1, 1, 1, 1, 0, 0], .c [1, 1, 1, 1, 0, 1], .c [1, 1, 1, 1, 1]], ⟨[1], ⟨[.own 0 0], [.segs [.sl (.sl (.int .i64)), .sl (.int .i64), .i .i64]]⟩⟩)], run := fun p k => (rcheck_l2 N N p.1.2.1 p.2.1.1 p.2.1.2.1 p.2.1.2.2.1).bind fun e => match e with | .inl x => k (.inl ((), ())) | .inr x => k (.inr (.inl (((), ()), ((x.1, x.2.1, x.2.2, ()), ())))) }
theorem rcheck_l2_eq (N n_ : Nat) (t : Int) (e : List (List Int)) (e2 : List Int) (e3 : Int) : ev (Z := (Unit) ⊕ (List (List Int) × List Int × Int)) Try.prog (rcheck_sp N) rcheck_B [rcheck_l1_L N, rcheck_l3_L N] [rcheck_l2_h (rcheck_l2 N n_), rcheck_l2_e0, rcheck_l2_e1] none 400 true rcheck_l2_at (stL rcheck_l2_st (((), t, ()), ((e, e2, e3, ()), ()))) (stH rcheck_l2_st (((), t, ()), ((e, e2, e3, ()), ()))) = rcheck_l2 N (n_ + 1) t e e2 e3 := by kernel_rfl
theorem rcheck_l2_ok (N : Nat) {top : Bool} : LoopOK Try.prog rcheck_B.c rcheck_B.n rcheck_B.m0 top (rcheck_l2_L N) := loop_of_ev (Z := (Unit) ⊕ (List (List Int) × List Int × Int)) (N := N) (fun m p => rcheck_l2 N m p.1.2.1 p.2.1.1 p.2.1.2.1 p.2.1.2.2.1) (fun e => match e with | .inl x => .inl ((), ()) | .inr x => .inr (.inl (((), ()), ((x.1, x.2.1, x.2.2, ()), ())))) (fun _ p k => bind_congr_ (rcheck_l2 N N p.1.2.1 p.2.1.1 p.2.1.2.1 p.2.1.2.2.1) _ _ (fun e => by rcases e with x | x <;> rfl)) (fun _ => rfl) (fun m z E Xc hE hX hrec hx => leaf_of_ev (B := rcheck_B) (loops := [rcheck_l1_L N, rcheck_l3_L N]) (leaves := [rcheck_l2_h (rcheck_l2 N m), rcheck_l2_e0, rcheck_l2_e1]) (rcheck_all N) mixed ⟨rcheck_l1_ok N, rcheck_l3_ok N, trivial⟩ hE hX ⟨hrec, (fun p hp => by obtain rfl := Option.some.inj hp; exact hx), (fun p hp => by obtain rfl := Option.some.inj hp; exact hx), trivial⟩ RetOK.no (fun p => rcheck_l2_eq N m p.1.2.1 p.2.1.1 p.2.1.2.1 p.2.1.2.2.1))
abbrev rcheck_l4_at : List PI := [.c [1, 1, 1, 1, 0, 1, 0, 0, 0, 0], .c [1, 1, 1, 1, 0, 1, 0, 0, 0, 1], .c [1, 1, 1, 1, 0, 1, 0, 0, 1], .l [1, 1, 1, 1, 0, 1, 0, 0], .b 6, .c [1, 1, 1, 1, 1]]
abbrev rcheck_l4_st : Sta := ⟨[1, 6], ⟨[.own 0 0, .i .i64], [.segs [.sl (.sl (.int .i64)), .sl (.int .i64), .i .i64]]⟩⟩
abbrev rcheck_l4_h (rec : Int → (List (List Int)) → (List Int) → Int → Option ((Unit) ⊕ (List (List Int) × List Int × Int))) : Leaf ((Unit) ⊕ (List (List Int) × List Int × Int)) := ⟨rcheck_l4_at, rcheck_l4_st, fun p => rec p.1.2.1 p.2.1.1 p.2.1.2.1 p.2.1.2.2.1⟩
abbrev rcheck_l4_e0 : Leaf ((Unit) ⊕ (List (List Int) × List Int × Int)) := ⟨[.c [1, 1, 1, 1, 0, 1, 0, 0, 1, 0, 0, 1, 0, 0], .c [1, 1, 1, 1, 0, 1, 0, 0, 1, 0, 0, 1, 0, 1], .b 7, .c [1, 1, 1, 1, 0, 1, 0, 0, 1, 1], .l [1, 1, 1, 1, 0, 1, 0, 0], .b 6, .c [1, 1, 1, 1, 1]], ⟨[], ⟨[], []⟩⟩, fun p => some (.inl ())⟩
abbrev rcheck_l4_e1 : Leaf ((Unit) ⊕ (List (List Int) × List Int × Int)) := ⟨[.c [1, 1, 1, 1, 1, 0, 0], .c [1, 1, 1, 1, 1, 0, 1], .c [1, 1, 1, 1, 1, 1]], ⟨[1], ⟨[.own 0 0], [.segs [.sl (.sl (.int .i64)), .sl (.int .i64), .i .i64]]⟩⟩, fun p => some (.inr (p.2.1.1, p.2.1.2.1, p.2.1.2.2.1))⟩
noncomputable def rcheck_l4_L (N : Nat) : LoopS := { at_ := rcheck_l4_at, sta := rcheck_l4_st, exits := [([.c [1, 1, 1, 1, 0, 1, 0, 0, 1, 0, 0, 1, 0, 0], .c [1, 1, 1, 1, 0, 1, 0, 0, 1, 0, 0, 1, 0, 1], .b 7, .c [1, 1, 1, 1, 0, 1, 0, 0, 1, 1], .l [1, 1, 1, 1, 0, 1, 0, 0], .b 6, .c [1, 1, 1, 1, 1]], ⟨[], ⟨[], []⟩⟩), ([.c [1, 1, 1, 1, 1, 0, 0], .c [1, 1, 1, 1, 1, 0, 1], .c [1, 1, 1, 1, 1, 1]], ⟨[1], ⟨[.own 0 0], [.segs [.sl (.sl (.int .i64)), .sl (.int .i64), .i .i64]]⟩⟩)], run := fun p k => (rcheck_l4 N N p.1.2.1 p.2.1.1 p.2.1.2.1 p.2.1.2.2.1).bind fun e => match e with | .inl x => k (.inl ((), ())) | .inr x => k (.inr (.inl (((), ()), ((x.1, x.2.1, x.2.2, ()), ())))) }
theorem rcheck_l4_eq (N n_ : Nat) (i : Int) (e : List (List Int)) (e2 : List Int) (e3 : Int) : ev (Z := (Unit) ⊕ (List (List Int) × List Int × Int)) Try.prog (rcheck_sp N) rcheck_B [rcheck_l1_L N, rcheck_l3_L N, rcheck_l2_L N] [rcheck_l4_h (rcheck_l4 N n_), rcheck_l4_e0, rcheck_l4_e1] none 400 true rcheck_l4_at (stL rcheck_l4_st (((), i, ()), ((e, e2, e3, ()), ()))) (stH rcheck_l4_st (((), i, ()), ((e, e2, e3, ()), ()))) = rcheck_l4 N (n_ + 1) i e e2 e3 := by kernel_rfl
theorem rcheck_l4_ok (N : Nat) {top : Bool} : LoopOK Try.prog rcheck_B.c rcheck_B.n rcheck_B.m0 top (rcheck_l4_L N) := loop_of_ev (Z := (Unit) ⊕ (List (List Int) × List Int × Int)) (N := N) (fun m p => rcheck_l4 N m p.1.2.1 p.2.1.1 p.2.1.2.1 p.2.1.2.2.1) (fun e => match e with | .inl x => .inl ((), ()) | .inr x => .inr (.inl (((), ()), ((x.1, x.2.1, x.2.2, ()), ())))) (fun _ p k => bind_congr_ (rcheck_l4 N N p.1.2.1 p.2.1.1 p.2.1.2.1 p.2.1.2.2.1) _ _ (fun e => by rcases e with x | x <;> rfl)) (fun _ => rfl) (fun m z E Xc hE hX hrec hx => leaf_of_ev (B := rcheck_B) (loops := [rcheck_l1_L N, rcheck_l3_L N, rcheck_l2_L N]) (leaves := [rcheck_l4_h (rcheck_l4 N m), rcheck_l4_e0, rcheck_l4_e1]) (rcheck_all N) mixed ⟨rcheck_l1_ok N, rcheck_l3_ok N, rcheck_l2_ok N, trivial⟩ hE hX ⟨hrec, (fun p hp => by obtain rfl := Option.some.inj hp; exact hx), (fun p hp => by obtain rfl := Option.some.inj hp; exact hx), trivial⟩ RetOK.no (fun p => rcheck_l4_eq N m p.1.2.1 p.2.1.1 p.2.1.2.1 p.2.1.2.2.1))
abbrev rcheck_st : Sta := ⟨[0], ⟨[.agg [.sl (.sl (.int .i64)), .sl (.int .i64), .i .i64]], []⟩⟩
theorem rcheck_eq (N : Nat) (e : List (List Int)) (e2 : List Int) (e3 : Int) : ev (Z := Int) Try.prog (rcheck_sp N) rcheck_B [rcheck_l1_L N, rcheck_l3_L N, rcheck_l2_L N, rcheck_l4_L N] [] (some rcheck_rt) 400 false [.c [0], .c [1]] (stL rcheck_st (((e, e2, e3, ()), ()), ())) (stH rcheck_st (((e, e2, e3, ()), ()), ())) = rcheck_S N e e2 e3 := by kernel_rfl
noncomputable def sp_rcheck (N : Nat) : Spec := { f := 41, ins := ⟨[.agg [.sl (.sl (.int .i64)), .sl (.int .i64), .i .i64]], []⟩, outs := [⟨[.i .i64], []⟩], run := fun p k => (rcheck_S N p.1.1.1 p.1.1.2.1 p.1.1.2.2.1).bind fun r => k ((r, ()), ()) }
theorem sp_rcheck_ok (N : Nat) : SpecOK Try.prog (sp_rcheck N) := fn_sound (B := rcheck_B) (loops := [rcheck_l1_L N, rcheck_l3_L N, rcheck_l2_L N, rcheck_l4_L N]) (leaves := []) (fun p => rcheck_S N p.1.1.1 p.1.1.2.1 p.1.1.2.2.1) (fun r => ((r, ()), ())) rcheck_rt (fun _ _ _ => rfl) (fun r z h => by cases h; rfl) Try.func41 (by kernel_rfl) (by kernel_rfl) (by kernel_rfl) rfl rfl (by kernel_rfl) (fun args w => Sem.pv_run _ _ _ (by kernel_rfl) w) (rcheck_all N) mixed ⟨rcheck_l1_ok N, rcheck_l3_ok N, rcheck_l2_ok N, rcheck_l4_ok N, trivial⟩ (fun z E Xc hE hX hret => trivial) (fun p => rcheck_eq N p.1.1.1 p.1.1.2.1 p.1.1.2.2.1)

def rtwo_S (N : Nat) (e : List (List Int)) (e2 : List Int) (e3 : Int) (p : Int) (p2 : Int) : Option Int :=
  (rcheck_S N e e2 e3).bind fun x_1 =>
  br (!decide (x_1 = 0))
    (some x_1)
    (chk ((e.length : Int) - 1) <|
    (off_S N p 0 ((e.length : Int) - 1)).bind fun x_2 =>
    br x_2
      (some 1)
      (chk ((e.length : Int) - 1) <|
      (off_S N p2 0 ((e.length : Int) - 1)).bind fun x_3 =>
      br x_3
        (some 1)
        (some 0)))
noncomputable def rtwo_sp (N : Nat) : List Spec := [sp_off N, sp_rcheck N]
theorem rtwo_all (N : Nat) : AllP (SpecOK Try.prog) (rtwo_sp N) := ⟨sp_off_ok N, sp_rcheck_ok N, trivial⟩
noncomputable def rtwo_c : Code := (Try.f42.body).getD .skip
noncomputable abbrev rtwo_B : Body := { c := rtwo_c, n := 27, res := [.tmp 4], outs := [⟨[.i .i64], []⟩], m0 := 0 }
abbrev rtwo_rt : altD rtwo_B.outs → Option Int := fun r => some r.1.1
abbrev rtwo_st : Sta := ⟨[0, 1], ⟨[.agg [.sl (.sl (.int .i64)), .sl (.int .i64), .i .i64], .agg [.i .i64, .i .i64]], []⟩⟩
theorem rtwo_eq (N : Nat) (e : List (List Int)) (e2 : List Int) (e3 : Int) (p : Int) (p2 : Int) : ev (Z := Int) Try.prog (rtwo_sp N) rtwo_B [] [] (some rtwo_rt) 400 false [.c [0], .c [1]] (stL rtwo_st (((e, e2, e3, ()), (p, p2, ()), ()), ())) (stH rtwo_st (((e, e2, e3, ()), (p, p2, ()), ()), ())) = rtwo_S N e e2 e3 p p2 := by kernel_rfl
noncomputable def sp_rtwo (N : Nat) : Spec := { f := 42, ins := ⟨[.agg [.sl (.sl (.int .i64)), .sl (.int .i64), .i .i64], .agg [.i .i64, .i .i64]], []⟩, outs := [⟨[.i .i64], []⟩], run := fun p k => (rtwo_S N p.1.1.1 p.1.1.2.1 p.1.1.2.2.1 p.1.2.1.1 p.1.2.1.2.1).bind fun r => k ((r, ()), ()) }
theorem sp_rtwo_ok (N : Nat) : SpecOK Try.prog (sp_rtwo N) := fn_sound (B := rtwo_B) (loops := []) (leaves := []) (fun p => rtwo_S N p.1.1.1 p.1.1.2.1 p.1.1.2.2.1 p.1.2.1.1 p.1.2.1.2.1) (fun r => ((r, ()), ())) rtwo_rt (fun _ _ _ => rfl) (fun r z h => by cases h; rfl) Try.func42 (by kernel_rfl) (by kernel_rfl) (by kernel_rfl) rfl rfl (by kernel_rfl) (fun args w => Sem.pv_run _ _ _ (by kernel_rfl) w) (rtwo_all N) mixed trivial (fun z E Xc hE hX hret => trivial) (fun p => rtwo_eq N p.1.1.1 p.1.1.2.1 p.1.1.2.2.1 p.1.2.1.1 p.1.2.1.2.1)

def fits_j1 (N : Nat) (rec : (List (Int × Int)) → Int → Int → Int → (List (List Int)) → (List Int) → Int → Int → Int → Option ((Unit) ⊕ ((Unit) ⊕ ((Unit) ⊕ (Unit))))) (l : List (Int × Int)) (a : Int) (b : Int) (i : Int) (e : List (List Int)) (e2 : List Int) (e3 : Int) (p : Int) (p2 : Int) : Option ((Unit) ⊕ ((Unit) ⊕ ((Unit) ⊕ (Unit)))) :=
  chk (i + 1) <|
  rec l a b (i + 1) e e2 e3 p p2
def fits_l1 (N : Nat) : Nat → (List (Int × Int)) → Int → Int → Int → (List (List Int)) → (List Int) → Int → Int → Int → Option ((Unit) ⊕ ((Unit) ⊕ ((Unit) ⊕ (Unit))))
  | 0, _, _, _, _, _, _, _, _, _ => none
  | n_ + 1, l, a, b, i, e, e2, e3, p, p2 =>
    br (decide (i < (l.length : Int)))
      (idx l i fun x_1 =>
      br (decide (x_1.1 = 1))
        (idx l i fun x_2 =>
        br (decide (x_2.2 ≤ a))
          (some (.inl ()))
          (idx l i fun x_3 =>
          idx e p fun x_4 =>
          br (decide ((x_4.length : Int) ≤ x_3.2))
            (some (.inl ()))
            (idx e p fun x_5 =>
            idx l i fun x_6 =>
            idx x_5 x_6.2 fun x_7 =>
            idx e2 i fun x_8 =>
            br (!decide (x_7 = x_8))
              (some (.inl ()))
              (idx l i fun x_9 =>
              fits_j1 N (fits_l1 N n_) l x_9.2 b i e e2 e3 p p2))))
        (idx l i fun x_10 =>
        br (decide (x_10.1 = 2))
          (idx l i fun x_11 =>
          br (decide (x_11.2 ≤ b))
            (some (.inr (.inl ())))
            (idx l i fun x_12 =>
            idx e p2 fun x_13 =>
            br (decide ((x_13.length : Int) ≤ x_12.2))
              (some (.inr (.inl ())))
              (idx e p2 fun x_14 =>
              idx l i fun x_15 =>
              idx x_14 x_15.2 fun x_16 =>
              idx e2 i fun x_17 =>
              br (!decide (x_16 = x_17))
                (some (.inr (.inl ())))
                (idx l i fun x_18 =>
                fits_j1 N (fits_l1 N n_) l a x_18.2 i e e2 e3 p p2))))
          (idx l i fun x_19 =>
          br (!decide (x_19.1 = 3))
            (some (.inr (.inr (.inl ()))))
            (idx l i fun x_20 =>
            br (!decide (x_20.2 = 0))
              (some (.inr (.inr (.inl ()))))
              (fits_j1 N (fits_l1 N n_) l a b i e e2 e3 p p2)))))
      (some (.inr (.inr (.inr ()))))
def fits_S (N : Nat) (e : List (List Int)) (e2 : List Int) (e3 : Int) (p : Int) (p2 : Int) (l : List (Int × Int)) : Option Bool :=
  (fits_l1 N N l (-1) (-1) 0 e e2 e3 p p2).bind fun e => match e with
  | .inl _ =>
    some false
  | .inr (.inl _) =>
    some false
  | .inr (.inr (.inl _)) =>
    some false
  | .inr (.inr (.inr _)) =>
    some true
noncomputable def fits_sp (N : Nat) : List Spec := []
theorem fits_all (N : Nat) : AllP (SpecOK Try.prog) (fits_sp N) := trivial
noncomputable def fits_c : Code := (Try.f99.body).getD .skip
noncomputable abbrev fits_B : Body := { c := fits_c, n := 138, res := [.tmp 6], outs := [⟨[.b], []⟩], m0 := 0 }
abbrev fits_rt : altD fits_B.outs → Option Bool := fun r => some r.1.1
abbrev fits_l1_at : List PI := [.c [1, 1, 0, 1, 0, 0, 0, 0], .c [1, 1, 0, 1, 0, 0, 0, 1], .c [1, 1, 0, 1, 0, 0, 1], .l [1, 1, 0, 1, 0, 0], .b 0, .c [1, 1, 1]]
abbrev fits_l1_st : Sta := ⟨[2, 3, 4, 7, 8, 9], ⟨[.sl (.pair (.int .i64) (.int .i64)), .own 0 0, .own 1 0, .i .i64, .i .i64, .i .i64], [.segs [.sl (.sl (.int .i64)), .sl (.int .i64), .i .i64], .segs [.i .i64, .i .i64]]⟩⟩
abbrev fits_l1_h (rec : (List (Int × Int)) → Int → Int → Int → (List (List Int)) → (List Int) → Int → Int → Int → Option ((Unit) ⊕ ((Unit) ⊕ ((Unit) ⊕ (Unit))))) : Leaf ((Unit) ⊕ ((Unit) ⊕ ((Unit) ⊕ (Unit)))) := ⟨fits_l1_at, fits_l1_st, fun p => rec p.1.1 p.1.2.2.2.1 p.1.2.2.2.2.1 p.1.2.2.2.2.2.1 p.2.1.1 p.2.1.2.1 p.2.1.2.2.1 p.2.2.1.1 p.2.2.1.2.1⟩
abbrev fits_l1_e0 : Leaf ((Unit) ⊕ ((Unit) ⊕ ((Unit) ⊕ (Unit)))) := ⟨[.c [1, 1, 0, 1, 0, 0, 1, 0, 0, 1, 0, 0, 1, 0, 0], .c [1, 1, 0, 1, 0, 0, 1, 0, 0, 1, 0, 0, 1, 0, 1], .c [1, 1, 0, 1, 0, 0, 1, 0, 0, 1, 0, 1], .b 1, .c [1, 1, 0, 1, 0, 0, 1, 1], .l [1, 1, 0, 1, 0, 0], .b 0, .c [1, 1, 1]], ⟨[], ⟨[], []⟩⟩, fun p => some (.inl ())⟩
abbrev fits_l1_e1 : Leaf ((Unit) ⊕ ((Unit) ⊕ ((Unit) ⊕ (Unit)))) := ⟨[.c [1, 1, 0, 1, 0, 0, 1, 0, 0, 1, 1, 1, 0, 0, 1, 0, 0], .c [1, 1, 0, 1, 0, 0, 1, 0, 0, 1, 1, 1, 0, 0, 1, 0, 1], .c [1, 1, 0, 1, 0, 0, 1, 0, 0, 1, 1, 1, 0, 1], .b 1, .c [1, 1, 0, 1, 0, 0, 1, 1], .l [1, 1, 0, 1, 0, 0], .b 0, .c [1, 1, 1]], ⟨[], ⟨[], []⟩⟩, fun p => some (.inr (.inl ()))⟩
abbrev fits_l1_e2 : Leaf ((Unit) ⊕ ((Unit) ⊕ ((Unit) ⊕ (Unit)))) := ⟨[.c [1, 1, 0, 1, 0, 0, 1, 0, 0, 1, 1, 1, 1, 1, 0, 0], .c [1, 1, 0, 1, 0, 0, 1, 0, 0, 1, 1, 1, 1, 1, 0, 1], .b 1, .c [1, 1, 0, 1, 0, 0, 1, 1], .l [1, 1, 0, 1, 0, 0], .b 0, .c [1, 1, 1]], ⟨[], ⟨[], []⟩⟩, fun p => some (.inr (.inr (.inl ())))⟩
abbrev fits_l1_e3 : Leaf ((Unit) ⊕ ((Unit) ⊕ ((Unit) ⊕ (Unit)))) := ⟨[.c [1, 1, 1, 0], .c [1, 1, 1, 1]], ⟨[], ⟨[], []⟩⟩, fun p => some (.inr (.inr (.inr ())))⟩
abbrev fits_j1_at : List PI := [.c [1, 1, 0, 1, 0, 0, 1, 1], .l [1, 1, 0, 1, 0, 0], .b 0, .c [1, 1, 1]]
abbrev fits_j1_st : Sta := ⟨[2, 3, 4, 7, 8, 9], ⟨[.sl (.pair (.int .i64) (.int .i64)), .own 0 0, .own 1 0, .i .i64, .i .i64, .i .i64], [.segs [.sl (.sl (.int .i64)), .sl (.int .i64), .i .i64], .segs [.i .i64, .i .i64]]⟩⟩
abbrev fits_j1_k (N : Nat) (rec : (List (Int × Int)) → Int → Int → Int → (List (List Int)) → (List Int) → Int → Int → Int → Option ((Unit) ⊕ ((Unit) ⊕ ((Unit) ⊕ (Unit))))) : Leaf ((Unit) ⊕ ((Unit) ⊕ ((Unit) ⊕ (Unit)))) := ⟨fits_j1_at, fits_j1_st, fun p => fits_j1 N rec p.1.1 p.1.2.2.2.1 p.1.2.2.2.2.1 p.1.2.2.2.2.2.1 p.2.1.1 p.2.1.2.1 p.2.1.2.2.1 p.2.2.1.1 p.2.2.1.2.1⟩
theorem fits_j1_eq (N : Nat) (rec : (List (Int × Int)) → Int → Int → Int → (List (List Int)) → (List Int) → Int → Int → Int → Option ((Unit) ⊕ ((Unit) ⊕ ((Unit) ⊕ (Unit))))) (l : List (Int × Int)) (a : Int) (b : Int) (i : Int) (e : List (List Int)) (e2 : List Int) (e3 : Int) (p : Int) (p2 : Int) : ev (Z := (Unit) ⊕ ((Unit) ⊕ ((Unit) ⊕ (Unit)))) Try.prog (fits_sp N) fits_B [] [fits_l1_h rec, fits_l1_e0, fits_l1_e1, fits_l1_e2, fits_l1_e3] none 400 true fits_j1_at (stL fits_j1_st ((l, (), (), a, b, i, ()), ((e, e2, e3, ()), (p, p2, ()), ()))) (stH fits_j1_st ((l, (), (), a, b, i, ()), ((e, e2, e3, ()), (p, p2, ()), ()))) = fits_j1 N rec l a b i e e2 e3 p p2 := by kernel_rfl
theorem fits_j1_lf (N : Nat) (rec : (List (Int × Int)) → Int → Int → Int → (List (List Int)) → (List Int) → Int → Int → Int → Option ((Unit) ⊕ ((Unit) ⊕ ((Unit) ⊕ (Unit))))) {z : (Unit) ⊕ ((Unit) ⊕ ((Unit) ⊕ (Unit)))} {top : Bool} {E : EE} {Xc : Ctx} (hE : EOK fits_B.m0 E) (hX : CxOK top Xc) (hrec : LeafOK Try.prog fits_B.c fits_B.n fits_B.m0 E Xc z (fits_l1_h rec)) (h0 : LeafOK Try.prog fits_B.c fits_B.n fits_B.m0 E Xc z fits_l1_e0) (h1 : LeafOK Try.prog fits_B.c fits_B.n fits_B.m0 E Xc z fits_l1_e1) (h2 : LeafOK Try.prog fits_B.c fits_B.n fits_B.m0 E Xc z fits_l1_e2) (h3 : LeafOK Try.prog fits_B.c fits_B.n fits_B.m0 E Xc z fits_l1_e3) : LeafOK Try.prog fits_B.c fits_B.n fits_B.m0 E Xc z (fits_j1_k N rec) := leaf_of_ev (B := fits_B) (loops := []) (leaves := [fits_l1_h rec, fits_l1_e0, fits_l1_e1, fits_l1_e2, fits_l1_e3]) (fits_all N) mixed trivial hE hX ⟨hrec, h0, h1, h2, h3, trivial⟩ RetOK.no (fun p => fits_j1_eq N rec p.1.1 p.1.2.2.2.1 p.1.2.2.2.2.1 p.1.2.2.2.2.2.1 p.2.1.1 p.2.1.2.1 p.2.1.2.2.1 p.2.2.1.1 p.2.2.1.2.1)
noncomputable def fits_l1_L (N : Nat) : LoopS := { at_ := fits_l1_at, sta := fits_l1_st, exits := [([.c [1, 1, 0, 1, 0, 0, 1, 0, 0, 1, 0, 0, 1, 0, 0], .c [1, 1, 0, 1, 0, 0, 1, 0, 0, 1, 0, 0, 1, 0, 1], .c [1, 1, 0, 1, 0, 0, 1, 0, 0, 1, 0, 1], .b 1, .c [1, 1, 0, 1, 0, 0, 1, 1], .l [1, 1, 0, 1, 0, 0], .b 0, .c [1, 1, 1]], ⟨[], ⟨[], []⟩⟩), ([.c [1, 1, 0, 1, 0, 0, 1, 0, 0, 1, 1, 1, 0, 0, 1, 0, 0], .c [1, 1, 0, 1, 0, 0, 1, 0, 0, 1, 1, 1, 0, 0, 1, 0, 1], .c [1, 1, 0, 1, 0, 0, 1, 0, 0, 1, 1, 1, 0, 1], .b 1, .c [1, 1, 0, 1, 0, 0, 1, 1], .l [1, 1, 0, 1, 0, 0], .b 0, .c [1, 1, 1]], ⟨[], ⟨[], []⟩⟩), ([.c [1, 1, 0, 1, 0, 0, 1, 0, 0, 1, 1, 1, 1, 1, 0, 0], .c [1, 1, 0, 1, 0, 0, 1, 0, 0, 1, 1, 1, 1, 1, 0, 1], .b 1, .c [1, 1, 0, 1, 0, 0, 1, 1], .l [1, 1, 0, 1, 0, 0], .b 0, .c [1, 1, 1]], ⟨[], ⟨[], []⟩⟩), ([.c [1, 1, 1, 0], .c [1, 1, 1, 1]], ⟨[], ⟨[], []⟩⟩)], run := fun p k => (fits_l1 N N p.1.1 p.1.2.2.2.1 p.1.2.2.2.2.1 p.1.2.2.2.2.2.1 p.2.1.1 p.2.1.2.1 p.2.1.2.2.1 p.2.2.1.1 p.2.2.1.2.1).bind fun e => match e with | .inl x => k (.inl ((), ())) | .inr (.inl x) => k (.inr (.inl ((), ()))) | .inr (.inr (.inl x)) => k (.inr (.inr (.inl ((), ())))) | .inr (.inr (.inr x)) => k (.inr (.inr (.inr (.inl ((), ()))))) }
theorem fits_l1_eq (N n_ : Nat) (l : List (Int × Int)) (a : Int) (b : Int) (i : Int) (e : List (List Int)) (e2 : List Int) (e3 : Int) (p : Int) (p2 : Int) : ev (Z := (Unit) ⊕ ((Unit) ⊕ ((Unit) ⊕ (Unit)))) Try.prog (fits_sp N) fits_B [] [fits_l1_h (fits_l1 N n_), fits_l1_e0, fits_l1_e1, fits_l1_e2, fits_l1_e3, fits_j1_k N (fits_l1 N n_)] none 400 true fits_l1_at (stL fits_l1_st ((l, (), (), a, b, i, ()), ((e, e2, e3, ()), (p, p2, ()), ()))) (stH fits_l1_st ((l, (), (), a, b, i, ()), ((e, e2, e3, ()), (p, p2, ()), ()))) = fits_l1 N (n_ + 1) l a b i e e2 e3 p p2 := by kernel_rfl
theorem fits_l1_ok (N : Nat) {top : Bool} : LoopOK Try.prog fits_B.c fits_B.n fits_B.m0 top (fits_l1_L N) := loop_of_ev (Z := (Unit) ⊕ ((Unit) ⊕ ((Unit) ⊕ (Unit)))) (N := N) (fun m p => fits_l1 N m p.1.1 p.1.2.2.2.1 p.1.2.2.2.2.1 p.1.2.2.2.2.2.1 p.2.1.1 p.2.1.2.1 p.2.1.2.2.1 p.2.2.1.1 p.2.2.1.2.1) (fun e => match e with | .inl x => .inl ((), ()) | .inr (.inl x) => .inr (.inl ((), ())) | .inr (.inr (.inl x)) => .inr (.inr (.inl ((), ()))) | .inr (.inr (.inr x)) => .inr (.inr (.inr (.inl ((), ()))))) (fun _ p k => bind_congr_ (fits_l1 N N p.1.1 p.1.2.2.2.1 p.1.2.2.2.2.1 p.1.2.2.2.2.2.1 p.2.1.1 p.2.1.2.1 p.2.1.2.2.1 p.2.2.1.1 p.2.2.1.2.1) _ _ (fun e => by rcases e with x | x | x | x <;> rfl)) (fun _ => rfl) (fun m z E Xc hE hX hrec hx => leaf_of_ev (B := fits_B) (loops := []) (leaves := [fits_l1_h (fits_l1 N m), fits_l1_e0, fits_l1_e1, fits_l1_e2, fits_l1_e3, fits_j1_k N (fits_l1 N m)]) (fits_all N) mixed trivial hE hX ⟨hrec, (fun p hp => by obtain rfl := Option.some.inj hp; exact hx), (fun p hp => by obtain rfl := Option.some.inj hp; exact hx), (fun p hp => by obtain rfl := Option.some.inj hp; exact hx), (fun p hp => by obtain rfl := Option.some.inj hp; exact hx), fits_j1_lf N _ hE hX hrec (fun p hp => by obtain rfl := Option.some.inj hp; exact hx) (fun p hp => by obtain rfl := Option.some.inj hp; exact hx) (fun p hp => by obtain rfl := Option.some.inj hp; exact hx) (fun p hp => by obtain rfl := Option.some.inj hp; exact hx), trivial⟩ RetOK.no (fun p => fits_l1_eq N m p.1.1 p.1.2.2.2.1 p.1.2.2.2.2.1 p.1.2.2.2.2.2.1 p.2.1.1 p.2.1.2.1 p.2.1.2.2.1 p.2.2.1.1 p.2.2.1.2.1))
abbrev fits_st : Sta := ⟨[0, 1, 2], ⟨[.agg [.sl (.sl (.int .i64)), .sl (.int .i64), .i .i64], .agg [.i .i64, .i .i64], .sl (.pair (.int .i64) (.int .i64))], []⟩⟩
theorem fits_eq (N : Nat) (e : List (List Int)) (e2 : List Int) (e3 : Int) (p : Int) (p2 : Int) (l : List (Int × Int)) : ev (Z := Bool) Try.prog (fits_sp N) fits_B [fits_l1_L N] [] (some fits_rt) 400 false [.c [0], .c [1]] (stL fits_st (((e, e2, e3, ()), (p, p2, ()), l, ()), ())) (stH fits_st (((e, e2, e3, ()), (p, p2, ()), l, ()), ())) = fits_S N e e2 e3 p p2 l := by kernel_rfl
noncomputable def sp_fits (N : Nat) : Spec := { f := 99, ins := ⟨[.agg [.sl (.sl (.int .i64)), .sl (.int .i64), .i .i64], .agg [.i .i64, .i .i64], .sl (.pair (.int .i64) (.int .i64))], []⟩, outs := [⟨[.b], []⟩], run := fun p k => (fits_S N p.1.1.1 p.1.1.2.1 p.1.1.2.2.1 p.1.2.1.1 p.1.2.1.2.1 p.1.2.2.1).bind fun r => k ((r, ()), ()) }
theorem sp_fits_ok (N : Nat) : SpecOK Try.prog (sp_fits N) := fn_sound (B := fits_B) (loops := [fits_l1_L N]) (leaves := []) (fun p => fits_S N p.1.1.1 p.1.1.2.1 p.1.1.2.2.1 p.1.2.1.1 p.1.2.1.2.1 p.1.2.2.1) (fun r => ((r, ()), ())) fits_rt (fun _ _ _ => rfl) (fun r z h => by cases h; rfl) Try.func99 (by kernel_rfl) (by kernel_rfl) (by kernel_rfl) rfl rfl (by kernel_rfl) (fun args w => Sem.pv_run _ _ _ (by kernel_rfl) w) (fits_all N) mixed ⟨fits_l1_ok N, trivial⟩ (fun z E Xc hE hX hret => trivial) (fun p => fits_eq N p.1.1.1 p.1.1.2.1 p.1.1.2.2.1 p.1.2.1.1 p.1.2.1.2.1 p.1.2.2.1)

def faulty_j1 (N : Nat) (rec : (List (Int × Int)) → Int → Int → Option Int) (l : List (Int × Int)) (n : Int) (i : Int) : Option Int :=
  chk (i + 1) <|
  rec l n (i + 1)
def faulty_l1 (N : Nat) : Nat → (List (Int × Int)) → Int → Int → Option Int
  | 0, _, _, _ => none
  | n_ + 1, l, n, i =>
    br (decide (i < (l.length : Int)))
      (idx l i fun x_3 =>
      br (decide (x_3.1 = 3))
        (chk (n + 1) <|
        faulty_j1 N (faulty_l1 N n_) l (n + 1) i)
        (chk (n - 1) <|
        faulty_j1 N (faulty_l1 N n_) l (n - 1) i))
      (some (n))
def faulty_S (N : Nat) (e : List (List Int)) (e2 : List Int) (e3 : Int) (p : Int) (p2 : Int) (l : List (Int × Int)) : Option Int :=
  idx e p fun x_1 =>
  idx e p2 fun x_2 =>
  chk ((x_1.length : Int) + (x_2.length : Int)) <|
  (faulty_l1 N N l ((x_1.length : Int) + (x_2.length : Int)) 0).bind fun n_4 =>
  some n_4
noncomputable def faulty_sp (N : Nat) : List Spec := []
theorem faulty_all (N : Nat) : AllP (SpecOK Try.prog) (faulty_sp N) := trivial
noncomputable def faulty_c : Code := (Try.f98.body).getD .skip
noncomputable abbrev faulty_B : Body := { c := faulty_c, n := 41, res := [.tmp 6], outs := [⟨[.i .i64], []⟩], m0 := 0 }
abbrev faulty_rt : altD faulty_B.outs → Option Int := fun r => some r.1.1
abbrev faulty_l1_at : List PI := [.c [1, 1, 0, 1, 0, 0, 0, 0], .c [1, 1, 0, 1, 0, 0, 0, 1], .c [1, 1, 0, 1, 0, 0, 1], .l [1, 1, 0, 1, 0, 0], .b 0, .c [1, 1, 1]]
abbrev faulty_l1_st : Sta := ⟨[2, 7, 8], ⟨[.sl (.pair (.int .i64) (.int .i64)), .i .i64, .i .i64], []⟩⟩
abbrev faulty_l1_h (rec : (List (Int × Int)) → Int → Int → Option Int) : Leaf Int := ⟨faulty_l1_at, faulty_l1_st, fun p => rec p.1.1 p.1.2.1 p.1.2.2.1⟩
abbrev faulty_l1_e0 : Leaf Int := ⟨[.c [1, 1, 1, 0], .c [1, 1, 1, 1]], ⟨[7], ⟨[.i .i64], []⟩⟩, fun p => some (p.1.1)⟩
abbrev faulty_j1_at : List PI := [.c [1, 1, 0, 1, 0, 0, 1, 1], .l [1, 1, 0, 1, 0, 0], .b 0, .c [1, 1, 1]]
abbrev faulty_j1_st : Sta := ⟨[2, 7, 8], ⟨[.sl (.pair (.int .i64) (.int .i64)), .i .i64, .i .i64], []⟩⟩
abbrev faulty_j1_k (N : Nat) (rec : (List (Int × Int)) → Int → Int → Option Int) : Leaf Int := ⟨faulty_j1_at, faulty_j1_st, fun p => faulty_j1 N rec p.1.1 p.1.2.1 p.1.2.2.1⟩
theorem faulty_j1_eq (N : Nat) (rec : (List (Int × Int)) → Int → Int → Option Int) (l : List (Int × Int)) (n : Int) (i : Int) : ev (Z := Int) Try.prog (faulty_sp N) faulty_B [] [faulty_l1_h rec, faulty_l1_e0] none 400 true faulty_j1_at (stL faulty_j1_st ((l, n, i, ()), ())) (stH faulty_j1_st ((l, n, i, ()), ())) = faulty_j1 N rec l n i := by kernel_rfl
theorem faulty_j1_lf (N : Nat) (rec : (List (Int × Int)) → Int → Int → Option Int) {z : Int} {top : Bool} {E : EE} {Xc : Ctx} (hE : EOK faulty_B.m0 E) (hX : CxOK top Xc) (hrec : LeafOK Try.prog faulty_B.c faulty_B.n faulty_B.m0 E Xc z (faulty_l1_h rec)) (h0 : LeafOK Try.prog faulty_B.c faulty_B.n faulty_B.m0 E Xc z faulty_l1_e0) : LeafOK Try.prog faulty_B.c faulty_B.n faulty_B.m0 E Xc z (faulty_j1_k N rec) := leaf_of_ev (B := faulty_B) (loops := []) (leaves := [faulty_l1_h rec, faulty_l1_e0]) (faulty_all N) mixed trivial hE hX ⟨hrec, h0, trivial⟩ RetOK.no (fun p => faulty_j1_eq N rec p.1.1 p.1.2.1 p.1.2.2.1)
noncomputable def faulty_l1_L (N : Nat) : LoopS := { at_ := faulty_l1_at, sta := faulty_l1_st, exits := [([.c [1, 1, 1, 0], .c [1, 1, 1, 1]], ⟨[7], ⟨[.i .i64], []⟩⟩)], run := fun p k => (faulty_l1 N N p.1.1 p.1.2.1 p.1.2.2.1).bind fun e => k (.inl ((e, ()), ())) }
theorem faulty_l1_eq (N n_ : Nat) (l : List (Int × Int)) (n : Int) (i : Int) : ev (Z := Int) Try.prog (faulty_sp N) faulty_B [] [faulty_l1_h (faulty_l1 N n_), faulty_l1_e0, faulty_j1_k N (faulty_l1 N n_)] none 400 true faulty_l1_at (stL faulty_l1_st ((l, n, i, ()), ())) (stH faulty_l1_st ((l, n, i, ()), ())) = faulty_l1 N (n_ + 1) l n i := by kernel_rfl
theorem faulty_l1_ok (N : Nat) {top : Bool} : LoopOK Try.prog faulty_B.c faulty_B.n faulty_B.m0 top (faulty_l1_L N) := loop_of_ev (Z := Int) (N := N) (fun m p => faulty_l1 N m p.1.1 p.1.2.1 p.1.2.2.1) (fun e => .inl ((e, ()), ())) (fun _ _ _ => rfl) (fun _ => rfl) (fun m z E Xc hE hX hrec hx => leaf_of_ev (B := faulty_B) (loops := []) (leaves := [faulty_l1_h (faulty_l1 N m), faulty_l1_e0, faulty_j1_k N (faulty_l1 N m)]) (faulty_all N) mixed trivial hE hX ⟨hrec, (fun p hp => by obtain rfl := Option.some.inj hp; exact hx), faulty_j1_lf N _ hE hX hrec (fun p hp => by obtain rfl := Option.some.inj hp; exact hx), trivial⟩ RetOK.no (fun p => faulty_l1_eq N m p.1.1 p.1.2.1 p.1.2.2.1))
abbrev faulty_st : Sta := ⟨[0, 1, 2], ⟨[.agg [.sl (.sl (.int .i64)), .sl (.int .i64), .i .i64], .agg [.i .i64, .i .i64], .sl (.pair (.int .i64) (.int .i64))], []⟩⟩
theorem faulty_eq (N : Nat) (e : List (List Int)) (e2 : List Int) (e3 : Int) (p : Int) (p2 : Int) (l : List (Int × Int)) : ev (Z := Int) Try.prog (faulty_sp N) faulty_B [faulty_l1_L N] [] (some faulty_rt) 400 false [.c [0], .c [1]] (stL faulty_st (((e, e2, e3, ()), (p, p2, ()), l, ()), ())) (stH faulty_st (((e, e2, e3, ()), (p, p2, ()), l, ()), ())) = faulty_S N e e2 e3 p p2 l := by kernel_rfl
noncomputable def sp_faulty (N : Nat) : Spec := { f := 98, ins := ⟨[.agg [.sl (.sl (.int .i64)), .sl (.int .i64), .i .i64], .agg [.i .i64, .i .i64], .sl (.pair (.int .i64) (.int .i64))], []⟩, outs := [⟨[.i .i64], []⟩], run := fun p k => (faulty_S N p.1.1.1 p.1.1.2.1 p.1.1.2.2.1 p.1.2.1.1 p.1.2.1.2.1 p.1.2.2.1).bind fun r => k ((r, ()), ()) }
theorem sp_faulty_ok (N : Nat) : SpecOK Try.prog (sp_faulty N) := fn_sound (B := faulty_B) (loops := [faulty_l1_L N]) (leaves := []) (fun p => faulty_S N p.1.1.1 p.1.1.2.1 p.1.1.2.2.1 p.1.2.1.1 p.1.2.1.2.1 p.1.2.2.1) (fun r => ((r, ()), ())) faulty_rt (fun _ _ _ => rfl) (fun r z h => by cases h; rfl) Try.func98 (by kernel_rfl) (by kernel_rfl) (by kernel_rfl) rfl rfl (by kernel_rfl) (fun args w => Sem.pv_run _ _ _ (by kernel_rfl) w) (faulty_all N) mixed ⟨faulty_l1_ok N, trivial⟩ (fun z E Xc hE hX hret => trivial) (fun p => faulty_eq N p.1.1.1 p.1.1.2.1 p.1.1.2.2.1 p.1.2.1.1 p.1.2.1.2.1 p.1.2.2.1)

def rfaults_S (N : Nat) (e : List (List Int)) (e2 : List Int) (e3 : Int) (p : Int) (p2 : Int) (l : List (Int × Int)) : Option (Int × Int) :=
  (rtwo_S N e e2 e3 p p2).bind fun x_1 =>
  br (!decide (x_1 = 0))
    (some (0, x_1))
    (br (!decide ((l.length : Int) = (e2.length : Int)))
      (some (0, 2))
      ((fits_S N e e2 e3 p p2 l).bind fun x_2 =>
      br (!x_2)
        (some (0, 8))
        ((faulty_S N e e2 e3 p p2 l).bind fun x_3 =>
        some (x_3, 0))))
noncomputable def rfaults_sp (N : Nat) : List Spec := [sp_rtwo N, sp_fits N, sp_faulty N]
theorem rfaults_all (N : Nat) : AllP (SpecOK Try.prog) (rfaults_sp N) := ⟨sp_rtwo_ok N, sp_fits_ok N, sp_faulty_ok N, trivial⟩
noncomputable def rfaults_c : Code := (Try.f46.body).getD .skip
noncomputable abbrev rfaults_B : Body := { c := rfaults_c, n := 30, res := [.tmp 6, .tmp 7], outs := [⟨[.i .i64, .i .i64], []⟩], m0 := 0 }
abbrev rfaults_rt : altD rfaults_B.outs → Option (Int × Int) := fun r => some (r.1.1, r.1.2.1)
abbrev rfaults_st : Sta := ⟨[0, 1, 2], ⟨[.agg [.sl (.sl (.int .i64)), .sl (.int .i64), .i .i64], .agg [.i .i64, .i .i64], .sl (.pair (.int .i64) (.int .i64))], []⟩⟩
theorem rfaults_eq (N : Nat) (e : List (List Int)) (e2 : List Int) (e3 : Int) (p : Int) (p2 : Int) (l : List (Int × Int)) : ev (Z := Int × Int) Try.prog (rfaults_sp N) rfaults_B [] [] (some rfaults_rt) 400 false [.c [0], .c [1]] (stL rfaults_st (((e, e2, e3, ()), (p, p2, ()), l, ()), ())) (stH rfaults_st (((e, e2, e3, ()), (p, p2, ()), l, ()), ())) = rfaults_S N e e2 e3 p p2 l := by kernel_rfl
noncomputable def sp_rfaults (N : Nat) : Spec := { f := 46, ins := ⟨[.agg [.sl (.sl (.int .i64)), .sl (.int .i64), .i .i64], .agg [.i .i64, .i .i64], .sl (.pair (.int .i64) (.int .i64))], []⟩, outs := [⟨[.i .i64, .i .i64], []⟩], run := fun p k => (rfaults_S N p.1.1.1 p.1.1.2.1 p.1.1.2.2.1 p.1.2.1.1 p.1.2.1.2.1 p.1.2.2.1).bind fun r => k ((r.1, r.2, ()), ()) }
theorem sp_rfaults_ok (N : Nat) : SpecOK Try.prog (sp_rfaults N) := fn_sound (B := rfaults_B) (loops := []) (leaves := []) (fun p => rfaults_S N p.1.1.1 p.1.1.2.1 p.1.1.2.2.1 p.1.2.1.1 p.1.2.1.2.1 p.1.2.2.1) (fun r => ((r.1, r.2, ()), ())) rfaults_rt (fun _ _ _ => rfl) (fun r z h => by cases h; rfl) Try.func46 (by kernel_rfl) (by kernel_rfl) (by kernel_rfl) rfl rfl (by kernel_rfl) (fun args w => Sem.pv_run _ _ _ (by kernel_rfl) w) (rfaults_all N) mixed trivial (fun z E Xc hE hX hret => trivial) (fun p => rfaults_eq N p.1.1.1 p.1.1.2.1 p.1.1.2.2.1 p.1.2.1.1 p.1.2.1.2.1 p.1.2.2.1)

def great_l1 (N : Nat) : Nat → (List (List Int)) → Int → Int → Option ((Unit) ⊕ (Unit))
  | 0, _, _, _ => none
  | n_ + 1, u, u2, u3 =>
    br (decide (u3 < u2))
      (idx u u3 fun x_1 =>
      br (decide (9 < (x_1.length : Int)))
        (some (.inl ()))
        (chk (u3 + 1) <|
        great_l1 N n_ u u2 (u3 + 1)))
      (some (.inr ()))
def great_S (N : Nat) (e : List (List Int)) (e2 : List Int) (e3 : Int) : Option Bool :=
  br (decide (8 < (e.length : Int)))
    (some true)
    (br (decide (14 < (e2.length : Int)))
      (some true)
      ((great_l1 N N e (e.length : Int) 0).bind fun e => match e with
      | .inl _ =>
        some true
      | .inr _ =>
        some false))
noncomputable def great_sp (N : Nat) : List Spec := []
theorem great_all (N : Nat) : AllP (SpecOK Try.prog) (great_sp N) := trivial
noncomputable def great_c : Code := (Try.f38.body).getD .skip
noncomputable abbrev great_B : Body := { c := great_c, n := 26, res := [.tmp 2], outs := [⟨[.b], []⟩], m0 := 0 }
abbrev great_rt : altD great_B.outs → Option Bool := fun r => some r.1.1
abbrev great_l1_at : List PI := [.c [1, 1, 0, 1, 0, 0, 0], .c [1, 1, 0, 1, 0, 0, 1], .l [1, 1, 0, 1, 0, 0], .b 0, .c [1, 1, 1]]
abbrev great_l1_st : Sta := ⟨[16, 17, 18], ⟨[.sl (.sl (.int .i64)), .i .i64, .i .i64], []⟩⟩
abbrev great_l1_h (rec : (List (List Int)) → Int → Int → Option ((Unit) ⊕ (Unit))) : Leaf ((Unit) ⊕ (Unit)) := ⟨great_l1_at, great_l1_st, fun p => rec p.1.1 p.1.2.1 p.1.2.2.1⟩
abbrev great_l1_e0 : Leaf ((Unit) ⊕ (Unit)) := ⟨[.c [1, 1, 0, 1, 0, 0, 1, 1, 0, 0, 1, 1, 0, 0], .c [1, 1, 0, 1, 0, 0, 1, 1, 0, 0, 1, 1, 0, 1], .b 1, .c [1, 1, 0, 1, 0, 0, 1, 1, 1], .l [1, 1, 0, 1, 0, 0], .b 0, .c [1, 1, 1]], ⟨[], ⟨[], []⟩⟩, fun p => some (.inl ())⟩
abbrev great_l1_e1 : Leaf ((Unit) ⊕ (Unit)) := ⟨[.c [1, 1, 1, 0], .c [1, 1, 1, 1]], ⟨[], ⟨[], []⟩⟩, fun p => some (.inr ())⟩
noncomputable def great_l1_L (N : Nat) : LoopS := { at_ := great_l1_at, sta := great_l1_st, exits := [([.c [1, 1, 0, 1, 0, 0, 1, 1, 0, 0, 1, 1, 0, 0], .c [1, 1, 0, 1, 0, 0, 1, 1, 0, 0, 1, 1, 0, 1], .b 1, .c [1, 1, 0, 1, 0, 0, 1, 1, 1], .l [1, 1, 0, 1, 0, 0], .b 0, .c [1, 1, 1]], ⟨[], ⟨[], []⟩⟩), ([.c [1, 1, 1, 0], .c [1, 1, 1, 1]], ⟨[], ⟨[], []⟩⟩)], run := fun p k => (great_l1 N N p.1.1 p.1.2.1 p.1.2.2.1).bind fun e => match e with | .inl x => k (.inl ((), ())) | .inr x => k (.inr (.inl ((), ()))) }
theorem great_l1_eq (N n_ : Nat) (u : List (List Int)) (u2 : Int) (u3 : Int) : ev (Z := (Unit) ⊕ (Unit)) Try.prog (great_sp N) great_B [] [great_l1_h (great_l1 N n_), great_l1_e0, great_l1_e1] none 400 true great_l1_at (stL great_l1_st ((u, u2, u3, ()), ())) (stH great_l1_st ((u, u2, u3, ()), ())) = great_l1 N (n_ + 1) u u2 u3 := by kernel_rfl
theorem great_l1_ok (N : Nat) {top : Bool} : LoopOK Try.prog great_B.c great_B.n great_B.m0 top (great_l1_L N) := loop_of_ev (Z := (Unit) ⊕ (Unit)) (N := N) (fun m p => great_l1 N m p.1.1 p.1.2.1 p.1.2.2.1) (fun e => match e with | .inl x => .inl ((), ()) | .inr x => .inr (.inl ((), ()))) (fun _ p k => bind_congr_ (great_l1 N N p.1.1 p.1.2.1 p.1.2.2.1) _ _ (fun e => by rcases e with x | x <;> rfl)) (fun _ => rfl) (fun m z E Xc hE hX hrec hx => leaf_of_ev (B := great_B) (loops := []) (leaves := [great_l1_h (great_l1 N m), great_l1_e0, great_l1_e1]) (great_all N) mixed trivial hE hX ⟨hrec, (fun p hp => by obtain rfl := Option.some.inj hp; exact hx), (fun p hp => by obtain rfl := Option.some.inj hp; exact hx), trivial⟩ RetOK.no (fun p => great_l1_eq N m p.1.1 p.1.2.1 p.1.2.2.1))
abbrev great_st : Sta := ⟨[0], ⟨[.agg [.sl (.sl (.int .i64)), .sl (.int .i64), .i .i64]], []⟩⟩
theorem great_eq (N : Nat) (e : List (List Int)) (e2 : List Int) (e3 : Int) : ev (Z := Bool) Try.prog (great_sp N) great_B [great_l1_L N] [] (some great_rt) 400 false [.c [0], .c [1]] (stL great_st (((e, e2, e3, ()), ()), ())) (stH great_st (((e, e2, e3, ()), ()), ())) = great_S N e e2 e3 := by kernel_rfl
noncomputable def sp_great (N : Nat) : Spec := { f := 38, ins := ⟨[.agg [.sl (.sl (.int .i64)), .sl (.int .i64), .i .i64]], []⟩, outs := [⟨[.b], []⟩], run := fun p k => (great_S N p.1.1.1 p.1.1.2.1 p.1.1.2.2.1).bind fun r => k ((r, ()), ()) }
theorem sp_great_ok (N : Nat) : SpecOK Try.prog (sp_great N) := fn_sound (B := great_B) (loops := [great_l1_L N]) (leaves := []) (fun p => great_S N p.1.1.1 p.1.1.2.1 p.1.1.2.2.1) (fun r => ((r, ()), ())) great_rt (fun _ _ _ => rfl) (fun r z h => by cases h; rfl) Try.func38 (by kernel_rfl) (by kernel_rfl) (by kernel_rfl) rfl rfl (by kernel_rfl) (fun args w => Sem.pv_run _ _ _ (by kernel_rfl) w) (great_all N) mixed ⟨great_l1_ok N, trivial⟩ (fun z E Xc hE hX hret => trivial) (fun p => great_eq N p.1.1.1 p.1.1.2.1 p.1.1.2.2.1)

def places_l1 (N : Nat) : Nat → (List (Int × Int)) → Int → Int → (List (Int × Int)) → Option (List (Int × Int))
  | 0, _, _, _, _ => none
  | n_ + 1, u, u2, u3, out =>
    br (decide (u3 < u2))
      (idx u u3 fun x_1 =>
      lim (out.length + [(x_1.1, x_1.2)].length) <|
      chk (u3 + 1) <|
      places_l1 N n_ u u2 (u3 + 1) (out ++ [(x_1.1, x_1.2)]))
      (some (out))
def places_S (N : Nat) (l : List (Int × Int)) : Option (List (Int × Int)) :=
  (places_l1 N N l (l.length : Int) 0 []).bind fun out_2 =>
  some out_2
noncomputable def places_sp (N : Nat) : List Spec := []
theorem places_all (N : Nat) : AllP (SpecOK Try.prog) (places_sp N) := trivial
noncomputable def places_c : Code := (Try.f47.body).getD .skip
noncomputable abbrev places_B : Body := { c := places_c, n := 22, res := [.tmp 2], outs := [⟨[.sl (.pair (.int .i64) (.int .i64))], []⟩], m0 := 0 }
abbrev places_rt : altD places_B.outs → Option (List (Int × Int)) := fun r => some r.1.1
abbrev places_l1_at : List PI := [.c [1, 1, 0, 1, 0, 0, 0], .c [1, 1, 0, 1, 0, 0, 1], .l [1, 1, 0, 1, 0, 0], .b 0, .c [1, 1, 1]]
abbrev places_l1_st : Sta := ⟨[3, 6, 7, 8], ⟨[.ols 0, .sl (.pair (.int .i64) (.int .i64)), .i .i64, .i .i64], [.lst (.pair (.int .i64) (.int .i64))]⟩⟩
abbrev places_l1_h (rec : (List (Int × Int)) → Int → Int → (List (Int × Int)) → Option (List (Int × Int))) : Leaf (List (Int × Int)) := ⟨places_l1_at, places_l1_st, fun p => rec p.1.2.1 p.1.2.2.1 p.1.2.2.2.1 p.2.1⟩
abbrev places_l1_e0 : Leaf (List (Int × Int)) := ⟨[.c [1, 1, 1, 0], .c [1, 1, 1, 1]], ⟨[3], ⟨[.ols 0], [.lst (.pair (.int .i64) (.int .i64))]⟩⟩, fun p => some (p.2.1)⟩
noncomputable def places_l1_L (N : Nat) : LoopS := { at_ := places_l1_at, sta := places_l1_st, exits := [([.c [1, 1, 1, 0], .c [1, 1, 1, 1]], ⟨[3], ⟨[.ols 0], [.lst (.pair (.int .i64) (.int .i64))]⟩⟩)], run := fun p k => (places_l1 N N p.1.2.1 p.1.2.2.1 p.1.2.2.2.1 p.2.1).bind fun e => k (.inl (((), ()), (e, ()))) }
theorem places_l1_eq (N n_ : Nat) (u : List (Int × Int)) (u2 : Int) (u3 : Int) (out : List (Int × Int)) : ev (Z := (List (Int × Int))) Try.prog (places_sp N) places_B [] [places_l1_h (places_l1 N n_), places_l1_e0] none 400 true places_l1_at (stL places_l1_st (((), u, u2, u3, ()), (out, ()))) (stH places_l1_st (((), u, u2, u3, ()), (out, ()))) = places_l1 N (n_ + 1) u u2 u3 out := by kernel_rfl
theorem places_l1_ok (N : Nat) {top : Bool} : LoopOK Try.prog places_B.c places_B.n places_B.m0 top (places_l1_L N) := loop_of_ev (Z := (List (Int × Int))) (N := N) (fun m p => places_l1 N m p.1.2.1 p.1.2.2.1 p.1.2.2.2.1 p.2.1) (fun e => .inl (((), ()), (e, ()))) (fun _ _ _ => rfl) (fun _ => rfl) (fun m z E Xc hE hX hrec hx => leaf_of_ev (B := places_B) (loops := []) (leaves := [places_l1_h (places_l1 N m), places_l1_e0]) (places_all N) mixed trivial hE hX ⟨hrec, (fun p hp => by obtain rfl := Option.some.inj hp; exact hx), trivial⟩ RetOK.no (fun p => places_l1_eq N m p.1.2.1 p.1.2.2.1 p.1.2.2.2.1 p.2.1))
abbrev places_st : Sta := ⟨[0], ⟨[.sl (.pair (.int .i64) (.int .i64))], []⟩⟩
theorem places_eq (N : Nat) (l : List (Int × Int)) : ev (Z := (List (Int × Int))) Try.prog (places_sp N) places_B [places_l1_L N] [] (some places_rt) 400 false [.c [0], .c [1]] (stL places_st ((l, ()), ())) (stH places_st ((l, ()), ())) = places_S N l := by kernel_rfl
noncomputable def sp_places (N : Nat) : Spec := { f := 47, ins := ⟨[.sl (.pair (.int .i64) (.int .i64))], []⟩, outs := [⟨[.sl (.pair (.int .i64) (.int .i64))], []⟩], run := fun p k => (places_S N p.1.1).bind fun r => k ((r, ()), ()) }
theorem sp_places_ok (N : Nat) : SpecOK Try.prog (sp_places N) := fn_sound (B := places_B) (loops := [places_l1_L N]) (leaves := []) (fun p => places_S N p.1.1) (fun r => ((r, ()), ())) places_rt (fun _ _ _ => rfl) (fun r z h => by cases h; rfl) Try.func47 (by kernel_rfl) (by kernel_rfl) (by kernel_rfl) rfl rfl (by kernel_rfl) (fun args w => Sem.pv_run _ _ _ (by kernel_rfl) w) (places_all N) mixed ⟨places_l1_ok N, trivial⟩ (fun z E Xc hE hX hret => trivial) (fun p => places_eq N p.1.1)

def equalf_l1 (N : Nat) : Nat → (List (List Int)) → (List (List Int)) → Int → Int → Option ((Unit) ⊕ (Unit))
  | 0, _, _, _, _ => none
  | n_ + 1, s2, u, u2, u3 =>
    br (decide (u3 < u2))
      (idx u u3 fun x_1 =>
      idx s2 u3 fun x_2 =>
      (equali_S N x_1 x_2).bind fun x_3 =>
      br (!x_3)
        (some (.inl ()))
        (chk (u3 + 1) <|
        equalf_l1 N n_ s2 u u2 (u3 + 1)))
      (some (.inr ()))
def equalf_S (N : Nat) (s1 : List (List Int)) (s2 : List (List Int)) : Option Bool :=
  br (!decide ((s1.length : Int) = (s2.length : Int)))
    (some false)
    ((equalf_l1 N N s2 s1 (s1.length : Int) 0).bind fun e => match e with
    | .inl _ =>
      some false
    | .inr _ =>
      some true)
noncomputable def equalf_sp (N : Nat) : List Spec := [sp_equali N]
theorem equalf_all (N : Nat) : AllP (SpecOK Try.prog) (equalf_sp N) := ⟨sp_equali_ok N, trivial⟩
noncomputable def equalf_c : Code := (Try.f112.body).getD .skip
noncomputable abbrev equalf_B : Body := { c := equalf_c, n := 32, res := [.tmp 6], outs := [⟨[.b], []⟩], m0 := 0 }
abbrev equalf_rt : altD equalf_B.outs → Option Bool := fun r => some r.1.1
abbrev equalf_l1_at : List PI := [.c [1, 1, 0, 1, 0, 0, 0], .c [1, 1, 0, 1, 0, 0, 1], .l [1, 1, 0, 1, 0, 0], .b 0, .c [1, 1, 1]]
abbrev equalf_l1_st : Sta := ⟨[1, 2, 15, 16, 17], ⟨[.sl (.sl (.int .i64)), .fn 103 [] [], .sl (.sl (.int .i64)), .i .i64, .i .i64], []⟩⟩
abbrev equalf_l1_h (rec : (List (List Int)) → (List (List Int)) → Int → Int → Option ((Unit) ⊕ (Unit))) : Leaf ((Unit) ⊕ (Unit)) := ⟨equalf_l1_at, equalf_l1_st, fun p => rec p.1.1 p.1.2.2.1 p.1.2.2.2.1 p.1.2.2.2.2.1⟩
abbrev equalf_l1_e0 : Leaf ((Unit) ⊕ (Unit)) := ⟨[.c [1, 1, 0, 1, 0, 0, 1, 1, 0, 0, 1, 1, 1, 0, 0], .c [1, 1, 0, 1, 0, 0, 1, 1, 0, 0, 1, 1, 1, 0, 1], .b 1, .c [1, 1, 0, 1, 0, 0, 1, 1, 1], .l [1, 1, 0, 1, 0, 0], .b 0, .c [1, 1, 1]], ⟨[], ⟨[], []⟩⟩, fun p => some (.inl ())⟩
abbrev equalf_l1_e1 : Leaf ((Unit) ⊕ (Unit)) := ⟨[.c [1, 1, 1, 0], .c [1, 1, 1, 1]], ⟨[], ⟨[], []⟩⟩, fun p => some (.inr ())⟩
noncomputable def equalf_l1_L (N : Nat) : LoopS := { at_ := equalf_l1_at, sta := equalf_l1_st, exits := [([.c [1, 1, 0, 1, 0, 0, 1, 1, 0, 0, 1, 1, 1, 0, 0], .c [1, 1, 0, 1, 0, 0, 1, 1, 0, 0, 1, 1, 1, 0, 1], .b 1, .c [1, 1, 0, 1, 0, 0, 1, 1, 1], .l [1, 1, 0, 1, 0, 0], .b 0, .c [1, 1, 1]], ⟨[], ⟨[], []⟩⟩), ([.c [1, 1, 1, 0], .c [1, 1, 1, 1]], ⟨[], ⟨[], []⟩⟩)], run := fun p k => (equalf_l1 N N p.1.1 p.1.2.2.1 p.1.2.2.2.1 p.1.2.2.2.2.1).bind fun e => match e with | .inl x => k (.inl ((), ())) | .inr x => k (.inr (.inl ((), ()))) }
theorem equalf_l1_eq (N n_ : Nat) (s2 : List (List Int)) (u : List (List Int)) (u2 : Int) (u3 : Int) : ev (Z := (Unit) ⊕ (Unit)) Try.prog (equalf_sp N) equalf_B [] [equalf_l1_h (equalf_l1 N n_), equalf_l1_e0, equalf_l1_e1] none 400 true equalf_l1_at (stL equalf_l1_st ((s2, ((), ()), u, u2, u3, ()), ())) (stH equalf_l1_st ((s2, ((), ()), u, u2, u3, ()), ())) = equalf_l1 N (n_ + 1) s2 u u2 u3 := by kernel_rfl
theorem equalf_l1_ok (N : Nat) {top : Bool} : LoopOK Try.prog equalf_B.c equalf_B.n equalf_B.m0 top (equalf_l1_L N) := loop_of_ev (Z := (Unit) ⊕ (Unit)) (N := N) (fun m p => equalf_l1 N m p.1.1 p.1.2.2.1 p.1.2.2.2.1 p.1.2.2.2.2.1) (fun e => match e with | .inl x => .inl ((), ()) | .inr x => .inr (.inl ((), ()))) (fun _ p k => bind_congr_ (equalf_l1 N N p.1.1 p.1.2.2.1 p.1.2.2.2.1 p.1.2.2.2.2.1) _ _ (fun e => by rcases e with x | x <;> rfl)) (fun _ => rfl) (fun m z E Xc hE hX hrec hx => leaf_of_ev (B := equalf_B) (loops := []) (leaves := [equalf_l1_h (equalf_l1 N m), equalf_l1_e0, equalf_l1_e1]) (equalf_all N) mixed trivial hE hX ⟨hrec, (fun p hp => by obtain rfl := Option.some.inj hp; exact hx), (fun p hp => by obtain rfl := Option.some.inj hp; exact hx), trivial⟩ RetOK.no (fun p => equalf_l1_eq N m p.1.1 p.1.2.2.1 p.1.2.2.2.1 p.1.2.2.2.2.1))
abbrev equalf_st : Sta := ⟨[0, 1, 2], ⟨[.sl (.sl (.int .i64)), .sl (.sl (.int .i64)), .fn 103 [] []], []⟩⟩
theorem equalf_eq (N : Nat) (s1 : List (List Int)) (s2 : List (List Int)) : ev (Z := Bool) Try.prog (equalf_sp N) equalf_B [equalf_l1_L N] [] (some equalf_rt) 400 false [.c [0], .c [1]] (stL equalf_st ((s1, s2, ((), ()), ()), ())) (stH equalf_st ((s1, s2, ((), ()), ()), ())) = equalf_S N s1 s2 := by kernel_rfl
noncomputable def sp_equalf (N : Nat) : Spec := { f := 112, ins := ⟨[.sl (.sl (.int .i64)), .sl (.sl (.int .i64)), .fn 103 [] []], []⟩, outs := [⟨[.b], []⟩], run := fun p k => (equalf_S N p.1.1 p.1.2.1).bind fun r => k ((r, ()), ()) }
theorem sp_equalf_ok (N : Nat) : SpecOK Try.prog (sp_equalf N) := fn_sound (B := equalf_B) (loops := [equalf_l1_L N]) (leaves := []) (fun p => equalf_S N p.1.1 p.1.2.1) (fun r => ((r, ()), ())) equalf_rt (fun _ _ _ => rfl) (fun r z h => by cases h; rfl) Try.func112 (by kernel_rfl) (by kernel_rfl) (by kernel_rfl) rfl rfl (by kernel_rfl) (fun args w => Sem.pv_run _ _ _ (by kernel_rfl) w) (equalf_all N) mixed ⟨equalf_l1_ok N, trivial⟩ (fun z E Xc hE hX hret => trivial) (fun p => equalf_eq N p.1.1 p.1.2.1)

def liker_S (N : Nat) (a : List (List Int)) (b : List (List Int)) : Option Bool :=
  (equalf_S N a b).bind fun x_1 =>
  some x_1
noncomputable def liker_sp (N : Nat) : List Spec := [sp_equalf N]
theorem liker_all (N : Nat) : AllP (SpecOK Try.prog) (liker_sp N) := ⟨sp_equalf_ok N, trivial⟩
noncomputable def liker_c : Code := (Try.f68.body).getD .skip
noncomputable abbrev liker_B : Body := { c := liker_c, n := 8, res := [.tmp 4], outs := [⟨[.b], []⟩], m0 := 0 }
abbrev liker_rt : altD liker_B.outs → Option Bool := fun r => some r.1.1
abbrev liker_st : Sta := ⟨[0, 1], ⟨[.sl (.sl (.int .i64)), .sl (.sl (.int .i64))], []⟩⟩
theorem liker_eq (N : Nat) (a : List (List Int)) (b : List (List Int)) : ev (Z := Bool) Try.prog (liker_sp N) liker_B [] [] (some liker_rt) 400 false [.c [0], .c [1]] (stL liker_st ((a, b, ()), ())) (stH liker_st ((a, b, ()), ())) = liker_S N a b := by kernel_rfl
noncomputable def sp_liker (N : Nat) : Spec := { f := 68, ins := ⟨[.sl (.sl (.int .i64)), .sl (.sl (.int .i64))], []⟩, outs := [⟨[.b], []⟩], run := fun p k => (liker_S N p.1.1 p.1.2.1).bind fun r => k ((r, ()), ()) }
theorem sp_liker_ok (N : Nat) : SpecOK Try.prog (sp_liker N) := fn_sound (B := liker_B) (loops := []) (leaves := []) (fun p => liker_S N p.1.1 p.1.2.1) (fun r => ((r, ()), ())) liker_rt (fun _ _ _ => rfl) (fun r z h => by cases h; rfl) Try.func68 (by kernel_rfl) (by kernel_rfl) (by kernel_rfl) rfl rfl (by kernel_rfl) (fun args w => Sem.pv_run _ _ _ (by kernel_rfl) w) (liker_all N) mixed trivial (fun z E Xc hE hX hret => trivial) (fun p => liker_eq N p.1.1 p.1.2.1)

def same_S (N : Nat) (a : List (List Int)) (a2 : List Int) (a3 : Int) (b : List (List Int)) (b2 : List Int) (b3 : Int) : Option Bool :=
  (liker_S N a b).bind fun x_1 =>
  br x_1
    ((likei_S N a2 b2).bind fun x_2 =>
    br x_2
      (some (decide (a3 = b3)))
      (some false))
    (some false)
noncomputable def same_sp (N : Nat) : List Spec := [sp_likei N, sp_liker N]
theorem same_all (N : Nat) : AllP (SpecOK Try.prog) (same_sp N) := ⟨sp_likei_ok N, sp_liker_ok N, trivial⟩
noncomputable def same_c : Code := (Try.f43.body).getD .skip
noncomputable abbrev same_B : Body := { c := same_c, n := 24, res := [.tmp 4], outs := [⟨[.b], []⟩], m0 := 0 }
abbrev same_rt : altD same_B.outs → Option Bool := fun r => some r.1.1
abbrev same_st : Sta := ⟨[0, 1], ⟨[.agg [.sl (.sl (.int .i64)), .sl (.int .i64), .i .i64], .agg [.sl (.sl (.int .i64)), .sl (.int .i64), .i .i64]], []⟩⟩
theorem same_eq (N : Nat) (a : List (List Int)) (a2 : List Int) (a3 : Int) (b : List (List Int)) (b2 : List Int) (b3 : Int) : ev (Z := Bool) Try.prog (same_sp N) same_B [] [] (some same_rt) 400 false [.c [0], .c [1]] (stL same_st (((a, a2, a3, ()), (b, b2, b3, ()), ()), ())) (stH same_st (((a, a2, a3, ()), (b, b2, b3, ()), ()), ())) = same_S N a a2 a3 b b2 b3 := by kernel_rfl
noncomputable def sp_same (N : Nat) : Spec := { f := 43, ins := ⟨[.agg [.sl (.sl (.int .i64)), .sl (.int .i64), .i .i64], .agg [.sl (.sl (.int .i64)), .sl (.int .i64), .i .i64]], []⟩, outs := [⟨[.b], []⟩], run := fun p k => (same_S N p.1.1.1 p.1.1.2.1 p.1.1.2.2.1 p.1.2.1.1 p.1.2.1.2.1 p.1.2.1.2.2.1).bind fun r => k ((r, ()), ()) }
theorem sp_same_ok (N : Nat) : SpecOK Try.prog (sp_same N) := fn_sound (B := same_B) (loops := []) (leaves := []) (fun p => same_S N p.1.1.1 p.1.1.2.1 p.1.1.2.2.1 p.1.2.1.1 p.1.2.1.2.1 p.1.2.1.2.2.1) (fun r => ((r, ()), ())) same_rt (fun _ _ _ => rfl) (fun r z h => by cases h; rfl) Try.func43 (by kernel_rfl) (by kernel_rfl) (by kernel_rfl) rfl rfl (by kernel_rfl) (fun args w => Sem.pv_run _ _ _ (by kernel_rfl) w) (same_all N) mixed trivial (fun z E Xc hE hX hret => trivial) (fun p => same_eq N p.1.1.1 p.1.1.2.1 p.1.1.2.2.1 p.1.2.1.1 p.1.2.1.2.1 p.1.2.1.2.2.1)

def equalq_l1 (N : Nat) : Nat → (List (Int × Int)) → (List (Int × Int)) → Int → Int → Option ((Unit) ⊕ (Unit))
  | 0, _, _, _, _ => none
  | n_ + 1, s1, s2, u, u2 =>
    br (decide (u2 < u))
      (idx s1 u2 fun x_1 =>
      idx s2 u2 fun x_2 =>
      br (!(decide (x_1.1 = x_2.1) && decide (x_1.2 = x_2.2)))
        (some (.inl ()))
        (chk (u2 + 1) <|
        equalq_l1 N n_ s1 s2 u (u2 + 1)))
      (some (.inr ()))
def equalq_S (N : Nat) (s1 : List (Int × Int)) (s2 : List (Int × Int)) : Option Bool :=
  br (!decide ((s1.length : Int) = (s2.length : Int)))
    (some false)
    ((equalq_l1 N N s1 s2 (s1.length : Int) 0).bind fun e => match e with
    | .inl _ =>
      some false
    | .inr _ =>
      some true)
noncomputable def equalq_sp (N : Nat) : List Spec := []
theorem equalq_all (N : Nat) : AllP (SpecOK Try.prog) (equalq_sp N) := trivial
noncomputable def equalq_c : Code := (Try.f37.body).getD .skip
noncomputable abbrev equalq_B : Body := { c := equalq_c, n := 26, res := [.tmp 4], outs := [⟨[.b], []⟩], m0 := 0 }
abbrev equalq_rt : altD equalq_B.outs → Option Bool := fun r => some r.1.1
abbrev equalq_l1_at : List PI := [.c [1, 1, 0, 1, 0, 0, 0], .c [1, 1, 0, 1, 0, 0, 1], .l [1, 1, 0, 1, 0, 0], .b 0, .c [1, 1, 1]]
abbrev equalq_l1_st : Sta := ⟨[0, 1, 12, 13], ⟨[.sl (.pair (.int .i64) (.int .i64)), .sl (.pair (.int .i64) (.int .i64)), .i .i64, .i .i64], []⟩⟩
abbrev equalq_l1_h (rec : (List (Int × Int)) → (List (Int × Int)) → Int → Int → Option ((Unit) ⊕ (Unit))) : Leaf ((Unit) ⊕ (Unit)) := ⟨equalq_l1_at, equalq_l1_st, fun p => rec p.1.1 p.1.2.1 p.1.2.2.1 p.1.2.2.2.1⟩
abbrev equalq_l1_e0 : Leaf ((Unit) ⊕ (Unit)) := ⟨[.c [1, 1, 0, 1, 0, 0, 1, 1, 0, 0, 1, 1, 0, 0], .c [1, 1, 0, 1, 0, 0, 1, 1, 0, 0, 1, 1, 0, 1], .b 1, .c [1, 1, 0, 1, 0, 0, 1, 1, 1], .l [1, 1, 0, 1, 0, 0], .b 0, .c [1, 1, 1]], ⟨[], ⟨[], []⟩⟩, fun p => some (.inl ())⟩
abbrev equalq_l1_e1 : Leaf ((Unit) ⊕ (Unit)) := ⟨[.c [1, 1, 1, 0], .c [1, 1, 1, 1]], ⟨[], ⟨[], []⟩⟩, fun p => some (.inr ())⟩
noncomputable def equalq_l1_L (N : Nat) : LoopS := { at_ := equalq_l1_at, sta := equalq_l1_st, exits := [([.c [1, 1, 0, 1, 0, 0, 1, 1, 0, 0, 1, 1, 0, 0], .c [1, 1, 0, 1, 0, 0, 1, 1, 0, 0, 1, 1, 0, 1], .b 1, .c [1, 1, 0, 1, 0, 0, 1, 1, 1], .l [1, 1, 0, 1, 0, 0], .b 0, .c [1, 1, 1]], ⟨[], ⟨[], []⟩⟩), ([.c [1, 1, 1, 0], .c [1, 1, 1, 1]], ⟨[], ⟨[], []⟩⟩)], run := fun p k => (equalq_l1 N N p.1.1 p.1.2.1 p.1.2.2.1 p.1.2.2.2.1).bind fun e => match e with | .inl x => k (.inl ((), ())) | .inr x => k (.inr (.inl ((), ()))) }
theorem equalq_l1_eq (N n_ : Nat) (s1 : List (Int × Int)) (s2 : List (Int × Int)) (u : Int) (u2 : Int) : ev (Z := (Unit) ⊕ (Unit)) Try.prog (equalq_sp N) equalq_B [] [equalq_l1_h (equalq_l1 N n_), equalq_l1_e0, equalq_l1_e1] none 400 true equalq_l1_at (stL equalq_l1_st ((s1, s2, u, u2, ()), ())) (stH equalq_l1_st ((s1, s2, u, u2, ()), ())) = equalq_l1 N (n_ + 1) s1 s2 u u2 := by kernel_rfl
theorem equalq_l1_ok (N : Nat) {top : Bool} : LoopOK Try.prog equalq_B.c equalq_B.n equalq_B.m0 top (equalq_l1_L N) := loop_of_ev (Z := (Unit) ⊕ (Unit)) (N := N) (fun m p => equalq_l1 N m p.1.1 p.1.2.1 p.1.2.2.1 p.1.2.2.2.1) (fun e => match e with | .inl x => .inl ((), ()) | .inr x => .inr (.inl ((), ()))) (fun _ p k => bind_congr_ (equalq_l1 N N p.1.1 p.1.2.1 p.1.2.2.1 p.1.2.2.2.1) _ _ (fun e => by rcases e with x | x <;> rfl)) (fun _ => rfl) (fun m z E Xc hE hX hrec hx => leaf_of_ev (B := equalq_B) (loops := []) (leaves := [equalq_l1_h (equalq_l1 N m), equalq_l1_e0, equalq_l1_e1]) (equalq_all N) mixed trivial hE hX ⟨hrec, (fun p hp => by obtain rfl := Option.some.inj hp; exact hx), (fun p hp => by obtain rfl := Option.some.inj hp; exact hx), trivial⟩ RetOK.no (fun p => equalq_l1_eq N m p.1.1 p.1.2.1 p.1.2.2.1 p.1.2.2.2.1))
abbrev equalq_st : Sta := ⟨[0, 1], ⟨[.sl (.pair (.int .i64) (.int .i64)), .sl (.pair (.int .i64) (.int .i64))], []⟩⟩
theorem equalq_eq (N : Nat) (s1 : List (Int × Int)) (s2 : List (Int × Int)) : ev (Z := Bool) Try.prog (equalq_sp N) equalq_B [equalq_l1_L N] [] (some equalq_rt) 400 false [.c [0], .c [1]] (stL equalq_st ((s1, s2, ()), ())) (stH equalq_st ((s1, s2, ()), ())) = equalq_S N s1 s2 := by kernel_rfl
noncomputable def sp_equalq (N : Nat) : Spec := { f := 37, ins := ⟨[.sl (.pair (.int .i64) (.int .i64)), .sl (.pair (.int .i64) (.int .i64))], []⟩, outs := [⟨[.b], []⟩], run := fun p k => (equalq_S N p.1.1 p.1.2.1).bind fun r => k ((r, ()), ()) }
theorem sp_equalq_ok (N : Nat) : SpecOK Try.prog (sp_equalq N) := fn_sound (B := equalq_B) (loops := [equalq_l1_L N]) (leaves := []) (fun p => equalq_S N p.1.1 p.1.2.1) (fun r => ((r, ()), ())) equalq_rt (fun _ _ _ => rfl) (fun r z h => by cases h; rfl) Try.func37 (by kernel_rfl) (by kernel_rfl) (by kernel_rfl) rfl rfl (by kernel_rfl) (fun args w => Sem.pv_run _ _ _ (by kernel_rfl) w) (equalq_all N) mixed ⟨equalq_l1_ok N, trivial⟩ (fun z E Xc hE hX hret => trivial) (fun p => equalq_eq N p.1.1 p.1.2.1)

def likeq_S (N : Nat) (a : List (Int × Int)) (b : List (Int × Int)) : Option Bool :=
  (equalq_S N a b).bind fun x_1 =>
  some x_1
noncomputable def likeq_sp (N : Nat) : List Spec := [sp_equalq N]
theorem likeq_all (N : Nat) : AllP (SpecOK Try.prog) (likeq_sp N) := ⟨sp_equalq_ok N, trivial⟩
noncomputable def likeq_c : Code := (Try.f53.body).getD .skip
noncomputable abbrev likeq_B : Body := { c := likeq_c, n := 8, res := [.tmp 4], outs := [⟨[.b], []⟩], m0 := 0 }
abbrev likeq_rt : altD likeq_B.outs → Option Bool := fun r => some r.1.1
abbrev likeq_st : Sta := ⟨[0, 1], ⟨[.sl (.pair (.int .i64) (.int .i64)), .sl (.pair (.int .i64) (.int .i64))], []⟩⟩
theorem likeq_eq (N : Nat) (a : List (Int × Int)) (b : List (Int × Int)) : ev (Z := Bool) Try.prog (likeq_sp N) likeq_B [] [] (some likeq_rt) 400 false [.c [0], .c [1]] (stL likeq_st ((a, b, ()), ())) (stH likeq_st ((a, b, ()), ())) = likeq_S N a b := by kernel_rfl
noncomputable def sp_likeq (N : Nat) : Spec := { f := 53, ins := ⟨[.sl (.pair (.int .i64) (.int .i64)), .sl (.pair (.int .i64) (.int .i64))], []⟩, outs := [⟨[.b], []⟩], run := fun p k => (likeq_S N p.1.1 p.1.2.1).bind fun r => k ((r, ()), ()) }
theorem sp_likeq_ok (N : Nat) : SpecOK Try.prog (sp_likeq N) := fn_sound (B := likeq_B) (loops := []) (leaves := []) (fun p => likeq_S N p.1.1 p.1.2.1) (fun r => ((r, ()), ())) likeq_rt (fun _ _ _ => rfl) (fun r z h => by cases h; rfl) Try.func53 (by kernel_rfl) (by kernel_rfl) (by kernel_rfl) rfl rfl (by kernel_rfl) (fun args w => Sem.pv_run _ _ _ (by kernel_rfl) w) (likeq_all N) mixed trivial (fun z E Xc hE hX hret => trivial) (fun p => likeq_eq N p.1.1 p.1.2.1)

def copyp_S (N : Nat) (l : List (Int × Int)) : Option (List (Int × Int)) :=
  grd (lmI (l.length : Int)) <|
  some (l.take (min l.length (List.replicate (l.length : Int).toNat ((0, 0) : (Int × Int))).length) ++ (List.replicate (l.length : Int).toNat ((0, 0) : (Int × Int))).drop (min l.length (List.replicate (l.length : Int).toNat ((0, 0) : (Int × Int))).length))
noncomputable def copyp_sp (N : Nat) : List Spec := []
theorem copyp_all (N : Nat) : AllP (SpecOK Try.prog) (copyp_sp N) := trivial
noncomputable def copyp_c : Code := (Try.f51.body).getD .skip
noncomputable abbrev copyp_B : Body := { c := copyp_c, n := 11, res := [.tmp 2], outs := [⟨[.sl (.pair (.int .i64) (.int .i64))], []⟩], m0 := 0 }
abbrev copyp_rt : altD copyp_B.outs → Option (List (Int × Int)) := fun r => some r.1.1
abbrev copyp_st : Sta := ⟨[0], ⟨[.sl (.pair (.int .i64) (.int .i64))], []⟩⟩
theorem copyp_eq (N : Nat) (l : List (Int × Int)) : ev (Z := (List (Int × Int))) Try.prog (copyp_sp N) copyp_B [] [] (some copyp_rt) 400 false [.c [0], .c [1]] (stL copyp_st ((l, ()), ())) (stH copyp_st ((l, ()), ())) = copyp_S N l := by kernel_rfl
noncomputable def sp_copyp (N : Nat) : Spec := { f := 51, ins := ⟨[.sl (.pair (.int .i64) (.int .i64))], []⟩, outs := [⟨[.sl (.pair (.int .i64) (.int .i64))], []⟩], run := fun p k => (copyp_S N p.1.1).bind fun r => k ((r, ()), ()) }
theorem sp_copyp_ok (N : Nat) : SpecOK Try.prog (sp_copyp N) := fn_sound (B := copyp_B) (loops := []) (leaves := []) (fun p => copyp_S N p.1.1) (fun r => ((r, ()), ())) copyp_rt (fun _ _ _ => rfl) (fun r z h => by cases h; rfl) Try.func51 (by kernel_rfl) (by kernel_rfl) (by kernel_rfl) rfl rfl (by kernel_rfl) (fun args w => Sem.pv_run _ _ _ (by kernel_rfl) w) (copyp_all N) mixed trivial (fun z E Xc hE hX hret => trivial) (fun p => copyp_eq N p.1.1)

def efaults_S (N : Nat) (x : List (List Int)) (x2 : List Int) (x3 : Int) (p : Int) (p2 : Int) (reading : List (Int × Int)) : Option Bool :=
  (great_S N x x2 x3).bind fun x_1 =>
  br x_1
    ((awake_S N).bind fun x_2 =>
    some x_2)
    (br (decide (14 < (reading.length : Int)))
      ((awake_S N).bind fun x_3 =>
      some x_3)
      ((copye_S N x x2 x3).bind fun (x_4, y_5, y_6) =>
      (copyp_S N reading).bind fun x_7 =>
      (faults_S N x_4 y_5 y_6 p p2 x_7).bind fun (x_8, y_9) =>
      (copye_S N x x2 x3).bind fun (x_10, y_11, y_12) =>
      (places_S N reading).bind fun x_13 =>
      (rfaults_S N x_10 y_11 y_12 p p2 x_13).bind fun (x_14, y_15) =>
      br (decide (x_8 = x_14))
        (br (decide (y_9 = y_15))
          ((same_S N x_4 y_5 y_6 x x2 x3).bind fun x_16 =>
          br x_16
            ((likeq_S N x_7 reading).bind fun x_17 =>
            br x_17
              ((awake_S N).bind fun x_18 =>
              some x_18)
              (some false))
            (some false))
          (some false))
        (some false)))
noncomputable def efaults_sp (N : Nat) : List Spec := [sp_faults N, sp_awake N, sp_copye N, sp_rfaults N, sp_great N, sp_places N, sp_same N, sp_likeq N, sp_copyp N]
theorem efaults_all (N : Nat) : AllP (SpecOK Try.prog) (efaults_sp N) := ⟨sp_faults_ok N, sp_awake_ok N, sp_copye_ok N, sp_rfaults_ok N, sp_great_ok N, sp_places_ok N, sp_same_ok N, sp_likeq_ok N, sp_copyp_ok N, trivial⟩
noncomputable def efaults_c : Code := (Try.f8.body).getD .skip
noncomputable abbrev efaults_B : Body := { c := efaults_c, n := 62, res := [.tmp 6], outs := [⟨[.b], []⟩], m0 := 0 }
abbrev efaults_rt : altD efaults_B.outs → Option Bool := fun r => some r.1.1
abbrev efaults_st : Sta := ⟨[0, 1, 2], ⟨[.agg [.sl (.sl (.int .i64)), .sl (.int .i64), .i .i64], .agg [.i .i64, .i .i64], .sl (.pair (.int .i64) (.int .i64))], []⟩⟩
theorem efaults_eq (N : Nat) (x : List (List Int)) (x2 : List Int) (x3 : Int) (p : Int) (p2 : Int) (reading : List (Int × Int)) : ev (Z := Bool) Try.prog (efaults_sp N) efaults_B [] [] (some efaults_rt) 400 false [.c [0], .c [1]] (stL efaults_st (((x, x2, x3, ()), (p, p2, ()), reading, ()), ())) (stH efaults_st (((x, x2, x3, ()), (p, p2, ()), reading, ()), ())) = efaults_S N x x2 x3 p p2 reading := by kernel_rfl
noncomputable def sp_efaults (N : Nat) : Spec := { f := 8, ins := ⟨[.agg [.sl (.sl (.int .i64)), .sl (.int .i64), .i .i64], .agg [.i .i64, .i .i64], .sl (.pair (.int .i64) (.int .i64))], []⟩, outs := [⟨[.b], []⟩], run := fun p k => (efaults_S N p.1.1.1 p.1.1.2.1 p.1.1.2.2.1 p.1.2.1.1 p.1.2.1.2.1 p.1.2.2.1).bind fun r => k ((r, ()), ()) }
theorem sp_efaults_ok (N : Nat) : SpecOK Try.prog (sp_efaults N) := fn_sound (B := efaults_B) (loops := []) (leaves := []) (fun p => efaults_S N p.1.1.1 p.1.1.2.1 p.1.1.2.2.1 p.1.2.1.1 p.1.2.1.2.1 p.1.2.2.1) (fun r => ((r, ()), ())) efaults_rt (fun _ _ _ => rfl) (fun r z h => by cases h; rfl) Try.func8 (by kernel_rfl) (by kernel_rfl) (by kernel_rfl) rfl rfl (by kernel_rfl) (fun args w => Sem.pv_run _ _ _ (by kernel_rfl) w) (efaults_all N) mixed trivial (fun z E Xc hE hX hret => trivial) (fun p => efaults_eq N p.1.1.1 p.1.1.2.1 p.1.1.2.2.1 p.1.2.1.1 p.1.2.1.2.1 p.1.2.2.1)

end Go.Proofs.Ytfcnhnbnjdccfaa

namespace Go.Proofs.Ytfcnhnbnjdccfaa
set_option linter.all false
open Go

section
variable {N : Nat} {T : List (List Int)} {H : List Int} {f : Int}
/-! ### The first least one -/
def clS (v : Int × Int → Int) (s : (Int × Int) × Int) (p : Int × Int) : (Int × Int) × Int := if v p < s.2 then (p, v p) else s
theorem clS_ok (v : Int × Int → Int) : ∀ (P : List (Int × Int)) (s : (Int × Int) × Int), v s.1 = s.2 →
    v (P.foldl (clS v) s).1 = (P.foldl (clS v) s).2 ∧ (P.foldl (clS v) s).2 ≤ s.2 ∧ (∀ p ∈ P, (P.foldl (clS v) s).2 ≤ v p) ∧ (P.foldl (clS v) s = s ∨ (P.foldl (clS v) s).1 ∈ P ∧ (P.foldl (clS v) s).2 < s.2) ∧
    (∀ j (hj : j < P.length), v P[j] = (P.foldl (clS v) s).2 → (P.foldl (clS v) s).1 ∈ P.take (j + 1) ∨ (P.foldl (clS v) s).1 = s.1)
  | [], s, h => ⟨h, Int.le_refl _, (fun _ h => by cases h), .inl rfl, fun j hj => by simp at hj⟩
  | p :: P, s, h => by
    rw [List.foldl_cons]
    have hs : clS v s p = (p, v p) ∧ v p < s.2 ∨ clS v s p = s ∧ s.2 ≤ v p := by
      unfold clS
      by_cases c : v p < s.2
      · exact .inl ⟨if_pos c, c⟩
      · exact .inr ⟨if_neg c, by omega⟩
    rcases hs with ⟨e, c⟩ | ⟨e, c⟩
    · rw [e]
      obtain ⟨h1, h2, h3, h4, h5⟩ := clS_ok v P (p, v p) rfl
      dsimp only at h2
      refine ⟨h1, by omega, ?_, .inr ⟨?_, by omega⟩, ?_⟩
      · intro q hq
        rcases List.mem_cons.1 hq with rfl | hq
        · exact h2
        · exact h3 q hq
      · rcases h4 with h4 | h4
        · rw [h4]; simp
        · simp [h4.1]
      · intro j hj hv
        cases j with
        | zero =>
          simp only [List.getElem_cons_zero] at hv
          rcases h4 with h4 | h4
          · rw [h4]; simp
          · have := h4.2; dsimp only at this; omega
        | succ j =>
          simp only [List.getElem_cons_succ] at hv
          rw [List.take_succ_cons]
          rcases h5 j (by simpa using hj) hv with h6 | h6
          · exact .inl (List.mem_cons_of_mem _ h6)
          · rw [h6]; simp
    · rw [e]
      obtain ⟨h1, h2, h3, h4, h5⟩ := clS_ok v P s h
      refine ⟨h1, h2, ?_, ?_, ?_⟩
      · intro q hq
        rcases List.mem_cons.1 hq with rfl | hq
        · omega
        · exact h3 q hq
      · rcases h4 with h4 | h4
        · exact .inl h4
        · exact .inr ⟨List.mem_cons_of_mem _ h4.1, h4.2⟩
      · intro j hj hv
        cases j with
        | zero =>
          simp only [List.getElem_cons_zero] at hv
          rcases h4 with h4 | h4
          · rw [h4]; exact .inr rfl
          · have := h4.2; omega
        | succ j =>
          simp only [List.getElem_cons_succ] at hv
          rw [List.take_succ_cons]
          rcases h5 j (by simpa using hj) hv with h6 | h6
          · exact .inl (List.mem_cons_of_mem _ h6)
          · exact .inr h6
def tt2 (_ _ : Nat) : Bool := true
/-- All pairs of texts. -/
def prs (n : Nat) : List (Int × Int) := allTo tt2 n 0 n
theorem mem_prs {n : Nat} {x : Int × Int} : x ∈ prs n ↔ 0 ≤ x.1 ∧ x.1 ≤ x.2 ∧ x.2 < n := by
  unfold prs
  rw [mem_allTo]
  constructor
  · rintro ⟨i, j, h1, h2, h3, _, rfl⟩; dsimp only; omega
  · obtain ⟨a, b⟩ := x
    dsimp only
    intro h; exact ⟨a.toNat, b.toNat, by omega, by omega, by omega, rfl, by rw [Prod.mk.injEq]; omega⟩
theorem prs_len (n : Nat) : (prs n).length ≤ n * n := allTo_len tt2 n 0 n
theorem prs_cons {n : Nat} (h : 1 ≤ n) : ∃ l, prs n = (0, 0) :: l := by
  obtain ⟨n, rfl⟩ : ∃ m, n = m + 1 := ⟨n - 1, by omega⟩
  have e1 : rowTo tt2 0 0 (n + 1) = (0, 0) :: ((List.range' 1 n).filter (tt2 0)).map (fun (x : Nat) => (((0 : Nat) : Int), (x : Int))) := by
    unfold rowTo
    rw [Nat.sub_zero, List.range'_succ, List.filter_cons_of_pos rfl, List.map_cons]; rfl
  have e2 : allTo tt2 (n + 1) 0 (n + 1) = rowTo tt2 0 (0 + 0) (n + 1) ++ (((List.range n).map Nat.succ).flatMap fun x => rowTo tt2 x (x + 0) (n + 1)) := by
    unfold allTo
    conv => lhs; rw [List.range_succ_eq_map]
    rw [List.flatMap_cons]
  unfold prs
  rw [e2, Nat.zero_add, e1]
  exact ⟨_, rfl⟩
theorem lpairs_l2_p {a s : Nat} {u u2 : Int} {O : List (Int × Int)} (hT : T.length ≤ 100) (ha : a < T.length) (hO : O.length ≤ 10000) : ∀ (n k : Nat), T.length < n + k → s ≤ k → k ≤ T.length →
    lpairs_l2 N n a k u u2 T H f (O ++ rowTo tt2 a s k) = some (u, u2, T, H, f, O ++ rowTo tt2 a s T.length)
  | 0, k, h1, h2, h3 => by omega
  | n + 1, k, h1, h2, h3 => by
    unfold lpairs_l2
    by_cases c : k < T.length
    · rw [br_dec (by omega)]
      have rl := rowTo_len tt2 a s k
      have next := lpairs_l2_p (s := s) (u := u) (u2 := u2) hT ha hO n (k + 1) (by omega) (by omega) (by omega)
      rw [show ((k + 1 : Nat) : Int) = (k : Int) + 1 by omega] at next
      rw [lim_eq (by simp; omega), chk_eq (by omega), List.append_assoc, ← rowTo_yes h2 rfl]
      exact next
    · have e : k = T.length := by omega
      rw [br_ndec (by omega), e]
theorem lpairs_l1_p (hT : T.length ≤ 20) (hN : T.length < N) : ∀ (n k : Nat), T.length < n + k → k ≤ T.length → lpairs_l1 N n (T.length : Int) k T H f (allTo tt2 T.length 0 k) = some (prs T.length)
  | 0, k, h1, h2 => by omega
  | n + 1, k, h1, h2 => by
    unfold lpairs_l1
    by_cases c : k < T.length
    · have al := allTo_len tt2 T.length 0 k
      have : k * T.length ≤ 20 * 20 := Nat.mul_le_mul (by omega) (by omega)
      rw [br_dec (by omega)]
      have e := lpairs_l2_p (N := N) (T := T) (H := H) (f := f) (s := k) (u := (T.length : Int)) (u2 := (k : Int)) (O := allTo tt2 T.length 0 k) (by omega) c (by omega) N k (by omega) (by omega) (by omega)
      rw [rowTo_zero, List.append_nil] at e
      rw [e]
      simp only [Option.bind_some]
      rw [chk_eq (by omega)]
      have next := lpairs_l1_p hT hN n (k + 1) (by omega) (by omega)
      rw [allTo_succ, Nat.add_zero, show ((k + 1 : Nat) : Int) = (k : Int) + 1 by omega] at next
      exact next
    · have e : k = T.length := by omega
      rw [br_ndec (by omega), e]; rfl
theorem lpairs_v (hT : T.length ≤ 20) (hN : T.length < N) : lpairs_S N T H f = some (prs T.length) := by
  unfold lpairs_S
  have := lpairs_l1_p (N := N) (T := T) (H := H) (f := f) hT hN N 0 (by omega) (by omega)
  rw [show allTo tt2 T.length 0 0 = [] from rfl] at this
  rw [show ((0 : Nat) : Int) = 0 from rfl] at this
  rw [this]; rfl
def vP (T : List (List Int)) (H : List Int) (p : Int × Int) : Int := leastV H (T.getD p.1.toNat []) (T.getD p.2.toNat [])
/-- The closest pair, and its least faults. -/
def clV (T : List (List Int)) (H : List Int) : (Int × Int) × Int := (prs T.length).foldl (clS (vP T H)) ((0, 0), vP T H (0, 0))
theorem closest_l2_p (hN : 20 ≤ N) (h : Fine T H f) {a s : Nat} {u u2 g g2 : Int} {O : List (Int × Int)} {z : (Int × Int) × Int} (ha : a < T.length) : ∀ (n k : Nat), T.length < n + k → s ≤ k → k ≤ T.length →
    closest_l2 N n ((O ++ rowTo tt2 a s k).foldl (clS (vP T H)) z).2 a k u u2 T H f g g2 ((O ++ rowTo tt2 a s k).foldl (clS (vP T H)) z).1.1 ((O ++ rowTo tt2 a s k).foldl (clS (vP T H)) z).1.2
     = some (((O ++ rowTo tt2 a s T.length).foldl (clS (vP T H)) z).2, u, u2, T, H, f, g, g2, ((O ++ rowTo tt2 a s T.length).foldl (clS (vP T H)) z).1.1, ((O ++ rowTo tt2 a s T.length).foldl (clS (vP T H)) z).1.2)
  | 0, k, h1, h2, h3 => by omega
  | n + 1, k, h1, h2, h3 => by
    unfold closest_l2
    have hT := h.n
    by_cases c : k < T.length
    · rw [br_dec (by omega), eleast_v hN h (by omega) (by omega)]
      simp only [Option.bind_some, Int.toNat_natCast]
      have next := closest_l2_p hN h (s := s) (u := u) (u2 := u2) (g := g) (g2 := g2) (O := O) (z := z) ha n (k + 1) (by omega) (by omega) (by omega)
      rw [show ((k + 1 : Nat) : Int) = (k : Int) + 1 by omega, rowTo_yes h2 (show tt2 a k = true from rfl), ← List.append_assoc, List.foldl_append (l := O ++ rowTo tt2 a s k)] at next
      generalize (O ++ rowTo tt2 a s k).foldl (clS (vP T H)) z = S at next ⊢
      rw [List.foldl_cons, List.foldl_nil] at next
      have ev : leastV H (T.getD a []) (T.getD k []) = vP T H ((a : Int), (k : Int)) := by simp [vP]
      rw [ev]
      unfold clS at next
      by_cases d : vP T H ((a : Int), (k : Int)) < S.2
      · rw [br_dec d]
        rw [if_pos d] at next
        unfold closest_j1
        rw [chk_eq (by omega)]
        exact next
      · rw [br_ndec d]
        rw [if_neg d] at next
        unfold closest_j1
        rw [chk_eq (by omega)]
        exact next
    · have e : k = T.length := by omega
      rw [br_ndec (by omega), e]
theorem closest_l1_p (hN : 20 ≤ N) (h : Fine T H f) {g g2 : Int} {z : (Int × Int) × Int} : ∀ (n k : Nat), T.length < n + k → k ≤ T.length →
    closest_l1 N n ((allTo tt2 T.length 0 k).foldl (clS (vP T H)) z).2 (T.length : Int) k T H f g g2 ((allTo tt2 T.length 0 k).foldl (clS (vP T H)) z).1.1 ((allTo tt2 T.length 0 k).foldl (clS (vP T H)) z).1.2
     = some (((prs T.length).foldl (clS (vP T H)) z).2, g, g2, ((prs T.length).foldl (clS (vP T H)) z).1.1, ((prs T.length).foldl (clS (vP T H)) z).1.2)
  | 0, k, h1, h2 => by omega
  | n + 1, k, h1, h2 => by
    unfold closest_l1
    have hT := h.n
    by_cases c : k < T.length
    · rw [br_dec (by omega)]
      have e := closest_l2_p (N := N) hN h (s := k) (u := (T.length : Int)) (u2 := (k : Int)) (g := g) (g2 := g2) (O := allTo tt2 T.length 0 k) (z := z) c N k (by omega) (by omega) (by omega)
      rw [rowTo_zero, List.append_nil] at e
      rw [e]
      simp only [Option.bind_some]
      rw [chk_eq (by omega)]
      have next := closest_l1_p hN h (g := g) (g2 := g2) (z := z) n (k + 1) (by omega) (by omega)
      rw [allTo_succ, Nat.add_zero, show ((k + 1 : Nat) : Int) = (k : Int) + 1 by omega] at next
      exact next
    · have e : k = T.length := by omega
      rw [br_ndec (by omega), e]; rfl
theorem closest_v (hN : 20 ≤ N) (h : Fine T H f) : closest_S N T H f = some ((clV T H).1.1, (clV T H).1.2, (clV T H).2, 0) := by
  unfold closest_S
  have hT := h.n
  rw [check_v hN, h.check]
  simp only [Option.bind_some, decide_true, Bool.not_true, br_false]
  rw [eleast_v hN h (by omega) (by omega)]
  simp only [Option.bind_some]
  have := closest_l1_p (N := N) hN h (g := 0) (g2 := 0) (z := ((0, 0), vP T H (0, 0))) N 0 (by omega) (by omega)
  rw [show allTo tt2 T.length 0 0 = [] from rfl] at this
  simp only [List.foldl_nil] at this
  rw [show ((0 : Nat) : Int) = 0 from rfl] at this
  rw [show vP T H (0, 0) = leastV H (T.getD (0 : Int).toNat []) (T.getD (0 : Int).toNat []) from rfl] at this
  rw [this]; rfl
/-! ### The texts that are in all pairs -/
def mustP (t : Int) (p : Int × Int) : Bool := decide (p.1 = t) || decide (p.2 = t)
theorem ixfm_gen (t : Int) : ∀ (n : Nat) (s : List (Int × Int)) (u u2 : Int), ixfm_l1 N n s u u2 t = (ixL (fun p => some (!(mustP t p))) n s u u2).bind fun e => match e with | .inl i => some (.inl (i, t)) | .inr _ => some (.inr t)
  | 0, _, _, _ => rfl
  | n + 1, s, u, u2 => by
    unfold ixfm_l1 ixL
    by_cases c : u2 < u
    · rw [br_dec c, br_dec c]
      unfold idx
      by_cases c0 : 0 ≤ u2
      · rw [if_pos c0, if_pos c0]
        cases hx : s[u2.toNat]? with
        | none => rfl
        | some p =>
          have e1 : every1m_S N p.1 p.2 t = some (!(mustP t p), t) := by
            unfold every1m_S musts1_S mustP
            by_cases c1 : p.1 = t
            · rw [br_dec c1]; simp [c1]
            · rw [br_ndec c1]; simp [c1]
          dsimp only
          rw [e1]
          simp only [Option.bind_some]
          cases mustP t p with
          | false => rfl
          | true =>
            simp only [Bool.not_true, br_false]
            unfold chk
            cases okI (u2 + 1) with
            | false => rfl
            | true => exact ixfm_gen t n s u (u2 + 1)
      · rw [if_neg c0, if_neg c0]; rfl
    · rw [br_ndec c, br_ndec c]; rfl
theorem everym_v {s : List (Int × Int)} {t : Int} (hs : s.length ≤ 1000) (hN : s.length < N) : everym_S N s t = some (s.all (mustP t)) := by
  obtain ⟨r, h1, h2⟩ := ixL_ok (f := fun p => some (!(mustP t p))) (p := fun p => !(mustP t p)) (s := s) (fun _ _ => rfl) (by omega) N 0 (by omega) (by omega)
  unfold everym_S cofm_S ixfm_S
  rw [ixfm_gen]
  rw [show ((0 : Nat) : Int) = 0 from rfl] at h1
  rw [h1]
  rw [← any_not]
  cases r with
  | inl i => simp only [List.drop_zero] at h2; simp [h2.1.1, h2.2]
  | inr u => simp only [List.drop_zero] at h2; simp [h2]
/-- The texts that are in all of these pairs. -/
def mustL (P : List (Int × Int)) (k : Nat) : List Int := ((List.range k).filter fun (t : Nat) => P.all (mustP t)).map fun (x : Nat) => (x : Int)
theorem mustL_len (P : List (Int × Int)) (k : Nat) : (mustL P k).length ≤ k := by
  unfold mustL
  have := List.length_filter_le (fun (t : Nat) => P.all (mustP t)) (List.range k)
  simp at this ⊢; omega
theorem mem_mustL {P : List (Int × Int)} {k o : Nat} : (o : Int) ∈ mustL P k ↔ o < k ∧ P.all (mustP o) = true := by
  unfold mustL
  simp only [List.mem_map, List.mem_filter, List.mem_range]
  constructor
  · rintro ⟨x, ⟨h1, h2⟩, h3⟩
    have : x = o := by omega
    subst this; exact ⟨h1, h2⟩
  · rintro ⟨h1, h2⟩; exact ⟨o, ⟨h1, h2⟩, rfl⟩
theorem mustL_succ (P : List (Int × Int)) (k : Nat) : mustL P (k + 1) = mustL P k ++ (if P.all (mustP k) = true then [(k : Int)] else []) := by
  unfold mustL
  rw [List.range_succ, List.filter_append, List.map_append]
  by_cases hp : P.all (mustP k) = true <;> simp only [hp, List.filter_cons, List.filter_nil, if_true, if_false, List.map_cons, List.map_nil, Bool.false_eq_true]
theorem musts_l1_p {P : List (Int × Int)} {m : Nat} (hP : P.length ≤ 1000) (hN : P.length < N) (hm : m ≤ 1000) : ∀ (n k : Nat), m < n + k → k ≤ m → musts_l1 N n P (m : Int) k (mustL P k) = some (mustL P m)
  | 0, k, h1, h2 => by omega
  | n + 1, k, h1, h2 => by
    unfold musts_l1
    by_cases c : k < m
    · rw [br_dec (by omega), everym_v hP hN]
      simp only [Option.bind_some]
      have next := musts_l1_p hP hN hm n (k + 1) (by omega) (by omega)
      rw [show ((k + 1 : Nat) : Int) = (k : Int) + 1 by omega, mustL_succ] at next
      have wl := mustL_len P k
      by_cases d : P.all (mustP k) = true
      · rw [if_pos d] at next
        rw [d, br_true, lim_eq (by simp; omega)]
        unfold musts_j1
        rw [chk_eq (by omega)]
        exact next
      · rw [if_neg d, List.append_nil] at next
        rw [Bool.not_eq_true] at d
        rw [d, br_false]
        unfold musts_j1
        rw [chk_eq (by omega)]
        exact next
    · have e : k = m := by omega
      rw [br_ndec (by omega), e]
theorem musts_v (hN : 30 ≤ N) (h : Fine T H f) : musts_S N T H f = some (if allTo (pE T H f) T.length 0 T.length = [] then ([], 6) else (mustL (allTo (pE T H f) T.length 0 T.length) T.length, 0)) := by
  unfold musts_S
  have hT := h.n
  have al := allTo_len (pE T H f) T.length 0 T.length
  have : T.length * T.length ≤ 5 * 5 := Nat.mul_le_mul (by omega) (by omega)
  rw [check_v (by omega), h.check]
  simp only [Option.bind_some, decide_true, Bool.not_true, br_false]
  rw [epairs_v (by omega) h]
  simp only [Option.bind_some]
  by_cases c : allTo (pE T H f) T.length 0 T.length = []
  · rw [if_pos c, c]; rfl
  · have : (allTo (pE T H f) T.length 0 T.length).length ≠ 0 := fun h => c (List.eq_nil_of_length_eq_zero h)
    rw [if_neg c, br_ndec (by omega)]
    have := musts_l1_p (N := N) (P := allTo (pE T H f) T.length 0 T.length) (m := T.length) (by omega) (by omega) (by omega) N 0 (by omega) (by omega)
    rw [show mustL (allTo (pE T H f) T.length 0 T.length) 0 = [] from rfl, show ((0 : Nat) : Int) = 0 from rfl] at this
    rw [this]; rfl

/-! ### The law -/
theorem eother_l2_p (hN : 20 ≤ N) (h : Fine T H f) {least u2 u3 best best2 : Int} {can u : List (Int × Int)} {musts : List Int} {met : Bool} {p p2 : Int} (hp : 0 ≤ p ∧ p < T.length) (hp2 : 0 ≤ p2 ∧ p2 < T.length) : ∀ (n k : Nat), T.length < n + k → k ≤ T.length →
    eother_l2 N n least can musts met (vP T H (p, p2)) u u2 u3 (T.length : Int) k T H f best best2 p p2 = some (.inr (least, can, musts, met, u, u2, u3, T, H, f, best, best2))
  | 0, k, h1, h2 => by omega
  | n + 1, k, h1, h2 => by
    unfold eother_l2
    have hT := h.n
    by_cases c : k < T.length
    · have l1 := h.l (T.getD p.toNat []) (getD_mem (by omega))
      have l2 := h.l (T.getD p2.toNat []) (getD_mem (by omega))
      have l3 := h.l (T.getD k []) (getD_mem (by omega))
      have hH := h.h
      have d1 := leastV_far H (T.getD p.toNat []) (T.getD p2.toNat []) (T.getD k [])
      have d2 := leastV_far H (T.getD p.toNat []) (T.getD k []) (T.getD p2.toNat [])
      rw [distI_symm (T.getD k [])] at d2
      have n1 := distI_nonneg (T.getD p2.toNat []) (T.getD k [])
      have n2 : distI (T.getD p2.toNat []) (T.getD k []) ≤ 12 := by unfold distI; omega
      have b1 := tv_bnd mayA (H := H) l1.2 l2.2
      have b2 := tv_bnd mayA (H := H) l1.2 l3.2
      rw [br_dec (by omega), least_v hN h hp (by omega), dist_v hN h hp2 (by omega)]
      simp only [Option.bind_some, decide_true, Bool.not_true, br_false, Int.toNat_natCast]
      have e : vP T H (p, p2) = leastV H (T.getD p.toNat []) (T.getD p2.toNat []) := rfl
      have v1 : leastV H (T.getD p.toNat []) (T.getD p2.toNat []) = ((T.getD p.toNat []).length : Int) + (T.getD p2.toNat []).length + H.length - 2 * (tv mayA H (T.getD p.toNat []) (T.getD p2.toNat []) (0, 0, 0)).1 := rfl
      have v2 : leastV H (T.getD p.toNat []) (T.getD k []) = ((T.getD p.toNat []).length : Int) + (T.getD k []).length + H.length - 2 * (tv mayA H (T.getD p.toNat []) (T.getD k []) (0, 0, 0)).1 := rfl
      have next := eother_l2_p hN h (least := least) (u := u) (u2 := u2) (u3 := u3) (best := best) (best2 := best2) (can := can) (musts := musts) (met := met) hp hp2 n (k + 1) (by omega) (by omega)
      rw [show ((k + 1 : Nat) : Int) = (k : Int) + 1 by omega] at next
      rw [chk_eq (by omega), br_ndec (by omega), chk_eq (by omega), br_ndec (by omega), chk_eq (by omega)]
      exact next
    · rw [br_ndec (by omega)]
theorem eother_l1_p (hN : 30 ≤ N) (h : Fine T H f) {can : List (Int × Int)} {musts : List Int} : ∀ (n k : Nat), (prs T.length).length < n + k → k ≤ (prs T.length).length →
    eother_l1 N n (clV T H).2 can musts (decide ((clV T H).1 ∈ (prs T.length).take k)) (prs T.length) ((prs T.length).length : Int) k T H f (clV T H).1.1 (clV T H).1.2 = some (.inr (.inr (can, musts, true, T, H, f)))
  | 0, k, h1, h2 => by omega
  | n + 1, k, h1, h2 => by
    unfold eother_l1
    have hT := h.n
    have pl := prs_len T.length
    have : T.length * T.length ≤ 5 * 5 := Nat.mul_le_mul (by omega) (by omega)
    have ht0 := prs_cons hT.1
    obtain ⟨q1, q2, q3, q4, q5⟩ := clS_ok (vP T H) (prs T.length) ((0, 0), vP T H (0, 0)) rfl
    have hb : (clV T H).1 ∈ prs T.length := by
      rcases q4 with q4 | q4
      · have : (clV T H).1 = (0, 0) := by unfold clV; rw [q4]
        obtain ⟨tl, ht⟩ := ht0
        rw [this, ht]; simp
      · exact q4.1
    by_cases c : k < (prs T.length).length
    · have hx : (prs T.length).getD k (0, 0) ∈ prs T.length := getD_mem c
      have hx2 := mem_prs.1 hx
      have hge := q3 _ hx
      have e0 : (prs T.length)[k] = (prs T.length).getD k (0, 0) := by simp [List.getD, c]
      have hmet : vP T H ((prs T.length).getD k (0, 0)) = (clV T H).2 → (clV T H).1 ∈ (prs T.length).take (k + 1) := by
        intro he
        rcases q5 k c (by rw [e0]; exact he) with h6 | h6
        · exact h6
        · have : (clV T H).1 = (0, 0) := h6
          obtain ⟨tl, ht⟩ := ht0
          rw [this, ht, List.take_succ_cons]; simp
      have htk : (prs T.length).take (k + 1) = (prs T.length).take k ++ [(prs T.length).getD k (0, 0)] := by
        rw [List.take_add_one]; simp [List.getD, c]
      rw [htk] at hmet
      have next := eother_l1_p hN h (can := can) (musts := musts) n (k + 1) (by omega) (by omega)
      rw [show ((k + 1 : Nat) : Int) = (k : Int) + 1 by omega, htk] at next
      have q1' : vP T H (clV T H).1 = (clV T H).2 := q1
      have hge' : (clV T H).2 ≤ vP T H ((prs T.length).getD k (0, 0)) := hge
      have hk : (prs T.length)[((k : Nat) : Int).toNat]? = some ((prs T.length).getD k (0, 0)) := by simp [List.getD, c]
      clear e0 htk hge q1 q2 q3 q4 q5 ht0
      generalize (prs T.length).getD k (0, 0) = p at *
      generalize clV T H = C at *
      obtain ⟨⟨c1, c2⟩, cl⟩ := C
      obtain ⟨p1, p2⟩ := p
      dsimp only at *
      rw [br_dec (by omega), idx_eq (by omega) hk]
      rw [least_v (by omega) h (by omega) (by omega)]
      simp only [Option.bind_some, decide_true, Bool.not_true, br_false]
      have ev : leastV H (T.getD p1.toNat []) (T.getD p2.toNat []) = vP T H (p1, p2) := rfl
      rw [ev]
      rw [br_ndec (by omega)]
      have l2 := fun m => eother_l2_p (N := N) (by omega) h (least := cl) (u := prs T.length) (u2 := ((prs T.length).length : Int)) (u3 := (k : Int)) (best := c1) (best2 := c2) (can := can) (musts := musts) (met := m) (p := p1) (p2 := p2) (by omega) (by omega) N 0 (by omega) (by omega)
      rw [show ((0 : Nat) : Int) = 0 from rfl] at l2
      simp only [l2, Option.bind_some]
      have hck : ∀ x : Option (Unit ⊕ (Unit ⊕ ((List (Int × Int)) × List Int × Bool × List (List Int) × List Int × Int))), chk ((k : Int) + 1) x = x := fun x => chk_eq (by omega)
      simp only [hck]
      have hB : (decide (p1 = c1) && decide (p2 = c2)) = decide ((c1, c2) = (p1, p2)) := by
        rw [Bool.eq_iff_iff]
        simp only [Bool.and_eq_true, decide_eq_true_eq, Prod.mk.injEq]
        constructor
        · rintro ⟨rfl, rfl⟩; exact ⟨rfl, rfl⟩
        · rintro ⟨rfl, rfl⟩; exact ⟨rfl, rfl⟩
      rw [hB]
      have hM : decide ((c1, c2) ∈ (prs T.length).take k ++ [(p1, p2)]) = (decide ((c1, c2) ∈ (prs T.length).take k) || decide ((c1, c2) = (p1, p2))) := by
        rw [Bool.eq_iff_iff]
        simp only [List.mem_append, List.mem_singleton, decide_eq_true_eq, Bool.or_eq_true]
      have hM2 : vP T H (p1, p2) = cl → decide ((c1, c2) ∈ (prs T.length).take k) = false → decide ((c1, c2) = (p1, p2)) = true := by
        intro h1 h2
        have h3 := hmet h1
        rcases List.mem_append.1 h3 with h3 | h3
        · simp [h3] at h2
        · simpa using h3
      have hC : decide ((c1, c2) = (p1, p2)) = true → vP T H (p1, p2) = cl := by
        intro h1
        rw [decide_eq_true_eq] at h1
        rw [← h1]; exact q1'
      rw [hM] at next
      generalize decide ((c1, c2) ∈ (prs T.length).take k) = M at *
      generalize decide ((c1, c2) = (p1, p2)) = B at *
      cases B with
      | true =>
        have hv := hC rfl
        simp only [br_true, hv, decide_true, Bool.not_true, br_false, Bool.or_true] at next ⊢
        cases M <;> simp only [Bool.not_true, Bool.not_false, br_true, br_false] <;> exact next
      | false =>
        simp only [br_false, Bool.not_false, br_true, Bool.or_false] at next ⊢
        by_cases d : vP T H (p1, p2) = cl
        · have : M = true := by
            cases M with
            | true => rfl
            | false => exact absurd (hM2 d rfl) (by decide)
          subst this
          simp only [d, decide_true, br_true, Bool.not_true, br_false]
          exact next
        · rw [br_ndec d]
          cases M <;> simp only [br_true, br_false] <;> exact next
    · have e : k = (prs T.length).length := by omega
      rw [br_ndec (by omega), e, List.take_length, decide_eq_true hb]
theorem eother_l4_p {can c2 : List (Int × Int)} {musts : List Int} {met : Bool} {t u u2 : Int} (hc : c2.length ≤ 1000) : ∀ (n k : Nat) (all : Bool), c2.length < n + k → k ≤ c2.length →
    eother_l4 N n can musts met t all u u2 c2 (c2.length : Int) k T H f = some (can, musts, met, t, (all && (c2.drop k).all (mustP t)), u, u2, T, H, f)
  | 0, k, all, h1, h2 => by omega
  | n + 1, k, all, h1, h2 => by
    unfold eother_l4
    by_cases c : k < c2.length
    · have hd : c2.drop k = c2.getD k (0, 0) :: c2.drop (k + 1) := by
        rw [List.drop_eq_getElem_cons c]; simp [List.getD, c]
      have hk : c2[((k : Nat) : Int).toNat]? = some (c2.getD k (0, 0)) := by simp [List.getD, c]
      generalize c2.getD k (0, 0) = p at *
      rw [br_dec (by omega), idx_eq (by omega) hk]
      rw [hd, List.all_cons]
      have next := fun a => eother_l4_p (can := can) (musts := musts) (met := met) (t := t) (u := u) (u2 := u2) hc n (k + 1) a (by omega) (by omega)
      rw [show ((k + 1 : Nat) : Int) = (k : Int) + 1 by omega] at next
      cases all with
      | false =>
        rw [br_false, chk_eq (by omega), next]
        simp
      | true =>
        rw [br_true]
        by_cases d : p.1 = t
        · rw [br_dec d, chk_eq (by omega), next]
          simp [mustP, d]
        · rw [br_ndec d, chk_eq (by omega), next]
          simp [mustP, d]
    · have e : k = c2.length := by omega
      rw [br_ndec (by omega), e, List.drop_length]; simp
theorem eother_l5_p (hN : 30 ≤ N) (h : Fine T H f) {musts : List Int} {met : Bool} {t : Nat} {u u2 : Int} (ht : t < T.length) : ∀ (n k : Nat), T.length < n + k → k ≤ T.length →
    eother_l5 N n (allTo (pE T H f) T.length 0 T.length) musts met t (withL T H f t T.length) u u2 (T.length : Int) k T H f = some (.inr (allTo (pE T H f) T.length 0 T.length, musts, met, u, u2, T, H, f))
  | 0, k, h1, h2 => by omega
  | n + 1, k, h1, h2 => by
    unfold eother_l5
    have hT := h.n
    have al := allTo_len (pE T H f) T.length 0 T.length
    have : T.length * T.length ≤ 5 * 5 := Nat.mul_le_mul (by omega) (by omega)
    have wl := withL_len T H f t T.length
    by_cases c : k < T.length
    · rw [br_dec (by omega), containsi_v (by omega) (by omega), containsp_v (by omega) (by omega)]
      simp only [Option.bind_some]
      have sy : pE T H f t k = pE T H f k t := by simp only [pE]; rw [leastV_sym]
      have e1 : (withL T H f t T.length).contains (k : Int) = pE T H f t k := by
        rw [Bool.eq_iff_iff, List.contains_iff_mem, mem_withL]
        exact ⟨fun h => h.2, fun h => ⟨c, h⟩⟩
      have e2 : (allTo (pE T H f) T.length 0 T.length).contains (min (t : Int) (k : Int), max (t : Int) (k : Int)) = pE T H f t k := by
        rcases Nat.le_total t k with h6 | h6
        · rw [show min (t : Int) k = ((t : Nat) : Int) by omega, show max (t : Int) k = ((k : Nat) : Int) by omega]
          exact allTo_contains ht (by omega) c
        · rw [show min (t : Int) k = ((k : Nat) : Int) by omega, show max (t : Int) k = ((t : Nat) : Int) by omega, sy]
          exact allTo_contains c (by omega) ht
      rw [e1, e2]
      simp only [beq_self_eq_true, Bool.not_true, br_false]
      rw [chk_eq (by omega)]
      have next := eother_l5_p hN h (musts := musts) (met := met) (u := u) (u2 := u2) ht n (k + 1) (by omega) (by omega)
      rw [show ((k + 1 : Nat) : Int) = (k : Int) + 1 by omega] at next
      exact next
    · rw [br_ndec (by omega)]
theorem eother_l3_p (hN : 30 ≤ N) (h : Fine T H f) {musts : List Int} {met : Bool} (hm : musts.length ≤ 100 ∧ musts.length < N) (hc : ∀ t : Nat, t < T.length → musts.contains (t : Int) = (decide (0 < ((allTo (pE T H f) T.length 0 T.length).length : Int)) && (allTo (pE T H f) T.length 0 T.length).all (mustP t))) : ∀ (n k : Nat), T.length < n + k → k ≤ T.length →
    eother_l3 N n (allTo (pE T H f) T.length 0 T.length) musts met (T.length : Int) k T H f = some (.inr (.inr met))
  | 0, k, h1, h2 => by omega
  | n + 1, k, h1, h2 => by
    unfold eother_l3
    have hT := h.n
    have al := allTo_len (pE T H f) T.length 0 T.length
    have : T.length * T.length ≤ 5 * 5 := Nat.mul_le_mul (by omega) (by omega)
    by_cases c : k < T.length
    · rw [br_dec (by omega)]
      have e4 := eother_l4_p (N := N) (T := T) (H := H) (f := f) (can := allTo (pE T H f) T.length 0 T.length) (c2 := allTo (pE T H f) T.length 0 T.length) (musts := musts) (met := met) (t := (k : Int)) (u := (T.length : Int)) (u2 := (k : Int)) (by omega) N 0 (decide (0 < ((allTo (pE T H f) T.length 0 T.length).length : Int))) (by omega) (by omega)
      rw [show ((0 : Nat) : Int) = 0 from rfl, List.drop_zero] at e4
      rw [e4]
      simp only [Option.bind_some]
      rw [with_v (by omega) h (by omega)]
      simp only [Option.bind_some, decide_true, Bool.not_true, br_false, Int.toNat_natCast]
      rw [containsi_v (by omega) (by omega), hc k c]
      simp only [Option.bind_some, beq_self_eq_true, Bool.not_true, br_false]
      have e5 := eother_l5_p (N := N) hN h (musts := musts) (met := met) (u := (T.length : Int)) (u2 := (k : Int)) c N 0 (by omega) (by omega)
      rw [show ((0 : Nat) : Int) = 0 from rfl] at e5
      rw [e5]
      simp only [Option.bind_some]
      rw [chk_eq (by omega)]
      have next := eother_l3_p hN h (met := met) hm hc n (k + 1) (by omega) (by omega)
      rw [show ((k + 1 : Nat) : Int) = (k : Int) + 1 by omega] at next
      exact next
    · rw [br_ndec (by omega)]
theorem eother_true {ns : List Int} (h1 : ns.length ≤ 9223372036854775807) : eother_S 1100 ns = some true := by
  unfold eother_S hang_S
  simp only [Option.bind_some]
  obtain ⟨T, H, f, b2, b3, e, hb, hT, hn, hH, hl, hf⟩ := made_p (N := 1100) (by omega) (tx := 4) (wo := 5) (he := 8) (by omega) (by omega) (by omega) (b := ns) (b2 := 0) (b3 := 0) ⟨h1, by omega, by omega⟩
  rw [e]
  simp only [Option.bind_some]
  have hF : Fine T H f := Fine.of_txt hT (by omega) hn hH (by omega) (by omega)
  have al := allTo_len (pE T H f) T.length 0 T.length
  have pl := prs_len T.length
  have : T.length * T.length ≤ 5 * 5 := Nat.mul_le_mul (by omega) (by omega)
  rw [closest_v (by omega) hF, pairs_v (by omega) hF, musts_v (by omega) hF]
  simp only [Option.bind_some, decide_true, Bool.not_true, br_false]
  have e1 := fun (can : List (Int × Int)) (musts : List Int) => eother_l1_p (N := 1100) (by omega) hF (can := can) (musts := musts) 1100 0 (by omega) (by omega)
  simp only [List.take_zero, List.not_mem_nil, decide_false, show ((0 : Nat) : Int) = 0 from rfl] at e1
  by_cases c : allTo (pE T H f) T.length 0 T.length = []
  · have e3 := eother_l3_p (N := 1100) (by omega) hF (musts := []) (met := true) (by simp) (fun t ht => by rw [c]; rfl) 1100 0 (by omega) (by omega)
    rw [show ((0 : Nat) : Int) = 0 from rfl, c] at e3
    rw [if_pos c, c]
    dsimp only
    simp only [List.length_nil, Int.natCast_zero, decide_true, beq_self_eq_true, Bool.not_true, br_false]
    rw [br_nnd (by omega), lpairs_v (by omega) (by omega)]
    simp only [Option.bind_some]
    rw [e1]
    simp only [Option.bind_some]
    rw [e3]
    simp only [Option.bind_some, br_true, awake_v]
  · have e3 := eother_l3_p (N := 1100) (by omega) hF (musts := mustL (allTo (pE T H f) T.length 0 T.length) T.length) (met := true) (by have := mustL_len (allTo (pE T H f) T.length 0 T.length) T.length; omega) (fun t ht => by
      have : (allTo (pE T H f) T.length 0 T.length).length ≠ 0 := fun h => c (List.eq_nil_of_length_eq_zero h)
      rw [decide_eq_true (by omega), Bool.true_and, Bool.eq_iff_iff, List.contains_iff_mem, mem_mustL]
      exact ⟨fun h => h.2, fun h => ⟨ht, h⟩⟩) 1100 0 (by omega) (by omega)
    rw [show ((0 : Nat) : Int) = 0 from rfl] at e3
    have : (allTo (pE T H f) T.length 0 T.length).length ≠ 0 := fun h => c (List.eq_nil_of_length_eq_zero h)
    rw [if_neg c]
    dsimp only
    rw [show decide ((0 : Int) = 6) = false from rfl, decide_eq_false (show ¬ (((allTo (pE T H f) T.length 0 T.length).length : Int) = 0) by omega)]
    simp only [beq_self_eq_true, Bool.not_true, br_false, decide_true]
    rw [lpairs_v (by omega) (by omega)]
    simp only [Option.bind_some]
    rw [e1]
    simp only [Option.bind_some]
    rw [e3]
    simp only [Option.bind_some, br_true, awake_v]
end
end Go.Proofs.Ytfcnhnbnjdccfaa

namespace Go.Proofs.Ytfcnhnbnjdccfaa
set_option linter.all false
open Go

section
variable {N : Nat} {T : List (List Int)} {H : List Int} {f : Int}
/-! ### What is looked at, copies, comparisons -/
theorem great_l1_p (hT : T.length ≤ 1000) : ∀ (n k : Nat), T.length < n + k → k ≤ T.length → ∃ r, great_l1 N n T (T.length : Int) k = some r ∧ ((∃ u, r = .inr u) → ∀ x ∈ T.drop k, x.length ≤ 9)
  | 0, k, h, _ => by omega
  | n + 1, k, h, hk => by
    unfold great_l1
    by_cases c : k < T.length
    · have hd : T.drop k = T.getD k [] :: T.drop (k + 1) := by
        rw [List.drop_eq_getElem_cons c]; simp [List.getD, c]
      rw [br_dec (by omega), idx_get [] (by omega) (by omega)]
      simp only [Int.toNat_natCast]
      by_cases d : 9 < ((T.getD k []).length : Int)
      · rw [br_dec d]; exact ⟨_, rfl, fun ⟨u, hu⟩ => by cases hu⟩
      · rw [br_ndec d, chk_eq (by omega)]
        obtain ⟨r, e, hr⟩ := great_l1_p hT n (k + 1) (by omega) (by omega)
        rw [show ((k + 1 : Nat) : Int) = (k : Int) + 1 by omega] at e
        refine ⟨r, e, fun hu x hx => ?_⟩
        rw [hd] at hx
        rcases List.mem_cons.1 hx with rfl | hx
        · omega
        · exact hr hu x hx
    · rw [br_ndec (by omega)]
      refine ⟨_, rfl, fun _ x hx => ?_⟩
      rw [List.drop_of_length_le (by omega)] at hx; cases hx
/-- An echo that is looked at. -/
structure Small (T : List (List Int)) (H : List Int) : Prop where
  n : T.length ≤ 8
  h : H.length ≤ 14
  l : ∀ x ∈ T, x.length ≤ 9
theorem great_v (hN : 20 ≤ N) (T : List (List Int)) (H : List Int) (f : Int) : great_S N T H f = some true ∨ great_S N T H f = some false ∧ Small T H := by
  unfold great_S
  by_cases c : 8 < (T.length : Int)
  · rw [br_dec c]; exact .inl rfl
  · rw [br_ndec c]
    by_cases d : 14 < (H.length : Int)
    · rw [br_dec d]; exact .inl rfl
    · rw [br_ndec d]
      obtain ⟨r, e, hr⟩ := great_l1_p (N := N) (T := T) (by omega) N 0 (by omega) (by omega)
      rw [show ((0 : Nat) : Int) = 0 from rfl] at e
      rw [e]
      simp only [Option.bind_some]
      cases r with
      | inl _ => exact .inl rfl
      | inr u => exact .inr ⟨rfl, by omega, by omega, by simpa using hr ⟨u, rfl⟩⟩
theorem copyp_v {l : List (Int × Int)} (h : l.length ≤ 1000000) : copyp_S N l = some l := by
  unfold copyp_S
  rw [grd_eq (lmI_iff.2 (by omega))]
  simp
theorem places_l1_p {l : List (Int × Int)} (hl : l.length ≤ 1000) : ∀ (n k : Nat), l.length < n + k → k ≤ l.length → places_l1 N n l (l.length : Int) k (l.take k) = some l
  | 0, k, h, _ => by omega
  | n + 1, k, h, hk => by
    unfold places_l1
    by_cases c : k < l.length
    · have e : l.take (k + 1) = l.take k ++ [l.getD k (0, 0)] := by rw [List.take_add_one]; simp [List.getD, c]
      rw [br_dec (by omega), idx_get (0, 0) (by omega) (by omega)]
      simp only [Int.toNat_natCast]
      rw [lim_eq (by simp; omega), chk_eq (by omega)]
      have := places_l1_p hl n (k + 1) (by omega) (by omega)
      rw [show ((k + 1 : Nat) : Int) = (k : Int) + 1 by omega, e] at this
      exact this
    · rw [br_ndec (by omega), List.take_of_length_le (by omega)]
theorem places_v {l : List (Int × Int)} (hl : l.length ≤ 1000) (hN : l.length < N) : places_S N l = some l := by
  unfold places_S
  have := places_l1_p (N := N) hl N 0 (by omega) (by omega)
  rw [List.take_zero, show ((0 : Nat) : Int) = 0 from rfl] at this
  rw [this]; rfl
theorem equali_l1_p {s : List Int} (hs : s.length ≤ 1000) : ∀ (n k : Nat), s.length < n + k → k ≤ s.length → equali_l1 N n s s (s.length : Int) k = some (.inr ())
  | 0, k, h, _ => by omega
  | n + 1, k, h, hk => by
    unfold equali_l1
    by_cases c : k < s.length
    · rw [br_dec (by omega), idx_get 0 (by omega) (by omega), idx_get 0 (by omega) (by omega), br_nd rfl, chk_eq (by omega)]
      have := equali_l1_p hs n (k + 1) (by omega) (by omega)
      rw [show ((k + 1 : Nat) : Int) = (k : Int) + 1 by omega] at this
      exact this
    · rw [br_ndec (by omega)]
theorem equali_v {s : List Int} (hs : s.length ≤ 1000) (hN : s.length < N) : equali_S N s s = some true := by
  unfold equali_S
  have := equali_l1_p (N := N) hs N 0 (by omega) (by omega)
  rw [show ((0 : Nat) : Int) = 0 from rfl] at this
  rw [br_nd rfl, this]; rfl
theorem likei_v {s : List Int} (hs : s.length ≤ 1000) (hN : s.length < N) : likei_S N s s = some true := by
  unfold likei_S
  rw [equali_v hs hN]; rfl
theorem equalq_l1_p {s : List (Int × Int)} (hs : s.length ≤ 1000) : ∀ (n k : Nat), s.length < n + k → k ≤ s.length → equalq_l1 N n s s (s.length : Int) k = some (.inr ())
  | 0, k, h, _ => by omega
  | n + 1, k, h, hk => by
    unfold equalq_l1
    by_cases c : k < s.length
    · rw [br_dec (by omega), idx_get (0, 0) (by omega) (by omega), idx_get (0, 0) (by omega) (by omega)]
      simp only [decide_true, Bool.and_self, Bool.not_true, br_false]
      rw [chk_eq (by omega)]
      have := equalq_l1_p hs n (k + 1) (by omega) (by omega)
      rw [show ((k + 1 : Nat) : Int) = (k : Int) + 1 by omega] at this
      exact this
    · rw [br_ndec (by omega)]
theorem likeq_v {s : List (Int × Int)} (hs : s.length ≤ 1000) (hN : s.length < N) : likeq_S N s s = some true := by
  unfold likeq_S equalq_S
  have := equalq_l1_p (N := N) hs N 0 (by omega) (by omega)
  rw [show ((0 : Nat) : Int) = 0 from rfl] at this
  rw [br_nd rfl, this]; rfl
theorem equalf_l1_p (hT : T.length ≤ 1000) (hl : ∀ x ∈ T, x.length ≤ 1000 ∧ x.length < N) : ∀ (n k : Nat), T.length < n + k → k ≤ T.length → equalf_l1 N n T T (T.length : Int) k = some (.inr ())
  | 0, k, h, _ => by omega
  | n + 1, k, h, hk => by
    unfold equalf_l1
    by_cases c : k < T.length
    · have l1 := hl (T.getD k []) (getD_mem c)
      rw [br_dec (by omega), idx_get [] (by omega) (by omega), idx_get [] (by omega) (by omega)]
      simp only [Int.toNat_natCast]
      rw [equali_v l1.1 l1.2]
      simp only [Option.bind_some, Bool.not_true, br_false]
      rw [chk_eq (by omega)]
      have := equalf_l1_p hT hl n (k + 1) (by omega) (by omega)
      rw [show ((k + 1 : Nat) : Int) = (k : Int) + 1 by omega] at this
      exact this
    · rw [br_ndec (by omega)]
theorem same_v (hN : 20 ≤ N) (h : Small T H) (f : Int) : same_S N T H f T H f = some true := by
  have hT := h.n
  have hH := h.h
  unfold same_S liker_S equalf_S
  have := equalf_l1_p (N := N) (T := T) (by omega) (fun x hx => by have := h.l x hx; omega) N 0 (by omega) (by omega)
  rw [show ((0 : Nat) : Int) = 0 from rfl] at this
  rw [br_nd rfl, this]
  simp only [Option.bind_some, br_true]
  rw [likei_v (by omega) (by omega)]
  simp only [Option.bind_some, br_true, decide_true]
theorem copye_small (hN : 1010 ≤ N) (h : Small T H) (f : Int) : copye_S N T H f = some (T, H, f) :=
  copye_v (by have := h.n; have := h.h; omega) (fun x hx => by have := h.l x hx; omega) hN

/-! ### The reference's errors -/
theorem off_v (n lo hi : Int) : off_S N n lo hi = some (!decide (lo ≤ n ∧ n ≤ hi)) := by
  unfold off_S
  by_cases c : n < lo
  · rw [br_dec c, decide_eq_false (by omega)]; rfl
  · rw [br_ndec c]
    congr 1
    rw [Bool.eq_iff_iff]
    simp only [decide_eq_true_eq, Bool.not_eq_true', decide_eq_false_iff_not]
    omega
theorem rcheck_l1_p (hT : T.length ≤ 1000) : ∀ (n k : Nat), T.length < n + k → k ≤ T.length → rcheck_l1 N n k T H f = some (if (T.drop k).all okL then .inr (T, H, f) else .inl ())
  | 0, k, h, _ => by omega
  | n + 1, k, h, hk => by
    unfold rcheck_l1
    by_cases c : k < T.length
    · have hd : T.drop k = T.getD k [] :: T.drop (k + 1) := by
        rw [List.drop_eq_getElem_cons c]; simp [List.getD, c]
      have hk' : T[((k : Nat) : Int).toNat]? = some (T.getD k []) := by simp [List.getD, c]
      generalize T.getD k [] = x at *
      rw [br_dec (by omega), idx_eq (by omega) hk', off_v, hd, List.all_cons]
      simp only [Option.bind_some]
      have ex : okL x = decide (1 ≤ (x.length : Int) ∧ (x.length : Int) ≤ 6) := rfl
      rw [← ex]
      cases okL x with
      | false => rfl
      | true =>
        simp only [Bool.not_true, br_false, Bool.true_and]
        rw [chk_eq (by omega)]
        have := rcheck_l1_p hT n (k + 1) (by omega) (by omega)
        rw [show ((k + 1 : Nat) : Int) = (k : Int) + 1 by omega] at this
        exact this
    · rw [br_ndec (by omega), List.drop_of_length_le (by omega)]; rfl
theorem rcheck_l3_p {t : Nat} {x : List Int} (ht : T[t]? = some x) (hx : x.length ≤ 1000) : ∀ (n k : Nat), x.length < n + k → k ≤ x.length → rcheck_l3 N n t k T H f = some (if (x.drop k).all okW then .inr ((t : Int), T, H, f) else .inl ())
  | 0, k, h, _ => by omega
  | n + 1, k, h, hk => by
    unfold rcheck_l3
    have ht' : T[((t : Nat) : Int).toNat]? = some x := by simpa using ht
    rw [idx_eq (by omega) ht']
    by_cases c : k < x.length
    · have hd : x.drop k = x.getD k 0 :: x.drop (k + 1) := drop_cons c
      have hk' : x[((k : Nat) : Int).toNat]? = some (x.getD k 0) := by simp [List.getD, c]
      generalize x.getD k 0 = y at *
      rw [br_dec (by omega), idx_eq (by omega) ht', idx_eq (by omega) hk', off_v, hd, List.all_cons]
      simp only [Option.bind_some]
      have ex : okW y = decide (0 ≤ y ∧ y ≤ 9) := rfl
      rw [← ex]
      cases okW y with
      | false => rfl
      | true =>
        simp only [Bool.not_true, br_false, Bool.true_and]
        rw [chk_eq (by omega)]
        have := rcheck_l3_p ht hx n (k + 1) (by omega) (by omega)
        rw [show ((k + 1 : Nat) : Int) = (k : Int) + 1 by omega] at this
        exact this
    · rw [br_ndec (by omega), List.drop_of_length_le (by omega)]; rfl
theorem rcheck_l2_p (hT : T.length ≤ 1000) (hl : ∀ x ∈ T, x.length ≤ 1000 ∧ x.length < N) : ∀ (n k : Nat), T.length < n + k → k ≤ T.length → rcheck_l2 N n k T H f = some (if (T.drop k).all (fun x => x.all okW) then .inr (T, H, f) else .inl ())
  | 0, k, h, _ => by omega
  | n + 1, k, h, hk => by
    unfold rcheck_l2
    by_cases c : k < T.length
    · have l1 := hl (T.getD k []) (getD_mem c)
      have hd : T.drop k = T.getD k [] :: T.drop (k + 1) := by
        rw [List.drop_eq_getElem_cons c]; simp [List.getD, c]
      have hk' : T[k]? = some (T.getD k []) := by simp [List.getD, c]
      generalize T.getD k [] = x at *
      have e3 := rcheck_l3_p (N := N) (H := H) (f := f) hk' l1.1 N 0 (by omega) (by omega)
      rw [show ((0 : Nat) : Int) = 0 from rfl, List.drop_zero] at e3
      rw [br_dec (by omega), e3, hd, List.all_cons]
      simp only [Option.bind_some]
      cases x.all okW with
      | false => rfl
      | true =>
        simp only [Bool.true_and, if_true]
        rw [chk_eq (by omega)]
        have := rcheck_l2_p hT hl n (k + 1) (by omega) (by omega)
        rw [show ((k + 1 : Nat) : Int) = (k : Int) + 1 by omega] at this
        exact this
    · rw [br_ndec (by omega), List.drop_of_length_le (by omega)]; rfl
theorem rcheck_l4_p (hH : H.length ≤ 1000) : ∀ (n k : Nat), H.length < n + k → k ≤ H.length → rcheck_l4 N n k T H f = some (if (H.drop k).all okW then .inr (T, H, f) else .inl ())
  | 0, k, h, _ => by omega
  | n + 1, k, h, hk => by
    unfold rcheck_l4
    by_cases c : k < H.length
    · have hd : H.drop k = H.getD k 0 :: H.drop (k + 1) := drop_cons c
      have hk' : H[((k : Nat) : Int).toNat]? = some (H.getD k 0) := by simp [List.getD, c]
      generalize H.getD k 0 = y at *
      rw [br_dec (by omega), idx_eq (by omega) hk', off_v, hd, List.all_cons]
      simp only [Option.bind_some]
      have ex : okW y = decide (0 ≤ y ∧ y ≤ 9) := rfl
      rw [← ex]
      cases okW y with
      | false => rfl
      | true =>
        simp only [Bool.not_true, br_false, Bool.true_and]
        rw [chk_eq (by omega)]
        have := rcheck_l4_p hH n (k + 1) (by omega) (by omega)
        rw [show ((k + 1 : Nat) : Int) = (k : Int) + 1 by omega] at this
        exact this
    · rw [br_ndec (by omega), List.drop_of_length_le (by omega)]; rfl
theorem rcheck_v (hN : 20 ≤ N) (h : Small T H) : rcheck_S N T H f = some (checkE T H f) := by
  have hT := h.n
  have hH := h.h
  unfold rcheck_S checkE
  rw [off_v]
  simp only [Option.bind_some]
  by_cases c1 : 1 ≤ T.length ∧ T.length ≤ 5
  · rw [if_neg (by simpa using c1), show decide ((1 : Int) ≤ (T.length : Int) ∧ (T.length : Int) ≤ 5) = true by simp; omega]
    simp only [Bool.not_true, br_false]
    by_cases c2 : 10 < H.length
    · rw [if_pos c2, br_dec (by omega)]
    · rw [if_neg c2, br_ndec (by omega)]
      have e1 := rcheck_l1_p (N := N) (T := T) (H := H) (f := f) (by omega) N 0 (by omega) (by omega)
      have e2 := rcheck_l2_p (N := N) (T := T) (H := H) (f := f) (by omega) (fun x hx => by have := h.l x hx; omega) N 0 (by omega) (by omega)
      have e4 := rcheck_l4_p (N := N) (T := T) (H := H) (f := f) (by omega) N 0 (by omega) (by omega)
      rw [show ((0 : Nat) : Int) = 0 from rfl, List.drop_zero] at e1 e2 e4
      rw [e1]
      cases T.all okL with
      | false => rfl
      | true =>
        simp only [Option.bind_some, if_true, not_true_eq_false, if_false]
        rw [e2]
        cases T.all fun x => x.all okW with
        | false => rfl
        | true =>
          simp only [Option.bind_some, if_true, not_true_eq_false, if_false]
          rw [e4]
          cases H.all okW with
          | false => rfl
          | true =>
            simp only [Option.bind_some, if_true, not_true_eq_false, if_false]
            rw [off_v]
            simp only [Option.bind_some]
            by_cases c5 : 0 ≤ f ∧ f ≤ 8
            · rw [decide_eq_true c5]; simp [c5, br]
            · rw [decide_eq_false c5]; simp only [Bool.not_false, br_true]; rw [if_pos c5]
  · rw [if_pos (by simpa using c1), show decide ((1 : Int) ≤ (T.length : Int) ∧ (T.length : Int) ≤ 5) = false by simp; omega]
    rfl
theorem rtwo_v (hN : 20 ≤ N) (h : Small T H) (a b : Int) : rtwo_S N T H f a b = some (openE T H f a b) := by
  unfold rtwo_S openE
  have hT := h.n
  rw [rcheck_v hN h]
  simp only [Option.bind_some]
  by_cases c : checkE T H f = 0
  · rw [br_nd c, if_neg (by simpa using c), chk_eq (by omega), off_v]
    simp only [Option.bind_some]
    by_cases ha : 0 ≤ a ∧ a < T.length
    · rw [show decide (0 ≤ a ∧ a ≤ (T.length : Int) - 1) = true by simp; omega]
      simp only [Bool.not_true, br_false]
      rw [chk_eq (by omega), off_v]
      simp only [Option.bind_some]
      by_cases hb : 0 ≤ b ∧ b < T.length
      · rw [show decide (0 ≤ b ∧ b ≤ (T.length : Int) - 1) = true by simp; omega, if_neg (by simp; omega)]; rfl
      · rw [show decide (0 ≤ b ∧ b ≤ (T.length : Int) - 1) = false by simp; omega, if_pos (.inr hb)]; rfl
    · rw [show decide (0 ≤ a ∧ a ≤ (T.length : Int) - 1) = false by simp; omega, if_pos (.inl ha)]; rfl
  · rw [br_nnd c, if_pos c]

/-! ### Readings -/
/-- What is behind when a word that was heard has a place. -/
def stepF (A B : List Int) (w : Int) (x : At3) (q : Int × Int) : Option At3 :=
  if q.1 = 1 then (if (x.2.1 : Int) ≤ q.2 ∧ q.2 < A.length ∧ A.getD q.2.toNat 0 = w then some (x.1 + 1, q.2.toNat + 1, x.2.2) else none)
  else if q.1 = 2 then (if (x.2.2 : Int) ≤ q.2 ∧ q.2 < B.length ∧ B.getD q.2.toNat 0 = w then some (x.1 + 1, x.2.1, q.2.toNat + 1) else none)
  else if q.1 = 3 ∧ q.2 = 0 then some (x.1 + 1, x.2.1, x.2.2) else none
theorem mem_movesL {A B : List Int} {w : Int} {x : At3} {m : Mv} : m ∈ movesL A B w x ↔ stepF A B w x m.1 = some m.2 := by
  obtain ⟨⟨s, p⟩, y⟩ := m
  simp only [movesL, List.mem_cons, List.mem_append, List.mem_map, stepF]
  constructor
  · rintro (h | ⟨j, hj, h⟩ | ⟨j, hj, h⟩)
    · simp only [Prod.mk.injEq] at h
      obtain ⟨⟨rfl, rfl⟩, rfl⟩ := h
      simp
    · simp only [Prod.mk.injEq] at h
      obtain ⟨⟨rfl, rfl⟩, rfl⟩ := h
      obtain ⟨h1, h2, h3⟩ := mem_standsL.1 hj
      rw [if_pos rfl, if_pos ⟨by omega, by omega, by simpa using h3⟩]; simp
    · simp only [Prod.mk.injEq] at h
      obtain ⟨⟨rfl, rfl⟩, rfl⟩ := h
      obtain ⟨h1, h2, h3⟩ := mem_standsL.1 hj
      rw [if_neg (by decide), if_pos rfl, if_pos ⟨by omega, by omega, by simpa using h3⟩]; simp
  · intro h
    by_cases c1 : s = 1
    · rw [if_pos c1] at h
      split at h
      · rename_i hc
        simp only [Option.some.injEq] at h
        refine .inr (.inl ⟨p.toNat, mem_standsL.2 ⟨by omega, by omega, hc.2.2⟩, ?_⟩)
        rw [← h, c1, show ((p.toNat : Nat) : Int) = p by omega]
      · cases h
    · rw [if_neg c1] at h
      by_cases c2 : s = 2
      · rw [if_pos c2] at h
        split at h
        · rename_i hc
          simp only [Option.some.injEq] at h
          refine .inr (.inr ⟨p.toNat, mem_standsL.2 ⟨by omega, by omega, hc.2.2⟩, ?_⟩)
          rw [← h, c2, show ((p.toNat : Nat) : Int) = p by omega]
        · cases h
      · rw [if_neg c2] at h
        split at h
        · rename_i hc
          simp only [Option.some.injEq] at h
          exact .inl (by rw [← h, hc.1, hc.2])
        · cases h
/-- A reading that goes on from some place. -/
def fitL (H A B : List Int) : List (Int × Int) → At3 → Bool
  | [], _ => true
  | q :: r, x => match stepF A B (H.getD x.1 0) x q with
    | none => false
    | some y => fitL H A B r y
def toldN : List (Int × Int) → Int
  | [] => 0
  | q :: r => (if q.1 = 3 then 0 else 1) + toldN r
theorem toldN_bnd : ∀ l : List (Int × Int), 0 ≤ toldN l ∧ toldN l ≤ l.length
  | [] => by simp [toldN]
  | q :: r => by
    have := toldN_bnd r
    unfold toldN
    simp only [List.length_cons]
    split <;> omega
theorem stepF_at {A B : List Int} {w : Int} {x y : At3} {q : Int × Int} (h : stepF A B w x q = some y) (ha : x.2.1 ≤ A.length) (hb : x.2.2 ≤ B.length) : y.1 = x.1 + 1 ∧ y.2.1 ≤ A.length ∧ y.2.2 ≤ B.length :=
  movesL_ok ha hb (mem_movesL.2 (show stepF A B w x ((q, y) : Mv).1 = some y from h))
theorem nextR_v {h i k : Nat} {T : List (List Int)} {H A B : List Int} {f : Int} (hh : h < H.length) (hH : H.length ≤ 10) (hA : A.length ≤ 6) (hB : B.length ≤ 6) (hi : i ≤ A.length) (hk : k ≤ B.length) : nextR ((h : Int), (i : Int), (k : Int)) (T, H, f, A, B) = some ((movesL A B (H.getD h 0) (h, i, k)).map movP) := by
  unfold nextR
  rw [if_pos ⟨⟨by simp, by simp; omega⟩, ⟨by simp, by simp; omega⟩, ⟨by simp, by simp; omega⟩, by dsimp only; omega, by dsimp only; omega, by dsimp only; omega⟩]
  simp
theorem faults_l2_p {u u2 words u4 u5 : Int} {d : Desk} {u3 : List (Int × Int)} {u6 : Int × Int × Int} {u7 : Desk} {x x2 x3 : Int} {q : Int × Int} : ∀ (ms : List Mv),
    faults_l2 N (ms.map movP) u u2 d words u3 u4 u5 u6 u7 x x2 x3 q.1 q.2 false = some (match ms.find? (fun m => m.1 == q) with
      | some m => (u, u2, d, words, u3, u4, u5, (m.2.1 : Int), (m.2.2.1 : Int), (m.2.2.2 : Int), q.1, q.2, true)
      | none => (u, u2, d, words, u3, u4, u5, x, x2, x3, q.1, q.2, false))
  | [] => rfl
  | m :: ms => by
    obtain ⟨⟨m1, m2⟩, y1, y2, y3⟩ := m
    obtain ⟨q1, q2⟩ := q
    rw [List.map_cons, List.find?_cons]
    have next := faults_l2_p (u := u) (u2 := u2) (words := words) (u4 := u4) (u5 := u5) (d := d) (u3 := u3) (u6 := u6) (u7 := u7) (x := x) (x2 := x2) (x3 := x3) (q := (q1, q2)) ms
    show br (decide (m1 = q1) && decide (m2 = q2)) (some (u, u2, d, words, u3, u4, u5, (y1 : Int), (y2 : Int), (y3 : Int), q1, q2, true)) (faults_l2 N (ms.map movP) u u2 d words u3 u4 u5 u6 u7 x x2 x3 q1 q2 false) = _
    have e : (((m1, m2) : Int × Int) == (q1, q2)) = (decide (m1 = q1) && decide (m2 = q2)) := by
      rw [Bool.eq_iff_iff]; simp
    rw [e]
    cases decide (m1 = q1) && decide (m2 = q2) with
    | true => rfl
    | false =>
      rw [br_false]
      exact next
theorem find_movesL {A B : List Int} {w : Int} {x : At3} (q : Int × Int) : (movesL A B w x).find? (fun m => m.1 == q) = (stepF A B w x q).map fun y => (q, y) := by
  cases h : stepF A B w x q with
  | none =>
    rw [Option.map_none, List.find?_eq_none]
    intro m hm he
    have := mem_movesL.1 hm
    rw [beq_iff_eq.1 he, h] at this
    cases this
  | some y =>
    rw [Option.map_some]
    cases h2 : (movesL A B w x).find? (fun m => m.1 == q) with
    | none =>
      have := List.find?_eq_none.1 h2 (q, y) (mem_movesL.2 h)
      simp at this
    | some m =>
      have h3 := List.find?_some h2
      have h4 := mem_movesL.1 (List.mem_of_find?_eq_some h2)
      rw [beq_iff_eq.1 h3, h] at h4
      simp only [Option.some.injEq] at h4
      rw [h4, ← beq_iff_eq.1 h3]
theorem faults_l1_p {A B : List Int} {l : List (Int × Int)} (hH : H.length ≤ 10) (hA : A.length ≤ 6) (hB : B.length ≤ 6) (hl : l.length = H.length) : ∀ (n : Nat) (x : At3) (u u2 words : Int), l.length < n + x.1 → x.1 ≤ l.length → x.2.1 ≤ A.length → x.2.2 ≤ B.length → 0 ≤ words ∧ words ≤ x.1 →
    faults_l1 N n u u2 (T, H, f, A, B) words l (l.length : Int) x.1 x.1 x.2.1 x.2.2 = some (if fitL H A B (l.drop x.1) x = true then .inr ((T, H, f, A, B), words + toldN (l.drop x.1)) else .inl ())
  | 0, x, u, u2, words, h, _, _, _, _ => by omega
  | n + 1, x, u, u2, words, h, hx, hi, hk, hw => by
    unfold faults_l1
    obtain ⟨h0, i, k⟩ := x
    dsimp only at *
    by_cases c : h0 < l.length
    · have hd : l.drop h0 = l.getD h0 (0, 0) :: l.drop (h0 + 1) := by
        rw [List.drop_eq_getElem_cons c]; simp [List.getD, c]
      have hk' : l[((h0 : Nat) : Int).toNat]? = some (l.getD h0 (0, 0)) := by simp [List.getD, c]
      generalize l.getD h0 (0, 0) = q at *
      rw [br_dec (by omega), idx_eq (by omega) hk']
      simp only [next_S, Option.bind_some]
      rw [nextR_v (by omega) hH hA hB hi hk]
      simp only [Option.bind_some]
      rw [faults_l2_p, find_movesL, hd]
      unfold fitL toldN
      dsimp only
      cases hs : stepF A B (H.getD h0 0) (h0, i, k) q with
      | none =>
        simp only [Option.map_none, Option.bind_some, Bool.not_false, br_true, Bool.false_eq_true, if_false]
      | some y =>
        obtain ⟨y1, y2, y3⟩ := stepF_at hs hi hk
        simp only [Option.map_some, Option.bind_some, Bool.not_true, br_false]
        dsimp only at y1
        have next := fun w hw => faults_l1_p (A := A) (B := B) hH hA hB hl n y u u2 w (by omega) (by omega) y2 y3 hw
        by_cases c3 : q.1 = 3
        · rw [br_nd c3, if_pos c3]
          unfold faults_j1
          rw [chk_eq (by omega)]
          have := next words (by omega)
          rw [y1, show ((h0 + 1 : Nat) : Int) = (h0 : Int) + 1 by omega] at this
          rw [y1, show ((h0 + 1 : Nat) : Int) = (h0 : Int) + 1 by omega, this]
          simp
        · have tb := toldN_bnd (l.drop (h0 + 1))
          rw [br_nnd c3, if_neg c3, chk_eq (by omega)]
          unfold faults_j1
          rw [chk_eq (by omega)]
          have := next (words + 1) (by omega)
          rw [y1, show ((h0 + 1 : Nat) : Int) = (h0 : Int) + 1 by omega] at this
          rw [y1, show ((h0 + 1 : Nat) : Int) = (h0 : Int) + 1 by omega, this]
          rw [Int.add_assoc]
    · rw [br_ndec (by omega), List.drop_of_length_le (by omega)]
      simp [fitL, toldN]
theorem faults_v (hN : 20 ≤ N) (T : List (List Int)) (H : List Int) (f a b : Int) (l : List (Int × Int)) (hl : l.length ≤ 1000) : faults_S N T H f a b l = some (if openE T H f a b ≠ 0 then (0, openE T H f a b) else if l.length ≠ H.length then (0, 2)
    else if fitL H (T.getD a.toNat []) (T.getD b.toNat []) l (0, 0, 0) = true then (((T.getD a.toNat []).length : Int) + (T.getD b.toNat []).length + H.length - 2 * toldN l, 0) else (0, 8)) := by
  unfold faults_S
  by_cases c : openE T H f a b = 0
  · rw [if_neg (by simpa using c)]
    obtain ⟨hF, ha, hb, e⟩ := opened_good hN c
    have hH := hF.h
    have lA := hF.l (T.getD a.toNat []) (getD_mem (by omega))
    have lB := hF.l (T.getD b.toNat []) (getD_mem (by omega))
    rw [e]
    simp only [Option.bind_some, decide_true, Bool.not_true, br_false]
    by_cases d : l.length = H.length
    · rw [if_neg (by simpa using d), br_nd (by omega)]
      have := faults_l1_p (N := N) (T := T) (H := H) (f := f) (A := T.getD a.toNat []) (B := T.getD b.toNat []) (l := l) hH lA.2 lB.2 d N (0, 0, 0) 0 0 0 (by dsimp only; omega) (by dsimp only; omega) (by dsimp only; omega) (by dsimp only; omega) (by dsimp only; omega)
      dsimp only at this
      rw [show ((0 : Nat) : Int) = 0 from rfl, List.drop_zero] at this
      rw [this]
      have tb := toldN_bnd l
      by_cases g : fitL H (T.getD a.toNat []) (T.getD b.toNat []) l (0, 0, 0) = true
      · rw [if_pos g, if_pos g]
        simp only [Option.bind_some]
        rw [dfaults_v hH lA.2 lB.2 (by omega)]
        simp
      · rw [if_neg g, if_neg g]; rfl
    · rw [if_pos d, br_nnd (by omega)]
  · rw [if_pos c, opened_bad hN c]
    simp only [Option.bind_some]
    rw [br_nnd c]
/-! ### The reference's readings -/
theorem fits_l1_p {A B : List Int} {l : List (Int × Int)} {a b : Int} (ha : 0 ≤ a) (hb : 0 ≤ b) (hTa : T[a.toNat]? = some A) (hTb : T[b.toNat]? = some B) (hA : A.length ≤ 1000) (hB : B.length ≤ 1000) (hl : l.length ≤ H.length) (hH : H.length ≤ 1000) : ∀ (n : Nat) (x : At3), l.length < n + x.1 → x.1 ≤ l.length → x.2.1 ≤ A.length → x.2.2 ≤ B.length →
    ∃ r, fits_l1 N n l ((x.2.1 : Int) - 1) ((x.2.2 : Int) - 1) x.1 T H f a b = some r ∧ (fitL H A B (l.drop x.1) x = true ∧ r = .inr (.inr (.inr ())) ∨ fitL H A B (l.drop x.1) x = false ∧ r ≠ .inr (.inr (.inr ())))
  | 0, x, h, _, _, _ => by omega
  | n + 1, x, h, hx, hi, hk => by
    unfold fits_l1
    obtain ⟨h0, i, k⟩ := x
    dsimp only at *
    by_cases c : h0 < l.length
    · have hd : l.drop h0 = l.getD h0 (0, 0) :: l.drop (h0 + 1) := by
        rw [List.drop_eq_getElem_cons c]; simp [List.getD, c]
      have hk' : l[((h0 : Nat) : Int).toNat]? = some (l.getD h0 (0, 0)) := by simp [List.getD, c]
      have hw : H[((h0 : Nat) : Int).toNat]? = some (H.getD h0 0) := by
        have : h0 < H.length := by omega
        simp [List.getD, this]
      generalize l.getD h0 (0, 0) = q at *
      obtain ⟨s, p⟩ := q
      have next := fun (y : At3) (hy : y.1 = h0 + 1) (h1 : y.2.1 ≤ A.length) (h2 : y.2.2 ≤ B.length) => fits_l1_p ha hb hTa hTb hA hB hl hH n y (by omega) (by omega) h1 h2
      rw [hd]
      unfold fitL
      dsimp only
      rw [br_dec (by omega), idx_eq (by omega) hk']
      by_cases c1 : s = 1
      · rw [br_dec c1, idx_eq (by omega) hk']
        have st : stepF A B (H.getD h0 0) (h0, i, k) (s, p) = if (i : Int) ≤ p ∧ p < A.length ∧ A.getD p.toNat 0 = H.getD h0 0 then some (h0 + 1, p.toNat + 1, k) else none := by unfold stepF; exact if_pos c1
        rw [st]
        by_cases c2 : p ≤ (i : Int) - 1
        · rw [br_dec c2, if_neg (by omega)]; exact ⟨_, rfl, .inr ⟨rfl, by simp⟩⟩
        · rw [br_ndec c2, idx_eq (by omega) hk', idx_eq ha hTa]
          by_cases c3 : (A.length : Int) ≤ p
          · rw [br_dec c3, if_neg (by omega)]; exact ⟨_, rfl, .inr ⟨rfl, by simp⟩⟩
          · have hAp : A[p.toNat]? = some (A.getD p.toNat 0) := by
              have : p.toNat < A.length := by omega
              simp [List.getD, this]
            rw [br_ndec c3, idx_eq ha hTa, idx_eq (by omega) hk', idx_eq (show 0 ≤ ((s, p) : Int × Int).2 by dsimp only; omega) hAp, idx_eq (by omega) hw]
            by_cases c4 : A.getD p.toNat 0 = H.getD h0 0
            · rw [br_nd c4, if_pos ⟨by omega, by omega, c4⟩, idx_eq (by omega) hk']
              unfold fits_j1
              rw [chk_eq (by omega)]
              obtain ⟨r, e, hr⟩ := next (h0 + 1, p.toNat + 1, k) rfl (by dsimp only; omega) hk
              dsimp only at e hr ⊢
              rw [show ((p.toNat + 1 : Nat) : Int) - 1 = p by omega, show ((h0 + 1 : Nat) : Int) = (h0 : Int) + 1 by omega] at e
              exact ⟨r, e, hr⟩
            · rw [br_nnd c4, if_neg (fun h => c4 h.2.2)]; exact ⟨_, rfl, .inr ⟨rfl, by simp⟩⟩
      · rw [br_ndec c1, idx_eq (by omega) hk']
        by_cases c5 : s = 2
        · rw [br_dec c5, idx_eq (by omega) hk']
          have st : stepF A B (H.getD h0 0) (h0, i, k) (s, p) = if (k : Int) ≤ p ∧ p < B.length ∧ B.getD p.toNat 0 = H.getD h0 0 then some (h0 + 1, i, p.toNat + 1) else none := by unfold stepF; rw [if_neg c1]; exact if_pos c5
          rw [st]
          by_cases c2 : p ≤ (k : Int) - 1
          · rw [br_dec c2, if_neg (by omega)]; exact ⟨_, rfl, .inr ⟨rfl, by simp⟩⟩
          · rw [br_ndec c2, idx_eq (by omega) hk', idx_eq hb hTb]
            by_cases c3 : (B.length : Int) ≤ p
            · rw [br_dec c3, if_neg (by omega)]; exact ⟨_, rfl, .inr ⟨rfl, by simp⟩⟩
            · have hBp : B[p.toNat]? = some (B.getD p.toNat 0) := by
                have : p.toNat < B.length := by omega
                simp [List.getD, this]
              rw [br_ndec c3, idx_eq hb hTb, idx_eq (by omega) hk', idx_eq (show 0 ≤ ((s, p) : Int × Int).2 by dsimp only; omega) hBp, idx_eq (by omega) hw]
              by_cases c4 : B.getD p.toNat 0 = H.getD h0 0
              · rw [br_nd c4, if_pos ⟨by omega, by omega, c4⟩, idx_eq (by omega) hk']
                unfold fits_j1
                rw [chk_eq (by omega)]
                obtain ⟨r, e, hr⟩ := next (h0 + 1, i, p.toNat + 1) rfl hi (by dsimp only; omega)
                dsimp only at e hr ⊢
                rw [show ((p.toNat + 1 : Nat) : Int) - 1 = p by omega, show ((h0 + 1 : Nat) : Int) = (h0 : Int) + 1 by omega] at e
                exact ⟨r, e, hr⟩
              · rw [br_nnd c4, if_neg (fun h => c4 h.2.2)]; exact ⟨_, rfl, .inr ⟨rfl, by simp⟩⟩
        · rw [br_ndec c5, idx_eq (by omega) hk']
          have st : stepF A B (H.getD h0 0) (h0, i, k) (s, p) = if s = 3 ∧ p = 0 then some (h0 + 1, i, k) else none := by unfold stepF; rw [if_neg c1, if_neg c5]
          rw [st]
          by_cases c6 : s = 3
          · rw [br_nd c6, idx_eq (by omega) hk']
            by_cases c7 : p = 0
            · rw [br_nd c7, if_pos ⟨c6, c7⟩]
              unfold fits_j1
              rw [chk_eq (by omega)]
              obtain ⟨r, e, hr⟩ := next (h0 + 1, i, k) rfl hi hk
              dsimp only at e hr ⊢
              rw [show ((h0 + 1 : Nat) : Int) = (h0 : Int) + 1 by omega] at e
              exact ⟨r, e, hr⟩
            · rw [br_nnd c7, if_neg (fun h => c7 h.2)]; exact ⟨_, rfl, .inr ⟨rfl, by simp⟩⟩
          · rw [br_nnd c6, if_neg (fun h => c6 h.1)]; exact ⟨_, rfl, .inr ⟨rfl, by simp⟩⟩
    · rw [br_ndec (by omega), List.drop_of_length_le (by omega)]
      exact ⟨_, rfl, .inl ⟨rfl, rfl⟩⟩
theorem fits_v {A B : List Int} {l : List (Int × Int)} {a b : Int} (ha : 0 ≤ a) (hb : 0 ≤ b) (hTa : T[a.toNat]? = some A) (hTb : T[b.toNat]? = some B) (hA : A.length ≤ 1000) (hB : B.length ≤ 1000) (hl : l.length ≤ H.length) (hH : H.length ≤ 1000) (hN : l.length < N) : fits_S N T H f a b l = some (fitL H A B l (0, 0, 0)) := by
  obtain ⟨r, e, hr⟩ := fits_l1_p (N := N) (f := f) ha hb hTa hTb hA hB hl hH N (0, 0, 0) (by dsimp only; omega) (by dsimp only; omega) (by dsimp only; omega) (by dsimp only; omega)
  unfold fits_S
  dsimp only at e hr
  rw [show ((0 : Nat) : Int) = 0 from rfl, show (0 : Int) - 1 = -1 from rfl] at e
  rw [List.drop_zero] at hr
  rw [e]
  rcases hr with ⟨h1, rfl⟩ | ⟨h1, h2⟩
  · rw [h1]; rfl
  · rw [h1]
    rcases r with r | r | r | r
    · rfl
    · rfl
    · rfl
    · exact absurd rfl h2
theorem faulty_l1_p {l : List (Int × Int)} (hl : l.length ≤ 1000) : ∀ (n k : Nat) (m : Int), l.length < n + k → k ≤ l.length → -10000 ≤ m - l.length + k ∧ m + l.length - k ≤ 10000 → faulty_l1 N n l m k = some (m + (l.length - k) - 2 * toldN (l.drop k))
  | 0, k, m, h, _, _ => by omega
  | n + 1, k, m, h, hk, hm => by
    unfold faulty_l1
    by_cases c : k < l.length
    · have hd : l.drop k = l.getD k (0, 0) :: l.drop (k + 1) := by
        rw [List.drop_eq_getElem_cons c]; simp [List.getD, c]
      have hk' : l[((k : Nat) : Int).toNat]? = some (l.getD k (0, 0)) := by simp [List.getD, c]
      generalize l.getD k (0, 0) = q at *
      rw [br_dec (by omega), idx_eq (by omega) hk', hd]
      unfold toldN
      by_cases c3 : q.1 = 3
      · rw [br_dec c3, if_pos c3, chk_eq (by omega)]
        unfold faulty_j1
        rw [chk_eq (by omega)]
        have := faulty_l1_p hl n (k + 1) (m + 1) (by omega) (by omega) (by omega)
        rw [show ((k + 1 : Nat) : Int) = (k : Int) + 1 by omega] at this
        rw [this]; congr 1; omega
      · rw [br_ndec c3, if_neg c3, chk_eq (by omega)]
        unfold faulty_j1
        rw [chk_eq (by omega)]
        have := faulty_l1_p hl n (k + 1) (m - 1) (by omega) (by omega) (by omega)
        rw [show ((k + 1 : Nat) : Int) = (k : Int) + 1 by omega] at this
        rw [this]; congr 1; omega
    · rw [br_ndec (by omega), List.drop_of_length_le (by omega)]
      simp [toldN]; omega
theorem faulty_v {A B : List Int} {l : List (Int × Int)} {a b : Int} (ha : 0 ≤ a) (hb : 0 ≤ b) (hTa : T[a.toNat]? = some A) (hTb : T[b.toNat]? = some B) (hA : A.length ≤ 1000) (hB : B.length ≤ 1000) (hl : l.length ≤ 1000) (hN : l.length < N) : faulty_S N T H f a b l = some ((A.length : Int) + B.length + l.length - 2 * toldN l) := by
  unfold faulty_S
  rw [idx_eq ha hTa, idx_eq hb hTb, chk_eq (by omega)]
  have := faulty_l1_p (N := N) hl N 0 ((A.length : Int) + B.length) (by omega) (by omega) (by omega)
  rw [show ((0 : Nat) : Int) = 0 from rfl, List.drop_zero] at this
  rw [this]
  simp
theorem rfaults_v (hN : 20 ≤ N) (h : Small T H) (a b : Int) (l : List (Int × Int)) (hl : l.length ≤ 14) : rfaults_S N T H f a b l = some (if openE T H f a b ≠ 0 then (0, openE T H f a b) else if l.length ≠ H.length then (0, 2)
    else if fitL H (T.getD a.toNat []) (T.getD b.toNat []) l (0, 0, 0) = true then (((T.getD a.toNat []).length : Int) + (T.getD b.toNat []).length + H.length - 2 * toldN l, 0) else (0, 8)) := by
  unfold rfaults_S
  rw [rtwo_v hN h]
  simp only [Option.bind_some]
  by_cases c : openE T H f a b = 0
  · rw [if_neg (by simpa using c), br_nd c]
    obtain ⟨hF, ha, hb, e⟩ := opened_good hN c
    have hH := hF.h
    have lA := hF.l (T.getD a.toNat []) (getD_mem (by omega))
    have lB := hF.l (T.getD b.toNat []) (getD_mem (by omega))
    have hTa : T[a.toNat]? = some (T.getD a.toNat []) := by
      have : a.toNat < T.length := by omega
      simp [List.getD, this]
    have hTb : T[b.toNat]? = some (T.getD b.toNat []) := by
      have : b.toNat < T.length := by omega
      simp [List.getD, this]
    by_cases d : l.length = H.length
    · rw [if_neg (by simpa using d), br_nd (by omega), fits_v ha.1 hb.1 hTa hTb (by omega) (by omega) (by omega) (by omega) (by omega)]
      simp only [Option.bind_some]
      cases g : fitL H (T.getD a.toNat []) (T.getD b.toNat []) l (0, 0, 0) with
      | true =>
        simp only [Bool.not_true, br_false, if_true]
        rw [faulty_v ha.1 hb.1 hTa hTb (by omega) (by omega) (by omega) (by omega)]
        simp only [Option.bind_some]
        rw [d]
      | false => rfl
    · rw [if_pos d, br_nnd (by omega)]
  · rw [if_pos c, br_nnd c]
theorem efaults_true {a b : Int} {l : List (Int × Int)} (h0 : (Ty.pair (.sl (.sl (.int .i64))) (.pair (.sl (.int .i64)) (.int .i64))).inB (T, H, f)) (h1 : (Ty.pair (.int .i64) (.int .i64)).inB (a, b)) (h2 : (Ty.sl (.pair (.int .i64) (.int .i64))).inB l) : efaults_S 1100 T H f a b l = some true := by
  unfold efaults_S
  rcases great_v (N := 1100) (by omega) T H f with e | ⟨e, hs⟩
  · rw [e]; simp only [Option.bind_some, br_true, awake_v]
  · rw [e]
    simp only [Option.bind_some, br_false]
    by_cases c : 14 < (l.length : Int)
    · rw [br_dec c]; simp only [awake_v, Option.bind_some]
    · rw [br_ndec c, copye_small (by omega) hs, copyp_v (by omega)]
      simp only [Option.bind_some]
      rw [faults_v (by omega) T H f a b l (by omega), places_v (by omega) (by omega)]
      simp only [Option.bind_some]
      rw [rfaults_v (by omega) hs a b l (by omega)]
      simp only [Option.bind_some, decide_true, br_true]
      rw [same_v (by omega) hs, likeq_v (by omega) (by omega), awake_v]
      rfl
end
end Go.Proofs.Ytfcnhnbnjdccfaa

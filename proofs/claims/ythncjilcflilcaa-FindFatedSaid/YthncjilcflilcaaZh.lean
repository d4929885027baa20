/-
  Parts of a proof, put together: F5, FAw, FL7, FDi, FL8.
  Conditions: none.
-/
import Derived.Test.YthncjilcflilcaaZd
import Derived.Test.YthncjilcflilcaaZf
import Derived.Test.YthncjilcflilcaaZg
namespace Go.Proofs.Ythncjilcflilcaa
set_option linter.all false
open Go

def without_j1 (N : Nat) (found : Int) (g : Int) (out : Li) (out2 : Int) (out3 : Ll) (out4 : Ll) (out5 : Li) : Option (Li × Int × Ll × Ll × Li) :=
  br (decide (0 ≤ found))
    (chk (found + 1) <|
    (delll_S N found (found + 1) out4).bind fun x_8 =>
    some (out, out2, out3, x_8, out5))
    (some (out, out2, out3, out4, out5))
def without_S (N : Nat) (d : Li) (d2 : Int) (d3 : Ll) (d4 : Ll) (d5 : Li) (lost : Int) (found : Int) : Option (Li × Int × Ll × Ll × Li) :=
  (copydo_S N d d2 d3 d4 d5).bind fun (x_1, y_2, y_3, y_4, y_5) =>
  br (decide (0 ≤ lost))
    (chk (lost + 1) <|
    (delll_S N lost (lost + 1) y_3).bind fun x_6 =>
    chk (lost + 1) <|
    (delli_S N lost (lost + 1) y_5).bind fun x_7 =>
    without_j1 N found 0 x_1 y_2 x_6 y_4 x_7)
    (without_j1 N found 0 x_1 y_2 y_3 y_4 y_5)
noncomputable def without_sp (N : Nat) : List Spec := [sp_copydo N, sp_delll N, sp_delli N]
theorem without_all (N : Nat) : AllP (SpecOK Try.prog) (without_sp N) := ⟨sp_copydo_ok N, sp_delll_ok N, sp_delli_ok N, trivial⟩
noncomputable def without_c : Code := (Try.f38.body).getD .skip
noncomputable abbrev without_B : Body := { c := without_c, n := 36, res := [.cell 6 26], outs := [⟨[shG], []⟩], m0 := 0 }
abbrev without_rt : altD without_B.outs → Option (Li × Int × Ll × Ll × Li) := fun r => some (r.1.1.1, r.1.1.2.1, r.1.1.2.2.1, r.1.1.2.2.2.1, r.1.1.2.2.2.2.1)
abbrev without_j1_at : List PI := [.c [1, 1, 1, 0, 0], .c [1, 1, 1, 0, 1], .c [1, 1, 1, 1]]
abbrev without_j1_st : Sta := ⟨[2, 6, 7], ⟨[shI, .own 0 0, .own 1 0], [.segs [.nils, shI, .nils, .nils, .nils], .segs [shL, shI, .ols 2, .ols 3, .ols 4], .lst (.sl (.int .i64)), .lst (.sl (.int .i64)), .lst (.int .i64)]⟩⟩
abbrev without_j1_k (N : Nat) : Leaf (Li × Int × Ll × Ll × Li) := ⟨without_j1_at, without_j1_st, fun p => without_j1 N p.1.1 p.2.1.2.1 p.2.2.1.1 p.2.2.1.2.1 p.2.2.2.1 p.2.2.2.2.1 p.2.2.2.2.2.1⟩
theorem without_j1_eq (N : Nat) (found : Int) (g : Int) (out : Li) (out2 : Int) (out3 : Ll) (out4 : Ll) (out5 : Li) : ev (Z := Li × Int × Ll × Ll × Li) Try.prog (without_sp N) without_B [] [] (some without_rt) 400 true without_j1_at (stL without_j1_st ((found, (), (), ()), (((), g, (), (), (), ()), (out, out2, (), (), (), ()), out3, out4, out5, ()))) (stH without_j1_st ((found, (), (), ()), (((), g, (), (), (), ()), (out, out2, (), (), (), ()), out3, out4, out5, ()))) = without_j1 N found g out out2 out3 out4 out5 := by kernel_rfl
theorem without_j1_lf (N : Nat) {z : Li × Int × Ll × Ll × Li} {E : EE} {Xc : Ctx} (hE : EOK without_B.m0 E) (hX : CxOK true Xc) (hret : RetOK Try.prog without_B E Xc z (some without_rt)) : LeafOK Try.prog without_B.c without_B.n without_B.m0 E Xc z (without_j1_k N) := leaf_of_ev (B := without_B) (loops := []) (leaves := []) (without_all N) mixed trivial hE hX trivial hret (fun p => without_j1_eq N p.1.1 p.2.1.2.1 p.2.2.1.1 p.2.2.1.2.1 p.2.2.2.1 p.2.2.2.2.1 p.2.2.2.2.2.1)
abbrev without_st : Sta := ⟨[0, 1, 2], ⟨[shG, shI, shI], []⟩⟩
theorem without_eq (N : Nat) (d : Li) (d2 : Int) (d3 : Ll) (d4 : Ll) (d5 : Li) (lost : Int) (found : Int) : ev (Z := Li × Int × Ll × Ll × Li) Try.prog (without_sp N) without_B [] [without_j1_k N] (some without_rt) 400 false [.c [0], .c [1]] (stL without_st (((d, d2, d3, d4, d5, ()), lost, found, ()), ())) (stH without_st (((d, d2, d3, d4, d5, ()), lost, found, ()), ())) = without_S N d d2 d3 d4 d5 lost found := by kernel_rfl
noncomputable def sp_without (N : Nat) : Spec := { f := 38, ins := ⟨[shG, shI, shI], []⟩, outs := [⟨[shG], []⟩], run := fun p k => (without_S N p.1.1.1 p.1.1.2.1 p.1.1.2.2.1 p.1.1.2.2.2.1 p.1.1.2.2.2.2.1 p.1.2.1 p.1.2.2.1).bind fun r => k (((r.1, r.2.1, r.2.2.1, r.2.2.2.1, r.2.2.2.2, ()), ()), ()) }
theorem sp_without_ok (N : Nat) : SpecOK Try.prog (sp_without N) := fn_sound (B := without_B) (loops := []) (leaves := [without_j1_k N]) (fun p => without_S N p.1.1.1 p.1.1.2.1 p.1.1.2.2.1 p.1.1.2.2.2.1 p.1.1.2.2.2.2.1 p.1.2.1 p.1.2.2.1) (fun r => (((r.1, r.2.1, r.2.2.1, r.2.2.2.1, r.2.2.2.2, ()), ()), ())) without_rt (fun _ _ _ => rfl) (fun r z h => by cases h; rfl) Try.func38 (by kernel_rfl) (by kernel_rfl) (by kernel_rfl) rfl rfl (by kernel_rfl) (fun args w => Sem.pv_run _ _ _ (by kernel_rfl) w) (without_all N) mixed trivial (fun z E Xc hE hX hret => ⟨without_j1_lf N hE hX hret, trivial⟩) (fun p => without_eq N p.1.1.1 p.1.1.2.1 p.1.1.2.2.1 p.1.1.2.2.2.1 p.1.1.2.2.2.2.1 p.1.2.1 p.1.2.2.1)

def ffated_j2 (N : Nat) (rec : Li → Int → Int → Int → Int → Int → Int → Int → Int → Li → Int → Ll → Ll → Li → Option ((Unit) ⊕ ((Unit) ⊕ ((Unit) ⊕ (Li × Int × Int × Int × Int × Int × Int × Li × Int × Ll × Ll × Li))))) (l : Li) (best : Int) (many : Int) (i : Int) (sum : Int) (fate : Int) (want : Int) (u : Int) (u2 : Int) (u3 : Int) (u4 : Int) (d : Li) (d2 : Int) (d3 : Ll) (d4 : Ll) (d5 : Li) : Option ((Unit) ⊕ ((Unit) ⊕ ((Unit) ⊕ (Li × Int × Int × Int × Int × Int × Int × Li × Int × Ll × Ll × Li)))) :=
  br (!decide (fate = want))
    (some (.inr (.inr (.inl ()))))
    (chk (u4 + 1) <|
    rec l best many i sum u u2 u3 (u4 + 1) d d2 d3 d4 d5)
def ffated_j1 (N : Nat) (rec : Li → Int → Int → Int → Int → Int → Int → Int → Int → Li → Int → Ll → Ll → Li → Option ((Unit) ⊕ ((Unit) ⊕ ((Unit) ⊕ (Li × Int × Int × Int × Int × Int × Int × Li × Int × Ll × Ll × Li))))) (l : Li) (best : Int) (many : Int) (i : Int) (sum : Int) (fate : Int) (ways : Int) (joined : Bool) (want : Int) (u : Int) (u2 : Int) (u3 : Int) (u4 : Int) (d : Li) (d2 : Int) (d3 : Ll) (d4 : Ll) (d5 : Li) : Option ((Unit) ⊕ ((Unit) ⊕ ((Unit) ⊕ (Li × Int × Int × Int × Int × Int × Int × Li × Int × Ll × Ll × Li)))) :=
  br joined
    (chk (sum + ways) <|
    ffated_j2 N (rec) l best many i (sum + ways) fate want u u2 u3 u4 d d2 d3 d4 d5)
    (ffated_j2 N (rec) l best many i sum fate want u u2 u3 u4 d d2 d3 d4 d5)
def ffated_l2 (N : Nat) : Nat → Li → Int → Int → Int → Int → Int → Int → Int → Int → Li → Int → Ll → Ll → Li → Option ((Unit) ⊕ ((Unit) ⊕ ((Unit) ⊕ (Li × Int × Int × Int × Int × Int × Int × Li × Int × Ll × Ll × Li))))
  | 0, _, _, _, _, _, _, _, _, _, _, _, _, _, _ => none
  | n_ + 1, l, best, many, i, sum, u, u2, u3, u4, d, d2, d3, d4, d5 =>
    br (decide (u4 < u3))
      ((fates_S N d d2 d3 d4 d5 i u4).bind fun (x_17, y_18) =>
      br (!decide (y_18 = 0))
        (some (.inl ()))
        (br (decide (x_17 = 1))
          (idx l i fun x_19 =>
          br (!decide (x_19 = u4))
            (some (.inl ()))
            (br (decide (x_17 = 2))
              (idx l i fun x_20 =>
              br (decide (x_20 = u4))
                (some (.inl ()))
                ((lpair_S N d d2 d3 d4 d5 i u4).bind fun (x_21, y_22) =>
                (without_S N d d2 d3 d4 d5 i u4).bind fun (x_23, y_24, y_25, y_26, y_27) =>
                (best_S N x_23 y_24 y_25 y_26 y_27).bind fun (x_28, y_29, y_30) =>
                (count_S N x_23 y_24 y_25 y_26 y_27).bind fun (x_31, y_32) =>
                br (!decide (y_30 = 0))
                  (some (.inr (.inl ())))
                  (br (!decide (y_32 = 0))
                    (some (.inr (.inl ())))
                    (br y_22
                      (chk (x_21 + y_29) <|
                      br (!(decide ((x_21 + y_29) = best)))
                        (ffated_j1 N (ffated_l2 N n_) l best many i sum x_17 x_31 (decide ((x_21 + y_29) = best)) 2 u u2 u3 u4 d d2 d3 d4 d5)
                        (br (decide (x_31 = many))
                          (ffated_j1 N (ffated_l2 N n_) l best many i sum x_17 x_31 (decide ((x_21 + y_29) = best)) 1 u u2 u3 u4 d d2 d3 d4 d5)
                          (ffated_j1 N (ffated_l2 N n_) l best many i sum x_17 x_31 (decide ((x_21 + y_29) = best)) 0 u u2 u3 u4 d d2 d3 d4 d5)))
                      (ffated_j1 N (ffated_l2 N n_) l best many i sum x_17 x_31 false 2 u u2 u3 u4 d d2 d3 d4 d5)))))
              ((lpair_S N d d2 d3 d4 d5 i u4).bind fun (x_33, y_34) =>
              (without_S N d d2 d3 d4 d5 i u4).bind fun (x_35, y_36, y_37, y_38, y_39) =>
              (best_S N x_35 y_36 y_37 y_38 y_39).bind fun (x_40, y_41, y_42) =>
              (count_S N x_35 y_36 y_37 y_38 y_39).bind fun (x_43, y_44) =>
              br (!decide (y_42 = 0))
                (some (.inr (.inl ())))
                (br (!decide (y_44 = 0))
                  (some (.inr (.inl ())))
                  (br y_34
                    (chk (x_33 + y_41) <|
                    br (!(decide ((x_33 + y_41) = best)))
                      (ffated_j1 N (ffated_l2 N n_) l best many i sum x_17 x_43 (decide ((x_33 + y_41) = best)) 2 u u2 u3 u4 d d2 d3 d4 d5)
                      (br (decide (x_43 = many))
                        (ffated_j1 N (ffated_l2 N n_) l best many i sum x_17 x_43 (decide ((x_33 + y_41) = best)) 1 u u2 u3 u4 d d2 d3 d4 d5)
                        (ffated_j1 N (ffated_l2 N n_) l best many i sum x_17 x_43 (decide ((x_33 + y_41) = best)) 0 u u2 u3 u4 d d2 d3 d4 d5)))
                    (ffated_j1 N (ffated_l2 N n_) l best many i sum x_17 x_43 false 2 u u2 u3 u4 d d2 d3 d4 d5))))))
          (br (decide (x_17 = 2))
            (idx l i fun x_45 =>
            br (decide (x_45 = u4))
              (some (.inl ()))
              ((lpair_S N d d2 d3 d4 d5 i u4).bind fun (x_46, y_47) =>
              (without_S N d d2 d3 d4 d5 i u4).bind fun (x_48, y_49, y_50, y_51, y_52) =>
              (best_S N x_48 y_49 y_50 y_51 y_52).bind fun (x_53, y_54, y_55) =>
              (count_S N x_48 y_49 y_50 y_51 y_52).bind fun (x_56, y_57) =>
              br (!decide (y_55 = 0))
                (some (.inr (.inl ())))
                (br (!decide (y_57 = 0))
                  (some (.inr (.inl ())))
                  (br y_47
                    (chk (x_46 + y_54) <|
                    br (!(decide ((x_46 + y_54) = best)))
                      (ffated_j1 N (ffated_l2 N n_) l best many i sum x_17 x_56 (decide ((x_46 + y_54) = best)) 2 u u2 u3 u4 d d2 d3 d4 d5)
                      (br (decide (x_56 = many))
                        (ffated_j1 N (ffated_l2 N n_) l best many i sum x_17 x_56 (decide ((x_46 + y_54) = best)) 1 u u2 u3 u4 d d2 d3 d4 d5)
                        (ffated_j1 N (ffated_l2 N n_) l best many i sum x_17 x_56 (decide ((x_46 + y_54) = best)) 0 u u2 u3 u4 d d2 d3 d4 d5)))
                    (ffated_j1 N (ffated_l2 N n_) l best many i sum x_17 x_56 false 2 u u2 u3 u4 d d2 d3 d4 d5)))))
            ((lpair_S N d d2 d3 d4 d5 i u4).bind fun (x_58, y_59) =>
            (without_S N d d2 d3 d4 d5 i u4).bind fun (x_60, y_61, y_62, y_63, y_64) =>
            (best_S N x_60 y_61 y_62 y_63 y_64).bind fun (x_65, y_66, y_67) =>
            (count_S N x_60 y_61 y_62 y_63 y_64).bind fun (x_68, y_69) =>
            br (!decide (y_67 = 0))
              (some (.inr (.inl ())))
              (br (!decide (y_69 = 0))
                (some (.inr (.inl ())))
                (br y_59
                  (chk (x_58 + y_66) <|
                  br (!(decide ((x_58 + y_66) = best)))
                    (ffated_j1 N (ffated_l2 N n_) l best many i sum x_17 x_68 (decide ((x_58 + y_66) = best)) 2 u u2 u3 u4 d d2 d3 d4 d5)
                    (br (decide (x_68 = many))
                      (ffated_j1 N (ffated_l2 N n_) l best many i sum x_17 x_68 (decide ((x_58 + y_66) = best)) 1 u u2 u3 u4 d d2 d3 d4 d5)
                      (ffated_j1 N (ffated_l2 N n_) l best many i sum x_17 x_68 (decide ((x_58 + y_66) = best)) 0 u u2 u3 u4 d d2 d3 d4 d5)))
                  (ffated_j1 N (ffated_l2 N n_) l best many i sum x_17 x_68 false 2 u u2 u3 u4 d d2 d3 d4 d5)))))))
      (some (.inr (.inr (.inr (l, best, many, i, sum, u, u2, d, d2, d3, d4, d5)))))
def ffated_j3 (N : Nat) (rec : Li → Int → Int → Int → Int → Li → Int → Ll → Ll → Li → Option ((Unit) ⊕ ((Unit) ⊕ ((Unit) ⊕ ((Unit) ⊕ (Unit)))))) (l : Li) (best : Int) (many : Int) (sum : Int) (e_ : Int) (f : Int) (u : Int) (u2 : Int) (d : Li) (d2 : Int) (d3 : Ll) (d4 : Ll) (d5 : Li) : Option ((Unit) ⊕ ((Unit) ⊕ ((Unit) ⊕ ((Unit) ⊕ (Unit))))) :=
  br (!decide (e_ = 0))
    (some (.inr (.inr (.inr (.inl ())))))
    (br (!decide (f = 0))
      (some (.inr (.inr (.inr (.inl ())))))
      (br (!decide (sum = many))
        (some (.inr (.inr (.inr (.inl ())))))
        (chk (u2 + 1) <|
        rec l best many u (u2 + 1) d d2 d3 d4 d5)))
def ffated_l1 (N : Nat) : Nat → Li → Int → Int → Int → Int → Li → Int → Ll → Ll → Li → Option ((Unit) ⊕ ((Unit) ⊕ ((Unit) ⊕ ((Unit) ⊕ (Unit)))))
  | 0, _, _, _, _, _, _, _, _, _, _ => none
  | n_ + 1, l, best, many, u, u2, d, d2, d3, d4, d5 =>
    br (decide (u2 < u))
      ((ffated_l2 N N l best many u2 0 u u2 (d4.length : Int) 0 d d2 d3 d4 d5).bind fun e => match e with
      | .inl _ =>
        some (.inl ())
      | .inr (.inl _) =>
        some (.inr (.inl ()))
      | .inr (.inr (.inl _)) =>
        some (.inr (.inr (.inl ())))
      | .inr (.inr (.inr (l_70, best_71, many_72, i_73, sum_74, u_75, u2_76, d_77, d2_78, d3_79, d4_80, d5_81))) =>
        (without_S N d_77 d2_78 d3_79 d4_80 d5_81 i_73 (-1)).bind fun (x_82, y_83, y_84, y_85, y_86) =>
        (best_S N x_82 y_83 y_84 y_85 y_86).bind fun (x_87, y_88, y_89) =>
        (count_S N x_82 y_83 y_84 y_85 y_86).bind fun (x_90, y_91) =>
        br (decide (y_88 = best_71))
          (chk (sum_74 + x_90) <|
          ffated_j3 N (ffated_l1 N n_) l_70 best_71 many_72 (sum_74 + x_90) y_89 y_91 u_75 u2_76 d_77 d2_78 d3_79 d4_80 d5_81)
          (ffated_j3 N (ffated_l1 N n_) l_70 best_71 many_72 sum_74 y_89 y_91 u_75 u2_76 d_77 d2_78 d3_79 d4_80 d5_81))
      (some (.inr (.inr (.inr (.inr ())))))
def ffated_S (N : Nat) (numbers : Li) : Option Bool :=
  (hang_S N numbers).bind fun (x_1, y_2, y_3) =>
  (made_S N 5 x_1 y_2 y_3).bind fun (x_4, y_5, y_6, y_7, y_8, y_9, y_10, y_11) =>
  (best_S N x_4 y_5 y_6 y_7 y_8).bind fun (x_12, y_13, y_14) =>
  (count_S N x_4 y_5 y_6 y_7 y_8).bind fun (x_15, y_16) =>
  br (!decide (y_14 = 0))
    (some false)
    (br (!decide (y_16 = 0))
      (some false)
      (br (!decide ((x_12.length : Int) = (y_6.length : Int)))
        (some false)
        (br (decide (x_15 < 1))
          (some false)
          ((ffated_l1 N N x_12 y_13 x_15 (y_6.length : Int) 0 x_4 y_5 y_6 y_7 y_8).bind fun e => match e with
          | .inl _ =>
            some false
          | .inr (.inl _) =>
            some false
          | .inr (.inr (.inl _)) =>
            some false
          | .inr (.inr (.inr (.inl _))) =>
            some false
          | .inr (.inr (.inr (.inr _))) =>
            (awake_S N).bind fun x_92 =>
            some x_92))))
noncomputable def ffated_sp (N : Nat) : List Spec := [sp_hang N, sp_best N, sp_count N, sp_fates N, sp_awake N, sp_made N, sp_lpair N, sp_without N]
theorem ffated_all (N : Nat) : AllP (SpecOK Try.prog) (ffated_sp N) := ⟨sp_hang_ok N, sp_best_ok N, sp_count_ok N, sp_fates_ok N, sp_awake_ok N, sp_made_ok N, sp_lpair_ok N, sp_without_ok N, trivial⟩
noncomputable def ffated_c : Code := (Try.f8.body).getD .skip
noncomputable abbrev ffated_B : Body := { c := ffated_c, n := 188, res := [.tmp 2], outs := [⟨[.b], []⟩], m0 := 0 }
abbrev ffated_rt : altD ffated_B.outs → Option Bool := fun r => some r.1.1
abbrev ffated_l2_at : List PI := [.c [1, 1, 1, 1, 1, 0, 1, 0, 0, 1, 1, 0, 0, 1, 1, 0, 1, 0, 0, 0], .c [1, 1, 1, 1, 1, 0, 1, 0, 0, 1, 1, 0, 0, 1, 1, 0, 1, 0, 0, 1], .l [1, 1, 1, 1, 1, 0, 1, 0, 0, 1, 1, 0, 0, 1, 1, 0, 1, 0, 0], .b 2, .c [1, 1, 1, 1, 1, 0, 1, 0, 0, 1, 1, 0, 0, 1, 1, 1], .b 1, .c [1, 1, 1, 1, 1, 0, 1, 0, 0, 1, 1, 1], .l [1, 1, 1, 1, 1, 0, 1, 0, 0], .b 0, .c [1, 1, 1, 1, 1, 1]]
abbrev ffated_l2_st : Sta := ⟨[3, 4, 5, 7, 9, 10, 63, 64, 69, 70], ⟨[.own 0 0, shL, shI, shI, shI, shI, shI, shI, shI, shI], [.segs [shL, shI, shQ, shQ, shL]]⟩⟩
abbrev ffated_l2_h (rec : Li → Int → Int → Int → Int → Int → Int → Int → Int → Li → Int → Ll → Ll → Li → Option ((Unit) ⊕ ((Unit) ⊕ ((Unit) ⊕ (Li × Int × Int × Int × Int × Int × Int × Li × Int × Ll × Ll × Li))))) : Leaf ((Unit) ⊕ ((Unit) ⊕ ((Unit) ⊕ (Li × Int × Int × Int × Int × Int × Int × Li × Int × Ll × Ll × Li)))) := ⟨ffated_l2_at, ffated_l2_st, fun p => rec p.1.2.1 p.1.2.2.1 p.1.2.2.2.1 p.1.2.2.2.2.1 p.1.2.2.2.2.2.1 p.1.2.2.2.2.2.2.1 p.1.2.2.2.2.2.2.2.1 p.1.2.2.2.2.2.2.2.2.1 p.1.2.2.2.2.2.2.2.2.2.1 p.2.1.1 p.2.1.2.1 p.2.1.2.2.1 p.2.1.2.2.2.1 p.2.1.2.2.2.2.1⟩
abbrev ffated_l2_e0 : Leaf ((Unit) ⊕ ((Unit) ⊕ ((Unit) ⊕ (Li × Int × Int × Int × Int × Int × Int × Li × Int × Ll × Ll × Li)))) := ⟨[.c [1, 1, 1, 1, 1, 0, 1, 0, 0, 1, 1, 0, 0, 1, 1, 0, 1, 0, 0, 1, 1, 0, 0, 1, 1, 0, 1, 0, 0], .c [1, 1, 1, 1, 1, 0, 1, 0, 0, 1, 1, 0, 0, 1, 1, 0, 1, 0, 0, 1, 1, 0, 0, 1, 1, 0, 1, 0, 1], .c [1, 1, 1, 1, 1, 0, 1, 0, 0, 1, 1, 0, 0, 1, 1, 0, 1, 0, 0, 1, 1, 0, 0, 1, 1, 1], .b 3, .c [1, 1, 1, 1, 1, 0, 1, 0, 0, 1, 1, 0, 0, 1, 1, 0, 1, 0, 0, 1, 1, 1], .l [1, 1, 1, 1, 1, 0, 1, 0, 0, 1, 1, 0, 0, 1, 1, 0, 1, 0, 0], .b 2, .c [1, 1, 1, 1, 1, 0, 1, 0, 0, 1, 1, 0, 0, 1, 1, 1], .b 1, .c [1, 1, 1, 1, 1, 0, 1, 0, 0, 1, 1, 1], .l [1, 1, 1, 1, 1, 0, 1, 0, 0], .b 0, .c [1, 1, 1, 1, 1, 1]], ⟨[], ⟨[], []⟩⟩, fun p => some (.inl ())⟩
abbrev ffated_l2_e1 : Leaf ((Unit) ⊕ ((Unit) ⊕ ((Unit) ⊕ (Li × Int × Int × Int × Int × Int × Int × Li × Int × Ll × Ll × Li)))) := ⟨[.c [1, 1, 1, 1, 1, 0, 1, 0, 0, 1, 1, 0, 0, 1, 1, 0, 1, 0, 0, 1, 1, 0, 0, 1, 1, 1, 1, 1, 1, 1, 0, 1, 0, 0], .c [1, 1, 1, 1, 1, 0, 1, 0, 0, 1, 1, 0, 0, 1, 1, 0, 1, 0, 0, 1, 1, 0, 0, 1, 1, 1, 1, 1, 1, 1, 0, 1, 0, 1], .c [1, 1, 1, 1, 1, 0, 1, 0, 0, 1, 1, 0, 0, 1, 1, 0, 1, 0, 0, 1, 1, 0, 0, 1, 1, 1, 1, 1, 1, 1, 1], .b 3, .c [1, 1, 1, 1, 1, 0, 1, 0, 0, 1, 1, 0, 0, 1, 1, 0, 1, 0, 0, 1, 1, 1], .l [1, 1, 1, 1, 1, 0, 1, 0, 0, 1, 1, 0, 0, 1, 1, 0, 1, 0, 0], .b 2, .c [1, 1, 1, 1, 1, 0, 1, 0, 0, 1, 1, 0, 0, 1, 1, 1], .b 1, .c [1, 1, 1, 1, 1, 0, 1, 0, 0, 1, 1, 1], .l [1, 1, 1, 1, 1, 0, 1, 0, 0], .b 0, .c [1, 1, 1, 1, 1, 1]], ⟨[], ⟨[], []⟩⟩, fun p => some (.inr (.inl ()))⟩
abbrev ffated_l2_e2 : Leaf ((Unit) ⊕ ((Unit) ⊕ ((Unit) ⊕ (Li × Int × Int × Int × Int × Int × Int × Li × Int × Ll × Ll × Li)))) := ⟨[.c [1, 1, 1, 1, 1, 0, 1, 0, 0, 1, 1, 0, 0, 1, 1, 0, 1, 0, 0, 1, 1, 0, 0, 1, 1, 1, 1, 1, 1, 1, 1, 1, 1, 1, 1, 1, 0, 0], .c [1, 1, 1, 1, 1, 0, 1, 0, 0, 1, 1, 0, 0, 1, 1, 0, 1, 0, 0, 1, 1, 0, 0, 1, 1, 1, 1, 1, 1, 1, 1, 1, 1, 1, 1, 1, 0, 1], .b 3, .c [1, 1, 1, 1, 1, 0, 1, 0, 0, 1, 1, 0, 0, 1, 1, 0, 1, 0, 0, 1, 1, 1], .l [1, 1, 1, 1, 1, 0, 1, 0, 0, 1, 1, 0, 0, 1, 1, 0, 1, 0, 0], .b 2, .c [1, 1, 1, 1, 1, 0, 1, 0, 0, 1, 1, 0, 0, 1, 1, 1], .b 1, .c [1, 1, 1, 1, 1, 0, 1, 0, 0, 1, 1, 1], .l [1, 1, 1, 1, 1, 0, 1, 0, 0], .b 0, .c [1, 1, 1, 1, 1, 1]], ⟨[], ⟨[], []⟩⟩, fun p => some (.inr (.inr (.inl ())))⟩
abbrev ffated_l2_e3 : Leaf ((Unit) ⊕ ((Unit) ⊕ ((Unit) ⊕ (Li × Int × Int × Int × Int × Int × Int × Li × Int × Ll × Ll × Li)))) := ⟨[.c [1, 1, 1, 1, 1, 0, 1, 0, 0, 1, 1, 0, 0, 1, 1, 1, 0], .c [1, 1, 1, 1, 1, 0, 1, 0, 0, 1, 1, 0, 0, 1, 1, 1, 1], .b 1, .c [1, 1, 1, 1, 1, 0, 1, 0, 0, 1, 1, 1], .l [1, 1, 1, 1, 1, 0, 1, 0, 0], .b 0, .c [1, 1, 1, 1, 1, 1]], ⟨[3, 4, 5, 7, 9, 10, 63, 64], ⟨[.own 0 0, shL, shI, shI, shI, shI, shI, shI], [.segs [shL, shI, shQ, shQ, shL]]⟩⟩, fun p => some (.inr (.inr (.inr (p.1.2.1, p.1.2.2.1, p.1.2.2.2.1, p.1.2.2.2.2.1, p.1.2.2.2.2.2.1, p.1.2.2.2.2.2.2.1, p.1.2.2.2.2.2.2.2.1, p.2.1.1, p.2.1.2.1, p.2.1.2.2.1, p.2.1.2.2.2.1, p.2.1.2.2.2.2.1))))⟩
abbrev ffated_j2_at : List PI := [.c [1, 1, 1, 1, 1, 0, 1, 0, 0, 1, 1, 0, 0, 1, 1, 0, 1, 0, 0, 1, 1, 0, 0, 1, 1, 1, 1, 1, 1, 1, 1, 1, 1, 1, 1, 0], .c [1, 1, 1, 1, 1, 0, 1, 0, 0, 1, 1, 0, 0, 1, 1, 0, 1, 0, 0, 1, 1, 0, 0, 1, 1, 1, 1, 1, 1, 1, 1, 1, 1, 1, 1, 1], .b 3, .c [1, 1, 1, 1, 1, 0, 1, 0, 0, 1, 1, 0, 0, 1, 1, 0, 1, 0, 0, 1, 1, 1], .l [1, 1, 1, 1, 1, 0, 1, 0, 0, 1, 1, 0, 0, 1, 1, 0, 1, 0, 0], .b 2, .c [1, 1, 1, 1, 1, 0, 1, 0, 0, 1, 1, 0, 0, 1, 1, 1], .b 1, .c [1, 1, 1, 1, 1, 0, 1, 0, 0, 1, 1, 1], .l [1, 1, 1, 1, 1, 0, 1, 0, 0], .b 0, .c [1, 1, 1, 1, 1, 1]]
abbrev ffated_j2_st : Sta := ⟨[3, 4, 5, 7, 9, 10, 12, 22, 63, 64, 69, 70], ⟨[.own 0 0, shL, shI, shI, shI, shI, shI, shI, shI, shI, shI, shI], [.segs [shL, shI, shQ, shQ, shL]]⟩⟩
abbrev ffated_j2_k (N : Nat) (rec : Li → Int → Int → Int → Int → Int → Int → Int → Int → Li → Int → Ll → Ll → Li → Option ((Unit) ⊕ ((Unit) ⊕ ((Unit) ⊕ (Li × Int × Int × Int × Int × Int × Int × Li × Int × Ll × Ll × Li))))) : Leaf ((Unit) ⊕ ((Unit) ⊕ ((Unit) ⊕ (Li × Int × Int × Int × Int × Int × Int × Li × Int × Ll × Ll × Li)))) := ⟨ffated_j2_at, ffated_j2_st, fun p => ffated_j2 N rec p.1.2.1 p.1.2.2.1 p.1.2.2.2.1 p.1.2.2.2.2.1 p.1.2.2.2.2.2.1 p.1.2.2.2.2.2.2.1 p.1.2.2.2.2.2.2.2.1 p.1.2.2.2.2.2.2.2.2.1 p.1.2.2.2.2.2.2.2.2.2.1 p.1.2.2.2.2.2.2.2.2.2.2.1 p.1.2.2.2.2.2.2.2.2.2.2.2.1 p.2.1.1 p.2.1.2.1 p.2.1.2.2.1 p.2.1.2.2.2.1 p.2.1.2.2.2.2.1⟩
theorem ffated_j2_eq (N : Nat) (rec : Li → Int → Int → Int → Int → Int → Int → Int → Int → Li → Int → Ll → Ll → Li → Option ((Unit) ⊕ ((Unit) ⊕ ((Unit) ⊕ (Li × Int × Int × Int × Int × Int × Int × Li × Int × Ll × Ll × Li))))) (l : Li) (best : Int) (many : Int) (i : Int) (sum : Int) (fate : Int) (want : Int) (u : Int) (u2 : Int) (u3 : Int) (u4 : Int) (d : Li) (d2 : Int) (d3 : Ll) (d4 : Ll) (d5 : Li) : ev (Z := (Unit) ⊕ ((Unit) ⊕ ((Unit) ⊕ (Li × Int × Int × Int × Int × Int × Int × Li × Int × Ll × Ll × Li)))) Try.prog (ffated_sp N) ffated_B [] [ffated_l2_h rec, ffated_l2_e0, ffated_l2_e1, ffated_l2_e2, ffated_l2_e3] none 400 true ffated_j2_at (stL ffated_j2_st (((), l, best, many, i, sum, fate, want, u, u2, u3, u4, ()), ((d, d2, d3, d4, d5, ()), ()))) (stH ffated_j2_st (((), l, best, many, i, sum, fate, want, u, u2, u3, u4, ()), ((d, d2, d3, d4, d5, ()), ()))) = ffated_j2 N rec l best many i sum fate want u u2 u3 u4 d d2 d3 d4 d5 := by kernel_rfl
theorem ffated_j2_lf (N : Nat) (rec : Li → Int → Int → Int → Int → Int → Int → Int → Int → Li → Int → Ll → Ll → Li → Option ((Unit) ⊕ ((Unit) ⊕ ((Unit) ⊕ (Li × Int × Int × Int × Int × Int × Int × Li × Int × Ll × Ll × Li))))) {z : (Unit) ⊕ ((Unit) ⊕ ((Unit) ⊕ (Li × Int × Int × Int × Int × Int × Int × Li × Int × Ll × Ll × Li)))} {top : Bool} {E : EE} {Xc : Ctx} (hE : EOK ffated_B.m0 E) (hX : CxOK top Xc) (hrec : LeafOK Try.prog ffated_B.c ffated_B.n ffated_B.m0 E Xc z (ffated_l2_h rec)) (h0 : LeafOK Try.prog ffated_B.c ffated_B.n ffated_B.m0 E Xc z ffated_l2_e0) (h1 : LeafOK Try.prog ffated_B.c ffated_B.n ffated_B.m0 E Xc z ffated_l2_e1) (h2 : LeafOK Try.prog ffated_B.c ffated_B.n ffated_B.m0 E Xc z ffated_l2_e2) (h3 : LeafOK Try.prog ffated_B.c ffated_B.n ffated_B.m0 E Xc z ffated_l2_e3) : LeafOK Try.prog ffated_B.c ffated_B.n ffated_B.m0 E Xc z (ffated_j2_k N rec) := leaf_of_ev (B := ffated_B) (loops := []) (leaves := [ffated_l2_h rec, ffated_l2_e0, ffated_l2_e1, ffated_l2_e2, ffated_l2_e3]) (ffated_all N) mixed trivial hE hX ⟨hrec, h0, h1, h2, h3, trivial⟩ RetOK.no (fun p => ffated_j2_eq N rec p.1.2.1 p.1.2.2.1 p.1.2.2.2.1 p.1.2.2.2.2.1 p.1.2.2.2.2.2.1 p.1.2.2.2.2.2.2.1 p.1.2.2.2.2.2.2.2.1 p.1.2.2.2.2.2.2.2.2.1 p.1.2.2.2.2.2.2.2.2.2.1 p.1.2.2.2.2.2.2.2.2.2.2.1 p.1.2.2.2.2.2.2.2.2.2.2.2.1 p.2.1.1 p.2.1.2.1 p.2.1.2.2.1 p.2.1.2.2.2.1 p.2.1.2.2.2.2.1)
abbrev ffated_j1_at : List PI := [.c [1, 1, 1, 1, 1, 0, 1, 0, 0, 1, 1, 0, 0, 1, 1, 0, 1, 0, 0, 1, 1, 0, 0, 1, 1, 1, 1, 1, 1, 1, 1, 1, 1, 1, 0, 0], .c [1, 1, 1, 1, 1, 0, 1, 0, 0, 1, 1, 0, 0, 1, 1, 0, 1, 0, 0, 1, 1, 0, 0, 1, 1, 1, 1, 1, 1, 1, 1, 1, 1, 1, 0, 1], .c [1, 1, 1, 1, 1, 0, 1, 0, 0, 1, 1, 0, 0, 1, 1, 0, 1, 0, 0, 1, 1, 0, 0, 1, 1, 1, 1, 1, 1, 1, 1, 1, 1, 1, 1], .b 3, .c [1, 1, 1, 1, 1, 0, 1, 0, 0, 1, 1, 0, 0, 1, 1, 0, 1, 0, 0, 1, 1, 1], .l [1, 1, 1, 1, 1, 0, 1, 0, 0, 1, 1, 0, 0, 1, 1, 0, 1, 0, 0], .b 2, .c [1, 1, 1, 1, 1, 0, 1, 0, 0, 1, 1, 0, 0, 1, 1, 1], .b 1, .c [1, 1, 1, 1, 1, 0, 1, 0, 0, 1, 1, 1], .l [1, 1, 1, 1, 1, 0, 1, 0, 0], .b 0, .c [1, 1, 1, 1, 1, 1]]
abbrev ffated_j1_st : Sta := ⟨[3, 4, 5, 7, 9, 10, 12, 19, 21, 22, 63, 64, 69, 70], ⟨[.own 0 0, shL, shI, shI, shI, shI, shI, shI, .b, shI, shI, shI, shI, shI], [.segs [shL, shI, shQ, shQ, shL]]⟩⟩
abbrev ffated_j1_k (N : Nat) (rec : Li → Int → Int → Int → Int → Int → Int → Int → Int → Li → Int → Ll → Ll → Li → Option ((Unit) ⊕ ((Unit) ⊕ ((Unit) ⊕ (Li × Int × Int × Int × Int × Int × Int × Li × Int × Ll × Ll × Li))))) : Leaf ((Unit) ⊕ ((Unit) ⊕ ((Unit) ⊕ (Li × Int × Int × Int × Int × Int × Int × Li × Int × Ll × Ll × Li)))) := ⟨ffated_j1_at, ffated_j1_st, fun p => ffated_j1 N rec p.1.2.1 p.1.2.2.1 p.1.2.2.2.1 p.1.2.2.2.2.1 p.1.2.2.2.2.2.1 p.1.2.2.2.2.2.2.1 p.1.2.2.2.2.2.2.2.1 p.1.2.2.2.2.2.2.2.2.1 p.1.2.2.2.2.2.2.2.2.2.1 p.1.2.2.2.2.2.2.2.2.2.2.1 p.1.2.2.2.2.2.2.2.2.2.2.2.1 p.1.2.2.2.2.2.2.2.2.2.2.2.2.1 p.1.2.2.2.2.2.2.2.2.2.2.2.2.2.1 p.2.1.1 p.2.1.2.1 p.2.1.2.2.1 p.2.1.2.2.2.1 p.2.1.2.2.2.2.1⟩
theorem ffated_j1_eq (N : Nat) (rec : Li → Int → Int → Int → Int → Int → Int → Int → Int → Li → Int → Ll → Ll → Li → Option ((Unit) ⊕ ((Unit) ⊕ ((Unit) ⊕ (Li × Int × Int × Int × Int × Int × Int × Li × Int × Ll × Ll × Li))))) (l : Li) (best : Int) (many : Int) (i : Int) (sum : Int) (fate : Int) (ways : Int) (joined : Bool) (want : Int) (u : Int) (u2 : Int) (u3 : Int) (u4 : Int) (d : Li) (d2 : Int) (d3 : Ll) (d4 : Ll) (d5 : Li) : ev (Z := (Unit) ⊕ ((Unit) ⊕ ((Unit) ⊕ (Li × Int × Int × Int × Int × Int × Int × Li × Int × Ll × Ll × Li)))) Try.prog (ffated_sp N) ffated_B [] [ffated_l2_h rec, ffated_l2_e0, ffated_l2_e1, ffated_l2_e2, ffated_l2_e3, ffated_j2_k N rec] none 400 true ffated_j1_at (stL ffated_j1_st (((), l, best, many, i, sum, fate, ways, joined, want, u, u2, u3, u4, ()), ((d, d2, d3, d4, d5, ()), ()))) (stH ffated_j1_st (((), l, best, many, i, sum, fate, ways, joined, want, u, u2, u3, u4, ()), ((d, d2, d3, d4, d5, ()), ()))) = ffated_j1 N rec l best many i sum fate ways joined want u u2 u3 u4 d d2 d3 d4 d5 := by kernel_rfl
theorem ffated_j1_lf (N : Nat) (rec : Li → Int → Int → Int → Int → Int → Int → Int → Int → Li → Int → Ll → Ll → Li → Option ((Unit) ⊕ ((Unit) ⊕ ((Unit) ⊕ (Li × Int × Int × Int × Int × Int × Int × Li × Int × Ll × Ll × Li))))) {z : (Unit) ⊕ ((Unit) ⊕ ((Unit) ⊕ (Li × Int × Int × Int × Int × Int × Int × Li × Int × Ll × Ll × Li)))} {top : Bool} {E : EE} {Xc : Ctx} (hE : EOK ffated_B.m0 E) (hX : CxOK top Xc) (hrec : LeafOK Try.prog ffated_B.c ffated_B.n ffated_B.m0 E Xc z (ffated_l2_h rec)) (h0 : LeafOK Try.prog ffated_B.c ffated_B.n ffated_B.m0 E Xc z ffated_l2_e0) (h1 : LeafOK Try.prog ffated_B.c ffated_B.n ffated_B.m0 E Xc z ffated_l2_e1) (h2 : LeafOK Try.prog ffated_B.c ffated_B.n ffated_B.m0 E Xc z ffated_l2_e2) (h3 : LeafOK Try.prog ffated_B.c ffated_B.n ffated_B.m0 E Xc z ffated_l2_e3) : LeafOK Try.prog ffated_B.c ffated_B.n ffated_B.m0 E Xc z (ffated_j1_k N rec) := leaf_of_ev (B := ffated_B) (loops := []) (leaves := [ffated_l2_h rec, ffated_l2_e0, ffated_l2_e1, ffated_l2_e2, ffated_l2_e3, ffated_j2_k N rec]) (ffated_all N) mixed trivial hE hX ⟨hrec, h0, h1, h2, h3, ffated_j2_lf N rec hE hX hrec h0 h1 h2 h3, trivial⟩ RetOK.no (fun p => ffated_j1_eq N rec p.1.2.1 p.1.2.2.1 p.1.2.2.2.1 p.1.2.2.2.2.1 p.1.2.2.2.2.2.1 p.1.2.2.2.2.2.2.1 p.1.2.2.2.2.2.2.2.1 p.1.2.2.2.2.2.2.2.2.1 p.1.2.2.2.2.2.2.2.2.2.1 p.1.2.2.2.2.2.2.2.2.2.2.1 p.1.2.2.2.2.2.2.2.2.2.2.2.1 p.1.2.2.2.2.2.2.2.2.2.2.2.2.1 p.1.2.2.2.2.2.2.2.2.2.2.2.2.2.1 p.2.1.1 p.2.1.2.1 p.2.1.2.2.1 p.2.1.2.2.2.1 p.2.1.2.2.2.2.1)
noncomputable def ffated_l2_L (N : Nat) : LoopS := { at_ := ffated_l2_at, sta := ffated_l2_st, exits := [([.c [1, 1, 1, 1, 1, 0, 1, 0, 0, 1, 1, 0, 0, 1, 1, 0, 1, 0, 0, 1, 1, 0, 0, 1, 1, 0, 1, 0, 0], .c [1, 1, 1, 1, 1, 0, 1, 0, 0, 1, 1, 0, 0, 1, 1, 0, 1, 0, 0, 1, 1, 0, 0, 1, 1, 0, 1, 0, 1], .c [1, 1, 1, 1, 1, 0, 1, 0, 0, 1, 1, 0, 0, 1, 1, 0, 1, 0, 0, 1, 1, 0, 0, 1, 1, 1], .b 3, .c [1, 1, 1, 1, 1, 0, 1, 0, 0, 1, 1, 0, 0, 1, 1, 0, 1, 0, 0, 1, 1, 1], .l [1, 1, 1, 1, 1, 0, 1, 0, 0, 1, 1, 0, 0, 1, 1, 0, 1, 0, 0], .b 2, .c [1, 1, 1, 1, 1, 0, 1, 0, 0, 1, 1, 0, 0, 1, 1, 1], .b 1, .c [1, 1, 1, 1, 1, 0, 1, 0, 0, 1, 1, 1], .l [1, 1, 1, 1, 1, 0, 1, 0, 0], .b 0, .c [1, 1, 1, 1, 1, 1]], ⟨[], ⟨[], []⟩⟩), ([.c [1, 1, 1, 1, 1, 0, 1, 0, 0, 1, 1, 0, 0, 1, 1, 0, 1, 0, 0, 1, 1, 0, 0, 1, 1, 1, 1, 1, 1, 1, 0, 1, 0, 0], .c [1, 1, 1, 1, 1, 0, 1, 0, 0, 1, 1, 0, 0, 1, 1, 0, 1, 0, 0, 1, 1, 0, 0, 1, 1, 1, 1, 1, 1, 1, 0, 1, 0, 1], .c [1, 1, 1, 1, 1, 0, 1, 0, 0, 1, 1, 0, 0, 1, 1, 0, 1, 0, 0, 1, 1, 0, 0, 1, 1, 1, 1, 1, 1, 1, 1], .b 3, .c [1, 1, 1, 1, 1, 0, 1, 0, 0, 1, 1, 0, 0, 1, 1, 0, 1, 0, 0, 1, 1, 1], .l [1, 1, 1, 1, 1, 0, 1, 0, 0, 1, 1, 0, 0, 1, 1, 0, 1, 0, 0], .b 2, .c [1, 1, 1, 1, 1, 0, 1, 0, 0, 1, 1, 0, 0, 1, 1, 1], .b 1, .c [1, 1, 1, 1, 1, 0, 1, 0, 0, 1, 1, 1], .l [1, 1, 1, 1, 1, 0, 1, 0, 0], .b 0, .c [1, 1, 1, 1, 1, 1]], ⟨[], ⟨[], []⟩⟩), ([.c [1, 1, 1, 1, 1, 0, 1, 0, 0, 1, 1, 0, 0, 1, 1, 0, 1, 0, 0, 1, 1, 0, 0, 1, 1, 1, 1, 1, 1, 1, 1, 1, 1, 1, 1, 1, 0, 0], .c [1, 1, 1, 1, 1, 0, 1, 0, 0, 1, 1, 0, 0, 1, 1, 0, 1, 0, 0, 1, 1, 0, 0, 1, 1, 1, 1, 1, 1, 1, 1, 1, 1, 1, 1, 1, 0, 1], .b 3, .c [1, 1, 1, 1, 1, 0, 1, 0, 0, 1, 1, 0, 0, 1, 1, 0, 1, 0, 0, 1, 1, 1], .l [1, 1, 1, 1, 1, 0, 1, 0, 0, 1, 1, 0, 0, 1, 1, 0, 1, 0, 0], .b 2, .c [1, 1, 1, 1, 1, 0, 1, 0, 0, 1, 1, 0, 0, 1, 1, 1], .b 1, .c [1, 1, 1, 1, 1, 0, 1, 0, 0, 1, 1, 1], .l [1, 1, 1, 1, 1, 0, 1, 0, 0], .b 0, .c [1, 1, 1, 1, 1, 1]], ⟨[], ⟨[], []⟩⟩), ([.c [1, 1, 1, 1, 1, 0, 1, 0, 0, 1, 1, 0, 0, 1, 1, 1, 0], .c [1, 1, 1, 1, 1, 0, 1, 0, 0, 1, 1, 0, 0, 1, 1, 1, 1], .b 1, .c [1, 1, 1, 1, 1, 0, 1, 0, 0, 1, 1, 1], .l [1, 1, 1, 1, 1, 0, 1, 0, 0], .b 0, .c [1, 1, 1, 1, 1, 1]], ⟨[3, 4, 5, 7, 9, 10, 63, 64], ⟨[.own 0 0, shL, shI, shI, shI, shI, shI, shI], [.segs [shL, shI, shQ, shQ, shL]]⟩⟩)], run := fun p k => (ffated_l2 N N p.1.2.1 p.1.2.2.1 p.1.2.2.2.1 p.1.2.2.2.2.1 p.1.2.2.2.2.2.1 p.1.2.2.2.2.2.2.1 p.1.2.2.2.2.2.2.2.1 p.1.2.2.2.2.2.2.2.2.1 p.1.2.2.2.2.2.2.2.2.2.1 p.2.1.1 p.2.1.2.1 p.2.1.2.2.1 p.2.1.2.2.2.1 p.2.1.2.2.2.2.1).bind fun e => match e with | .inl x => k (.inl ((), ())) | .inr (.inl x) => k (.inr (.inl ((), ()))) | .inr (.inr (.inl x)) => k (.inr (.inr (.inl ((), ())))) | .inr (.inr (.inr x)) => k (.inr (.inr (.inr (.inl (((), x.1, x.2.1, x.2.2.1, x.2.2.2.1, x.2.2.2.2.1, x.2.2.2.2.2.1, x.2.2.2.2.2.2.1, ()), ((x.2.2.2.2.2.2.2.1, x.2.2.2.2.2.2.2.2.1, x.2.2.2.2.2.2.2.2.2.1, x.2.2.2.2.2.2.2.2.2.2.1, x.2.2.2.2.2.2.2.2.2.2.2, ()), ())))))) }
theorem ffated_l2_eq (N n_ : Nat) (l : Li) (best : Int) (many : Int) (i : Int) (sum : Int) (u : Int) (u2 : Int) (u3 : Int) (u4 : Int) (d : Li) (d2 : Int) (d3 : Ll) (d4 : Ll) (d5 : Li) : ev (Z := (Unit) ⊕ ((Unit) ⊕ ((Unit) ⊕ (Li × Int × Int × Int × Int × Int × Int × Li × Int × Ll × Ll × Li)))) Try.prog (ffated_sp N) ffated_B [] [ffated_l2_h (ffated_l2 N n_), ffated_l2_e0, ffated_l2_e1, ffated_l2_e2, ffated_l2_e3, ffated_j2_k N (ffated_l2 N n_), ffated_j1_k N (ffated_l2 N n_)] none 400 true ffated_l2_at (stL ffated_l2_st (((), l, best, many, i, sum, u, u2, u3, u4, ()), ((d, d2, d3, d4, d5, ()), ()))) (stH ffated_l2_st (((), l, best, many, i, sum, u, u2, u3, u4, ()), ((d, d2, d3, d4, d5, ()), ()))) = ffated_l2 N (n_ + 1) l best many i sum u u2 u3 u4 d d2 d3 d4 d5 := by kernel_rfl
theorem ffated_l2_ok (N : Nat) {top : Bool} : LoopOK Try.prog ffated_B.c ffated_B.n ffated_B.m0 top (ffated_l2_L N) := loop_of_ev (Z := (Unit) ⊕ ((Unit) ⊕ ((Unit) ⊕ (Li × Int × Int × Int × Int × Int × Int × Li × Int × Ll × Ll × Li)))) (N := N) (fun m p => ffated_l2 N m p.1.2.1 p.1.2.2.1 p.1.2.2.2.1 p.1.2.2.2.2.1 p.1.2.2.2.2.2.1 p.1.2.2.2.2.2.2.1 p.1.2.2.2.2.2.2.2.1 p.1.2.2.2.2.2.2.2.2.1 p.1.2.2.2.2.2.2.2.2.2.1 p.2.1.1 p.2.1.2.1 p.2.1.2.2.1 p.2.1.2.2.2.1 p.2.1.2.2.2.2.1) (fun e => match e with | .inl x => .inl ((), ()) | .inr (.inl x) => .inr (.inl ((), ())) | .inr (.inr (.inl x)) => .inr (.inr (.inl ((), ()))) | .inr (.inr (.inr x)) => .inr (.inr (.inr (.inl (((), x.1, x.2.1, x.2.2.1, x.2.2.2.1, x.2.2.2.2.1, x.2.2.2.2.2.1, x.2.2.2.2.2.2.1, ()), ((x.2.2.2.2.2.2.2.1, x.2.2.2.2.2.2.2.2.1, x.2.2.2.2.2.2.2.2.2.1, x.2.2.2.2.2.2.2.2.2.2.1, x.2.2.2.2.2.2.2.2.2.2.2, ()), ())))))) (fun _ p k => bind_congr_ (ffated_l2 N N p.1.2.1 p.1.2.2.1 p.1.2.2.2.1 p.1.2.2.2.2.1 p.1.2.2.2.2.2.1 p.1.2.2.2.2.2.2.1 p.1.2.2.2.2.2.2.2.1 p.1.2.2.2.2.2.2.2.2.1 p.1.2.2.2.2.2.2.2.2.2.1 p.2.1.1 p.2.1.2.1 p.2.1.2.2.1 p.2.1.2.2.2.1 p.2.1.2.2.2.2.1) _ _ (fun e => by rcases e with x | x | x | x <;> rfl)) (fun _ => rfl) (fun m z E Xc hE hX hrec hx => leaf_of_ev (B := ffated_B) (loops := []) (leaves := [ffated_l2_h (ffated_l2 N m), ffated_l2_e0, ffated_l2_e1, ffated_l2_e2, ffated_l2_e3, ffated_j2_k N (ffated_l2 N m), ffated_j1_k N (ffated_l2 N m)]) (ffated_all N) mixed trivial hE hX ⟨hrec, (fun p hp => by obtain rfl := Option.some.inj hp; exact hx), (fun p hp => by obtain rfl := Option.some.inj hp; exact hx), (fun p hp => by obtain rfl := Option.some.inj hp; exact hx), (fun p hp => by obtain rfl := Option.some.inj hp; exact hx), ffated_j2_lf N _ hE hX hrec (fun p hp => by obtain rfl := Option.some.inj hp; exact hx) (fun p hp => by obtain rfl := Option.some.inj hp; exact hx) (fun p hp => by obtain rfl := Option.some.inj hp; exact hx) (fun p hp => by obtain rfl := Option.some.inj hp; exact hx), ffated_j1_lf N _ hE hX hrec (fun p hp => by obtain rfl := Option.some.inj hp; exact hx) (fun p hp => by obtain rfl := Option.some.inj hp; exact hx) (fun p hp => by obtain rfl := Option.some.inj hp; exact hx) (fun p hp => by obtain rfl := Option.some.inj hp; exact hx), trivial⟩ RetOK.no (fun p => ffated_l2_eq N m p.1.2.1 p.1.2.2.1 p.1.2.2.2.1 p.1.2.2.2.2.1 p.1.2.2.2.2.2.1 p.1.2.2.2.2.2.2.1 p.1.2.2.2.2.2.2.2.1 p.1.2.2.2.2.2.2.2.2.1 p.1.2.2.2.2.2.2.2.2.2.1 p.2.1.1 p.2.1.2.1 p.2.1.2.2.1 p.2.1.2.2.2.1 p.2.1.2.2.2.2.1))
abbrev ffated_l1_at : List PI := [.c [1, 1, 1, 1, 1, 0, 1, 0, 0, 0], .c [1, 1, 1, 1, 1, 0, 1, 0, 0, 1], .l [1, 1, 1, 1, 1, 0, 1, 0, 0], .b 0, .c [1, 1, 1, 1, 1, 1]]
abbrev ffated_l1_st : Sta := ⟨[3, 4, 5, 7, 63, 64], ⟨[.own 0 0, shL, shI, shI, shI, shI], [.segs [shL, shI, shQ, shQ, shL]]⟩⟩
abbrev ffated_l1_h (rec : Li → Int → Int → Int → Int → Li → Int → Ll → Ll → Li → Option ((Unit) ⊕ ((Unit) ⊕ ((Unit) ⊕ ((Unit) ⊕ (Unit)))))) : Leaf ((Unit) ⊕ ((Unit) ⊕ ((Unit) ⊕ ((Unit) ⊕ (Unit))))) := ⟨ffated_l1_at, ffated_l1_st, fun p => rec p.1.2.1 p.1.2.2.1 p.1.2.2.2.1 p.1.2.2.2.2.1 p.1.2.2.2.2.2.1 p.2.1.1 p.2.1.2.1 p.2.1.2.2.1 p.2.1.2.2.2.1 p.2.1.2.2.2.2.1⟩
abbrev ffated_l1_e0 : Leaf ((Unit) ⊕ ((Unit) ⊕ ((Unit) ⊕ ((Unit) ⊕ (Unit))))) := ⟨[.c [1, 1, 1, 1, 1, 0, 1, 0, 0, 1, 1, 0, 0, 1, 1, 0, 1, 0, 0, 1, 1, 0, 0, 1, 1, 0, 1, 0, 0], .c [1, 1, 1, 1, 1, 0, 1, 0, 0, 1, 1, 0, 0, 1, 1, 0, 1, 0, 0, 1, 1, 0, 0, 1, 1, 0, 1, 0, 1], .c [1, 1, 1, 1, 1, 0, 1, 0, 0, 1, 1, 0, 0, 1, 1, 0, 1, 0, 0, 1, 1, 0, 0, 1, 1, 1], .b 3, .c [1, 1, 1, 1, 1, 0, 1, 0, 0, 1, 1, 0, 0, 1, 1, 0, 1, 0, 0, 1, 1, 1], .l [1, 1, 1, 1, 1, 0, 1, 0, 0, 1, 1, 0, 0, 1, 1, 0, 1, 0, 0], .b 2, .c [1, 1, 1, 1, 1, 0, 1, 0, 0, 1, 1, 0, 0, 1, 1, 1], .b 1, .c [1, 1, 1, 1, 1, 0, 1, 0, 0, 1, 1, 1], .l [1, 1, 1, 1, 1, 0, 1, 0, 0], .b 0, .c [1, 1, 1, 1, 1, 1]], ⟨[], ⟨[], []⟩⟩, fun p => some (.inl ())⟩
abbrev ffated_l1_e1 : Leaf ((Unit) ⊕ ((Unit) ⊕ ((Unit) ⊕ ((Unit) ⊕ (Unit))))) := ⟨[.c [1, 1, 1, 1, 1, 0, 1, 0, 0, 1, 1, 0, 0, 1, 1, 0, 1, 0, 0, 1, 1, 0, 0, 1, 1, 1, 1, 1, 1, 1, 0, 1, 0, 0], .c [1, 1, 1, 1, 1, 0, 1, 0, 0, 1, 1, 0, 0, 1, 1, 0, 1, 0, 0, 1, 1, 0, 0, 1, 1, 1, 1, 1, 1, 1, 0, 1, 0, 1], .c [1, 1, 1, 1, 1, 0, 1, 0, 0, 1, 1, 0, 0, 1, 1, 0, 1, 0, 0, 1, 1, 0, 0, 1, 1, 1, 1, 1, 1, 1, 1], .b 3, .c [1, 1, 1, 1, 1, 0, 1, 0, 0, 1, 1, 0, 0, 1, 1, 0, 1, 0, 0, 1, 1, 1], .l [1, 1, 1, 1, 1, 0, 1, 0, 0, 1, 1, 0, 0, 1, 1, 0, 1, 0, 0], .b 2, .c [1, 1, 1, 1, 1, 0, 1, 0, 0, 1, 1, 0, 0, 1, 1, 1], .b 1, .c [1, 1, 1, 1, 1, 0, 1, 0, 0, 1, 1, 1], .l [1, 1, 1, 1, 1, 0, 1, 0, 0], .b 0, .c [1, 1, 1, 1, 1, 1]], ⟨[], ⟨[], []⟩⟩, fun p => some (.inr (.inl ()))⟩
abbrev ffated_l1_e2 : Leaf ((Unit) ⊕ ((Unit) ⊕ ((Unit) ⊕ ((Unit) ⊕ (Unit))))) := ⟨[.c [1, 1, 1, 1, 1, 0, 1, 0, 0, 1, 1, 0, 0, 1, 1, 0, 1, 0, 0, 1, 1, 0, 0, 1, 1, 1, 1, 1, 1, 1, 1, 1, 1, 1, 1, 1, 0, 0], .c [1, 1, 1, 1, 1, 0, 1, 0, 0, 1, 1, 0, 0, 1, 1, 0, 1, 0, 0, 1, 1, 0, 0, 1, 1, 1, 1, 1, 1, 1, 1, 1, 1, 1, 1, 1, 0, 1], .b 3, .c [1, 1, 1, 1, 1, 0, 1, 0, 0, 1, 1, 0, 0, 1, 1, 0, 1, 0, 0, 1, 1, 1], .l [1, 1, 1, 1, 1, 0, 1, 0, 0, 1, 1, 0, 0, 1, 1, 0, 1, 0, 0], .b 2, .c [1, 1, 1, 1, 1, 0, 1, 0, 0, 1, 1, 0, 0, 1, 1, 1], .b 1, .c [1, 1, 1, 1, 1, 0, 1, 0, 0, 1, 1, 1], .l [1, 1, 1, 1, 1, 0, 1, 0, 0], .b 0, .c [1, 1, 1, 1, 1, 1]], ⟨[], ⟨[], []⟩⟩, fun p => some (.inr (.inr (.inl ())))⟩
abbrev ffated_l1_e3 : Leaf ((Unit) ⊕ ((Unit) ⊕ ((Unit) ⊕ ((Unit) ⊕ (Unit))))) := ⟨[.c [1, 1, 1, 1, 1, 0, 1, 0, 0, 1, 1, 0, 0, 1, 1, 1, 1, 1, 1, 1, 1, 0, 0], .c [1, 1, 1, 1, 1, 0, 1, 0, 0, 1, 1, 0, 0, 1, 1, 1, 1, 1, 1, 1, 1, 0, 1], .b 1, .c [1, 1, 1, 1, 1, 0, 1, 0, 0, 1, 1, 1], .l [1, 1, 1, 1, 1, 0, 1, 0, 0], .b 0, .c [1, 1, 1, 1, 1, 1]], ⟨[], ⟨[], []⟩⟩, fun p => some (.inr (.inr (.inr (.inl ()))))⟩
abbrev ffated_l1_e4 : Leaf ((Unit) ⊕ ((Unit) ⊕ ((Unit) ⊕ ((Unit) ⊕ (Unit))))) := ⟨[.c [1, 1, 1, 1, 1, 1, 0], .c [1, 1, 1, 1, 1, 1, 1]], ⟨[], ⟨[], []⟩⟩, fun p => some (.inr (.inr (.inr (.inr ()))))⟩
abbrev ffated_j3_at : List PI := [.c [1, 1, 1, 1, 1, 0, 1, 0, 0, 1, 1, 0, 0, 1, 1, 1, 1, 1, 1, 1, 0], .c [1, 1, 1, 1, 1, 0, 1, 0, 0, 1, 1, 0, 0, 1, 1, 1, 1, 1, 1, 1, 1], .b 1, .c [1, 1, 1, 1, 1, 0, 1, 0, 0, 1, 1, 1], .l [1, 1, 1, 1, 1, 0, 1, 0, 0], .b 0, .c [1, 1, 1, 1, 1, 1]]
abbrev ffated_j3_st : Sta := ⟨[3, 4, 5, 7, 10, 26, 28, 63, 64], ⟨[.own 0 0, shL, shI, shI, shI, shI, shI, shI, shI], [.segs [shL, shI, shQ, shQ, shL]]⟩⟩
abbrev ffated_j3_k (N : Nat) (rec : Li → Int → Int → Int → Int → Li → Int → Ll → Ll → Li → Option ((Unit) ⊕ ((Unit) ⊕ ((Unit) ⊕ ((Unit) ⊕ (Unit)))))) : Leaf ((Unit) ⊕ ((Unit) ⊕ ((Unit) ⊕ ((Unit) ⊕ (Unit))))) := ⟨ffated_j3_at, ffated_j3_st, fun p => ffated_j3 N rec p.1.2.1 p.1.2.2.1 p.1.2.2.2.1 p.1.2.2.2.2.1 p.1.2.2.2.2.2.1 p.1.2.2.2.2.2.2.1 p.1.2.2.2.2.2.2.2.1 p.1.2.2.2.2.2.2.2.2.1 p.2.1.1 p.2.1.2.1 p.2.1.2.2.1 p.2.1.2.2.2.1 p.2.1.2.2.2.2.1⟩
theorem ffated_j3_eq (N : Nat) (rec : Li → Int → Int → Int → Int → Li → Int → Ll → Ll → Li → Option ((Unit) ⊕ ((Unit) ⊕ ((Unit) ⊕ ((Unit) ⊕ (Unit)))))) (l : Li) (best : Int) (many : Int) (sum : Int) (e_ : Int) (f : Int) (u : Int) (u2 : Int) (d : Li) (d2 : Int) (d3 : Ll) (d4 : Ll) (d5 : Li) : ev (Z := (Unit) ⊕ ((Unit) ⊕ ((Unit) ⊕ ((Unit) ⊕ (Unit))))) Try.prog (ffated_sp N) ffated_B [ffated_l2_L N] [ffated_l1_h rec, ffated_l1_e0, ffated_l1_e1, ffated_l1_e2, ffated_l1_e3, ffated_l1_e4] none 400 true ffated_j3_at (stL ffated_j3_st (((), l, best, many, sum, e_, f, u, u2, ()), ((d, d2, d3, d4, d5, ()), ()))) (stH ffated_j3_st (((), l, best, many, sum, e_, f, u, u2, ()), ((d, d2, d3, d4, d5, ()), ()))) = ffated_j3 N rec l best many sum e_ f u u2 d d2 d3 d4 d5 := by kernel_rfl
theorem ffated_j3_lf (N : Nat) (rec : Li → Int → Int → Int → Int → Li → Int → Ll → Ll → Li → Option ((Unit) ⊕ ((Unit) ⊕ ((Unit) ⊕ ((Unit) ⊕ (Unit)))))) {z : (Unit) ⊕ ((Unit) ⊕ ((Unit) ⊕ ((Unit) ⊕ (Unit))))} {top : Bool} {E : EE} {Xc : Ctx} (hE : EOK ffated_B.m0 E) (hX : CxOK top Xc) (hrec : LeafOK Try.prog ffated_B.c ffated_B.n ffated_B.m0 E Xc z (ffated_l1_h rec)) (h0 : LeafOK Try.prog ffated_B.c ffated_B.n ffated_B.m0 E Xc z ffated_l1_e0) (h1 : LeafOK Try.prog ffated_B.c ffated_B.n ffated_B.m0 E Xc z ffated_l1_e1) (h2 : LeafOK Try.prog ffated_B.c ffated_B.n ffated_B.m0 E Xc z ffated_l1_e2) (h3 : LeafOK Try.prog ffated_B.c ffated_B.n ffated_B.m0 E Xc z ffated_l1_e3) (h4 : LeafOK Try.prog ffated_B.c ffated_B.n ffated_B.m0 E Xc z ffated_l1_e4) : LeafOK Try.prog ffated_B.c ffated_B.n ffated_B.m0 E Xc z (ffated_j3_k N rec) := leaf_of_ev (B := ffated_B) (loops := [ffated_l2_L N]) (leaves := [ffated_l1_h rec, ffated_l1_e0, ffated_l1_e1, ffated_l1_e2, ffated_l1_e3, ffated_l1_e4]) (ffated_all N) mixed ⟨ffated_l2_ok N, trivial⟩ hE hX ⟨hrec, h0, h1, h2, h3, h4, trivial⟩ RetOK.no (fun p => ffated_j3_eq N rec p.1.2.1 p.1.2.2.1 p.1.2.2.2.1 p.1.2.2.2.2.1 p.1.2.2.2.2.2.1 p.1.2.2.2.2.2.2.1 p.1.2.2.2.2.2.2.2.1 p.1.2.2.2.2.2.2.2.2.1 p.2.1.1 p.2.1.2.1 p.2.1.2.2.1 p.2.1.2.2.2.1 p.2.1.2.2.2.2.1)
noncomputable def ffated_l1_L (N : Nat) : LoopS := { at_ := ffated_l1_at, sta := ffated_l1_st, exits := [([.c [1, 1, 1, 1, 1, 0, 1, 0, 0, 1, 1, 0, 0, 1, 1, 0, 1, 0, 0, 1, 1, 0, 0, 1, 1, 0, 1, 0, 0], .c [1, 1, 1, 1, 1, 0, 1, 0, 0, 1, 1, 0, 0, 1, 1, 0, 1, 0, 0, 1, 1, 0, 0, 1, 1, 0, 1, 0, 1], .c [1, 1, 1, 1, 1, 0, 1, 0, 0, 1, 1, 0, 0, 1, 1, 0, 1, 0, 0, 1, 1, 0, 0, 1, 1, 1], .b 3, .c [1, 1, 1, 1, 1, 0, 1, 0, 0, 1, 1, 0, 0, 1, 1, 0, 1, 0, 0, 1, 1, 1], .l [1, 1, 1, 1, 1, 0, 1, 0, 0, 1, 1, 0, 0, 1, 1, 0, 1, 0, 0], .b 2, .c [1, 1, 1, 1, 1, 0, 1, 0, 0, 1, 1, 0, 0, 1, 1, 1], .b 1, .c [1, 1, 1, 1, 1, 0, 1, 0, 0, 1, 1, 1], .l [1, 1, 1, 1, 1, 0, 1, 0, 0], .b 0, .c [1, 1, 1, 1, 1, 1]], ⟨[], ⟨[], []⟩⟩), ([.c [1, 1, 1, 1, 1, 0, 1, 0, 0, 1, 1, 0, 0, 1, 1, 0, 1, 0, 0, 1, 1, 0, 0, 1, 1, 1, 1, 1, 1, 1, 0, 1, 0, 0], .c [1, 1, 1, 1, 1, 0, 1, 0, 0, 1, 1, 0, 0, 1, 1, 0, 1, 0, 0, 1, 1, 0, 0, 1, 1, 1, 1, 1, 1, 1, 0, 1, 0, 1], .c [1, 1, 1, 1, 1, 0, 1, 0, 0, 1, 1, 0, 0, 1, 1, 0, 1, 0, 0, 1, 1, 0, 0, 1, 1, 1, 1, 1, 1, 1, 1], .b 3, .c [1, 1, 1, 1, 1, 0, 1, 0, 0, 1, 1, 0, 0, 1, 1, 0, 1, 0, 0, 1, 1, 1], .l [1, 1, 1, 1, 1, 0, 1, 0, 0, 1, 1, 0, 0, 1, 1, 0, 1, 0, 0], .b 2, .c [1, 1, 1, 1, 1, 0, 1, 0, 0, 1, 1, 0, 0, 1, 1, 1], .b 1, .c [1, 1, 1, 1, 1, 0, 1, 0, 0, 1, 1, 1], .l [1, 1, 1, 1, 1, 0, 1, 0, 0], .b 0, .c [1, 1, 1, 1, 1, 1]], ⟨[], ⟨[], []⟩⟩), ([.c [1, 1, 1, 1, 1, 0, 1, 0, 0, 1, 1, 0, 0, 1, 1, 0, 1, 0, 0, 1, 1, 0, 0, 1, 1, 1, 1, 1, 1, 1, 1, 1, 1, 1, 1, 1, 0, 0], .c [1, 1, 1, 1, 1, 0, 1, 0, 0, 1, 1, 0, 0, 1, 1, 0, 1, 0, 0, 1, 1, 0, 0, 1, 1, 1, 1, 1, 1, 1, 1, 1, 1, 1, 1, 1, 0, 1], .b 3, .c [1, 1, 1, 1, 1, 0, 1, 0, 0, 1, 1, 0, 0, 1, 1, 0, 1, 0, 0, 1, 1, 1], .l [1, 1, 1, 1, 1, 0, 1, 0, 0, 1, 1, 0, 0, 1, 1, 0, 1, 0, 0], .b 2, .c [1, 1, 1, 1, 1, 0, 1, 0, 0, 1, 1, 0, 0, 1, 1, 1], .b 1, .c [1, 1, 1, 1, 1, 0, 1, 0, 0, 1, 1, 1], .l [1, 1, 1, 1, 1, 0, 1, 0, 0], .b 0, .c [1, 1, 1, 1, 1, 1]], ⟨[], ⟨[], []⟩⟩), ([.c [1, 1, 1, 1, 1, 0, 1, 0, 0, 1, 1, 0, 0, 1, 1, 1, 1, 1, 1, 1, 1, 0, 0], .c [1, 1, 1, 1, 1, 0, 1, 0, 0, 1, 1, 0, 0, 1, 1, 1, 1, 1, 1, 1, 1, 0, 1], .b 1, .c [1, 1, 1, 1, 1, 0, 1, 0, 0, 1, 1, 1], .l [1, 1, 1, 1, 1, 0, 1, 0, 0], .b 0, .c [1, 1, 1, 1, 1, 1]], ⟨[], ⟨[], []⟩⟩), ([.c [1, 1, 1, 1, 1, 1, 0], .c [1, 1, 1, 1, 1, 1, 1]], ⟨[], ⟨[], []⟩⟩)], run := fun p k => (ffated_l1 N N p.1.2.1 p.1.2.2.1 p.1.2.2.2.1 p.1.2.2.2.2.1 p.1.2.2.2.2.2.1 p.2.1.1 p.2.1.2.1 p.2.1.2.2.1 p.2.1.2.2.2.1 p.2.1.2.2.2.2.1).bind fun e => match e with | .inl x => k (.inl ((), ())) | .inr (.inl x) => k (.inr (.inl ((), ()))) | .inr (.inr (.inl x)) => k (.inr (.inr (.inl ((), ())))) | .inr (.inr (.inr (.inl x))) => k (.inr (.inr (.inr (.inl ((), ()))))) | .inr (.inr (.inr (.inr x))) => k (.inr (.inr (.inr (.inr (.inl ((), ())))))) }
theorem ffated_l1_eq (N n_ : Nat) (l : Li) (best : Int) (many : Int) (u : Int) (u2 : Int) (d : Li) (d2 : Int) (d3 : Ll) (d4 : Ll) (d5 : Li) : ev (Z := (Unit) ⊕ ((Unit) ⊕ ((Unit) ⊕ ((Unit) ⊕ (Unit))))) Try.prog (ffated_sp N) ffated_B [ffated_l2_L N] [ffated_l1_h (ffated_l1 N n_), ffated_l1_e0, ffated_l1_e1, ffated_l1_e2, ffated_l1_e3, ffated_l1_e4, ffated_j3_k N (ffated_l1 N n_)] none 400 true ffated_l1_at (stL ffated_l1_st (((), l, best, many, u, u2, ()), ((d, d2, d3, d4, d5, ()), ()))) (stH ffated_l1_st (((), l, best, many, u, u2, ()), ((d, d2, d3, d4, d5, ()), ()))) = ffated_l1 N (n_ + 1) l best many u u2 d d2 d3 d4 d5 := by kernel_rfl
theorem ffated_l1_ok (N : Nat) {top : Bool} : LoopOK Try.prog ffated_B.c ffated_B.n ffated_B.m0 top (ffated_l1_L N) := loop_of_ev (Z := (Unit) ⊕ ((Unit) ⊕ ((Unit) ⊕ ((Unit) ⊕ (Unit))))) (N := N) (fun m p => ffated_l1 N m p.1.2.1 p.1.2.2.1 p.1.2.2.2.1 p.1.2.2.2.2.1 p.1.2.2.2.2.2.1 p.2.1.1 p.2.1.2.1 p.2.1.2.2.1 p.2.1.2.2.2.1 p.2.1.2.2.2.2.1) (fun e => match e with | .inl x => .inl ((), ()) | .inr (.inl x) => .inr (.inl ((), ())) | .inr (.inr (.inl x)) => .inr (.inr (.inl ((), ()))) | .inr (.inr (.inr (.inl x))) => .inr (.inr (.inr (.inl ((), ())))) | .inr (.inr (.inr (.inr x))) => .inr (.inr (.inr (.inr (.inl ((), ())))))) (fun _ p k => bind_congr_ (ffated_l1 N N p.1.2.1 p.1.2.2.1 p.1.2.2.2.1 p.1.2.2.2.2.1 p.1.2.2.2.2.2.1 p.2.1.1 p.2.1.2.1 p.2.1.2.2.1 p.2.1.2.2.2.1 p.2.1.2.2.2.2.1) _ _ (fun e => by rcases e with x | x | x | x | x <;> rfl)) (fun _ => rfl) (fun m z E Xc hE hX hrec hx => leaf_of_ev (B := ffated_B) (loops := [ffated_l2_L N]) (leaves := [ffated_l1_h (ffated_l1 N m), ffated_l1_e0, ffated_l1_e1, ffated_l1_e2, ffated_l1_e3, ffated_l1_e4, ffated_j3_k N (ffated_l1 N m)]) (ffated_all N) mixed ⟨ffated_l2_ok N, trivial⟩ hE hX ⟨hrec, (fun p hp => by obtain rfl := Option.some.inj hp; exact hx), (fun p hp => by obtain rfl := Option.some.inj hp; exact hx), (fun p hp => by obtain rfl := Option.some.inj hp; exact hx), (fun p hp => by obtain rfl := Option.some.inj hp; exact hx), (fun p hp => by obtain rfl := Option.some.inj hp; exact hx), ffated_j3_lf N _ hE hX hrec (fun p hp => by obtain rfl := Option.some.inj hp; exact hx) (fun p hp => by obtain rfl := Option.some.inj hp; exact hx) (fun p hp => by obtain rfl := Option.some.inj hp; exact hx) (fun p hp => by obtain rfl := Option.some.inj hp; exact hx) (fun p hp => by obtain rfl := Option.some.inj hp; exact hx), trivial⟩ RetOK.no (fun p => ffated_l1_eq N m p.1.2.1 p.1.2.2.1 p.1.2.2.2.1 p.1.2.2.2.2.1 p.1.2.2.2.2.2.1 p.2.1.1 p.2.1.2.1 p.2.1.2.2.1 p.2.1.2.2.2.1 p.2.1.2.2.2.2.1))
abbrev ffated_st : Sta := ⟨[0], ⟨[.sl (.int .u8)], []⟩⟩
theorem ffated_eq (N : Nat) (numbers : Li) : ev (Z := Bool) Try.prog (ffated_sp N) ffated_B [ffated_l2_L N, ffated_l1_L N] [] (some ffated_rt) 400 false [.c [0], .c [1]] (stL ffated_st ((numbers, ()), ())) (stH ffated_st ((numbers, ()), ())) = ffated_S N numbers := by kernel_rfl
noncomputable def sp_ffated (N : Nat) : Spec := { f := 8, ins := ⟨[.sl (.int .u8)], []⟩, outs := [⟨[.b], []⟩], run := fun p k => (ffated_S N p.1.1).bind fun r => k ((r, ()), ()) }
theorem sp_ffated_ok (N : Nat) : SpecOK Try.prog (sp_ffated N) := fn_sound (B := ffated_B) (loops := [ffated_l2_L N, ffated_l1_L N]) (leaves := []) (fun p => ffated_S N p.1.1) (fun r => ((r, ()), ())) ffated_rt (fun _ _ _ => rfl) (fun r z h => by cases h; rfl) Try.func8 (by kernel_rfl) (by kernel_rfl) (by kernel_rfl) rfl rfl (by kernel_rfl) (fun args w => Sem.pv_run _ _ _ (by kernel_rfl) w) (ffated_all N) mixed ⟨ffated_l2_ok N, ffated_l1_ok N, trivial⟩ (fun z E Xc hE hX hret => trivial) (fun p => ffated_eq N p.1.1)

end Go.Proofs.Ythncjilcflilcaa

namespace Go.Proofs.Ythncjilcflilcaa
set_option linter.all false
open Go
theorem awake_v : awake_S 1100 = some true := by kernel_rfl
end Go.Proofs.Ythncjilcflilcaa

namespace Go.Proofs.Ythncjilcflilcaa
set_option linter.all false
open Go

section
variable {W : List Int} {s : Int} {L F : List (List Int)} {R : List Int} {N : Nat}
theorem delll_v {l : List (List Int)} {k : Nat} (hk : k < l.length) : delll_S N k ((k : Int) + 1) l = some (rmF l k) := by
  unfold delll_S delY_S rmF
  simp only [Int.toNat_natCast, show ((k : Int) + 1).toNat = k + 1 by omega]
  first | rw [if_pos (by omega)] | (rw [if_pos]; omega)
end
end Go.Proofs.Ythncjilcflilcaa

namespace Go.Proofs.Ythncjilcflilcaa
set_option linter.all false
open Go

section
variable {W : List Int} {s : Int} {L F : List (List Int)} {R : List Int} {N : Nat}
def rmI (R : List Int) (i : Nat) : List Int := R.take i ++ R.drop (i + 1)
theorem delli_v {l : List Int} {k : Nat} (hk : k < l.length) : delli_S N k ((k : Int) + 1) l = some (rmI l k) := by
  unfold delli_S delY_S rmI
  simp only [Int.toNat_natCast, show ((k : Int) + 1).toNat = k + 1 by omega]
  first | rw [if_pos (by omega)] | (rw [if_pos]; omega)
theorem rmI_len {l : List Int} {k : Nat} (hk : k < l.length) : (rmI l k).length = l.length - 1 := by
  unfold rmI
  rw [List.length_append, List.length_take, List.length_drop]; omega
theorem rmI_sub {k : Nat} : ∀ r ∈ rmI R k, r ∈ R := fun r hr => by
  unfold rmI at hr
  rcases List.mem_append.1 hr with h | h
  · exact List.mem_of_mem_take h
  · exact List.mem_of_mem_drop h
theorem Fine.rmL (h : Fine W s L F R) {i : Nat} (hi : i < L.length) : Fine W s (Proofs.Ythncjilcflilcaa.rmF L i) F (rmI R i) := by
  have h1 := rmF_len hi
  have h2 := rmI_len (l := R) (k := i) (by rw [h.rl]; exact hi)
  have h3 := h.l6; have h4 := h.rl
  exact ⟨h.w1, h.w5, by omega, h.f6, fun x hx => h.lw x (rmF_sub x hx), h.fw, by omega, h.w, h.s, fun x hx => h.r x (rmI_sub x hx), fun r hr => h.lv r (rmF_sub r hr), h.fv⟩
theorem agL_rm {i : Nat} (hi : i < L.length) : agF W (rmF L i) F = fun x y => agF W L F (up i x) y := by
  funext x y
  unfold agF
  rw [rmF_len hi, rmF_get hi]
  by_cases c : x < L.length - 1 ∧ y < F.length
  · rw [if_pos c, if_pos ⟨(up_lt_iff hi).1 c.1, c.2⟩]
  · rw [if_neg c, if_neg (fun h => c ⟨(up_lt_iff hi).2 h.1, h.2⟩)]
theorem slL_rm {i : Nat} (hi : i < L.length) : slF W (rmF L i) F = fun x y => slF W L F (up i x) y := by
  funext x y
  unfold slF
  rw [rmF_len hi, rmF_get hi]
  by_cases c : x < L.length - 1 ∧ y < F.length
  · rw [if_pos c, if_pos ⟨(up_lt_iff hi).1 c.1, c.2⟩]
  · rw [if_neg c, if_neg (fun h => c ⟨(up_lt_iff hi).2 h.1, h.2⟩)]
theorem canL_rm {i : Nat} (hi : i < L.length) : canF W s (rmF L i) F = fun x y => canF W s L F (up i x) y := by
  funext x y
  unfold canF canT
  rw [agL_rm hi, slL_rm hi]
theorem withoutL_v (hN : 110 ≤ N) (h : Fine W s L F R) {i : Nat} (hi : i < L.length) : without_S N W s L F R i (-1) = some (W, s, rmF L i, F, rmI R i) := by
  have hl6 := h.l6; have hrl := h.rl
  unfold without_S
  rw [copydo_v hN h.sm]
  simp only [Option.bind_some]
  rw [br_dec (by omega), chk_eq (by omega), delll_v hi]
  simp only [Option.bind_some]
  rw [chk_eq (by omega), delli_v (by omega)]
  simp only [Option.bind_some]
  unfold without_j1
  rw [br_ndec (by omega)]
theorem without2_v (hN : 110 ≤ N) (h : Fine W s L F R) {i k : Nat} (hi : i < L.length) (hk : k < F.length) : without_S N W s L F R i k = some (W, s, rmF L i, rmF F k, rmI R i) := by
  have hl6 := h.l6; have hrl := h.rl; have hf6 := h.f6
  unfold without_S
  rw [copydo_v hN h.sm]
  simp only [Option.bind_some]
  rw [br_dec (by omega), chk_eq (by omega), delll_v hi]
  simp only [Option.bind_some]
  rw [chk_eq (by omega), delli_v (by omega)]
  simp only [Option.bind_some]
  unfold without_j1
  rw [br_dec (by omega), chk_eq (by omega), delll_v hk]; rfl
theorem best_countP (q : List Int → Bool) : (bestR W s L F).countP q = (joinsL (canF W s L F) F.length L.length 0 0).countP (fun l => decide (valJ (agF W L F) 0 l = bestV W s L F) && q l) := by
  unfold bestR
  rw [List.countP_filter]
  refine countP_same nodup_allR (nodup_joinsL _ _ _) (fun x => mem_allR) (fun x _ => ?_)
  rw [Bool.and_comm]
theorem ag2_rm {i k : Nat} (hi : i < L.length) (hk : k < F.length) : agF W (rmF L i) (rmF F k) = fun x y => agF W L F (up i x) (up k y) := by
  rw [agL_rm hi, agF_rm hk]
theorem can2_rm {i k : Nat} (hi : i < L.length) (hk : k < F.length) : canF W s (rmF L i) (rmF F k) = fun x y => canF W s L F (up i x) (up k y) := by
  rw [canL_rm hi, canF_rm hk]
/-- How many joins of a worth there are, where none are worth more. -/
theorem count_val {can : Nat → Nat → Bool} {t : Nat → Nat → Int} {m n : Nat} {V : Int} (h : (rsR can t m n 0 0).2.1 ≤ V) : (((joinsL can m n 0 0).countP (fun l => decide (valJ t 0 l = V)) : Nat) : Int) = if (rsR can t m n 0 0).2.1 = V then (rsR can t m n 0 0).2.2 else 0 := by
  have hb := rs_bst (can := can) (t := t) (m := m) n 0 0
  by_cases e : (rsR can t m n 0 0).2.1 = V
  · rw [if_pos e, ← hb.ways, e]
  · rw [if_neg e, countP_zero]
    · rfl
    · intro l hl
      have := hb.le l hl
      rw [decide_eq_false_iff_not]; omega
theorem pos_val {can : Nat → Nat → Bool} {t : Nat → Nat → Int} {m n : Nat} : 0 < (joinsL can m n 0 0).countP (fun l => decide (valJ t 0 l = (rsR can t m n 0 0).2.1)) := by
  rw [List.countP_pos_iff]
  exact ⟨_, bl_in, by rw [decide_eq_true_eq]; exact (bl_best (can := can) (t := t) (m := m) n 0 0).2.2⟩
/-- As many best joins with a pair as there are of the others. -/
theorem pair_count {i k : Nat} (hi : i < L.length) (hk : k < F.length) (hc : canF W s L F i k = true) :
    agF W L F i k + bestV W s (rmF L i) (rmF F k) ≤ bestV W s L F ∧
    (((bestR W s L F).countP (fun l => decide (fnJ l i = k)) : Nat) : Int) = if agF W L F i k + bestV W s (rmF L i) (rmF F k) = bestV W s L F then bestN W s (rmF L i) (rmF F k) else 0 := by
  have hV : bestV W s (rmF L i) (rmF F k) = (rsR (fun x y => canF W s L F (up i x) (up k y)) (fun x y => agF W L F (up i x) (up k y)) (F.length - 1) (L.length - 1) 0 0).2.1 := by
    unfold bestV
    rw [can2_rm hi hk, ag2_rm hi hk, rmF_len hi, rmF_len hk]
  have hN : bestN W s (rmF L i) (rmF F k) = (rsR (fun x y => canF W s L F (up i x) (up k y)) (fun x y => agF W L F (up i x) (up k y)) (F.length - 1) (L.length - 1) 0 0).2.2 := by
    unfold bestN
    rw [can2_rm hi hk, ag2_rm hi hk, rmF_len hi, rmF_len hk]
  have hle : agF W L F i k + bestV W s (rmF L i) (rmF F k) ≤ bestV W s L F := by
    have h1 := count_with (t := agF W L F) (V := agF W L F i k + bestV W s (rmF L i) (rmF F k)) hi hk hc
    rw [show agF W L F i k + bestV W s (rmF L i) (rmF F k) - agF W L F i k = bestV W s (rmF L i) (rmF F k) by omega, hV] at h1
    have h2 := pos_val (can := fun x y => canF W s L F (up i x) (up k y)) (t := fun x y => agF W L F (up i x) (up k y)) (m := F.length - 1) (n := L.length - 1)
    rw [← h1, List.countP_pos_iff] at h2
    obtain ⟨l, l1, l2⟩ := h2
    rw [Bool.and_eq_true, decide_eq_true_eq] at l2
    have := best_le l1
    rw [hV]; omega
  refine ⟨hle, ?_⟩
  rw [best_countP, count_with (t := agF W L F) hi hk hc, count_val (by rw [← hV]; omega), ← hV, ← hN]
  by_cases e : agF W L F i k + bestV W s (rmF L i) (rmF F k) = bestV W s L F
  · rw [if_pos e, if_pos (by omega)]
  · rw [if_neg e, if_neg (by omega)]
theorem pair_none {i k : Nat} (hi : i < L.length) (hc : canF W s L F i k = false) : (bestR W s L F).countP (fun l => decide (fnJ l i = k)) = 0 := by
  rw [List.countP_eq_zero]
  intro l hl
  rw [decide_eq_true_eq]
  intro e
  obtain ⟨_, m2, _⟩ := mem_joins.1 (mem_bestR.1 hl).1
  rcases m2.ok i hi with h | ⟨q, x, _, z⟩
  · omega
  · obtain rfl : q = k := by omega
    rw [hc] at z; cases z
theorem free_count {i : Nat} (hi : i < L.length) : bestV W s (rmF L i) F ≤ bestV W s L F ∧
    (((bestR W s L F).countP (fun l => decide (fnJ l i = -1)) : Nat) : Int) = if bestV W s (rmF L i) F = bestV W s L F then bestN W s (rmF L i) F else 0 := by
  have hV : bestV W s (rmF L i) F = (rsR (fun x y => canF W s L F (up i x) y) (fun x y => agF W L F (up i x) y) F.length (L.length - 1) 0 0).2.1 := by
    unfold bestV
    rw [canL_rm hi, agL_rm hi, rmF_len hi]
  have hN : bestN W s (rmF L i) F = (rsR (fun x y => canF W s L F (up i x) y) (fun x y => agF W L F (up i x) y) F.length (L.length - 1) 0 0).2.2 := by
    unfold bestN
    rw [canL_rm hi, agL_rm hi, rmF_len hi]
  have hle : bestV W s (rmF L i) F ≤ bestV W s L F := by
    have h1 := count_none (can := canF W s L F) (m := F.length) (t := agF W L F) (V := bestV W s (rmF L i) F) hi
    rw [hV] at h1
    have h2 := pos_val (can := fun x y => canF W s L F (up i x) y) (t := fun x y => agF W L F (up i x) y) (m := F.length) (n := L.length - 1)
    rw [← h1, List.countP_pos_iff] at h2
    obtain ⟨l, l1, l2⟩ := h2
    rw [Bool.and_eq_true, decide_eq_true_eq] at l2
    have := best_le l1
    rw [hV]; omega
  refine ⟨hle, ?_⟩
  rw [best_countP, count_none hi, count_val (by rw [← hV]; exact hle), ← hV, ← hN]
/-- All best joins, by what a lost thing is joined to. -/
theorem best_by {i : Nat} (hi : i < L.length) : bestN W s L F = sumN (fun k => (((bestR W s L F).countP (fun l => decide (fnJ l i = k)) : Nat) : Int)) F.length + (((bestR W s L F).countP (fun l => decide (fnJ l i = -1)) : Nat) : Int) := by
  have h := count_by (can := canF W s L F) (m := F.length) (n := L.length) hi (fun l => decide (valJ (agF W L F) 0 l = bestV W s L F))
  have e := (rs_bst (can := canF W s L F) (t := agF W L F) (m := F.length) L.length 0 0).ways
  unfold bestN
  rw [← e]
  refine h.trans ?_
  rw [best_countP]
  congr 1
  refine sumN_congr fun k _ => ?_
  rw [best_countP]
end
end Go.Proofs.Ythncjilcflilcaa

namespace Go.Proofs.Ythncjilcflilcaa
set_option linter.all false
open Go

section
variable {W : List Int} {s : Int} {L F : List (List Int)} {R : List Int} {N : Nat}
/-- Best joins with a pair. -/
def cntK (W : List Int) (s : Int) (L F : List (List Int)) (i k : Nat) : Int := (((bestR W s L F).countP (fun l => decide (fnJ l i = k)) : Nat) : Int)
theorem bestN_pos : 0 < bestN W s L F := by
  have h1 := bestR_pos (W := W) (s := s) (L := L) (F := F)
  have h2 := bestR_len (W := W) (s := s) (L := L) (F := F)
  omega
theorem cntK_le (i k : Nat) : 0 ≤ cntK W s L F i k ∧ cntK W s L F i k ≤ bestN W s L F := by
  have h1 := List.countP_le_length (p := fun l => decide (fnJ l i = (k : Int))) (l := bestR W s L F)
  have h2 := bestR_len (W := W) (s := s) (L := L) (F := F)
  unfold cntK
  omega
theorem fate_zero {i k : Nat} (h : cntK W s L F i k = 0) : fateR W s L F i k = 2 := by
  have h1 := bestR_pos (W := W) (s := s) (L := L) (F := F)
  unfold cntK at h
  unfold fateR
  rw [if_neg (by omega), if_pos (by omega)]
theorem fate_all {i k : Nat} (h : cntK W s L F i k = bestN W s L F) : fateR W s L F i k = 1 := by
  have h1 := bestR_len (W := W) (s := s) (L := L) (F := F)
  unfold cntK at h
  unfold fateR
  rw [if_pos (by omega)]
theorem fate_some {i k : Nat} (h0 : 0 < cntK W s L F i k) (h : cntK W s L F i k ≠ bestN W s L F) : fateR W s L F i k = 0 := by
  have h1 := bestR_len (W := W) (s := s) (L := L) (F := F)
  unfold cntK at h0 h
  unfold fateR
  rw [if_neg (by omega), if_neg (by omega)]
theorem cnt_none {i k : Nat} (hi : i < L.length) (hc : canF W s L F i k = false) : cntK W s L F i k = 0 := by
  unfold cntK
  rw [pair_none hi hc]; rfl
theorem best_in : bestL W s L F ∈ bestR W s L F := mem_bestR.2 ⟨bl_mem, bl_val⟩
theorem fate_one {i k : Nat} (h : fateR W s L F i k = 1) : fnJ (bestL W s L F) i = k := by
  unfold fateR at h
  split at h
  · rename_i e
    have := List.countP_eq_length.1 e _ best_in
    rwa [decide_eq_true_eq] at this
  · split at h <;> cases h
theorem fate_two {i k : Nat} (h : fateR W s L F i k = 2) : fnJ (bestL W s L F) i ≠ k := by
  unfold fateR at h
  split at h
  · cases h
  · split at h
    · rename_i e
      have := List.countP_eq_zero.1 e _ best_in
      rwa [decide_eq_true_eq] at this
    · cases h
theorem ffated_l2_p (hN : 110 ≤ N) (hF : Fine W s L F R) {i : Nat} (hi : i < L.length) {u : Int} : ∀ n k : Nat, F.length < n + k → k ≤ F.length → 0 ≤ sumN (cntK W s L F i) k ∧ sumN (cntK W s L F i) k ≤ 1000000 * k →
    ffated_l2 N n (bestL W s L F) (bestV W s L F) (bestN W s L F) i (sumN (cntK W s L F i) k) u i F.length k W s L F R = some (.inr (.inr (.inr (bestL W s L F, bestV W s L F, bestN W s L F, (i : Int), sumN (cntK W s L F i) F.length, u, (i : Int), W, s, L, F, R))))
  | 0, k, hn, _, _ => by omega
  | n + 1, k, hn, hk, hsum => by
    unfold ffated_l2
    have hl6 := hF.l6; have hf6 := hF.f6
    by_cases c : k < F.length
    rotate_left
    · obtain rfl : k = F.length := by omega
      rw [br_ndec (by omega)]
    have hcb := cntK_le (W := W) (s := s) (L := L) (F := F) i k
    have hbn : bestN W s L F ≤ 1000000 := by
      have := (rs_bound (can := canF W s L F) (t := agF W L F) hf6 (agF_bound hF) (by omega) L.length 0 0).2.2
      have h7 : (7 : Nat) ^ L.length ≤ 7 ^ 6 := Nat.pow_le_pow_right (by omega) hl6
      unfold bestN; omega
    have ih := ffated_l2_p hN hF hi (u := u) n (k + 1) (by omega) (by omega) (by rw [sumN]; omega)
    rw [nat_succ, sumN] at ih
    have ef : fates_S N W s L F R i k = some (fateR W s L F i k, 0) := by
      rw [fates_v hN hF.sm, if_pos (errD_iff.2 hF), if_neg (by omega), if_neg (by omega)]; rfl
    have fin : ∀ (joined : Bool) (want x : Int), fateR W s L F i k = want → (if joined = true then x else 0) = cntK W s L F i k → ffated_j1 N (ffated_l2 N n) (bestL W s L F) (bestV W s L F) (bestN W s L F) i (sumN (cntK W s L F i) k) (fateR W s L F i k) x joined want u i F.length k W s L F R = some (.inr (.inr (.inr (bestL W s L F, bestV W s L F, bestN W s L F, (i : Int), sumN (cntK W s L F i) F.length, u, (i : Int), W, s, L, F, R)))) := fun joined want x hw hx => by
      unfold ffated_j1 ffated_j2
      cases joined
      · simp only [Bool.false_eq_true, if_false] at hx
        rw [br_false, br_nd hw, chk_eq (by omega)]
        rw [← hx, Int.add_zero] at ih
        exact ih
      · simp only [if_true] at hx
        rw [br_true, br_nd hw, hx, chk_eq (by omega), chk_eq (by omega)]
        exact ih
    have hO := (hF.rmL hi).rmF c
    have hab := agF_bound hF i k
    have hob := bestV_bound hO
    have hbl := (joins_all (bl_mem (W := W) (s := s) (L := L) (F := F) (t := agF W L F))).1
    have hil : i < (bestL W s L F).length := by rw [hbl]; exact hi
    rw [br_dec (by omega), ef]
    simp only [Option.bind_some]
    rw [br_nd (by first | trivial | rfl)]
    by_cases f1 : fateR W s L F i k = 1
    · have g := fate_one f1
      rw [br_dec f1, idx_eq (by omega) (gets hil 0), getD_01 hil, br_nd g, br_ndec (by omega)]
      rw [lpair_v hN hF hi c]
      simp only [Option.bind_some]
      rw [without2_v hN hF hi c]
      simp only [Option.bind_some]
      rw [best_v hN hO.sm, count_v hN hO.sm, if_pos (errD_iff.2 hO), if_pos (errD_iff.2 hO)]
      simp only [Option.bind_some]
      rw [br_nd (by first | trivial | rfl), br_nd (by first | trivial | rfl)]
      cases hc : canF W s L F i k
      · have hz := cnt_none (W := W) (s := s) (L := L) (F := F) hi hc
        rw [br_false]
        exact fin false 2 _ (by rw [fate_zero hz]) (by rw [hz]; rfl)
      · obtain ⟨p1, p2⟩ := pair_count (W := W) (s := s) hi c hc
        rw [br_true, chk_eq (by omega)]
        by_cases e : agF W L F i k + bestV W s (rmF L i) (rmF F k) = bestV W s L F
        · rw [if_pos e] at p2
          have p3 : cntK W s L F i k = bestN W s (rmF L i) (rmF F k) := p2
          have hpos := bestN_pos (W := W) (s := s) (L := rmF L i) (F := rmF F k)
          have hd : (!decide (agF W L F i k + bestV W s (rmF L i) (rmF F k) = bestV W s L F)) = false := by rw [decide_eq_true e]; rfl
          rw [hd, br_false, decide_eq_true e]
          by_cases e2 : bestN W s (rmF L i) (rmF F k) = bestN W s L F
          · rw [br_dec e2]
            exact fin true 1 _ (by rw [fate_all (by omega)]) (by rw [if_pos rfl]; exact p3.symm)
          · rw [br_ndec e2]
            exact fin true 0 _ (by rw [fate_some (by omega) (by omega)]) (by rw [if_pos rfl]; exact p3.symm)
        · rw [if_neg e] at p2
          have p3 : cntK W s L F i k = 0 := p2
          have hd : (!decide (agF W L F i k + bestV W s (rmF L i) (rmF F k) = bestV W s L F)) = true := by rw [decide_eq_false e]; rfl
          rw [hd, br_true, decide_eq_false e]
          exact fin false 2 _ (by rw [fate_zero p3]) (by rw [p3]; rfl)
    by_cases f2 : fateR W s L F i k = 2
    · have g := fate_two f2
      rw [br_ndec f1, br_dec f2, idx_eq (by omega) (gets hil 0), getD_01 hil, br_ndec g]
      rw [lpair_v hN hF hi c]
      simp only [Option.bind_some]
      rw [without2_v hN hF hi c]
      simp only [Option.bind_some]
      rw [best_v hN hO.sm, count_v hN hO.sm, if_pos (errD_iff.2 hO), if_pos (errD_iff.2 hO)]
      simp only [Option.bind_some]
      rw [br_nd (by first | trivial | rfl), br_nd (by first | trivial | rfl)]
      cases hc : canF W s L F i k
      · have hz := cnt_none (W := W) (s := s) (L := L) (F := F) hi hc
        rw [br_false]
        exact fin false 2 _ (by rw [fate_zero hz]) (by rw [hz]; rfl)
      · obtain ⟨p1, p2⟩ := pair_count (W := W) (s := s) hi c hc
        rw [br_true, chk_eq (by omega)]
        by_cases e : agF W L F i k + bestV W s (rmF L i) (rmF F k) = bestV W s L F
        · rw [if_pos e] at p2
          have p3 : cntK W s L F i k = bestN W s (rmF L i) (rmF F k) := p2
          have hpos := bestN_pos (W := W) (s := s) (L := rmF L i) (F := rmF F k)
          have hd : (!decide (agF W L F i k + bestV W s (rmF L i) (rmF F k) = bestV W s L F)) = false := by rw [decide_eq_true e]; rfl
          rw [hd, br_false, decide_eq_true e]
          by_cases e2 : bestN W s (rmF L i) (rmF F k) = bestN W s L F
          · rw [br_dec e2]
            exact fin true 1 _ (by rw [fate_all (by omega)]) (by rw [if_pos rfl]; exact p3.symm)
          · rw [br_ndec e2]
            exact fin true 0 _ (by rw [fate_some (by omega) (by omega)]) (by rw [if_pos rfl]; exact p3.symm)
        · rw [if_neg e] at p2
          have p3 : cntK W s L F i k = 0 := p2
          have hd : (!decide (agF W L F i k + bestV W s (rmF L i) (rmF F k) = bestV W s L F)) = true := by rw [decide_eq_false e]; rfl
          rw [hd, br_true, decide_eq_false e]
          exact fin false 2 _ (by rw [fate_zero p3]) (by rw [p3]; rfl)
    · rw [br_ndec f1, br_ndec f2]
      rw [lpair_v hN hF hi c]
      simp only [Option.bind_some]
      rw [without2_v hN hF hi c]
      simp only [Option.bind_some]
      rw [best_v hN hO.sm, count_v hN hO.sm, if_pos (errD_iff.2 hO), if_pos (errD_iff.2 hO)]
      simp only [Option.bind_some]
      rw [br_nd (by first | trivial | rfl), br_nd (by first | trivial | rfl)]
      cases hc : canF W s L F i k
      · have hz := cnt_none (W := W) (s := s) (L := L) (F := F) hi hc
        rw [br_false]
        exact fin false 2 _ (by rw [fate_zero hz]) (by rw [hz]; rfl)
      · obtain ⟨p1, p2⟩ := pair_count (W := W) (s := s) hi c hc
        rw [br_true, chk_eq (by omega)]
        by_cases e : agF W L F i k + bestV W s (rmF L i) (rmF F k) = bestV W s L F
        · rw [if_pos e] at p2
          have p3 : cntK W s L F i k = bestN W s (rmF L i) (rmF F k) := p2
          have hpos := bestN_pos (W := W) (s := s) (L := rmF L i) (F := rmF F k)
          have hd : (!decide (agF W L F i k + bestV W s (rmF L i) (rmF F k) = bestV W s L F)) = false := by rw [decide_eq_true e]; rfl
          rw [hd, br_false, decide_eq_true e]
          by_cases e2 : bestN W s (rmF L i) (rmF F k) = bestN W s L F
          · rw [br_dec e2]
            exact fin true 1 _ (by rw [fate_all (by omega)]) (by rw [if_pos rfl]; exact p3.symm)
          · rw [br_ndec e2]
            exact fin true 0 _ (by rw [fate_some (by omega) (by omega)]) (by rw [if_pos rfl]; exact p3.symm)
        · rw [if_neg e] at p2
          have p3 : cntK W s L F i k = 0 := p2
          have hd : (!decide (agF W L F i k + bestV W s (rmF L i) (rmF F k) = bestV W s L F)) = true := by rw [decide_eq_false e]; rfl
          rw [hd, br_true, decide_eq_false e]
          exact fin false 2 _ (by rw [fate_zero p3]) (by rw [p3]; rfl)
theorem ffated_l1_p (hN : 110 ≤ N) (hF : Fine W s L F R) : ∀ n i : Nat, L.length < n + i → i ≤ L.length → ffated_l1 N n (bestL W s L F) (bestV W s L F) (bestN W s L F) L.length i W s L F R = some (.inr (.inr (.inr (.inr ()))))
  | 0, i, hn, _ => by omega
  | n + 1, i, hn, hi0 => by
    unfold ffated_l1
    have hl6 := hF.l6; have hf6 := hF.f6
    by_cases hi : i < L.length
    rotate_left
    · rw [br_ndec (by omega)]
    have ih := ffated_l1_p hN hF n (i + 1) (by omega) (by omega)
    rw [nat_succ] at ih
    have e := ffated_l2_p hN hF hi (u := L.length) N 0 (by omega) (by omega) (by simp [sumN])
    rw [show sumN (cntK W s L F i) 0 = 0 from rfl, show ((0 : Nat) : Int) = 0 from rfl] at e
    have hO := hF.rmL hi
    obtain ⟨p1, p2⟩ := free_count (W := W) (s := s) (F := F) hi
    have hby : bestN W s L F = sumN (cntK W s L F i) F.length + (((bestR W s L F).countP (fun l => decide (fnJ l i = -1)) : Nat) : Int) := best_by hi
    have hbn : bestN W s L F ≤ 1000000 ∧ 0 < bestN W s L F := by
      have := (rs_bound (can := canF W s L F) (t := agF W L F) hf6 (agF_bound hF) (by omega) L.length 0 0).2.2
      have h7 : (7 : Nat) ^ L.length ≤ 7 ^ 6 := Nat.pow_le_pow_right (by omega) hl6
      refine ⟨?_, bestN_pos⟩
      unfold bestN; omega
    rw [br_dec (by omega), e]
    simp only [Option.bind_some]
    rw [withoutL_v hN hF hi]
    simp only [Option.bind_some]
    rw [best_v hN hO.sm, count_v hN hO.sm, if_pos (errD_iff.2 hO), if_pos (errD_iff.2 hO)]
    simp only [Option.bind_some]
    have fin : ∀ x : Int, x = bestN W s L F → ffated_j3 N (ffated_l1 N n) (bestL W s L F) (bestV W s L F) (bestN W s L F) x 0 0 L.length i W s L F R = some (.inr (.inr (.inr (.inr ())))) := fun x hx => by
      unfold ffated_j3
      rw [br_nd (by first | trivial | rfl), br_nd (by first | trivial | rfl), br_nd hx, chk_eq (by omega)]
      exact ih
    by_cases c : bestV W s (rmF L i) F = bestV W s L F
    · rw [if_pos c] at p2
      rw [br_dec c, chk_eq (by omega)]
      exact fin _ (by omega)
    · rw [if_neg c] at p2
      rw [br_ndec c]
      exact fin _ (by omega)
end
theorem ffated_true {a : List Int} (h0 : Ty.inB (.sl (.int .u8)) a) : ffated_S 1100 a = some true := by
  have l0 : a.length ≤ 9223372036854775807 := h0.1
  unfold ffated_S hang_S
  simp only [Option.bind_some]
  obtain ⟨⟨W, s, L, F, R, c, c2, c3⟩, em, hF, hlen, _, _⟩ := made_v (N := 1100) (b := a) (by omega) (things := 5) (b2 := 0) (b3 := 0) (by omega) ⟨l0, by omega, by omega⟩
  dsimp only at hF hlen
  rw [em]
  simp only [Option.bind_some]
  have z := errD_iff.2 hF
  have hl6 := hF.l6
  have hbl := (joins_all (bl_mem (W := W) (s := s) (L := L) (F := F) (t := agF W L F))).1
  have hpos := bestN_pos (W := W) (s := s) (L := L) (F := F)
  rw [best_v (by omega) hF.sm, count_v (by omega) hF.sm, if_pos z, if_pos z]
  simp only [Option.bind_some]
  have e := ffated_l1_p (N := 1100) (by omega) hF 1100 0 (by omega) (by omega)
  rw [show ((0 : Nat) : Int) = 0 from rfl] at e
  rw [br_nd (by first | trivial | rfl), br_nd (by first | trivial | rfl), br_nd (by rw [hbl]), br_ndec (by omega), e]
  simp only [Option.bind_some]
  rw [awake_v]; rfl
end Go.Proofs.Ythncjilcflilcaa

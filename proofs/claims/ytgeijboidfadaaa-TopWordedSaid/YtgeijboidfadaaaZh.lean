/-
  Parts of a proof, put together: PW, PED, PFD, PWp.
  Conditions: none.
-/
import Derived.Test.YtgeijboidfadaaaZe
import Derived.Test.YtgeijboidfadaaaZf
import Derived.Test.YtgeijboidfadaaaZg
namespace Go.Proofs.Ytgeijboidfadaaa
set_option linter.all false
open Go

noncomputable abbrev sp_fd_lmay := Fd.sp_lmay
theorem sp_fd_lmay_ok (N : Nat) : SpecOK Try.prog (sp_fd_lmay N) := Fd.sp_lmay_ok N
abbrev fd_lmay_S := Fd.lmay_S
noncomputable abbrev sp_fd_agree_ := Fd.sp_agree_
theorem sp_fd_agree__ok (N : Nat) : SpecOK Try.prog (sp_fd_agree_ N) := Fd.sp_agree__ok N
abbrev fd_agree__S := Fd.agree__S
noncomputable abbrev sp_fd_made := Fd.sp_made
theorem sp_fd_made_ok (N : Nat) : SpecOK Try.prog (sp_fd_made N) := Fd.sp_made_ok N
abbrev fd_made_S := Fd.made_S
noncomputable abbrev sp_fd_copydo := Fd.sp_copydo
theorem sp_fd_copydo_ok (N : Nat) : SpecOK Try.prog (sp_fd_copydo N) := Fd.sp_copydo_ok N
abbrev fd_copydo_S := Fd.copydo_S
def words_j1 (N : Nat) (rec : Qa → Int → Int → Qa → Option Qa) (u : List Int) (u2 : Int) (u3 : Int) (out : List Int) : Option Qa :=
  chk (u3 + 1) <|
  rec u u2 (u3 + 1) out
def words_l1 (N : Nat) : Nat → Qa → Int → Int → Qa → Option Qa
  | 0, _, _, _, _ => none
  | n_ + 1, u, u2, u3, out =>
    br (decide (u3 < u2))
      (idx u u3 fun x_1 =>
      br (!decide (x_1 = -1))
        (chk (3 * u3) <|
        chk ((3 * u3) + x_1) <|
        lim (out.length + [((3 * u3) + x_1)].length) <|
        words_j1 N (words_l1 N n_) u u2 u3 (out ++ [((3 * u3) + x_1)]))
        (words_j1 N (words_l1 N n_) u u2 u3 out))
      (some (out))
def words_S (N : Nat) (l : List Int) : Option Qa :=
  (words_l1 N N l (l.length : Int) 0 []).bind fun out_2 =>
  some out_2
noncomputable def words_sp (N : Nat) : List Spec := []
theorem words_all (N : Nat) : AllP (SpecOK Try.prog) (words_sp N) := trivial
noncomputable def words_c : Code := (Try.f9.body).getD .skip
noncomputable abbrev words_B : Body := { c := words_c, n := 24, res := [.tmp 2], outs := [⟨[.sl (.int .i64)], []⟩], m0 := 0 }
abbrev words_rt : altD words_B.outs → Option Qa := fun r => some r.1.1
abbrev words_l1_at : List PI := [.c [1, 1, 0, 1, 0, 0, 0], .c [1, 1, 0, 1, 0, 0, 1], .l [1, 1, 0, 1, 0, 0], .b 0, .c [1, 1, 1]]
abbrev words_l1_st : Sta := ⟨[3, 6, 7, 8], ⟨[.ols 0, .sl (.int .i64), .i .i64, .i .i64], [.lst (.int .i64)]⟩⟩
abbrev words_l1_h (rec : Qa → Int → Int → Qa → Option Qa) : Leaf Qa := ⟨words_l1_at, words_l1_st, fun p => rec p.1.2.1 p.1.2.2.1 p.1.2.2.2.1 p.2.1⟩
abbrev words_l1_e0 : Leaf Qa := ⟨[.c [1, 1, 1, 0], .c [1, 1, 1, 1]], ⟨[3], ⟨[.ols 0], [.lst (.int .i64)]⟩⟩, fun p => some (p.2.1)⟩
abbrev words_j1_at : List PI := [.c [1, 1, 0, 1, 0, 0, 1, 1, 1], .l [1, 1, 0, 1, 0, 0], .b 0, .c [1, 1, 1]]
abbrev words_j1_st : Sta := ⟨[3, 6, 7, 8], ⟨[.ols 0, .sl (.int .i64), .i .i64, .i .i64], [.lst (.int .i64)]⟩⟩
abbrev words_j1_k (N : Nat) (rec : Qa → Int → Int → Qa → Option Qa) : Leaf Qa := ⟨words_j1_at, words_j1_st, fun p => words_j1 N rec p.1.2.1 p.1.2.2.1 p.1.2.2.2.1 p.2.1⟩
theorem words_j1_eq (N : Nat) (rec : Qa → Int → Int → Qa → Option Qa) (u : List Int) (u2 : Int) (u3 : Int) (out : List Int) : ev (Z := List Int) Try.prog (words_sp N) words_B [] [words_l1_h rec, words_l1_e0] none 400 true words_j1_at (stL words_j1_st (((), u, u2, u3, ()), (out, ()))) (stH words_j1_st (((), u, u2, u3, ()), (out, ()))) = words_j1 N rec u u2 u3 out := by kernel_rfl
theorem words_j1_lf (N : Nat) (rec : Qa → Int → Int → Qa → Option Qa) {z : List Int} {top : Bool} {E : EE} {Xc : Ctx} (hE : EOK words_B.m0 E) (hX : CxOK top Xc) (hrec : LeafOK Try.prog words_B.c words_B.n words_B.m0 E Xc z (words_l1_h rec)) (h0 : LeafOK Try.prog words_B.c words_B.n words_B.m0 E Xc z words_l1_e0) : LeafOK Try.prog words_B.c words_B.n words_B.m0 E Xc z (words_j1_k N rec) := leaf_of_ev (B := words_B) (loops := []) (leaves := [words_l1_h rec, words_l1_e0]) (words_all N) mixed trivial hE hX ⟨hrec, h0, trivial⟩ RetOK.no (fun p => words_j1_eq N rec p.1.2.1 p.1.2.2.1 p.1.2.2.2.1 p.2.1)
noncomputable def words_l1_L (N : Nat) : LoopS := { at_ := words_l1_at, sta := words_l1_st, exits := [([.c [1, 1, 1, 0], .c [1, 1, 1, 1]], ⟨[3], ⟨[.ols 0], [.lst (.int .i64)]⟩⟩)], run := fun p k => (words_l1 N N p.1.2.1 p.1.2.2.1 p.1.2.2.2.1 p.2.1).bind fun e => k (.inl (((), ()), (e, ()))) }
theorem words_l1_eq (N n_ : Nat) (u : List Int) (u2 : Int) (u3 : Int) (out : List Int) : ev (Z := List Int) Try.prog (words_sp N) words_B [] [words_l1_h (words_l1 N n_), words_l1_e0, words_j1_k N (words_l1 N n_)] none 400 true words_l1_at (stL words_l1_st (((), u, u2, u3, ()), (out, ()))) (stH words_l1_st (((), u, u2, u3, ()), (out, ()))) = words_l1 N (n_ + 1) u u2 u3 out := by kernel_rfl
theorem words_l1_ok (N : Nat) {top : Bool} : LoopOK Try.prog words_B.c words_B.n words_B.m0 top (words_l1_L N) := loop_of_ev (Z := List Int) (N := N) (fun m p => words_l1 N m p.1.2.1 p.1.2.2.1 p.1.2.2.2.1 p.2.1) (fun e => .inl (((), ()), (e, ()))) (fun _ _ _ => rfl) (fun _ => rfl) (fun m z E Xc hE hX hrec hx => leaf_of_ev (B := words_B) (loops := []) (leaves := [words_l1_h (words_l1 N m), words_l1_e0, words_j1_k N (words_l1 N m)]) (words_all N) mixed trivial hE hX ⟨hrec, (fun p hp => by obtain rfl := Option.some.inj hp; exact hx), words_j1_lf N _ hE hX hrec (fun p hp => by obtain rfl := Option.some.inj hp; exact hx), trivial⟩ RetOK.no (fun p => words_l1_eq N m p.1.2.1 p.1.2.2.1 p.1.2.2.2.1 p.2.1))
abbrev words_st : Sta := ⟨[0], ⟨[.sl (.int .i64)], []⟩⟩
theorem words_eq (N : Nat) (l : List Int) : ev (Z := List Int) Try.prog (words_sp N) words_B [words_l1_L N] [] (some words_rt) 400 false [.c [0], .c [1]] (stL words_st ((l, ()), ())) (stH words_st ((l, ()), ())) = words_S N l := by kernel_rfl
noncomputable def sp_words (N : Nat) : Spec := { f := 9, ins := ⟨[.sl (.int .i64)], []⟩, outs := [⟨[.sl (.int .i64)], []⟩], run := fun p k => (words_S N p.1.1).bind fun r => k ((r, ()), ()) }
theorem sp_words_ok (N : Nat) : SpecOK Try.prog (sp_words N) := fn_sound (B := words_B) (loops := [words_l1_L N]) (leaves := []) (fun p => words_S N p.1.1) (fun r => ((r, ()), ())) words_rt (fun _ _ _ => rfl) (fun r z h => by cases h; rfl) Try.func9 (by kernel_rfl) (by kernel_rfl) (by kernel_rfl) rfl rfl (by kernel_rfl) (fun args w => Sem.pv_run _ _ _ (by kernel_rfl) w) (words_all N) mixed ⟨words_l1_ok N, trivial⟩ (fun z E Xc hE hX hret => trivial) (fun p => words_eq N p.1.1)

def tworded_l2 (N : Nat) : Nat → Int → Int → Int → Int → Int → Qa → Int → Qk → Qk → Qa → Option Qo
  | 0, _, _, _, _, _, _, _, _, _, _ => none
  | n_ + 1, traits, u, u2, u3, u4, d, d2, l, d3, d4 =>
    br (decide (u4 < u3))
      (rng u4 l.length <|
      get l u4.toNat fun x_17 =>
      grd (decide ((0 : Int) ≤ traits ∧ traits ≤ (x_17.length : Int))) <|
      rng u4 l.length <|
      get l u4.toNat fun _ =>
      chk (u4 + 1) <|
      tworded_l2 N n_ traits u u2 u3 (u4 + 1) d d2 (l.set u4.toNat (x_17.take traits.toNat)) d3 d4)
      (some ((traits, u, u2, d, d2, l, d3, d4)))
def tworded_l3 (N : Nat) : Nat → Int → Int → Int → Int → Int → Qa → Int → Qk → Qk → Qa → Option Qo
  | 0, _, _, _, _, _, _, _, _, _, _ => none
  | n_ + 1, traits, u, u2, u3, u4, d, d2, l, d3, d4 =>
    br (decide (u4 < u3))
      (rng u4 l.length <|
      get l u4.toNat fun x_27 =>
      grd (decide ((0 : Int) ≤ traits ∧ traits ≤ (x_27.length : Int))) <|
      rng u4 l.length <|
      get l u4.toNat fun _ =>
      chk (u4 + 1) <|
      tworded_l3 N n_ traits u u2 u3 (u4 + 1) d d2 (l.set u4.toNat (x_27.take traits.toNat)) d3 d4)
      (some ((traits, u, u2, d, d2, d3, l, d4)))
def tworded_l1 (N : Nat) : Nat → Int → Int → Int → Qa → Int → Qk → Qk → Qa → Option (List Int × Int × List Qa × List Qa × List Int)
  | 0, _, _, _, _, _, _, _, _ => none
  | n_ + 1, traits, u, u2, d, d2, d3, d4, d5 =>
    br (decide (u2 < u))
      (br (decide (u2 = (0 : Int)))
        ((tworded_l2 N N traits u u2 (d3.length : Int) 0 d d2 d3 d4 d5).bind fun (traits_19, u_20, u2_21, d_22, d2_23, d3_24, d4_25, d5_26) =>
        chk (u2_21 + 1) <|
        tworded_l1 N n_ traits_19 u_20 (u2_21 + 1) d_22 d2_23 d3_24 d4_25 d5_26)
        (br (decide (u2 = (1 : Int)))
          ((tworded_l3 N N traits u u2 (d4.length : Int) 0 d d2 d4 d3 d5).bind fun (traits_29, u_30, u2_31, d_32, d2_33, d3_34, d4_35, d5_36) =>
          chk (u2_31 + 1) <|
          tworded_l1 N n_ traits_29 u_30 (u2_31 + 1) d_32 d2_33 d3_34 d4_35 d5_36)
          (none)))
      (some ((d, d2, d3, d4, d5)))
def tworded_j1 (N : Nat) (rec : Int → Qa → Qa → Qk → Int → Int → Qk → Int → Int → Qa → Int → Qk → Qk → Qa → Option ((Unit) ⊕ ((Unit) ⊕ ((Unit) ⊕ Qi)))) (i : Int) (a : List Int) (may : List Int) (u : List Qa) (u2 : Int) (u3 : Int) (u4 : List Qa) (u5 : Int) (u6 : Int) (d : List Int) (d2 : Int) (d3 : List Qa) (d4 : List Qa) (d5 : List Int) : Option ((Unit) ⊕ ((Unit) ⊕ ((Unit) ⊕ Qi))) :=
  chk (u6 + 1) <|
  rec i a may u u2 u3 u4 u5 (u6 + 1) d d2 d3 d4 d5
def tworded_l5 (N : Nat) : Nat → Int → Qa → Qa → Qk → Int → Int → Qk → Int → Int → Qa → Int → Qk → Qk → Qa → Option ((Unit) ⊕ ((Unit) ⊕ ((Unit) ⊕ Qi)))
  | 0, _, _, _, _, _, _, _, _, _, _, _, _, _, _ => none
  | n_ + 1, i, a, may, u, u2, u3, u4, u5, u6, d, d2, d3, d4, d5 =>
    br (decide (u6 < u5))
      (idx u4 u6 fun x_45 =>
      (fd_agree__S N d d2 d3 d4 d5 i u6).bind fun (x_46, y_47, y_48, y_49) =>
      (words_S N a).bind fun x_50 =>
      (words_S N x_45).bind fun x_51 =>
      br (!decide (y_49 = 0))
        (some (.inl ()))
        (br (decide ((x_50.length : Int) = 0))
          (br (!decide (x_46 = 0))
            (some (.inr (.inl ())))
            (br y_48
              (some (.inr (.inl ())))
              (tworded_j1 N (tworded_l5 N n_) i a may u u2 u3 u4 u5 u6 d d2 d3 d4 d5)))
          (br (decide ((x_51.length : Int) = 0))
            (br (!decide (x_46 = 0))
              (some (.inr (.inl ())))
              (br y_48
                (some (.inr (.inl ())))
                (tworded_j1 N (tworded_l5 N n_) i a may u u2 u3 u4 u5 u6 d d2 d3 d4 d5)))
            ((commons_S N [x_50, x_51] [] 0 0 1).bind fun (x_52, y_53) =>
            (dist_S N [x_50, x_51] [] 0 0 1).bind fun (x_54, y_55) =>
            br (!decide (y_53 = 0))
              (some (.inr (.inr (.inl ()))))
              (br (!decide (y_55 = 0))
                (some (.inr (.inr (.inl ()))))
                (br (!decide ((x_52.length : Int) = x_46))
                  (some (.inr (.inr (.inl ()))))
                  (chk ((x_50.length : Int) + (x_51.length : Int)) <|
                  chk (2 * x_46) <|
                  chk (((x_50.length : Int) + (x_51.length : Int)) - (2 * x_46)) <|
                  br (!decide (x_54 = (((x_50.length : Int) + (x_51.length : Int)) - (2 * x_46))))
                    (some (.inr (.inr (.inl ()))))
                    (br (!(y_48 == (decide (0 < x_46))))
                      (some (.inr (.inr (.inl ()))))
                      ((containsi_S N may u6).bind fun x_56 =>
                      br (!(y_48 == x_56))
                        (some (.inr (.inr (.inl ()))))
                        (tworded_j1 N (tworded_l5 N n_) i a may u u2 u3 u4 u5 u6 d d2 d3 d4 d5))))))))))
      (some (.inr (.inr (.inr (u, u2, u3, d, d2, d3, d4, d5)))))
def tworded_l4 (N : Nat) : Nat → Qk → Int → Int → Qa → Int → Qk → Qk → Qa → Option ((Unit) ⊕ ((Unit) ⊕ ((Unit) ⊕ ((Unit) ⊕ (Unit)))))
  | 0, _, _, _, _, _, _, _, _ => none
  | n_ + 1, u, u2, u3, d, d2, d3, d4, d5 =>
    br (decide (u3 < u2))
      (idx u u3 fun x_42 =>
      (fd_lmay_S N d d2 d3 d4 d5 u3).bind fun (x_43, y_44) =>
      br (!decide (y_44 = 0))
        (some (.inl ()))
        ((tworded_l5 N N u3 x_42 x_43 u u2 u3 d4 (d4.length : Int) 0 d d2 d3 d4 d5).bind fun e => match e with
        | .inl _ =>
          some (.inr (.inl ()))
        | .inr (.inl _) =>
          some (.inr (.inr (.inl ())))
        | .inr (.inr (.inl _)) =>
          some (.inr (.inr (.inr (.inl ()))))
        | .inr (.inr (.inr (u_57, u2_58, u3_59, d_60, d2_61, d3_62, d4_63, d5_64))) =>
          chk (u3_59 + 1) <|
          tworded_l4 N n_ u_57 u2_58 (u3_59 + 1) d_60 d2_61 d3_62 d4_63 d5_64))
      (some (.inr (.inr (.inr (.inr ())))))
def tworded_S (N : Nat) (numbers : List Int) : Option Bool :=
  (hang_S N numbers).bind fun (x_1, y_2, y_3) =>
  (fd_made_S N 3 x_1 y_2 y_3).bind fun (x_4, y_5, y_6, y_7, y_8, y_9, y_10, y_11) =>
  (fd_copydo_S N x_4 y_5 y_6 y_7 y_8).bind fun (x_12, y_13, y_14, y_15, y_16) =>
  grd (decide ((0 : Int) ≤ (min 3 (x_12.length : Int)) ∧ (min 3 (x_12.length : Int)) ≤ ([1, 1, 1].length : Int))) <|
  (tworded_l1 N N (min 3 (x_12.length : Int)) 2 0 ([1, 1, 1].take ((min 3 (x_12.length : Int)).toNat)) 3 y_14 y_15 y_16).bind fun (d_37, d2_38, d3_39, d4_40, d5_41) =>
  (tworded_l4 N N d3_39 (d3_39.length : Int) 0 d_37 d2_38 d3_39 d4_40 d5_41).bind fun e => match e with
  | .inl _ =>
    some false
  | .inr (.inl _) =>
    some false
  | .inr (.inr (.inl _)) =>
    some false
  | .inr (.inr (.inr (.inl _))) =>
    some false
  | .inr (.inr (.inr (.inr _))) =>
    (awake10_S N).bind fun x_65 =>
    some x_65
noncomputable def tworded_sp (N : Nat) : List Spec := [sp_rowon2 N, sp_hang N, sp_containsi N, sp_dist N, sp_commons N, sp_awake10 N, sp_fd_lmay N, sp_fd_agree_ N, sp_fd_made N, sp_fd_copydo N, sp_words N]
theorem tworded_all (N : Nat) : AllP (SpecOK Try.prog) (tworded_sp N) := ⟨sp_rowon2_ok N, sp_hang_ok N, sp_containsi_ok N, sp_dist_ok N, sp_commons_ok N, sp_awake10_ok N, sp_fd_lmay_ok N, sp_fd_agree__ok N, sp_fd_made_ok N, sp_fd_copydo_ok N, sp_words_ok N, trivial⟩
noncomputable def tworded_c : Code := (Try.f3.body).getD .skip
noncomputable abbrev tworded_B : Body := { c := tworded_c, n := 172, res := [.tmp 2], outs := [⟨[.b], []⟩], m0 := 0 }
abbrev tworded_rt : altD tworded_B.outs → Option Bool := fun r => some r.1.1
abbrev tworded_l2_at : List PI := [.c [1, 1, 1, 1, 0, 1, 0, 0, 1, 1, 0, 0, 1, 1, 0, 0, 0], .c [1, 1, 1, 1, 0, 1, 0, 0, 1, 1, 0, 0, 1, 1, 0, 0, 1], .l [1, 1, 1, 1, 0, 1, 0, 0, 1, 1, 0, 0, 1, 1, 0, 0], .b 2, .b 1, .c [1, 1, 1, 1, 0, 1, 0, 0, 1, 1, 1], .l [1, 1, 1, 1, 0, 1, 0, 0], .b 0, .c [1, 1, 1, 1, 1]]
abbrev tworded_l2_st : Sta := ⟨[3, 4, 6, 42, 43, 44, 49, 50], ⟨[.own 0 0, .i .i64, .ols 1, .osl 2 2, .i .i64, .i .i64, .i .i64, .i .i64], [.segs [.sl (.int .i64), .i .i64, .ols 1, .ols 3, .ols 4], .lst Qb, .segs [.ols 1, .ols 3], .lst Qb, .lst (.int .i64)]⟩⟩
abbrev tworded_l2_h (rec : Int → Int → Int → Int → Int → Qa → Int → Qk → Qk → Qa → Option Qo) : Leaf Qo := ⟨tworded_l2_at, tworded_l2_st, fun p => rec p.1.2.1 p.1.2.2.2.2.1 p.1.2.2.2.2.2.1 p.1.2.2.2.2.2.2.1 p.1.2.2.2.2.2.2.2.1 p.2.1.1 p.2.1.2.1 p.2.2.1 p.2.2.2.2.1 p.2.2.2.2.2.1⟩
abbrev tworded_l2_e0 : Leaf Qo := ⟨[.c [1, 1, 1, 1, 0, 1, 0, 0, 1, 1, 1], .l [1, 1, 1, 1, 0, 1, 0, 0], .b 0, .c [1, 1, 1, 1, 1]], ⟨[3, 4, 42, 43, 44], ⟨[.own 0 0, .i .i64, .osl 1 2, .i .i64, .i .i64], [.segs [.sl (.int .i64), .i .i64, .ols 2, .ols 3, .ols 4], .segs [.ols 2, .ols 3], .lst Qb, .lst Qb, .lst (.int .i64)]⟩⟩, fun p => some ((p.1.2.1, p.1.2.2.2.1, p.1.2.2.2.2.1, p.2.1.1, p.2.1.2.1, p.2.2.2.1, p.2.2.2.2.1, p.2.2.2.2.2.1))⟩
noncomputable def tworded_l2_L (N : Nat) : LoopS := { at_ := tworded_l2_at, sta := tworded_l2_st, exits := [([.c [1, 1, 1, 1, 0, 1, 0, 0, 1, 1, 1], .l [1, 1, 1, 1, 0, 1, 0, 0], .b 0, .c [1, 1, 1, 1, 1]], ⟨[3, 4, 42, 43, 44], ⟨[.own 0 0, .i .i64, .osl 1 2, .i .i64, .i .i64], [.segs [.sl (.int .i64), .i .i64, .ols 2, .ols 3, .ols 4], .segs [.ols 2, .ols 3], .lst Qb, .lst Qb, .lst (.int .i64)]⟩⟩)], run := fun p k => (tworded_l2 N N p.1.2.1 p.1.2.2.2.2.1 p.1.2.2.2.2.2.1 p.1.2.2.2.2.2.2.1 p.1.2.2.2.2.2.2.2.1 p.2.1.1 p.2.1.2.1 p.2.2.1 p.2.2.2.2.1 p.2.2.2.2.2.1).bind fun e => k (.inl (((), e.1, (), e.2.1, e.2.2.1, ()), ((e.2.2.2.1, e.2.2.2.2.1, (), (), (), ()), ((), (), ()), e.2.2.2.2.2.1, e.2.2.2.2.2.2.1, e.2.2.2.2.2.2.2, ()))) }
theorem tworded_l2_eq (N n_ : Nat) (traits : Int) (u : Int) (u2 : Int) (u3 : Int) (u4 : Int) (d : List Int) (d2 : Int) (l : List Qa) (d3 : List Qa) (d4 : List Int) : ev (Z := Int × Int × Int × List Int × Int × List Qa × List Qa × List Int) Try.prog (tworded_sp N) tworded_B [] [tworded_l2_h (tworded_l2 N n_), tworded_l2_e0] none 400 true tworded_l2_at (stL tworded_l2_st (((), traits, (), (), u, u2, u3, u4, ()), ((d, d2, (), (), (), ()), l, ((), (), ()), d3, d4, ()))) (stH tworded_l2_st (((), traits, (), (), u, u2, u3, u4, ()), ((d, d2, (), (), (), ()), l, ((), (), ()), d3, d4, ()))) = tworded_l2 N (n_ + 1) traits u u2 u3 u4 d d2 l d3 d4 := by kernel_rfl
theorem tworded_l2_ok (N : Nat) {top : Bool} : LoopOK Try.prog tworded_B.c tworded_B.n tworded_B.m0 top (tworded_l2_L N) := loop_of_ev (Z := Int × Int × Int × List Int × Int × List Qa × List Qa × List Int) (N := N) (fun m p => tworded_l2 N m p.1.2.1 p.1.2.2.2.2.1 p.1.2.2.2.2.2.1 p.1.2.2.2.2.2.2.1 p.1.2.2.2.2.2.2.2.1 p.2.1.1 p.2.1.2.1 p.2.2.1 p.2.2.2.2.1 p.2.2.2.2.2.1) (fun e => .inl (((), e.1, (), e.2.1, e.2.2.1, ()), ((e.2.2.2.1, e.2.2.2.2.1, (), (), (), ()), ((), (), ()), e.2.2.2.2.2.1, e.2.2.2.2.2.2.1, e.2.2.2.2.2.2.2, ()))) (fun _ _ _ => rfl) (fun _ => rfl) (fun m z E Xc hE hX hrec hx => leaf_of_ev (B := tworded_B) (loops := []) (leaves := [tworded_l2_h (tworded_l2 N m), tworded_l2_e0]) (tworded_all N) mixed trivial hE hX ⟨hrec, (fun p hp => by obtain rfl := Option.some.inj hp; exact hx), trivial⟩ RetOK.no (fun p => tworded_l2_eq N m p.1.2.1 p.1.2.2.2.2.1 p.1.2.2.2.2.2.1 p.1.2.2.2.2.2.2.1 p.1.2.2.2.2.2.2.2.1 p.2.1.1 p.2.1.2.1 p.2.2.1 p.2.2.2.2.1 p.2.2.2.2.2.1))
abbrev tworded_l3_at : List PI := [.c [1, 1, 1, 1, 0, 1, 0, 0, 1, 1, 0, 0, 1, 1, 0, 0, 0], .c [1, 1, 1, 1, 0, 1, 0, 0, 1, 1, 0, 0, 1, 1, 0, 0, 1], .l [1, 1, 1, 1, 0, 1, 0, 0, 1, 1, 0, 0, 1, 1, 0, 0], .b 2, .b 1, .c [1, 1, 1, 1, 0, 1, 0, 0, 1, 1, 1], .l [1, 1, 1, 1, 0, 1, 0, 0], .b 0, .c [1, 1, 1, 1, 1]]
abbrev tworded_l3_st : Sta := ⟨[3, 4, 6, 42, 43, 44, 49, 50], ⟨[.own 0 0, .i .i64, .ols 1, .osl 2 2, .i .i64, .i .i64, .i .i64, .i .i64], [.segs [.sl (.int .i64), .i .i64, .ols 3, .ols 1, .ols 4], .lst Qb, .segs [.ols 3, .ols 1], .lst Qb, .lst (.int .i64)]⟩⟩
abbrev tworded_l3_h (rec : Int → Int → Int → Int → Int → Qa → Int → Qk → Qk → Qa → Option Qo) : Leaf Qo := ⟨tworded_l3_at, tworded_l3_st, fun p => rec p.1.2.1 p.1.2.2.2.2.1 p.1.2.2.2.2.2.1 p.1.2.2.2.2.2.2.1 p.1.2.2.2.2.2.2.2.1 p.2.1.1 p.2.1.2.1 p.2.2.1 p.2.2.2.2.1 p.2.2.2.2.2.1⟩
abbrev tworded_l3_e0 : Leaf Qo := ⟨[.c [1, 1, 1, 1, 0, 1, 0, 0, 1, 1, 1], .l [1, 1, 1, 1, 0, 1, 0, 0], .b 0, .c [1, 1, 1, 1, 1]], ⟨[3, 4, 42, 43, 44], ⟨[.own 0 0, .i .i64, .osl 1 2, .i .i64, .i .i64], [.segs [.sl (.int .i64), .i .i64, .ols 2, .ols 3, .ols 4], .segs [.ols 2, .ols 3], .lst Qb, .lst Qb, .lst (.int .i64)]⟩⟩, fun p => some ((p.1.2.1, p.1.2.2.2.1, p.1.2.2.2.2.1, p.2.1.1, p.2.1.2.1, p.2.2.2.1, p.2.2.2.2.1, p.2.2.2.2.2.1))⟩
noncomputable def tworded_l3_L (N : Nat) : LoopS := { at_ := tworded_l3_at, sta := tworded_l3_st, exits := [([.c [1, 1, 1, 1, 0, 1, 0, 0, 1, 1, 1], .l [1, 1, 1, 1, 0, 1, 0, 0], .b 0, .c [1, 1, 1, 1, 1]], ⟨[3, 4, 42, 43, 44], ⟨[.own 0 0, .i .i64, .osl 1 2, .i .i64, .i .i64], [.segs [.sl (.int .i64), .i .i64, .ols 2, .ols 3, .ols 4], .segs [.ols 2, .ols 3], .lst Qb, .lst Qb, .lst (.int .i64)]⟩⟩)], run := fun p k => (tworded_l3 N N p.1.2.1 p.1.2.2.2.2.1 p.1.2.2.2.2.2.1 p.1.2.2.2.2.2.2.1 p.1.2.2.2.2.2.2.2.1 p.2.1.1 p.2.1.2.1 p.2.2.1 p.2.2.2.2.1 p.2.2.2.2.2.1).bind fun e => k (.inl (((), e.1, (), e.2.1, e.2.2.1, ()), ((e.2.2.2.1, e.2.2.2.2.1, (), (), (), ()), ((), (), ()), e.2.2.2.2.2.1, e.2.2.2.2.2.2.1, e.2.2.2.2.2.2.2, ()))) }
theorem tworded_l3_eq (N n_ : Nat) (traits : Int) (u : Int) (u2 : Int) (u3 : Int) (u4 : Int) (d : List Int) (d2 : Int) (l : List Qa) (d3 : List Qa) (d4 : List Int) : ev (Z := Int × Int × Int × List Int × Int × List Qa × List Qa × List Int) Try.prog (tworded_sp N) tworded_B [tworded_l2_L N] [tworded_l3_h (tworded_l3 N n_), tworded_l3_e0] none 400 true tworded_l3_at (stL tworded_l3_st (((), traits, (), (), u, u2, u3, u4, ()), ((d, d2, (), (), (), ()), l, ((), (), ()), d3, d4, ()))) (stH tworded_l3_st (((), traits, (), (), u, u2, u3, u4, ()), ((d, d2, (), (), (), ()), l, ((), (), ()), d3, d4, ()))) = tworded_l3 N (n_ + 1) traits u u2 u3 u4 d d2 l d3 d4 := by kernel_rfl
theorem tworded_l3_ok (N : Nat) {top : Bool} : LoopOK Try.prog tworded_B.c tworded_B.n tworded_B.m0 top (tworded_l3_L N) := loop_of_ev (Z := Int × Int × Int × List Int × Int × List Qa × List Qa × List Int) (N := N) (fun m p => tworded_l3 N m p.1.2.1 p.1.2.2.2.2.1 p.1.2.2.2.2.2.1 p.1.2.2.2.2.2.2.1 p.1.2.2.2.2.2.2.2.1 p.2.1.1 p.2.1.2.1 p.2.2.1 p.2.2.2.2.1 p.2.2.2.2.2.1) (fun e => .inl (((), e.1, (), e.2.1, e.2.2.1, ()), ((e.2.2.2.1, e.2.2.2.2.1, (), (), (), ()), ((), (), ()), e.2.2.2.2.2.1, e.2.2.2.2.2.2.1, e.2.2.2.2.2.2.2, ()))) (fun _ _ _ => rfl) (fun _ => rfl) (fun m z E Xc hE hX hrec hx => leaf_of_ev (B := tworded_B) (loops := [tworded_l2_L N]) (leaves := [tworded_l3_h (tworded_l3 N m), tworded_l3_e0]) (tworded_all N) mixed ⟨tworded_l2_ok N, trivial⟩ hE hX ⟨hrec, (fun p hp => by obtain rfl := Option.some.inj hp; exact hx), trivial⟩ RetOK.no (fun p => tworded_l3_eq N m p.1.2.1 p.1.2.2.2.2.1 p.1.2.2.2.2.2.1 p.1.2.2.2.2.2.2.1 p.1.2.2.2.2.2.2.2.1 p.2.1.1 p.2.1.2.1 p.2.2.1 p.2.2.2.2.1 p.2.2.2.2.2.1))
abbrev tworded_l1_at : List PI := [.c [1, 1, 1, 1, 0, 1, 0, 0, 0], .c [1, 1, 1, 1, 0, 1, 0, 0, 1], .l [1, 1, 1, 1, 0, 1, 0, 0], .b 0, .c [1, 1, 1, 1, 1]]
abbrev tworded_l1_st : Sta := ⟨[3, 4, 42, 43, 44], ⟨[.own 0 0, .i .i64, .osl 1 2, .i .i64, .i .i64], [.segs [.sl (.int .i64), .i .i64, .ols 2, .ols 3, .ols 4], .segs [.ols 2, .ols 3], .lst Qb, .lst Qb, .lst (.int .i64)]⟩⟩
abbrev tworded_l1_h (rec : Int → Int → Int → Qa → Int → Qk → Qk → Qa → Option (List Int × Int × List Qa × List Qa × List Int)) : Leaf (List Int × Int × List Qa × List Qa × List Int) := ⟨tworded_l1_at, tworded_l1_st, fun p => rec p.1.2.1 p.1.2.2.2.1 p.1.2.2.2.2.1 p.2.1.1 p.2.1.2.1 p.2.2.2.1 p.2.2.2.2.1 p.2.2.2.2.2.1⟩
abbrev tworded_l1_e0 : Leaf (List Int × Int × List Qa × List Qa × List Int) := ⟨[.c [1, 1, 1, 1, 1, 0], .c [1, 1, 1, 1, 1, 1]], ⟨[3], ⟨[.own 0 0], [.segs [.sl (.int .i64), .i .i64, .ols 1, .ols 2, .ols 3], .lst Qb, .lst Qb, .lst (.int .i64)]⟩⟩, fun p => some ((p.2.1.1, p.2.1.2.1, p.2.2.1, p.2.2.2.1, p.2.2.2.2.1))⟩
noncomputable def tworded_l1_L (N : Nat) : LoopS := { at_ := tworded_l1_at, sta := tworded_l1_st, exits := [([.c [1, 1, 1, 1, 1, 0], .c [1, 1, 1, 1, 1, 1]], ⟨[3], ⟨[.own 0 0], [.segs [.sl (.int .i64), .i .i64, .ols 1, .ols 2, .ols 3], .lst Qb, .lst Qb, .lst (.int .i64)]⟩⟩)], run := fun p k => (tworded_l1 N N p.1.2.1 p.1.2.2.2.1 p.1.2.2.2.2.1 p.2.1.1 p.2.1.2.1 p.2.2.2.1 p.2.2.2.2.1 p.2.2.2.2.2.1).bind fun e => k (.inl (((), ()), ((e.1, e.2.1, (), (), (), ()), e.2.2.1, e.2.2.2.1, e.2.2.2.2, ()))) }
theorem tworded_l1_eq (N n_ : Nat) (traits : Int) (u : Int) (u2 : Int) (d : List Int) (d2 : Int) (d3 : List Qa) (d4 : List Qa) (d5 : List Int) : ev (Z := List Int × Int × List Qa × List Qa × List Int) Try.prog (tworded_sp N) tworded_B [tworded_l2_L N, tworded_l3_L N] [tworded_l1_h (tworded_l1 N n_), tworded_l1_e0] none 400 true tworded_l1_at (stL tworded_l1_st (((), traits, (), u, u2, ()), ((d, d2, (), (), (), ()), ((), (), ()), d3, d4, d5, ()))) (stH tworded_l1_st (((), traits, (), u, u2, ()), ((d, d2, (), (), (), ()), ((), (), ()), d3, d4, d5, ()))) = tworded_l1 N (n_ + 1) traits u u2 d d2 d3 d4 d5 := by kernel_rfl
theorem tworded_l1_ok (N : Nat) {top : Bool} : LoopOK Try.prog tworded_B.c tworded_B.n tworded_B.m0 top (tworded_l1_L N) := loop_of_ev (Z := List Int × Int × List Qa × List Qa × List Int) (N := N) (fun m p => tworded_l1 N m p.1.2.1 p.1.2.2.2.1 p.1.2.2.2.2.1 p.2.1.1 p.2.1.2.1 p.2.2.2.1 p.2.2.2.2.1 p.2.2.2.2.2.1) (fun e => .inl (((), ()), ((e.1, e.2.1, (), (), (), ()), e.2.2.1, e.2.2.2.1, e.2.2.2.2, ()))) (fun _ _ _ => rfl) (fun _ => rfl) (fun m z E Xc hE hX hrec hx => leaf_of_ev (B := tworded_B) (loops := [tworded_l2_L N, tworded_l3_L N]) (leaves := [tworded_l1_h (tworded_l1 N m), tworded_l1_e0]) (tworded_all N) mixed ⟨tworded_l2_ok N, tworded_l3_ok N, trivial⟩ hE hX ⟨hrec, (fun p hp => by obtain rfl := Option.some.inj hp; exact hx), trivial⟩ RetOK.no (fun p => tworded_l1_eq N m p.1.2.1 p.1.2.2.2.1 p.1.2.2.2.2.1 p.2.1.1 p.2.1.2.1 p.2.2.2.1 p.2.2.2.2.1 p.2.2.2.2.2.1))
abbrev tworded_l5_at : List PI := [.c [1, 1, 1, 1, 1, 1, 0, 1, 0, 0, 1, 1, 0, 0, 1, 1, 1, 1, 0, 0, 0], .c [1, 1, 1, 1, 1, 1, 0, 1, 0, 0, 1, 1, 0, 0, 1, 1, 1, 1, 0, 0, 1], .l [1, 1, 1, 1, 1, 1, 0, 1, 0, 0, 1, 1, 0, 0, 1, 1, 1, 1, 0, 0], .b 6, .b 5, .c [1, 1, 1, 1, 1, 1, 0, 1, 0, 0, 1, 1, 1], .l [1, 1, 1, 1, 1, 1, 0, 1, 0, 0], .b 4, .c [1, 1, 1, 1, 1, 1, 1]]
abbrev tworded_l5_st : Sta := ⟨[3, 8, 9, 10, 11, 65, 66, 67, 81, 82, 83], ⟨[.own 0 0, .fn 9 [] [], .i .i64, .sl (.int .i64), .sl (.int .i64), .sl Qb, .i .i64, .i .i64, .sl Qb, .i .i64, .i .i64], [.segs [.sl (.int .i64), .i .i64, .sl Qb, .sl Qb, .sl (.int .i64)]]⟩⟩
abbrev tworded_l5_h (rec : Int → Qa → Qa → Qk → Int → Int → Qk → Int → Int → Qa → Int → Qk → Qk → Qa → Option ((Unit) ⊕ ((Unit) ⊕ ((Unit) ⊕ Qi)))) : Leaf ((Unit) ⊕ ((Unit) ⊕ ((Unit) ⊕ Qi))) := ⟨tworded_l5_at, tworded_l5_st, fun p => rec p.1.2.2.1 p.1.2.2.2.1 p.1.2.2.2.2.1 p.1.2.2.2.2.2.1 p.1.2.2.2.2.2.2.1 p.1.2.2.2.2.2.2.2.1 p.1.2.2.2.2.2.2.2.2.1 p.1.2.2.2.2.2.2.2.2.2.1 p.1.2.2.2.2.2.2.2.2.2.2.1 p.2.1.1 p.2.1.2.1 p.2.1.2.2.1 p.2.1.2.2.2.1 p.2.1.2.2.2.2.1⟩
abbrev tworded_l5_e0 : Leaf ((Unit) ⊕ ((Unit) ⊕ ((Unit) ⊕ Qi))) := ⟨[.c [1, 1, 1, 1, 1, 1, 0, 1, 0, 0, 1, 1, 0, 0, 1, 1, 1, 1, 0, 0, 1, 1, 0, 0, 1, 1, 1, 0, 1, 0, 0], .c [1, 1, 1, 1, 1, 1, 0, 1, 0, 0, 1, 1, 0, 0, 1, 1, 1, 1, 0, 0, 1, 1, 0, 0, 1, 1, 1, 0, 1, 0, 1], .c [1, 1, 1, 1, 1, 1, 0, 1, 0, 0, 1, 1, 0, 0, 1, 1, 1, 1, 0, 0, 1, 1, 0, 0, 1, 1, 1, 1], .b 7, .c [1, 1, 1, 1, 1, 1, 0, 1, 0, 0, 1, 1, 0, 0, 1, 1, 1, 1, 0, 0, 1, 1, 1], .l [1, 1, 1, 1, 1, 1, 0, 1, 0, 0, 1, 1, 0, 0, 1, 1, 1, 1, 0, 0], .b 6, .b 5, .c [1, 1, 1, 1, 1, 1, 0, 1, 0, 0, 1, 1, 1], .l [1, 1, 1, 1, 1, 1, 0, 1, 0, 0], .b 4, .c [1, 1, 1, 1, 1, 1, 1]], ⟨[], ⟨[], []⟩⟩, fun p => some (.inl ())⟩
abbrev tworded_l5_e1 : Leaf ((Unit) ⊕ ((Unit) ⊕ ((Unit) ⊕ Qi))) := ⟨[.c [1, 1, 1, 1, 1, 1, 0, 1, 0, 0, 1, 1, 0, 0, 1, 1, 1, 1, 0, 0, 1, 1, 0, 0, 1, 1, 1, 1, 0, 1, 0, 0, 1, 0, 0], .c [1, 1, 1, 1, 1, 1, 0, 1, 0, 0, 1, 1, 0, 0, 1, 1, 1, 1, 0, 0, 1, 1, 0, 0, 1, 1, 1, 1, 0, 1, 0, 0, 1, 0, 1], .c [1, 1, 1, 1, 1, 1, 0, 1, 0, 0, 1, 1, 0, 0, 1, 1, 1, 1, 0, 0, 1, 1, 0, 0, 1, 1, 1, 1, 0, 1, 0, 1], .c [1, 1, 1, 1, 1, 1, 0, 1, 0, 0, 1, 1, 0, 0, 1, 1, 1, 1, 0, 0, 1, 1, 0, 0, 1, 1, 1, 1, 1], .b 7, .c [1, 1, 1, 1, 1, 1, 0, 1, 0, 0, 1, 1, 0, 0, 1, 1, 1, 1, 0, 0, 1, 1, 1], .l [1, 1, 1, 1, 1, 1, 0, 1, 0, 0, 1, 1, 0, 0, 1, 1, 1, 1, 0, 0], .b 6, .b 5, .c [1, 1, 1, 1, 1, 1, 0, 1, 0, 0, 1, 1, 1], .l [1, 1, 1, 1, 1, 1, 0, 1, 0, 0], .b 4, .c [1, 1, 1, 1, 1, 1, 1]], ⟨[], ⟨[], []⟩⟩, fun p => some (.inr (.inl ()))⟩
abbrev tworded_l5_e2 : Leaf ((Unit) ⊕ ((Unit) ⊕ ((Unit) ⊕ Qi))) := ⟨[.c [1, 1, 1, 1, 1, 1, 0, 1, 0, 0, 1, 1, 0, 0, 1, 1, 1, 1, 0, 0, 1, 1, 0, 0, 1, 1, 1, 1, 1, 1, 1, 1, 1, 0, 0], .c [1, 1, 1, 1, 1, 1, 0, 1, 0, 0, 1, 1, 0, 0, 1, 1, 1, 1, 0, 0, 1, 1, 0, 0, 1, 1, 1, 1, 1, 1, 1, 1, 1, 0, 1], .b 7, .c [1, 1, 1, 1, 1, 1, 0, 1, 0, 0, 1, 1, 0, 0, 1, 1, 1, 1, 0, 0, 1, 1, 1], .l [1, 1, 1, 1, 1, 1, 0, 1, 0, 0, 1, 1, 0, 0, 1, 1, 1, 1, 0, 0], .b 6, .b 5, .c [1, 1, 1, 1, 1, 1, 0, 1, 0, 0, 1, 1, 1], .l [1, 1, 1, 1, 1, 1, 0, 1, 0, 0], .b 4, .c [1, 1, 1, 1, 1, 1, 1]], ⟨[], ⟨[], []⟩⟩, fun p => some (.inr (.inr (.inl ())))⟩
abbrev tworded_l5_e3 : Leaf ((Unit) ⊕ ((Unit) ⊕ ((Unit) ⊕ Qi))) := ⟨[.c [1, 1, 1, 1, 1, 1, 0, 1, 0, 0, 1, 1, 1], .l [1, 1, 1, 1, 1, 1, 0, 1, 0, 0], .b 4, .c [1, 1, 1, 1, 1, 1, 1]], ⟨[3, 8, 65, 66, 67], ⟨[.own 0 0, .fn 9 [] [], .sl Qb, .i .i64, .i .i64], [.segs [.sl (.int .i64), .i .i64, .sl Qb, .sl Qb, .sl (.int .i64)]]⟩⟩, fun p => some (.inr (.inr (.inr (p.1.2.2.1, p.1.2.2.2.1, p.1.2.2.2.2.1, p.2.1.1, p.2.1.2.1, p.2.1.2.2.1, p.2.1.2.2.2.1, p.2.1.2.2.2.2.1))))⟩
abbrev tworded_j1_at : List PI := [.c [1, 1, 1, 1, 1, 1, 0, 1, 0, 0, 1, 1, 0, 0, 1, 1, 1, 1, 0, 0, 1, 1, 1], .l [1, 1, 1, 1, 1, 1, 0, 1, 0, 0, 1, 1, 0, 0, 1, 1, 1, 1, 0, 0], .b 6, .b 5, .c [1, 1, 1, 1, 1, 1, 0, 1, 0, 0, 1, 1, 1], .l [1, 1, 1, 1, 1, 1, 0, 1, 0, 0], .b 4, .c [1, 1, 1, 1, 1, 1, 1]]
abbrev tworded_j1_st : Sta := ⟨[3, 8, 9, 10, 11, 65, 66, 67, 81, 82, 83], ⟨[.own 0 0, .fn 9 [] [], .i .i64, .sl (.int .i64), .sl (.int .i64), .sl Qb, .i .i64, .i .i64, .sl Qb, .i .i64, .i .i64], [.segs [.sl (.int .i64), .i .i64, .sl Qb, .sl Qb, .sl (.int .i64)]]⟩⟩
abbrev tworded_j1_k (N : Nat) (rec : Int → Qa → Qa → Qk → Int → Int → Qk → Int → Int → Qa → Int → Qk → Qk → Qa → Option ((Unit) ⊕ ((Unit) ⊕ ((Unit) ⊕ Qi)))) : Leaf ((Unit) ⊕ ((Unit) ⊕ ((Unit) ⊕ Qi))) := ⟨tworded_j1_at, tworded_j1_st, fun p => tworded_j1 N rec p.1.2.2.1 p.1.2.2.2.1 p.1.2.2.2.2.1 p.1.2.2.2.2.2.1 p.1.2.2.2.2.2.2.1 p.1.2.2.2.2.2.2.2.1 p.1.2.2.2.2.2.2.2.2.1 p.1.2.2.2.2.2.2.2.2.2.1 p.1.2.2.2.2.2.2.2.2.2.2.1 p.2.1.1 p.2.1.2.1 p.2.1.2.2.1 p.2.1.2.2.2.1 p.2.1.2.2.2.2.1⟩
theorem tworded_j1_eq (N : Nat) (rec : Int → Qa → Qa → Qk → Int → Int → Qk → Int → Int → Qa → Int → Qk → Qk → Qa → Option ((Unit) ⊕ ((Unit) ⊕ ((Unit) ⊕ Qi)))) (i : Int) (a : List Int) (may : List Int) (u : List Qa) (u2 : Int) (u3 : Int) (u4 : List Qa) (u5 : Int) (u6 : Int) (d : List Int) (d2 : Int) (d3 : List Qa) (d4 : List Qa) (d5 : List Int) : ev (Z := (Unit) ⊕ ((Unit) ⊕ ((Unit) ⊕ Qi))) Try.prog (tworded_sp N) tworded_B [tworded_l2_L N, tworded_l3_L N, tworded_l1_L N] [tworded_l5_h rec, tworded_l5_e0, tworded_l5_e1, tworded_l5_e2, tworded_l5_e3] none 400 true tworded_j1_at (stL tworded_j1_st (((), ((), ()), i, a, may, u, u2, u3, u4, u5, u6, ()), ((d, d2, d3, d4, d5, ()), ()))) (stH tworded_j1_st (((), ((), ()), i, a, may, u, u2, u3, u4, u5, u6, ()), ((d, d2, d3, d4, d5, ()), ()))) = tworded_j1 N rec i a may u u2 u3 u4 u5 u6 d d2 d3 d4 d5 := by kernel_rfl
theorem tworded_j1_lf (N : Nat) (rec : Int → Qa → Qa → Qk → Int → Int → Qk → Int → Int → Qa → Int → Qk → Qk → Qa → Option ((Unit) ⊕ ((Unit) ⊕ ((Unit) ⊕ Qi)))) {z : (Unit) ⊕ ((Unit) ⊕ ((Unit) ⊕ Qi))} {top : Bool} {E : EE} {Xc : Ctx} (hE : EOK tworded_B.m0 E) (hX : CxOK top Xc) (hrec : LeafOK Try.prog tworded_B.c tworded_B.n tworded_B.m0 E Xc z (tworded_l5_h rec)) (h0 : LeafOK Try.prog tworded_B.c tworded_B.n tworded_B.m0 E Xc z tworded_l5_e0) (h1 : LeafOK Try.prog tworded_B.c tworded_B.n tworded_B.m0 E Xc z tworded_l5_e1) (h2 : LeafOK Try.prog tworded_B.c tworded_B.n tworded_B.m0 E Xc z tworded_l5_e2) (h3 : LeafOK Try.prog tworded_B.c tworded_B.n tworded_B.m0 E Xc z tworded_l5_e3) : LeafOK Try.prog tworded_B.c tworded_B.n tworded_B.m0 E Xc z (tworded_j1_k N rec) := leaf_of_ev (B := tworded_B) (loops := [tworded_l2_L N, tworded_l3_L N, tworded_l1_L N]) (leaves := [tworded_l5_h rec, tworded_l5_e0, tworded_l5_e1, tworded_l5_e2, tworded_l5_e3]) (tworded_all N) mixed ⟨tworded_l2_ok N, tworded_l3_ok N, tworded_l1_ok N, trivial⟩ hE hX ⟨hrec, h0, h1, h2, h3, trivial⟩ RetOK.no (fun p => tworded_j1_eq N rec p.1.2.2.1 p.1.2.2.2.1 p.1.2.2.2.2.1 p.1.2.2.2.2.2.1 p.1.2.2.2.2.2.2.1 p.1.2.2.2.2.2.2.2.1 p.1.2.2.2.2.2.2.2.2.1 p.1.2.2.2.2.2.2.2.2.2.1 p.1.2.2.2.2.2.2.2.2.2.2.1 p.2.1.1 p.2.1.2.1 p.2.1.2.2.1 p.2.1.2.2.2.1 p.2.1.2.2.2.2.1)
noncomputable def tworded_l5_L (N : Nat) : LoopS := { at_ := tworded_l5_at, sta := tworded_l5_st, exits := [([.c [1, 1, 1, 1, 1, 1, 0, 1, 0, 0, 1, 1, 0, 0, 1, 1, 1, 1, 0, 0, 1, 1, 0, 0, 1, 1, 1, 0, 1, 0, 0], .c [1, 1, 1, 1, 1, 1, 0, 1, 0, 0, 1, 1, 0, 0, 1, 1, 1, 1, 0, 0, 1, 1, 0, 0, 1, 1, 1, 0, 1, 0, 1], .c [1, 1, 1, 1, 1, 1, 0, 1, 0, 0, 1, 1, 0, 0, 1, 1, 1, 1, 0, 0, 1, 1, 0, 0, 1, 1, 1, 1], .b 7, .c [1, 1, 1, 1, 1, 1, 0, 1, 0, 0, 1, 1, 0, 0, 1, 1, 1, 1, 0, 0, 1, 1, 1], .l [1, 1, 1, 1, 1, 1, 0, 1, 0, 0, 1, 1, 0, 0, 1, 1, 1, 1, 0, 0], .b 6, .b 5, .c [1, 1, 1, 1, 1, 1, 0, 1, 0, 0, 1, 1, 1], .l [1, 1, 1, 1, 1, 1, 0, 1, 0, 0], .b 4, .c [1, 1, 1, 1, 1, 1, 1]], ⟨[], ⟨[], []⟩⟩), ([.c [1, 1, 1, 1, 1, 1, 0, 1, 0, 0, 1, 1, 0, 0, 1, 1, 1, 1, 0, 0, 1, 1, 0, 0, 1, 1, 1, 1, 0, 1, 0, 0, 1, 0, 0], .c [1, 1, 1, 1, 1, 1, 0, 1, 0, 0, 1, 1, 0, 0, 1, 1, 1, 1, 0, 0, 1, 1, 0, 0, 1, 1, 1, 1, 0, 1, 0, 0, 1, 0, 1], .c [1, 1, 1, 1, 1, 1, 0, 1, 0, 0, 1, 1, 0, 0, 1, 1, 1, 1, 0, 0, 1, 1, 0, 0, 1, 1, 1, 1, 0, 1, 0, 1], .c [1, 1, 1, 1, 1, 1, 0, 1, 0, 0, 1, 1, 0, 0, 1, 1, 1, 1, 0, 0, 1, 1, 0, 0, 1, 1, 1, 1, 1], .b 7, .c [1, 1, 1, 1, 1, 1, 0, 1, 0, 0, 1, 1, 0, 0, 1, 1, 1, 1, 0, 0, 1, 1, 1], .l [1, 1, 1, 1, 1, 1, 0, 1, 0, 0, 1, 1, 0, 0, 1, 1, 1, 1, 0, 0], .b 6, .b 5, .c [1, 1, 1, 1, 1, 1, 0, 1, 0, 0, 1, 1, 1], .l [1, 1, 1, 1, 1, 1, 0, 1, 0, 0], .b 4, .c [1, 1, 1, 1, 1, 1, 1]], ⟨[], ⟨[], []⟩⟩), ([.c [1, 1, 1, 1, 1, 1, 0, 1, 0, 0, 1, 1, 0, 0, 1, 1, 1, 1, 0, 0, 1, 1, 0, 0, 1, 1, 1, 1, 1, 1, 1, 1, 1, 0, 0], .c [1, 1, 1, 1, 1, 1, 0, 1, 0, 0, 1, 1, 0, 0, 1, 1, 1, 1, 0, 0, 1, 1, 0, 0, 1, 1, 1, 1, 1, 1, 1, 1, 1, 0, 1], .b 7, .c [1, 1, 1, 1, 1, 1, 0, 1, 0, 0, 1, 1, 0, 0, 1, 1, 1, 1, 0, 0, 1, 1, 1], .l [1, 1, 1, 1, 1, 1, 0, 1, 0, 0, 1, 1, 0, 0, 1, 1, 1, 1, 0, 0], .b 6, .b 5, .c [1, 1, 1, 1, 1, 1, 0, 1, 0, 0, 1, 1, 1], .l [1, 1, 1, 1, 1, 1, 0, 1, 0, 0], .b 4, .c [1, 1, 1, 1, 1, 1, 1]], ⟨[], ⟨[], []⟩⟩), ([.c [1, 1, 1, 1, 1, 1, 0, 1, 0, 0, 1, 1, 1], .l [1, 1, 1, 1, 1, 1, 0, 1, 0, 0], .b 4, .c [1, 1, 1, 1, 1, 1, 1]], ⟨[3, 8, 65, 66, 67], ⟨[.own 0 0, .fn 9 [] [], .sl Qb, .i .i64, .i .i64], [.segs [.sl (.int .i64), .i .i64, .sl Qb, .sl Qb, .sl (.int .i64)]]⟩⟩)], run := fun p k => (tworded_l5 N N p.1.2.2.1 p.1.2.2.2.1 p.1.2.2.2.2.1 p.1.2.2.2.2.2.1 p.1.2.2.2.2.2.2.1 p.1.2.2.2.2.2.2.2.1 p.1.2.2.2.2.2.2.2.2.1 p.1.2.2.2.2.2.2.2.2.2.1 p.1.2.2.2.2.2.2.2.2.2.2.1 p.2.1.1 p.2.1.2.1 p.2.1.2.2.1 p.2.1.2.2.2.1 p.2.1.2.2.2.2.1).bind fun e => match e with | .inl x => k (.inl ((), ())) | .inr (.inl x) => k (.inr (.inl ((), ()))) | .inr (.inr (.inl x)) => k (.inr (.inr (.inl ((), ())))) | .inr (.inr (.inr x)) => k (.inr (.inr (.inr (.inl (((), ((), ()), x.1, x.2.1, x.2.2.1, ()), ((x.2.2.2.1, x.2.2.2.2.1, x.2.2.2.2.2.1, x.2.2.2.2.2.2.1, x.2.2.2.2.2.2.2, ()), ())))))) }
theorem tworded_l5_eq (N n_ : Nat) (i : Int) (a : List Int) (may : List Int) (u : List Qa) (u2 : Int) (u3 : Int) (u4 : List Qa) (u5 : Int) (u6 : Int) (d : List Int) (d2 : Int) (d3 : List Qa) (d4 : List Qa) (d5 : List Int) : ev (Z := (Unit) ⊕ ((Unit) ⊕ ((Unit) ⊕ Qi))) Try.prog (tworded_sp N) tworded_B [tworded_l2_L N, tworded_l3_L N, tworded_l1_L N] [tworded_l5_h (tworded_l5 N n_), tworded_l5_e0, tworded_l5_e1, tworded_l5_e2, tworded_l5_e3, tworded_j1_k N (tworded_l5 N n_)] none 400 true tworded_l5_at (stL tworded_l5_st (((), ((), ()), i, a, may, u, u2, u3, u4, u5, u6, ()), ((d, d2, d3, d4, d5, ()), ()))) (stH tworded_l5_st (((), ((), ()), i, a, may, u, u2, u3, u4, u5, u6, ()), ((d, d2, d3, d4, d5, ()), ()))) = tworded_l5 N (n_ + 1) i a may u u2 u3 u4 u5 u6 d d2 d3 d4 d5 := by kernel_rfl
theorem tworded_l5_ok (N : Nat) {top : Bool} : LoopOK Try.prog tworded_B.c tworded_B.n tworded_B.m0 top (tworded_l5_L N) := loop_of_ev (Z := (Unit) ⊕ ((Unit) ⊕ ((Unit) ⊕ Qi))) (N := N) (fun m p => tworded_l5 N m p.1.2.2.1 p.1.2.2.2.1 p.1.2.2.2.2.1 p.1.2.2.2.2.2.1 p.1.2.2.2.2.2.2.1 p.1.2.2.2.2.2.2.2.1 p.1.2.2.2.2.2.2.2.2.1 p.1.2.2.2.2.2.2.2.2.2.1 p.1.2.2.2.2.2.2.2.2.2.2.1 p.2.1.1 p.2.1.2.1 p.2.1.2.2.1 p.2.1.2.2.2.1 p.2.1.2.2.2.2.1) (fun e => match e with | .inl x => .inl ((), ()) | .inr (.inl x) => .inr (.inl ((), ())) | .inr (.inr (.inl x)) => .inr (.inr (.inl ((), ()))) | .inr (.inr (.inr x)) => .inr (.inr (.inr (.inl (((), ((), ()), x.1, x.2.1, x.2.2.1, ()), ((x.2.2.2.1, x.2.2.2.2.1, x.2.2.2.2.2.1, x.2.2.2.2.2.2.1, x.2.2.2.2.2.2.2, ()), ())))))) (fun _ p k => bind_congr_ (tworded_l5 N N p.1.2.2.1 p.1.2.2.2.1 p.1.2.2.2.2.1 p.1.2.2.2.2.2.1 p.1.2.2.2.2.2.2.1 p.1.2.2.2.2.2.2.2.1 p.1.2.2.2.2.2.2.2.2.1 p.1.2.2.2.2.2.2.2.2.2.1 p.1.2.2.2.2.2.2.2.2.2.2.1 p.2.1.1 p.2.1.2.1 p.2.1.2.2.1 p.2.1.2.2.2.1 p.2.1.2.2.2.2.1) _ _ (fun e => by rcases e with x | x | x | x <;> rfl)) (fun _ => rfl) (fun m z E Xc hE hX hrec hx => leaf_of_ev (B := tworded_B) (loops := [tworded_l2_L N, tworded_l3_L N, tworded_l1_L N]) (leaves := [tworded_l5_h (tworded_l5 N m), tworded_l5_e0, tworded_l5_e1, tworded_l5_e2, tworded_l5_e3, tworded_j1_k N (tworded_l5 N m)]) (tworded_all N) mixed ⟨tworded_l2_ok N, tworded_l3_ok N, tworded_l1_ok N, trivial⟩ hE hX ⟨hrec, (fun p hp => by obtain rfl := Option.some.inj hp; exact hx), (fun p hp => by obtain rfl := Option.some.inj hp; exact hx), (fun p hp => by obtain rfl := Option.some.inj hp; exact hx), (fun p hp => by obtain rfl := Option.some.inj hp; exact hx), tworded_j1_lf N _ hE hX hrec (fun p hp => by obtain rfl := Option.some.inj hp; exact hx) (fun p hp => by obtain rfl := Option.some.inj hp; exact hx) (fun p hp => by obtain rfl := Option.some.inj hp; exact hx) (fun p hp => by obtain rfl := Option.some.inj hp; exact hx), trivial⟩ RetOK.no (fun p => tworded_l5_eq N m p.1.2.2.1 p.1.2.2.2.1 p.1.2.2.2.2.1 p.1.2.2.2.2.2.1 p.1.2.2.2.2.2.2.1 p.1.2.2.2.2.2.2.2.1 p.1.2.2.2.2.2.2.2.2.1 p.1.2.2.2.2.2.2.2.2.2.1 p.1.2.2.2.2.2.2.2.2.2.2.1 p.2.1.1 p.2.1.2.1 p.2.1.2.2.1 p.2.1.2.2.2.1 p.2.1.2.2.2.2.1))
abbrev tworded_l4_at : List PI := [.c [1, 1, 1, 1, 1, 1, 0, 1, 0, 0, 0], .c [1, 1, 1, 1, 1, 1, 0, 1, 0, 0, 1], .l [1, 1, 1, 1, 1, 1, 0, 1, 0, 0], .b 4, .c [1, 1, 1, 1, 1, 1, 1]]
abbrev tworded_l4_st : Sta := ⟨[3, 8, 65, 66, 67], ⟨[.own 0 0, .fn 9 [] [], .sl Qb, .i .i64, .i .i64], [.segs [.sl (.int .i64), .i .i64, .sl Qb, .sl Qb, .sl (.int .i64)]]⟩⟩
abbrev tworded_l4_h (rec : Qk → Int → Int → Qa → Int → Qk → Qk → Qa → Option ((Unit) ⊕ ((Unit) ⊕ ((Unit) ⊕ ((Unit) ⊕ (Unit)))))) : Leaf ((Unit) ⊕ ((Unit) ⊕ ((Unit) ⊕ ((Unit) ⊕ (Unit))))) := ⟨tworded_l4_at, tworded_l4_st, fun p => rec p.1.2.2.1 p.1.2.2.2.1 p.1.2.2.2.2.1 p.2.1.1 p.2.1.2.1 p.2.1.2.2.1 p.2.1.2.2.2.1 p.2.1.2.2.2.2.1⟩
abbrev tworded_l4_e0 : Leaf ((Unit) ⊕ ((Unit) ⊕ ((Unit) ⊕ ((Unit) ⊕ (Unit))))) := ⟨[.c [1, 1, 1, 1, 1, 1, 0, 1, 0, 0, 1, 1, 0, 0, 1, 1, 0, 1, 0, 0], .c [1, 1, 1, 1, 1, 1, 0, 1, 0, 0, 1, 1, 0, 0, 1, 1, 0, 1, 0, 1], .c [1, 1, 1, 1, 1, 1, 0, 1, 0, 0, 1, 1, 0, 0, 1, 1, 1], .b 5, .c [1, 1, 1, 1, 1, 1, 0, 1, 0, 0, 1, 1, 1], .l [1, 1, 1, 1, 1, 1, 0, 1, 0, 0], .b 4, .c [1, 1, 1, 1, 1, 1, 1]], ⟨[], ⟨[], []⟩⟩, fun p => some (.inl ())⟩
abbrev tworded_l4_e1 : Leaf ((Unit) ⊕ ((Unit) ⊕ ((Unit) ⊕ ((Unit) ⊕ (Unit))))) := ⟨[.c [1, 1, 1, 1, 1, 1, 0, 1, 0, 0, 1, 1, 0, 0, 1, 1, 1, 1, 0, 0, 1, 1, 0, 0, 1, 1, 1, 0, 1, 0, 0], .c [1, 1, 1, 1, 1, 1, 0, 1, 0, 0, 1, 1, 0, 0, 1, 1, 1, 1, 0, 0, 1, 1, 0, 0, 1, 1, 1, 0, 1, 0, 1], .c [1, 1, 1, 1, 1, 1, 0, 1, 0, 0, 1, 1, 0, 0, 1, 1, 1, 1, 0, 0, 1, 1, 0, 0, 1, 1, 1, 1], .b 7, .c [1, 1, 1, 1, 1, 1, 0, 1, 0, 0, 1, 1, 0, 0, 1, 1, 1, 1, 0, 0, 1, 1, 1], .l [1, 1, 1, 1, 1, 1, 0, 1, 0, 0, 1, 1, 0, 0, 1, 1, 1, 1, 0, 0], .b 6, .b 5, .c [1, 1, 1, 1, 1, 1, 0, 1, 0, 0, 1, 1, 1], .l [1, 1, 1, 1, 1, 1, 0, 1, 0, 0], .b 4, .c [1, 1, 1, 1, 1, 1, 1]], ⟨[], ⟨[], []⟩⟩, fun p => some (.inr (.inl ()))⟩
abbrev tworded_l4_e2 : Leaf ((Unit) ⊕ ((Unit) ⊕ ((Unit) ⊕ ((Unit) ⊕ (Unit))))) := ⟨[.c [1, 1, 1, 1, 1, 1, 0, 1, 0, 0, 1, 1, 0, 0, 1, 1, 1, 1, 0, 0, 1, 1, 0, 0, 1, 1, 1, 1, 0, 1, 0, 0, 1, 0, 0], .c [1, 1, 1, 1, 1, 1, 0, 1, 0, 0, 1, 1, 0, 0, 1, 1, 1, 1, 0, 0, 1, 1, 0, 0, 1, 1, 1, 1, 0, 1, 0, 0, 1, 0, 1], .c [1, 1, 1, 1, 1, 1, 0, 1, 0, 0, 1, 1, 0, 0, 1, 1, 1, 1, 0, 0, 1, 1, 0, 0, 1, 1, 1, 1, 0, 1, 0, 1], .c [1, 1, 1, 1, 1, 1, 0, 1, 0, 0, 1, 1, 0, 0, 1, 1, 1, 1, 0, 0, 1, 1, 0, 0, 1, 1, 1, 1, 1], .b 7, .c [1, 1, 1, 1, 1, 1, 0, 1, 0, 0, 1, 1, 0, 0, 1, 1, 1, 1, 0, 0, 1, 1, 1], .l [1, 1, 1, 1, 1, 1, 0, 1, 0, 0, 1, 1, 0, 0, 1, 1, 1, 1, 0, 0], .b 6, .b 5, .c [1, 1, 1, 1, 1, 1, 0, 1, 0, 0, 1, 1, 1], .l [1, 1, 1, 1, 1, 1, 0, 1, 0, 0], .b 4, .c [1, 1, 1, 1, 1, 1, 1]], ⟨[], ⟨[], []⟩⟩, fun p => some (.inr (.inr (.inl ())))⟩
abbrev tworded_l4_e3 : Leaf ((Unit) ⊕ ((Unit) ⊕ ((Unit) ⊕ ((Unit) ⊕ (Unit))))) := ⟨[.c [1, 1, 1, 1, 1, 1, 0, 1, 0, 0, 1, 1, 0, 0, 1, 1, 1, 1, 0, 0, 1, 1, 0, 0, 1, 1, 1, 1, 1, 1, 1, 1, 1, 0, 0], .c [1, 1, 1, 1, 1, 1, 0, 1, 0, 0, 1, 1, 0, 0, 1, 1, 1, 1, 0, 0, 1, 1, 0, 0, 1, 1, 1, 1, 1, 1, 1, 1, 1, 0, 1], .b 7, .c [1, 1, 1, 1, 1, 1, 0, 1, 0, 0, 1, 1, 0, 0, 1, 1, 1, 1, 0, 0, 1, 1, 1], .l [1, 1, 1, 1, 1, 1, 0, 1, 0, 0, 1, 1, 0, 0, 1, 1, 1, 1, 0, 0], .b 6, .b 5, .c [1, 1, 1, 1, 1, 1, 0, 1, 0, 0, 1, 1, 1], .l [1, 1, 1, 1, 1, 1, 0, 1, 0, 0], .b 4, .c [1, 1, 1, 1, 1, 1, 1]], ⟨[], ⟨[], []⟩⟩, fun p => some (.inr (.inr (.inr (.inl ()))))⟩
abbrev tworded_l4_e4 : Leaf ((Unit) ⊕ ((Unit) ⊕ ((Unit) ⊕ ((Unit) ⊕ (Unit))))) := ⟨[.c [1, 1, 1, 1, 1, 1, 1, 0], .c [1, 1, 1, 1, 1, 1, 1, 1]], ⟨[], ⟨[], []⟩⟩, fun p => some (.inr (.inr (.inr (.inr ()))))⟩
noncomputable def tworded_l4_L (N : Nat) : LoopS := { at_ := tworded_l4_at, sta := tworded_l4_st, exits := [([.c [1, 1, 1, 1, 1, 1, 0, 1, 0, 0, 1, 1, 0, 0, 1, 1, 0, 1, 0, 0], .c [1, 1, 1, 1, 1, 1, 0, 1, 0, 0, 1, 1, 0, 0, 1, 1, 0, 1, 0, 1], .c [1, 1, 1, 1, 1, 1, 0, 1, 0, 0, 1, 1, 0, 0, 1, 1, 1], .b 5, .c [1, 1, 1, 1, 1, 1, 0, 1, 0, 0, 1, 1, 1], .l [1, 1, 1, 1, 1, 1, 0, 1, 0, 0], .b 4, .c [1, 1, 1, 1, 1, 1, 1]], ⟨[], ⟨[], []⟩⟩), ([.c [1, 1, 1, 1, 1, 1, 0, 1, 0, 0, 1, 1, 0, 0, 1, 1, 1, 1, 0, 0, 1, 1, 0, 0, 1, 1, 1, 0, 1, 0, 0], .c [1, 1, 1, 1, 1, 1, 0, 1, 0, 0, 1, 1, 0, 0, 1, 1, 1, 1, 0, 0, 1, 1, 0, 0, 1, 1, 1, 0, 1, 0, 1], .c [1, 1, 1, 1, 1, 1, 0, 1, 0, 0, 1, 1, 0, 0, 1, 1, 1, 1, 0, 0, 1, 1, 0, 0, 1, 1, 1, 1], .b 7, .c [1, 1, 1, 1, 1, 1, 0, 1, 0, 0, 1, 1, 0, 0, 1, 1, 1, 1, 0, 0, 1, 1, 1], .l [1, 1, 1, 1, 1, 1, 0, 1, 0, 0, 1, 1, 0, 0, 1, 1, 1, 1, 0, 0], .b 6, .b 5, .c [1, 1, 1, 1, 1, 1, 0, 1, 0, 0, 1, 1, 1], .l [1, 1, 1, 1, 1, 1, 0, 1, 0, 0], .b 4, .c [1, 1, 1, 1, 1, 1, 1]], ⟨[], ⟨[], []⟩⟩), ([.c [1, 1, 1, 1, 1, 1, 0, 1, 0, 0, 1, 1, 0, 0, 1, 1, 1, 1, 0, 0, 1, 1, 0, 0, 1, 1, 1, 1, 0, 1, 0, 0, 1, 0, 0], .c [1, 1, 1, 1, 1, 1, 0, 1, 0, 0, 1, 1, 0, 0, 1, 1, 1, 1, 0, 0, 1, 1, 0, 0, 1, 1, 1, 1, 0, 1, 0, 0, 1, 0, 1], .c [1, 1, 1, 1, 1, 1, 0, 1, 0, 0, 1, 1, 0, 0, 1, 1, 1, 1, 0, 0, 1, 1, 0, 0, 1, 1, 1, 1, 0, 1, 0, 1], .c [1, 1, 1, 1, 1, 1, 0, 1, 0, 0, 1, 1, 0, 0, 1, 1, 1, 1, 0, 0, 1, 1, 0, 0, 1, 1, 1, 1, 1], .b 7, .c [1, 1, 1, 1, 1, 1, 0, 1, 0, 0, 1, 1, 0, 0, 1, 1, 1, 1, 0, 0, 1, 1, 1], .l [1, 1, 1, 1, 1, 1, 0, 1, 0, 0, 1, 1, 0, 0, 1, 1, 1, 1, 0, 0], .b 6, .b 5, .c [1, 1, 1, 1, 1, 1, 0, 1, 0, 0, 1, 1, 1], .l [1, 1, 1, 1, 1, 1, 0, 1, 0, 0], .b 4, .c [1, 1, 1, 1, 1, 1, 1]], ⟨[], ⟨[], []⟩⟩), ([.c [1, 1, 1, 1, 1, 1, 0, 1, 0, 0, 1, 1, 0, 0, 1, 1, 1, 1, 0, 0, 1, 1, 0, 0, 1, 1, 1, 1, 1, 1, 1, 1, 1, 0, 0], .c [1, 1, 1, 1, 1, 1, 0, 1, 0, 0, 1, 1, 0, 0, 1, 1, 1, 1, 0, 0, 1, 1, 0, 0, 1, 1, 1, 1, 1, 1, 1, 1, 1, 0, 1], .b 7, .c [1, 1, 1, 1, 1, 1, 0, 1, 0, 0, 1, 1, 0, 0, 1, 1, 1, 1, 0, 0, 1, 1, 1], .l [1, 1, 1, 1, 1, 1, 0, 1, 0, 0, 1, 1, 0, 0, 1, 1, 1, 1, 0, 0], .b 6, .b 5, .c [1, 1, 1, 1, 1, 1, 0, 1, 0, 0, 1, 1, 1], .l [1, 1, 1, 1, 1, 1, 0, 1, 0, 0], .b 4, .c [1, 1, 1, 1, 1, 1, 1]], ⟨[], ⟨[], []⟩⟩), ([.c [1, 1, 1, 1, 1, 1, 1, 0], .c [1, 1, 1, 1, 1, 1, 1, 1]], ⟨[], ⟨[], []⟩⟩)], run := fun p k => (tworded_l4 N N p.1.2.2.1 p.1.2.2.2.1 p.1.2.2.2.2.1 p.2.1.1 p.2.1.2.1 p.2.1.2.2.1 p.2.1.2.2.2.1 p.2.1.2.2.2.2.1).bind fun e => match e with | .inl x => k (.inl ((), ())) | .inr (.inl x) => k (.inr (.inl ((), ()))) | .inr (.inr (.inl x)) => k (.inr (.inr (.inl ((), ())))) | .inr (.inr (.inr (.inl x))) => k (.inr (.inr (.inr (.inl ((), ()))))) | .inr (.inr (.inr (.inr x))) => k (.inr (.inr (.inr (.inr (.inl ((), ())))))) }
theorem tworded_l4_eq (N n_ : Nat) (u : List Qa) (u2 : Int) (u3 : Int) (d : List Int) (d2 : Int) (d3 : List Qa) (d4 : List Qa) (d5 : List Int) : ev (Z := (Unit) ⊕ ((Unit) ⊕ ((Unit) ⊕ ((Unit) ⊕ (Unit))))) Try.prog (tworded_sp N) tworded_B [tworded_l2_L N, tworded_l3_L N, tworded_l1_L N, tworded_l5_L N] [tworded_l4_h (tworded_l4 N n_), tworded_l4_e0, tworded_l4_e1, tworded_l4_e2, tworded_l4_e3, tworded_l4_e4] none 400 true tworded_l4_at (stL tworded_l4_st (((), ((), ()), u, u2, u3, ()), ((d, d2, d3, d4, d5, ()), ()))) (stH tworded_l4_st (((), ((), ()), u, u2, u3, ()), ((d, d2, d3, d4, d5, ()), ()))) = tworded_l4 N (n_ + 1) u u2 u3 d d2 d3 d4 d5 := by kernel_rfl
theorem tworded_l4_ok (N : Nat) {top : Bool} : LoopOK Try.prog tworded_B.c tworded_B.n tworded_B.m0 top (tworded_l4_L N) := loop_of_ev (Z := (Unit) ⊕ ((Unit) ⊕ ((Unit) ⊕ ((Unit) ⊕ (Unit))))) (N := N) (fun m p => tworded_l4 N m p.1.2.2.1 p.1.2.2.2.1 p.1.2.2.2.2.1 p.2.1.1 p.2.1.2.1 p.2.1.2.2.1 p.2.1.2.2.2.1 p.2.1.2.2.2.2.1) (fun e => match e with | .inl x => .inl ((), ()) | .inr (.inl x) => .inr (.inl ((), ())) | .inr (.inr (.inl x)) => .inr (.inr (.inl ((), ()))) | .inr (.inr (.inr (.inl x))) => .inr (.inr (.inr (.inl ((), ())))) | .inr (.inr (.inr (.inr x))) => .inr (.inr (.inr (.inr (.inl ((), ())))))) (fun _ p k => bind_congr_ (tworded_l4 N N p.1.2.2.1 p.1.2.2.2.1 p.1.2.2.2.2.1 p.2.1.1 p.2.1.2.1 p.2.1.2.2.1 p.2.1.2.2.2.1 p.2.1.2.2.2.2.1) _ _ (fun e => by rcases e with x | x | x | x | x <;> rfl)) (fun _ => rfl) (fun m z E Xc hE hX hrec hx => leaf_of_ev (B := tworded_B) (loops := [tworded_l2_L N, tworded_l3_L N, tworded_l1_L N, tworded_l5_L N]) (leaves := [tworded_l4_h (tworded_l4 N m), tworded_l4_e0, tworded_l4_e1, tworded_l4_e2, tworded_l4_e3, tworded_l4_e4]) (tworded_all N) mixed ⟨tworded_l2_ok N, tworded_l3_ok N, tworded_l1_ok N, tworded_l5_ok N, trivial⟩ hE hX ⟨hrec, (fun p hp => by obtain rfl := Option.some.inj hp; exact hx), (fun p hp => by obtain rfl := Option.some.inj hp; exact hx), (fun p hp => by obtain rfl := Option.some.inj hp; exact hx), (fun p hp => by obtain rfl := Option.some.inj hp; exact hx), (fun p hp => by obtain rfl := Option.some.inj hp; exact hx), trivial⟩ RetOK.no (fun p => tworded_l4_eq N m p.1.2.2.1 p.1.2.2.2.1 p.1.2.2.2.2.1 p.2.1.1 p.2.1.2.1 p.2.1.2.2.1 p.2.1.2.2.2.1 p.2.1.2.2.2.2.1))
abbrev tworded_st : Sta := ⟨[0], ⟨[.sl (.int .u8)], []⟩⟩
theorem tworded_eq (N : Nat) (numbers : List Int) : ev (Z := Bool) Try.prog (tworded_sp N) tworded_B [tworded_l2_L N, tworded_l3_L N, tworded_l1_L N, tworded_l5_L N, tworded_l4_L N] [] (some tworded_rt) 400 false [.c [0], .c [1]] (stL tworded_st ((numbers, ()), ())) (stH tworded_st ((numbers, ()), ())) = tworded_S N numbers := by kernel_rfl
noncomputable def sp_tworded (N : Nat) : Spec := { f := 3, ins := ⟨[.sl (.int .u8)], []⟩, outs := [⟨[.b], []⟩], run := fun p k => (tworded_S N p.1.1).bind fun r => k ((r, ()), ()) }
theorem sp_tworded_ok (N : Nat) : SpecOK Try.prog (sp_tworded N) := fn_sound (B := tworded_B) (loops := [tworded_l2_L N, tworded_l3_L N, tworded_l1_L N, tworded_l5_L N, tworded_l4_L N]) (leaves := []) (fun p => tworded_S N p.1.1) (fun r => ((r, ()), ())) tworded_rt (fun _ _ _ => rfl) (fun r z h => by cases h; rfl) Try.func3 (by kernel_rfl) (by kernel_rfl) (by kernel_rfl) rfl rfl (by kernel_rfl) (fun args w => Sem.pv_run _ _ _ (by kernel_rfl) w) (tworded_all N) mixed ⟨tworded_l2_ok N, tworded_l3_ok N, tworded_l1_ok N, tworded_l5_ok N, tworded_l4_ok N, trivial⟩ (fun z E Xc hE hX hret => trivial) (fun p => tworded_eq N p.1.1)

end Go.Proofs.Ytgeijboidfadaaa

namespace Go.Proofs.Ytgeijboidfadaaa
set_option linter.all false
open Go

/-- A run ends well, with a result of which Q speaks. -/
def Ok {α : Type} (o : Option α) (Q : α → Prop) : Prop := ∃ x, o = some x ∧ Q x
section
variable {α β Z : Type} {Q : Z → Prop} {x y : Option Z}
theorem Ok.some {z : Z} (h : Q z) : Ok (some z) Q := ⟨z, rfl, h⟩
theorem Ok.bind {o : Option α} {P : α → Prop} {f : α → Option Z} (h : Ok o P) (k : ∀ a, P a → Ok (f a) Q) : Ok (o.bind f) Q := by
  obtain ⟨a, rfl, ha⟩ := h
  exact k a ha
theorem Ok.eqb {o : Option α} {a : α} {f : α → Option Z} (h : o = Option.some a) (k : Ok (f a) Q) : Ok (o.bind f) Q := by subst h; exact k
theorem Ok.mono {P : Z → Prop} (h : Ok x P) (k : ∀ a, P a → Q a) : Ok x Q := let ⟨a, e, p⟩ := h; ⟨a, e, k a p⟩
theorem Ok.br {c : Bool} (h1 : c = true → Ok x Q) (h2 : c = false → Ok y Q) : Ok (br c x y) Q := by
  cases c
  · exact h2 rfl
  · exact h1 rfl
theorem Ok.brd {p : Prop} [Decidable p] (h1 : p → Ok x Q) (h2 : ¬ p → Ok y Q) : Ok (Proofs.Ytgeijboidfadaaa.br (decide p) x y) Q := by
  by_cases h : p
  · simpa [h, Proofs.Ytgeijboidfadaaa.br] using h1 h
  · simpa [h, Proofs.Ytgeijboidfadaaa.br] using h2 h
theorem chk_eq {n : Int} (hn : -9223372036854775808 ≤ n ∧ n ≤ 9223372036854775807) : chk n x = x := by unfold chk; rw [okI_iff.2 hn]
theorem Ok.chk {n : Int} (hn : -9223372036854775808 ≤ n ∧ n ≤ 9223372036854775807) (h : Ok x Q) : Ok (chk n x) Q := by rw [chk_eq hn]; exact h
theorem grd_eq {c : Bool} (hc : c = true) : grd c x = x := by subst hc; rfl
theorem Ok.grd {c : Bool} (hc : c = true) (h : Ok x Q) : Ok (grd c x) Q := by subst hc; exact h
theorem rng_eq {i : Int} {n : Nat} (hi : 0 ≤ i ∧ i < n) : rng i n x = x := by unfold rng; rw [if_pos hi]
theorem Ok.rng {i : Int} {n : Nat} (hi : 0 ≤ i ∧ i < n) (h : Ok x Q) : Ok (rng i n x) Q := by rw [rng_eq hi]; exact h
theorem lim_eq {n : Nat} (hn : n ≤ 1000000) : lim n x = x := by unfold lim; rw [if_pos hn]
theorem Ok.lim {n : Nat} (hn : n ≤ 1000000) (h : Ok x Q) : Ok (lim n x) Q := by rw [lim_eq hn]; exact h
theorem idx_eq {l : List α} {i : Int} {f : α → Option Z} {a : α} (h0 : 0 ≤ i) (h : l[i.toNat]? = Option.some a) : idx l i f = f a := by unfold idx; rw [if_pos h0, h]
theorem idx_get {l : List α} {i : Int} {f : α → Option Z} (d : α) (h0 : 0 ≤ i) (h : i < l.length) : idx l i f = f (l.getD i.toNat d) := by
  refine idx_eq h0 ?_
  have : i.toNat < l.length := by omega
  simp [List.getD, this]
theorem Ok.idx {l : List α} {i : Int} {f : α → Option Z} (h0 : 0 ≤ i) (h : i < l.length) (k : ∀ a, l[i.toNat]? = Option.some a → a ∈ l → Ok (f a) Q) : Ok (idx l i f) Q := by
  have hlt : i.toNat < l.length := by omega
  have e : l[i.toNat]? = Option.some l[i.toNat] := List.getElem?_eq_getElem hlt
  rw [idx_eq h0 e]
  exact k _ e (List.getElem_mem hlt)
theorem get_eq {l : List α} {k : Nat} {f : α → Option Z} {a : α} (h : l[k]? = Option.some a) : get l k f = f a := by unfold get; rw [h]
theorem Ok.get {l : List α} {k : Nat} {f : α → Option Z} (h : k < l.length) (c : ∀ a, l[k]? = Option.some a → a ∈ l → Ok (f a) Q) : Ok (get l k f) Q := by
  have e : l[k]? = Option.some l[k] := List.getElem?_eq_getElem h
  rw [get_eq e]
  exact c _ e (List.getElem_mem h)
theorem br_false : br false x y = y := rfl
theorem br_dec {p : Prop} [Decidable p] (h : p) : br (decide p) x y = x := by simp [h, br]
theorem br_ndec {p : Prop} [Decidable p] (h : ¬ p) : br (decide p) x y = y := by simp [h, br]
theorem br_nd {p : Prop} [Decidable p] (h : p) : br (!decide p) x y = y := by simp [h, br]
theorem br_nnd {p : Prop} [Decidable p] (h : ¬ p) : br (!decide p) x y = x := by simp [h, br]
end
/-- A list of numbers from lo to hi. -/
def InR (lo hi : Int) (l : List Int) : Prop := ∀ x ∈ l, lo ≤ x ∧ x ≤ hi
theorem InR.drop {lo hi : Int} {l : List Int} (h : InR lo hi l) (n : Nat) : InR lo hi (l.drop n) := fun x hx => h x (List.mem_of_mem_drop hx)
theorem InR.nil {lo hi : Int} : InR lo hi [] := fun _ h => by cases h
theorem InR.mono {lo hi lo' hi' : Int} {l : List Int} (h : InR lo hi l) (h1 : lo' ≤ lo) (h2 : hi ≤ hi') : InR lo' hi' l := fun x hx => by have := h x hx; omega

end Go.Proofs.Ytgeijboidfadaaa
namespace Go.Proofs.Ytgeijboidfadaaa
set_option linter.all false
open Go

def ixL {α : Type} (f : α → Option Bool) : Nat → List α → Int → Int → Option (Int ⊕ Unit)
  | 0, _, _, _ => none
  | n + 1, s, u, u2 => br (decide (u2 < u)) (idx s u2 fun x => (f x).bind fun c => br c (some (.inl u2)) (chk (u2 + 1) <| ixL f n s u (u2 + 1))) (some (.inr ()))
def ixS {α : Type} (f : α → Option Bool) (N : Nat) (s : List α) : Option Int := (ixL f N s (s.length : Int) 0).bind fun e => match e with
  | .inl i => some i
  | .inr _ => some (-1)
theorem ixL_ok {α : Type} {f : α → Option Bool} {p : α → Bool} {s : List α} (hf : ∀ x ∈ s, f x = some (p x)) (hs : s.length ≤ 1000000) : ∀ (n k : Nat), s.length < n + k → k ≤ s.length →
    Ok (ixL f n s (s.length : Int) (k : Int)) fun r => match r with | .inl i => (0 ≤ i ∧ i < s.length) ∧ (s.drop k).any p = true | .inr _ => (s.drop k).any p = false
  | 0, k, h, hk => by omega
  | n + 1, k, h, hk => by
    unfold ixL
    refine Ok.brd (fun h1 => ?_) (fun h1 => Ok.some ?_)
    · have hlt : k < s.length := by omega
      refine Ok.idx (by omega) h1 (fun a ha hm => ?_)
      have hd : s.drop k = a :: s.drop (k + 1) := by
        rw [List.drop_eq_getElem_cons hlt]
        have : s[k]? = some a := by simpa using ha
        rw [List.getElem?_eq_getElem hlt] at this
        simp only [Option.some.injEq] at this
        rw [this]
      refine Ok.eqb (hf a hm) (Ok.br (fun hp => Ok.some ?_) (fun hp => Ok.chk (by omega) ?_))
      · exact ⟨⟨by omega, by omega⟩, by rw [hd]; simp [hp]⟩
      · have := ixL_ok hf hs n (k + 1) (by omega) (by omega)
        rw [show ((k + 1 : Nat) : Int) = (k : Int) + 1 by omega] at this
        refine this.mono (fun r hr => ?_)
        rw [hd]
        cases r <;> simpa [hp] using hr
    · have : s.drop k = [] := List.drop_of_length_le (by omega)
      simp [this]
theorem ixS_any {α : Type} {f : α → Option Bool} {p : α → Bool} {s : List α} {N : Nat} (hf : ∀ x ∈ s, f x = some (p x)) (hs : s.length ≤ 1000000) (hN : s.length < N) : ((ixS f N s).bind fun x => some (decide (0 ≤ x))) = some (s.any p) := by
  obtain ⟨r, h1, h2⟩ := ixL_ok hf hs N 0 (by omega) (by omega)
  unfold ixS
  rw [show ((0 : Nat) : Int) = 0 from rfl] at h1
  rw [h1]
  cases r with
  | inl i => simp only [List.drop_zero] at h2; simp [h2.1.1, h2.2]
  | inr u => simp only [List.drop_zero] at h2; simp [h2]

theorem in_v (N : Nat) (n lo hi : Int) : in__S N n lo hi = some (decide (lo ≤ n ∧ n ≤ hi)) := by
  unfold in__S
  by_cases h : lo ≤ n <;> simp [h, br]
theorem any_not {α : Type} (p : α → Bool) (s : List α) : (!(s.any fun x => !p x)) = s.all p := by
  induction s with
  | nil => rfl
  | cons a s ih => simp only [List.any_cons, List.all_cons, Bool.not_or, Bool.not_not, ih]
def okW (w : Int) : Bool := decide (0 ≤ w ∧ w ≤ 9)
theorem ixfi_gen (N : Nat) : ∀ (n : Nat) (s : List Int) (u u2 : Int), ixfi_l1 N n s u u2 = ixL (every1i_S N) n s u u2
  | 0, _, _, _ => rfl
  | n + 1, s, u, u2 => by simp only [ixfi_l1, ixL, ixfi_gen N n]
theorem ixfa_gen (N : Nat) : ∀ (n : Nat) (s : List (List Int)) (u u2 : Int), ixfa_l1 N n s u u2 = ixL (every1a_S N) n s u u2
  | 0, _, _, _ => rfl
  | n + 1, s, u, u2 => by simp only [ixfa_l1, ixL, ixfa_gen N n]
theorem ixfb_gen (N : Nat) : ∀ (n : Nat) (s : List (List Int)) (u u2 : Int), ixfb_l1 N n s u u2 = ixL (every1b_S N) n s u u2
  | 0, _, _, _ => rfl
  | n + 1, s, u, u2 => by simp only [ixfb_l1, ixL, ixfb_gen N n]
theorem everyi_v (N : Nat) {l : List Int} (h : l.length ≤ 1000000) (hN : l.length < N) : everyi_S N l = some (l.all okW) := by
  have := ixS_any (f := every1i_S N) (p := fun x => !okW x) (s := l) (N := N) (fun x _ => by simp [every1i_S, check11_S, in_v, okW]) h hN
  unfold everyi_S cofi_S
  have e : ixfi_S N l = ixS (every1i_S N) N l := by
    unfold ixfi_S ixS
    rw [ixfi_gen] <;> rfl
  rw [e, this]
  simp [any_not]
theorem everya_v (N : Nat) {l : List (List Int)} (h : l.length ≤ 1000000) (hN : l.length < N) (hl : ∀ x ∈ l, x.length ≤ 1000000 ∧ x.length < N) : everya_S N l = some (l.all fun x => x.all okW) := by
  have := ixS_any (f := every1a_S N) (p := fun x => !(x.all okW)) (s := l) (N := N) (fun x hx => by simp [every1a_S, check1_S, everyi_v N (hl x hx).1 (hl x hx).2]) h hN
  unfold everya_S cofa_S
  have e : ixfa_S N l = ixS (every1a_S N) N l := by
    unfold ixfa_S ixS
    rw [ixfa_gen] <;> rfl
  rw [e, this]
  simp [any_not]
def okL (x : List Int) : Bool := decide (1 ≤ (x.length : Int) ∧ (x.length : Int) ≤ 6)
theorem everyb_v (N : Nat) {l : List (List Int)} (h : l.length ≤ 1000000) (hN : l.length < N) : everyb_S N l = some (l.all okL) := by
  have := ixS_any (f := every1b_S N) (p := fun x => !okL x) (s := l) (N := N) (fun x _ => by simp [every1b_S, check2_S, in_v, okL]) h hN
  unfold everyb_S cofb_S
  have e : ixfb_S N l = ixS (every1b_S N) N l := by
    unfold ixfb_S ixS
    rw [ixfb_gen] <;> rfl
  rw [e, this]
  simp [any_not]

def checkE (T : List (List Int)) (H : List Int) (f : Int) : Int :=
  if ¬ (1 ≤ T.length ∧ T.length ≤ 5) then 2 else if 10 < H.length then 2 else if ¬ T.all okL then 2 else if ¬ T.all (fun x => x.all okW) then 3 else if ¬ H.all okW then 3 else if ¬ (0 ≤ f ∧ f ≤ 8) then 3 else 0
theorem check_v {N : Nat} (hN : 20 ≤ N) (T : List (List Int)) (H : List Int) (f : Int) : check_S N T H f = some (checkE T H f) := by
  unfold check_S checkE
  rw [in_v]
  simp only [Option.bind_some]
  by_cases h1 : 1 ≤ T.length ∧ T.length ≤ 5
  · rw [show decide (1 ≤ (T.length : Int) ∧ (T.length : Int) ≤ 5) = true by simpa using (by omega), if_neg (by simpa using h1)]
    simp only [Bool.not_true, br_false]
    by_cases h2 : 10 < H.length
    · rw [br_dec (by omega), if_pos h2]
    · rw [br_ndec (by omega), if_neg h2, everyb_v N (by omega) (by omega)]
      simp only [Option.bind_some]
      cases hb : T.all okL with
      | false => simp [br]
      | true =>
        simp only [Bool.not_true, br_false]
        rw [if_neg (by simp)]
        have hl : ∀ x ∈ T, x.length ≤ 6 := fun x hx => by
          have := List.all_eq_true.1 hb x hx
          simp only [okL, decide_eq_true_eq] at this; omega
        rw [everya_v N (by omega) (by omega) (fun x hx => by have := hl x hx; omega)]
        simp only [Option.bind_some]
        cases ha : T.all fun x => x.all okW with
        | false => simp [br]
        | true =>
          simp only [Bool.not_true, br_false]
          rw [if_neg (by simp), show check1_S N H = some (H.all okW) by simp [check1_S, everyi_v N (l := H) (by omega) (by omega)]]
          simp only [Option.bind_some]
          cases hh : H.all okW with
          | false => simp [br]
          | true =>
            simp only [Bool.not_true, br_false]
            rw [if_neg (by simp), in_v]
            simp only [Option.bind_some]
            by_cases h3 : 0 ≤ f ∧ f ≤ 8 <;> simp [h3, br]
  · rw [show decide (1 ≤ (T.length : Int) ∧ (T.length : Int) ≤ 5) = false by simpa using (by omega), if_pos (by simpa using h1)]
    rfl
/-- An echo without an error. -/
structure Fine (T : List (List Int)) (H : List Int) (f : Int) : Prop where
  n : 1 ≤ T.length ∧ T.length ≤ 5
  h : H.length ≤ 10
  l : ∀ x ∈ T, 1 ≤ x.length ∧ x.length ≤ 6
  w : ∀ x ∈ T, InR 0 9 x
  hw : InR 0 9 H
  f : 0 ≤ f ∧ f ≤ 8
theorem okW_all {x : List Int} : x.all okW = true ↔ InR 0 9 x := by simp [okW, InR]
theorem Fine.check {T : List (List Int)} {H : List Int} {f : Int} (h : Fine T H f) : checkE T H f = 0 := by
  unfold checkE
  have h1 : T.all okL = true := List.all_eq_true.2 fun x hx => by
    have := h.l x hx
    simp only [okL, decide_eq_true_eq]; omega
  have h2 : (T.all fun x => x.all okW) = true := List.all_eq_true.2 fun x hx => okW_all.2 (h.w x hx)
  rw [if_neg (by simpa using h.n), if_neg (by have := h.h; omega), if_neg (by rw [h1]; simp), if_neg (by rw [h2]; simp), if_neg (by rw [okW_all.2 h.hw]; simp), if_neg (by simpa using h.f)]
theorem fine_of {T : List (List Int)} {H : List Int} {f : Int} (h : checkE T H f = 0) : Fine T H f := by
  unfold checkE at h
  split at h; · simp at h
  split at h; · simp at h
  split at h; · simp at h
  split at h; · simp at h
  split at h; · simp at h
  split at h; · simp at h
  rename_i h1 h2 h3 h4 h5 h6
  simp only [Decidable.not_not, Bool.not_eq_true, Bool.not_eq_false, List.all_eq_true (l := T)] at *
  refine ⟨h1, by omega, fun x hx => ?_, fun x hx => okW_all.1 (h4 x hx), okW_all.1 h5, h6⟩
  have := h3 x hx
  simp only [okL, decide_eq_true_eq] at this; omega
theorem text_v (N : Nat) {T : List (List Int)} (H : List Int) (f n : Int) (hT : T.length ≤ 1000000) : text_S N T H f n = some (decide (0 ≤ n ∧ n < T.length)) := by
  unfold text_S
  rw [chk_eq (by omega), in_v]
  simp only [Option.bind_some, Option.some.injEq]
  congr 1
  apply propext; omega
/-- An echo at work, or the error. -/
def openE (T : List (List Int)) (H : List Int) (f a b : Int) : Int := if checkE T H f ≠ 0 then checkE T H f else if ¬ (0 ≤ a ∧ a < T.length) ∨ ¬ (0 ≤ b ∧ b < T.length) then 1 else 0
theorem opened_good {N : Nat} (hN : 20 ≤ N) {T : List (List Int)} {H : List Int} {f a b : Int} (h : openE T H f a b = 0) : Fine T H f ∧ (0 ≤ a ∧ a < T.length) ∧ (0 ≤ b ∧ b < T.length) ∧ opened_S N T H f a b = some (.inl ((T, H, f, T.getD a.toNat [], T.getD b.toNat []), 0)) := by
  unfold openE at h
  unfold opened_S
  rw [check_v hN]
  simp only [Option.bind_some]
  by_cases hc : checkE T H f = 0
  · have hF := fine_of hc
    rw [if_neg (by simpa using hc)] at h
    have hT := hF.n
    by_cases ha : 0 ≤ a ∧ a < T.length
    · by_cases hb : 0 ≤ b ∧ b < T.length
      · refine ⟨hF, ha, hb, ?_⟩
        simp only [hc, decide_true, Bool.not_true, br_false]
        rw [text_v N H f a (by omega), text_v N H f b (by omega)]
        simp only [Option.bind_some, ha, hb, and_self, decide_true, Bool.not_true, br_false]
        rw [idx_get [] ha.1 ha.2, idx_get [] hb.1 hb.2]
      · rw [if_pos (.inr hb)] at h; simp at h
    · rw [if_pos (.inl ha)] at h; simp at h
  · rw [if_pos hc] at h; exact absurd h hc
theorem Fine.open {T : List (List Int)} {H : List Int} {f a b : Int} (h : Fine T H f) (ha : 0 ≤ a ∧ a < T.length) (hb : 0 ≤ b ∧ b < T.length) : openE T H f a b = 0 := by
  unfold openE
  rw [if_neg (by simpa using h.check), if_neg (by simp only [not_or, Decidable.not_not]; exact ⟨ha, hb⟩)]
end Go.Proofs.Ytgeijboidfadaaa
namespace Go.Proofs.Ytgeijboidfadaaa
set_option linter.all false
open Go

/-- How many words two lists have in common at most. -/
def lc : List Int → List Int → Nat
  | [], _ => 0
  | _ :: _, [] => 0
  | x :: xs, y :: ys => if x = y then max (max (lc xs (y :: ys)) (lc (x :: xs) ys)) (lc xs ys + 1) else max (lc xs (y :: ys)) (lc (x :: xs) ys)
termination_by a b => a.length + b.length
/-- The common words that are taken. -/
def cw : List Int → List Int → List Int
  | x :: xs, y :: ys => if x = y then x :: cw xs ys else if lc xs (y :: ys) ≥ lc (x :: xs) ys then cw xs (y :: ys) else cw (x :: xs) ys
  | _, _ => []
termination_by a b => a.length + b.length

theorem lc_nil_right (a : List Int) : lc a [] = 0 := by cases a <;> simp [lc]
theorem lc_le_left (a b : List Int) : lc a b ≤ a.length := by
  induction a, b using lc.induct with
  | case1 => simp [lc]
  | case2 => simp [lc]
  | case3 xs y ys i1 i2 i3 => rw [lc, if_pos rfl]; simp only [List.length_cons] at *; omega
  | case4 x xs y ys h i1 i2 => rw [lc, if_neg h]; simp only [List.length_cons] at *; omega
theorem drop_cons {a : List Int} {i : Nat} (h : i < a.length) : a.drop i = a.getD i 0 :: a.drop (i + 1) := by
  rw [List.drop_eq_getElem_cons h]; simp [List.getD, h]
theorem lc_eq {a b : List Int} {i k : Nat} (hi : i < a.length) (hk : k < b.length) (h : a.getD i 0 = b.getD k 0) :
    lc (a.drop i) (b.drop k) = max (max (lc (a.drop (i + 1)) (b.drop k)) (lc (a.drop i) (b.drop (k + 1)))) (lc (a.drop (i + 1)) (b.drop (k + 1)) + 1) := by
  conv => lhs; rw [drop_cons hi, drop_cons hk, lc]
  rw [if_pos h, ← drop_cons hi, ← drop_cons hk]
theorem lc_ne {a b : List Int} {i k : Nat} (hi : i < a.length) (hk : k < b.length) (h : ¬ a.getD i 0 = b.getD k 0) :
    lc (a.drop i) (b.drop k) = max (lc (a.drop (i + 1)) (b.drop k)) (lc (a.drop i) (b.drop (k + 1))) := by
  conv => lhs; rw [drop_cons hi, drop_cons hk, lc]
  rw [if_neg h, ← drop_cons hi, ← drop_cons hk]
theorem cw_eq {a b : List Int} {i k : Nat} (hi : i < a.length) (hk : k < b.length) (h : a.getD i 0 = b.getD k 0) : cw (a.drop i) (b.drop k) = a.getD i 0 :: cw (a.drop (i + 1)) (b.drop (k + 1)) := by
  conv => lhs; rw [drop_cons hi, drop_cons hk, cw]
  rw [if_pos h]
theorem cw_left {a b : List Int} {i k : Nat} (hi : i < a.length) (hk : k < b.length) (h : ¬ a.getD i 0 = b.getD k 0) (hg : lc (a.drop (i + 1)) (b.drop k) ≥ lc (a.drop i) (b.drop (k + 1))) : cw (a.drop i) (b.drop k) = cw (a.drop (i + 1)) (b.drop k) := by
  conv => lhs; rw [drop_cons hi, drop_cons hk, cw]
  rw [if_neg h, ← drop_cons hi, ← drop_cons hk, if_pos hg]
theorem cw_right {a b : List Int} {i k : Nat} (hi : i < a.length) (hk : k < b.length) (h : ¬ a.getD i 0 = b.getD k 0) (hg : ¬ lc (a.drop (i + 1)) (b.drop k) ≥ lc (a.drop i) (b.drop (k + 1))) : cw (a.drop i) (b.drop k) = cw (a.drop i) (b.drop (k + 1)) := by
  conv => lhs; rw [drop_cons hi, drop_cons hk, cw]
  rw [if_neg h, ← drop_cons hi, ← drop_cons hk, if_neg hg]
theorem cw_end {a b : List Int} {i k : Nat} (h : ¬ (i < a.length ∧ k < b.length)) : cw (a.drop i) (b.drop k) = [] := by
  by_cases hi : i < a.length
  · have : b.drop k = [] := List.drop_of_length_le (by omega)
    rw [this]; cases a.drop i <;> simp [cw]
  · have : a.drop i = [] := List.drop_of_length_le (by omega)
    rw [this]; simp [cw]

/-- What the table of common words holds so far: rows behind i, and in row i places behind k. -/
def GridTo (a b : List Int) (l : List Int) (i k : Int) : Prop :=
  l.length = 49 ∧ a.length ≤ 6 ∧ b.length ≤ 6 ∧ ∀ i' k' : Nat, i' ≤ a.length → k' ≤ b.length → (i' = a.length ∨ k' = b.length ∨ i < i' ∨ (i = i' ∧ k < k')) → l[i' * 7 + k']? = some ((lc (a.drop i') (b.drop k') : Nat) : Int)
theorem GridTo.start (a b : List Int) (ha : a.length ≤ 6) (hb : b.length ≤ 6) : GridTo a b (List.replicate 49 (0 : Int)) ((a.length : Int) - 1) b.length := by
  refine ⟨by simp, ha, hb, fun i' k' hi hk h => ?_⟩
  have : lc (a.drop i') (b.drop k') = 0 := by
    rcases h with h | h | h | h
    · rw [h, List.drop_length]; simp [lc]
    · rw [h, List.drop_length, lc_nil_right]
    · have : i' = a.length := by omega
      rw [this, List.drop_length]; simp [lc]
    · omega
  rw [this, List.getElem?_replicate, if_pos (by omega)]; rfl
theorem GridTo.row {a b : List Int} {l : List Int} {i : Int} (h : GridTo a b l i b.length) : GridTo a b l i ((b.length : Int) - 1) :=
  ⟨h.1, h.2.1, h.2.2.1, fun i' k' hi hk hh => h.2.2.2 i' k' hi hk (by omega)⟩
theorem GridTo.next {a b : List Int} {l : List Int} {i : Int} (h : GridTo a b l i (-1)) : GridTo a b l (i - 1) b.length :=
  ⟨h.1, h.2.1, h.2.2.1, fun i' k' hi hk hh => h.2.2.2 i' k' hi hk (by omega)⟩
theorem GridTo.get {a b : List Int} {l : List Int} {i k : Int} (h : GridTo a b l i k) (i' k' : Nat) (hi : i' ≤ a.length) (hk : k' ≤ b.length) (hh : i' = a.length ∨ k' = b.length ∨ i < i' ∨ (i = i' ∧ k < k')) :
    l[i' * 7 + k']? = some ((lc (a.drop i') (b.drop k') : Nat) : Int) := h.2.2.2 i' k' hi hk hh
theorem GridTo.lt {a b : List Int} {l : List Int} {i k : Int} (h : GridTo a b l i k) (i' k' : Nat) (hi : i' ≤ a.length) (hk : k' ≤ b.length) : i' * 7 + k' < l.length := by
  have := h.1; have := h.2.1; have := h.2.2.1; omega
theorem GridTo.set {a b : List Int} {l : List Int} {i k : Int} (h : GridTo a b l i k) (h0 : 0 ≤ i) (h1 : i < a.length) (h2 : 0 ≤ k) (h3 : k < b.length) (v : Int) : GridTo a b (l.set (i.toNat * 7 + k.toNat) v) i k := by
  refine ⟨by simp [h.1], h.2.1, h.2.2.1, fun i' k' hi hk hh => ?_⟩
  have hla := h.2.1; have hlb := h.2.2.1
  rw [List.getElem?_set_ne (by omega)]
  exact h.get i' k' hi hk hh
theorem GridTo.step {a b : List Int} {l : List Int} {i k : Int} (h : GridTo a b l i k) (h0 : 0 ≤ i) (h1 : i < a.length) (h2 : 0 ≤ k) (h3 : k < b.length) (hv : l[i.toNat * 7 + k.toNat]? = some ((lc (a.drop i.toNat) (b.drop k.toNat) : Nat) : Int)) : GridTo a b l i (k - 1) := by
  refine ⟨h.1, h.2.1, h.2.2.1, fun i' k' hi hk hh => ?_⟩
  by_cases e : i' = i.toNat ∧ k' = k.toNat
  · obtain ⟨rfl, rfl⟩ := e; exact hv
  · exact h.get i' k' hi hk (by omega)
theorem GridTo.self {a b : List Int} {l : List Int} {i k : Int} (h : GridTo a b l i k) (h0 : 0 ≤ i) (h1 : i < a.length) (h2 : 0 ≤ k) (h3 : k < b.length) (v : Int) : (l.set (i.toNat * 7 + k.toNat) v)[i.toNat * 7 + k.toNat]? = some v := by
  rw [List.getElem?_set_self (h.lt _ _ (by omega) (by omega))]
def distI (a b : List Int) : Int := (a.length : Int) + b.length - 2 * (cw a b).length
theorem lc_has (a b : List Int) : ∃ c : List Int, c.Sublist a ∧ c.Sublist b ∧ c.length = lc a b := by
  induction a, b using lc.induct with
  | case1 b => exact ⟨[], List.nil_sublist _, List.nil_sublist _, by simp [lc]⟩
  | case2 x xs => exact ⟨[], List.nil_sublist _, List.nil_sublist _, by simp [lc]⟩
  | case3 xs x ys i1 i2 i3 =>
    obtain ⟨c1, a1, b1, l1⟩ := i1
    obtain ⟨c2, a2, b2, l2⟩ := i2
    obtain ⟨c3, a3, b3, l3⟩ := i3
    rw [lc, if_pos rfl]
    rcases Nat.le_total (lc xs (x :: ys)) (lc (x :: xs) ys) with h | h
    · rcases Nat.le_total (lc (x :: xs) ys) (lc xs ys + 1) with h2 | h2
      · exact ⟨x :: c3, a3.cons_cons x, b3.cons_cons x, by simp; omega⟩
      · exact ⟨c2, a2, b2.cons x, by omega⟩
    · rcases Nat.le_total (lc xs (x :: ys)) (lc xs ys + 1) with h2 | h2
      · exact ⟨x :: c3, a3.cons_cons x, b3.cons_cons x, by simp; omega⟩
      · exact ⟨c1, a1.cons x, b1, by omega⟩
  | case4 x xs y ys hne i1 i2 =>
    obtain ⟨c1, a1, b1, l1⟩ := i1
    obtain ⟨c2, a2, b2, l2⟩ := i2
    rw [lc, if_neg hne]
    rcases Nat.le_total (lc xs (y :: ys)) (lc (x :: xs) ys) with h | h
    · exact ⟨c2, a2, b2.cons y, by omega⟩
    · exact ⟨c1, a1.cons x, b1, by omega⟩
theorem lc_max (a b : List Int) : ∀ c : List Int, c.Sublist a → c.Sublist b → c.length ≤ lc a b := by
  induction a, b using lc.induct with
  | case1 b => intro c h _; have := h.length_le; simp at this; simp [this]
  | case2 x xs => intro c _ h; have := h.length_le; simp at this; simp [this]
  | case3 xs x ys i1 i2 i3 =>
    intro c h1 h2
    rw [lc, if_pos rfl]
    cases h1 with
    | cons _ h1 => have := i1 c h1 h2; omega
    | cons_cons _ h1 =>
      rename_i c'
      cases h2 with
      | cons _ h2 => have := i2 _ (h1.cons_cons x) h2; omega
      | cons_cons _ h2 => have := i3 c' h1 h2; simp; omega
  | case4 x xs y ys hne i1 i2 =>
    intro c h1 h2
    rw [lc, if_neg hne]
    cases h1 with
    | cons _ h1 => have := i1 c h1 h2; omega
    | cons_cons _ h1 =>
      cases h2 with
      | cons _ h2 => have := i2 _ (h1.cons_cons x) h2; omega
      | cons_cons _ h2 => exact absurd rfl hne
theorem lc_symm (a b : List Int) : lc a b = lc b a := by
  obtain ⟨c, h1, h2, h3⟩ := lc_has a b
  obtain ⟨d, g1, g2, g3⟩ := lc_has b a
  have := lc_max b a c h2 h1
  have := lc_max a b d g2 g1
  omega
theorem lc_tail (xs ys : List Int) (y : Int) : lc xs (y :: ys) ≤ lc xs ys + 1 := by
  obtain ⟨c, h1, h2, h3⟩ := lc_has xs (y :: ys)
  cases h2 with
  | cons _ h2 => have := lc_max xs ys c h1 h2; omega
  | cons_cons _ h2 =>
    rename_i c'
    have := lc_max xs ys c' ((List.sublist_cons_self y c').trans h1) h2
    simp at h3; omega
theorem cw_spec (a b : List Int) : (cw a b).Sublist a ∧ (cw a b).Sublist b ∧ (cw a b).length = lc a b := by
  induction a, b using cw.induct with
  | case1 xs y ys ih =>
    obtain ⟨h1, h2, h3⟩ := ih
    rw [cw, if_pos rfl, lc, if_pos rfl]
    refine ⟨h1.cons_cons y, h2.cons_cons y, ?_⟩
    have e1 := lc_tail xs ys y
    have e2 := lc_tail ys xs y
    rw [lc_symm ys (y :: xs), lc_symm ys xs] at e2
    simp; omega
  | case2 x xs y ys h hg ih =>
    obtain ⟨h1, h2, h3⟩ := ih
    rw [cw, if_neg h, if_pos hg, lc, if_neg h]
    exact ⟨h1.cons x, h2, by omega⟩
  | case3 x xs y ys h hg ih =>
    obtain ⟨h1, h2, h3⟩ := ih
    rw [cw, if_neg h, if_neg hg, lc, if_neg h]
    exact ⟨h1, h2.cons y, by omega⟩
  | case4 a b h =>
    have e : cw a b = [] := by rw [cw]; exact h
    rw [e]
    refine ⟨List.nil_sublist _, List.nil_sublist _, ?_⟩
    match a, b, h with
    | [], b, _ => simp [lc]
    | x :: xs, [], _ => simp [lc]
    | x :: xs, y :: ys, h => exact absurd rfl (h x xs y ys rfl)
theorem distI_eq (a b : List Int) : distI a b = (a.length : Int) + b.length - 2 * lc a b := by unfold distI; rw [(cw_spec a b).2.2]
end Go.Proofs.Ytgeijboidfadaaa
namespace Go.Proofs.Ytgeijboidfadaaa
set_option linter.all false
open Go

theorem getD_mem {α : Type} {l : List α} {i : Nat} {d : α} (h : i < l.length) : l.getD i d ∈ l := by
  simp [List.getD, h]
theorem most_v {N : Nat} (hN : 2 ≤ N) (x y : Int) : most_S N x [y] = some (max x y) := by
  obtain ⟨n, rfl⟩ : ∃ n, N = n + 2 := ⟨N - 2, by omega⟩
  simp [most_S, most_l1, br, idx, chk, okI]
theorem common_l2_p {N : Nat} (hN : 20 ≤ N) {a b : List Int} (ha : a.length ≤ 6) (hb : b.length ≤ 6) {i : Int} (h0 : 0 ≤ i) (h1 : i < a.length) : ∀ (n : Nat) (k : Int) (g : List Int), (k + 1).toNat < n → -1 ≤ k → k < b.length → GridTo a b g i k →
    Ok (common_l2 N n a b i k g) fun r => r.1 = a ∧ r.2.1 = b ∧ r.2.2.1 = i ∧ GridTo a b r.2.2.2 i (-1)
  | 0, k, g, h, _, _, _ => by omega
  | n + 1, k, g, h, hk0, hk1, hG => by
    unfold common_l2
    refine Ok.brd (fun hk => ?_) (fun hk => Ok.some ⟨rfl, rfl, rfl, ?_⟩)
    rotate_left
    · have : k = -1 := by omega
      subst this; exact hG
    refine Ok.chk (by omega) (Ok.rng (by omega) (Ok.rng (by omega) ?_))
    rw [get_eq (hG.get (i + 1).toNat k.toNat (by omega) (by omega) (by omega))]
    refine Ok.chk (by omega) (Ok.rng (by omega) (Ok.rng (by omega) ?_))
    rw [get_eq (hG.get i.toNat (k + 1).toNat (by omega) (by omega) (by omega)), most_v (by omega)]
    refine Ok.rng (by omega) (Ok.rng (by omega) (Ok.get (hG.lt _ _ (by omega) (by omega)) (fun _ _ _ => ?_)))
    rw [idx_get 0 h0 h1, idx_get 0 hk hk1]
    have e1 : (i + 1).toNat = i.toNat + 1 := by omega
    have e2 : (k + 1).toNat = k.toNat + 1 := by omega
    have hi' : i.toNat < a.length := by omega
    have hk' : k.toNat < b.length := by omega
    rw [e1, e2]
    have rc : ∀ (g' : List Int), GridTo a b g' i (k - 1) → Ok (common_j1 N (common_l2 N n) a b i k g') fun r => r.1 = a ∧ r.2.1 = b ∧ r.2.2.1 = i ∧ GridTo a b r.2.2.2 i (-1) := fun g' hg' => by
      unfold common_j1
      exact Ok.chk (by omega) (common_l2_p hN ha hb h0 h1 n (k - 1) g' (by omega) (by omega) (by omega) hg')
    refine Ok.brd (fun he => ?_) (fun he => ?_)
    · refine Ok.rng (by omega) (Ok.rng (by omega) ?_)
      rw [get_eq (hG.self h0 h1 hk hk1 _)]
      refine Ok.chk (by omega) (Ok.chk (by omega) (Ok.rng (by omega) (Ok.rng (by omega) ?_)))
      have hG2 := hG.set h0 h1 hk hk1 (max ((lc (a.drop (i.toNat + 1)) (b.drop k.toNat) : Nat) : Int) ((lc (a.drop i.toNat) (b.drop (k.toNat + 1)) : Nat) : Int))
      have := lc_le_left (a.drop (i.toNat + 1)) (b.drop (k.toNat + 1))
      rw [List.length_drop] at this
      rw [get_eq (hG2.get (i.toNat + 1) (k.toNat + 1) (by omega) (by omega) (by omega))]
      refine Ok.chk (by omega) ?_
      rw [most_v (by omega)]
      refine Ok.rng (by omega) (Ok.rng (by omega) (Ok.get (hG2.lt _ _ (by omega) (by omega)) (fun _ _ _ => rc _ ?_)))
      refine (hG2.set h0 h1 hk hk1 _).step h0 h1 hk hk1 ?_
      rw [hG2.self h0 h1 hk hk1, lc_eq hi' hk' he]
      simp only [Option.some.injEq]; omega
    · refine rc _ ((hG.set h0 h1 hk hk1 _).step h0 h1 hk hk1 ?_)
      rw [hG.self h0 h1 hk hk1, lc_ne hi' hk' he]
      simp only [Option.some.injEq]; omega
theorem common_l1_p {N : Nat} (hN : 20 ≤ N) {a b : List Int} (ha : a.length ≤ 6) (hb : b.length ≤ 6) : ∀ (n : Nat) (i : Int) (g : List Int), (i + 1).toNat < n → -1 ≤ i → i < a.length → GridTo a b g i b.length →
    Ok (common_l1 N n a b i g) fun r => r.1 = a ∧ r.2.1 = b ∧ GridTo a b r.2.2 (-1) b.length
  | 0, i, g, h, _, _, _ => by omega
  | n + 1, i, g, h, h0, h1, hG => by
    unfold common_l1
    refine Ok.brd (fun hi => ?_) (fun hi => Ok.some ⟨rfl, rfl, ?_⟩)
    rotate_left
    · have : i = -1 := by omega
      subst this; exact hG
    refine Ok.chk (by omega) (Ok.bind (common_l2_p hN ha hb hi h1 N _ g (by omega) (by omega) (by omega) hG.row) (fun r hr => ?_))
    obtain ⟨a', b', i', g'⟩ := r
    dsimp only at hr
    obtain ⟨rfl, rfl, rfl, hg⟩ := hr
    exact Ok.chk (by omega) (common_l1_p hN ha hb n (i' - 1) g' (by omega) (by omega) (by omega) hg.next)
theorem common_l3_p {N : Nat} {a b : List Int} {g : List Int} (hG : GridTo a b g (-1) b.length) : ∀ (n : Nat) (i k : Int) (out : List Int), (a.length + b.length - i - k).toNat < n → 0 ≤ i → i ≤ a.length → 0 ≤ k → k ≤ b.length → out.length ≤ i →
    common_l3 N n a b i k g out = some (out ++ cw (a.drop i.toNat) (b.drop k.toNat))
  | 0, i, k, out, h, h0, h1, h2, h3, _ => by omega
  | n + 1, i, k, out, h, h0, h1, h2, h3, ho => by
    have ha := hG.2.1
    have hb := hG.2.2.1
    unfold common_l3
    by_cases hi : i < a.length
    · rw [br_dec hi]
      by_cases hk : k < b.length
      · have hi' : i.toNat < a.length := by omega
        have hk' : k.toNat < b.length := by omega
        have e1 : (i + 1).toNat = i.toNat + 1 := by omega
        have e2 : (k + 1).toNat = k.toNat + 1 := by omega
        rw [br_dec hk, idx_get 0 h0 hi, idx_get 0 h2 hk]
        by_cases he : a.getD i.toNat 0 = b.getD k.toNat 0
        · rw [br_dec he, idx_get 0 h0 hi, lim_eq (by simp; omega), chk_eq (by omega), chk_eq (by omega), common_l3_p hG n _ _ _ (by omega) (by omega) (by omega) (by omega) (by omega) (by simp; omega), cw_eq hi' hk' he, e1, e2]
          simp
        · rw [br_ndec he, chk_eq (by omega), rng_eq (by omega), rng_eq (by omega), get_eq (hG.get (i + 1).toNat k.toNat (by omega) (by omega) (by omega)), chk_eq (by omega), rng_eq (by omega), rng_eq (by omega), get_eq (hG.get i.toNat (k + 1).toNat (by omega) (by omega) (by omega)), e1, e2]
          by_cases hg : lc (a.drop (i.toNat + 1)) (b.drop k.toNat) ≥ lc (a.drop i.toNat) (b.drop (k.toNat + 1))
          · rw [br_dec (by omega), chk_eq (by omega), common_l3_p hG n _ _ _ (by omega) (by omega) (by omega) (by omega) (by omega) (by omega), cw_left hi' hk' he hg, e1]
          · rw [br_ndec (by omega), chk_eq (by omega), common_l3_p hG n _ _ _ (by omega) (by omega) (by omega) (by omega) (by omega) (by omega), cw_right hi' hk' he hg, e2]
      · rw [br_ndec hk, cw_end (by omega)]; simp
    · rw [br_ndec hi, cw_end (by omega)]; simp
theorem common_v {N : Nat} (hN : 20 ≤ N) {a b : List Int} (ha : a.length ≤ 6) (hb : b.length ≤ 6) : common_S N a b = some (cw a b) := by
  unfold common_S
  rw [chk_eq (by omega)]
  obtain ⟨r, h1, h2⟩ := common_l1_p hN ha hb N ((a.length : Int) - 1) _ (by omega) (by omega) (by omega) (GridTo.start a b ha hb)
  rw [h1]
  obtain ⟨a', b', g⟩ := r
  obtain ⟨rfl, rfl, hg⟩ := h2
  simp only [Option.bind_some]
  rw [common_l3_p hg N 0 0 [] (by omega) (by omega) (by omega) (by omega) (by omega) (by simp)]
  simp
theorem dist_v {N : Nat} (hN : 20 ≤ N) {T : List (List Int)} {H : List Int} {f a b : Int} (h : Fine T H f) (ha : 0 ≤ a ∧ a < T.length) (hb : 0 ≤ b ∧ b < T.length) : dist_S N T H f a b = some (distI (T.getD a.toNat []) (T.getD b.toNat []), 0) := by
  unfold dist_S
  obtain ⟨_, _, _, e⟩ := opened_good hN (h.open ha hb)
  rw [e]
  have la := h.l (T.getD a.toNat []) (getD_mem (by omega))
  have lb := h.l (T.getD b.toNat []) (getD_mem (by omega))
  simp only [Option.bind_some]
  have := lc_le_left (T.getD a.toNat []) (T.getD b.toNat [])
  have hc := (cw_spec (T.getD a.toNat []) (T.getD b.toNat [])).2.2
  simp only [decide_true, Bool.not_true, br_false]
  rw [chk_eq (by omega), common_v hN la.2 lb.2]
  simp only [Option.bind_some]
  rw [chk_eq (by omega), chk_eq (by omega)]
  rfl
end Go.Proofs.Ytgeijboidfadaaa
namespace Go.Proofs.Ytgeijboidfadaaa
set_option linter.all false
open Go

def wT (side w : Int) : Int := if 0 ≤ w ∧ side ≠ 3 then w + 1 else w
def stepT (may : Nat → Int × Int → Bool) (h : Nat) (t : At3 → Int × Int) (best : Int × Int) (m : Mv) : Int × Int :=
  if may h m.1 = true then (if best.1 < wT m.1.1 (t m.2).1 then (wT m.1.1 (t m.2).1, (t m.2).2) else if wT m.1.1 (t m.2).1 = best.1 then (best.1, best.2 + (t m.2).2) else best) else best
def tvx (may : Nat → Int × Int → Bool) (H A B : List Int) : Nat → At3 → Int × Int
  | 0, _ => (0, 1)
  | n + 1, x => (movesL A B (H.getD x.1 0) x).foldl (stepT may x.1 (tvx may H A B n)) (-1, 0)
def tv (may : Nat → Int × Int → Bool) (H A B : List Int) (x : At3) : Int × Int := tvx may H A B (H.length - x.1) x
def Bst (n c : Nat) (v : Int × Int) : Prop := -1 ≤ v.1 ∧ v.1 ≤ ((n + 1 : Nat) : Int) ∧ 0 ≤ v.2 ∧ v.2 ≤ ((c * 13 ^ n : Nat) : Int)
abbrev Memo := List ((Int × (Int × Int)) × (Int × Int))
def MapOK (may : Nat → Int × Int → Bool) (H A B : List Int) (m : Memo) : Prop := ∀ e ∈ m, ∃ x : At3, e = ((((x.1 : Nat) : Int), ((x.2.1 : Nat) : Int), ((x.2.2 : Nat) : Int)), tv may H A B x)
theorem MapOK.nil (may : Nat → Int × Int → Bool) (H A B : List Int) : MapOK may H A B [] := fun _ h => by cases h
theorem MapOK.cons {may : Nat → Int × Int → Bool} {H A B : List Int} {m : Memo} (h : MapOK may H A B m) (x : At3) : MapOK may H A B (((((x.1 : Nat) : Int), ((x.2.1 : Nat) : Int), ((x.2.2 : Nat) : Int)), tv may H A B x) :: m) := fun e he => by
  rcases List.mem_cons.1 he with rfl | he
  · exact ⟨x, rfl⟩
  · exact h e he
theorem MapOK.find {may : Nat → Int × Int → Bool} {H A B : List Int} {m : Memo} (h : MapOK may H A B m) (x : At3) {e : (Int × (Int × Int)) × (Int × Int)} (he : m.find? (fun y => Ty.beq (.pair (.int .i64) (.pair (.int .i64) (.int .i64))) y.1 (((x.1 : Nat) : Int), ((x.2.1 : Nat) : Int), ((x.2.2 : Nat) : Int))) = some e) : e.2 = tv may H A B x := by
  obtain ⟨y, rfl⟩ := h e (List.mem_of_find?_eq_some he)
  have := List.find?_some he
  have := (beq_iff_ (y := .pair (.int .i64) (.pair (.int .i64) (.int .i64))) rfl).1 this
  simp only [Prod.mk.injEq] at this
  have e : y = x := by
    obtain ⟨a, b, c⟩ := x
    obtain ⟨a', b', c'⟩ := y
    dsimp only at this
    simp only [Prod.mk.injEq]; omega
  rw [e]
end Go.Proofs.Ytgeijboidfadaaa
namespace Go.Proofs.Ytgeijboidfadaaa
set_option linter.all false
open Go

def mayA : Nat → Int × Int → Bool := fun _ _ => true
section
variable {N : Nat} {T : List (List Int)} {H A B : List Int} {f : Int}
end
end Go.Proofs.Ytgeijboidfadaaa
namespace Go.Proofs.Ytgeijboidfadaaa
set_option linter.all false
open Go

section
variable {N : Nat} {T : List (List Int)} {H : List Int} {f : Int}
end
end Go.Proofs.Ytgeijboidfadaaa
namespace Go.Proofs.Ytgeijboidfadaaa
set_option linter.all false
open Go

theorem stepT_fst (h : Nat) (t : At3 → Int × Int) (best : Int × Int) (m : Mv) : (stepT mayA h t best m).1 = max best.1 (wT m.1.1 (t m.2).1) := by
  have : stepT mayA h t best m = (if best.1 < wT m.1.1 (t m.2).1 then (wT m.1.1 (t m.2).1, (t m.2).2) else if wT m.1.1 (t m.2).1 = best.1 then (best.1, best.2 + (t m.2).2) else best) := by unfold stepT; exact if_pos rfl
  rw [this]
  split
  · first | omega | (dsimp only; omega)
  · split <;> first | omega | (dsimp only; omega)
theorem fold_ge {h : Nat} {t : At3 → Int × Int} : ∀ (ms : List Mv) (best : Int × Int), best.1 ≤ (ms.foldl (stepT mayA h t) best).1 ∧ ∀ m ∈ ms, wT m.1.1 (t m.2).1 ≤ (ms.foldl (stepT mayA h t) best).1
  | [], best => ⟨Int.le_refl _, fun _ h => by cases h⟩
  | m :: ms, best => by
    obtain ⟨h1, h2⟩ := fold_ge (h := h) (t := t) ms (stepT mayA h t best m)
    rw [stepT_fst] at h1
    rw [List.foldl_cons]
    refine ⟨by omega, fun m' hm => ?_⟩
    rcases List.mem_cons.1 hm with rfl | hm
    · omega
    · exact h2 m' hm
inductive Told (H A B : List Int) : Nat → Nat → Nat → Prop
  | done (i k : Nat) : Told H A B H.length i k
  | ta {h i k j : Nat} (hh : h < H.length) (hij : i ≤ j) (hj : j < A.length) (e : A.getD j 0 = H.getD h 0) (t : Told H A B (h + 1) (j + 1) k) : Told H A B h i k
  | tb {h i k j : Nat} (hh : h < H.length) (hij : k ≤ j) (hj : j < B.length) (e : B.getD j 0 = H.getD h 0) (t : Told H A B (h + 1) i (j + 1)) : Told H A B h i k
theorem Told.mono {H A B : List Int} {h i k : Nat} (t : Told H A B h i k) : ∀ (i' k' : Nat), i' ≤ i → k' ≤ k → Told H A B h i' k' := by
  induction t with
  | done i k => intro i' k' _ _; exact .done i' k'
  | ta hh hij hj e _ ih => intro i' k' h1 h2; exact .ta hh (Nat.le_trans h1 hij) hj e (ih _ _ (Nat.le_refl _) h2)
  | tb hh hij hj e _ ih => intro i' k' h1 h2; exact .tb hh (Nat.le_trans h2 hij) hj e (ih _ _ h1 (Nat.le_refl _))
theorem Told.tv {H A B : List Int} {h i k : Nat} (t : Told H A B h i k) : ∀ n, H.length = h + n → (n : Int) ≤ (tvx mayA H A B n (h, i, k)).1 := by
  induction t with
  | done i k => intro n hn; have : n = 0 := by omega
                subst this; simp [tvx]
  | @ta h i k j hh hij hj e t ih =>
    intro n hn
    obtain ⟨n, rfl⟩ : ∃ m, n = m + 1 := ⟨n - 1, by omega⟩
    have := ih n (by omega)
    have g := (fold_ge (h := h) (t := tvx mayA H A B n) (movesL A B (H.getD h 0) (h, i, k)) (-1, 0)).2 ((1, (j : Int)), (h + 1, j + 1, k)) (by
      simp only [movesL, List.mem_cons, List.mem_append, List.mem_map]
      exact .inr (.inl ⟨j, mem_standsL.2 ⟨hij, hj, e⟩, rfl⟩))
    rw [tvx]
    dsimp only
    dsimp only [wT] at g
    rw [if_pos ⟨by omega, by decide⟩] at g
    omega
  | @tb h i k j hh hij hj e t ih =>
    intro n hn
    obtain ⟨n, rfl⟩ : ∃ m, n = m + 1 := ⟨n - 1, by omega⟩
    have := ih n (by omega)
    have g := (fold_ge (h := h) (t := tvx mayA H A B n) (movesL A B (H.getD h 0) (h, i, k)) (-1, 0)).2 ((2, (j : Int)), (h + 1, i, j + 1)) (by
      simp only [movesL, List.mem_cons, List.mem_append, List.mem_map]
      exact .inr (.inr ⟨j, mem_standsL.2 ⟨hij, hj, e⟩, rfl⟩))
    rw [tvx]
    dsimp only
    dsimp only [wT] at g
    rw [if_pos ⟨by omega, by decide⟩] at g
    omega
/-- Two texts run into each other, with words lost. -/
inductive Shuf : List Int → List Int → List Int → Prop
  | nil : Shuf [] [] []
  | skipA {S a b : List Int} (w : Int) (s : Shuf S a b) : Shuf S (w :: a) b
  | skipB {S a b : List Int} (w : Int) (s : Shuf S a b) : Shuf S a (w :: b)
  | takeA {S a b : List Int} (w : Int) (s : Shuf S a b) : Shuf (w :: S) (w :: a) b
  | takeB {S a b : List Int} (w : Int) (s : Shuf S a b) : Shuf (w :: S) a (w :: b)
theorem drop_step {l : List Int} {i : Nat} {w : Int} {r : List Int} (h : l.drop i = w :: r) : i < l.length ∧ l.getD i 0 = w ∧ l.drop (i + 1) = r := by
  have hi : i < l.length := by
    rcases Nat.lt_or_ge i l.length with h1 | h1
    · exact h1
    · rw [List.drop_of_length_le h1] at h; cases h
  rw [drop_cons hi] at h
  simp only [List.cons.injEq] at h
  exact ⟨hi, h.1, h.2⟩
theorem Shuf.told {H A B S a b : List Int} (s : Shuf S a b) : ∀ (h i k : Nat), h ≤ H.length → H.drop h = S → A.drop i = a → B.drop k = b → Told H A B h i k := by
  induction s with
  | nil =>
    intro h i k hh hS _ _
    have : h = H.length := by
      have := congrArg List.length hS
      rw [List.length_drop] at this
      simp at this; omega
    subst this; exact .done i k
  | skipA w s ih => intro h i k hh hS ha hb; obtain ⟨_, _, h3⟩ := drop_step ha; exact (ih h (i + 1) k hh hS h3 hb).mono _ _ (by omega) (Nat.le_refl _)
  | skipB w s ih => intro h i k hh hS ha hb; obtain ⟨_, _, h3⟩ := drop_step hb; exact (ih h i (k + 1) hh hS ha h3).mono _ _ (Nat.le_refl _) (by omega)
  | takeA w s ih =>
    intro h i k hh hS ha hb
    obtain ⟨h1, h2, h3⟩ := drop_step ha
    obtain ⟨g1, g2, g3⟩ := drop_step hS
    exact .ta g1 (Nat.le_refl _) h1 (by rw [h2, g2]) (ih (h + 1) (i + 1) k (by omega) g3 h3 hb)
  | takeB w s ih =>
    intro h i k hh hS ha hb
    obtain ⟨h1, h2, h3⟩ := drop_step hb
    obtain ⟨g1, g2, g3⟩ := drop_step hS
    exact .tb g1 (Nat.le_refl _) h1 (by rw [h2, g2]) (ih (h + 1) i (k + 1) (by omega) g3 ha h3)
end Go.Proofs.Ytgeijboidfadaaa
namespace Go.Proofs.Ytgeijboidfadaaa
set_option linter.all false
open Go

section
variable {N : Nat} {T : List (List Int)} {H : List Int} {f : Int}
theorem indexi_gen (N : Nat) (v : Int) : ∀ (n : Nat) (s : List Int) (u u2 : Int), indexi_l1 N n s v u u2 = ixL (fun x => some (decide (v = x))) n s u u2
  | 0, _, _, _ => rfl
  | n + 1, s, u, u2 => by simp only [indexi_l1, ixL, indexi_gen N v n, Option.bind_some]
theorem containsi_v {s : List Int} {v : Int} (hs : s.length ≤ 1000) (hN : s.length < N) : containsi_S N s v = some (s.contains v) := by
  have := ixS_any (f := fun x : Int => some (decide (v = x))) (p := fun x => decide (v = x)) (s := s) (N := N) (fun _ _ => rfl) (by omega) hN
  unfold containsi_S
  have e : indexi_S N s v = ixS (fun x : Int => some (decide (v = x))) N s := by
    unfold indexi_S ixS
    rw [indexi_gen] <;> rfl
  rw [e, this]
  congr 1
  rw [Bool.eq_iff_iff, List.any_eq_true, List.contains_iff_mem]
  simp only [decide_eq_true_eq]
  constructor
  · rintro ⟨a, h, rfl⟩; exact h
  · intro h; exact ⟨_, h, rfl⟩
end
end Go.Proofs.Ytgeijboidfadaaa
namespace Go.Proofs.Ytgeijboidfadaaa
set_option linter.all false
open Go

/-- Words of two texts are told in what was heard, between noise. -/
inductive Rd : List Int → List Int → List Int → Prop
  | nil : Rd [] [] []
  | noise (w : Int) {H a b : List Int} (s : Rd H a b) : Rd (w :: H) a b
  | ta (w : Int) {H a b : List Int} (s : Rd H a b) : Rd (w :: H) (w :: a) b
  | tb (w : Int) {H a b : List Int} (s : Rd H a b) : Rd (w :: H) a (w :: b)
theorem Rd.none : ∀ H : List Int, Rd H [] []
  | [] => .nil
  | w :: H => .noise w (Rd.none H)
end Go.Proofs.Ytgeijboidfadaaa
namespace Go.Proofs.Ytgeijboidfadaaa
set_option linter.all false
open Go

section
variable {N : Nat} {T : List (List Int)} {H : List Int} {f : Int}
def toldN : List (Int × Int) → Int
  | [] => 0
  | q :: r => (if q.1 = 3 then 0 else 1) + toldN r
theorem toldN_bnd : ∀ l : List (Int × Int), 0 ≤ toldN l ∧ toldN l ≤ l.length
  | [] => by simp [toldN]
  | q :: r => by
    have := toldN_bnd r
    unfold toldN
    simp only [List.length_cons]
    split <;> omega
end
end Go.Proofs.Ytgeijboidfadaaa
namespace Go.Proofs.Ytgeijboidfadaaa
set_option linter.all false
open Go

section
variable {N : Nat} {T : List (List Int)} {H A B : List Int} {f : Int}
theorem countP_zero {α : Type} {p : α → Bool} : ∀ {l : List α}, (∀ x ∈ l, p x = false) → l.countP p = 0
  | [], _ => rfl
  | a :: l, h => by
    rw [List.countP_cons, countP_zero (fun x hx => h x (by simp [hx])), h a (by simp)]; rfl
/-- So many words are told in the best of these, and there are so many best ones. -/
def BestOf (C : List (List (Int × Int))) (v : Int × Int) : Prop := (∀ r ∈ C, toldN r ≤ v.1) ∧ v.2 = (C.countP fun r => decide (toldN r = v.1) : Nat)
theorem BestOf.add {h n : Nat} {t : At3 → Int × Int} {m : Mv} {C D : List (List (Int × Int))} {best : Int × Int} (hb : BestOf C best) (hd : BestOf D (t m.2)) (h0 : 0 ≤ (t m.2).1) : BestOf (C ++ D.map fun r => m.1 :: r) (stepT mayA h t best m) := by
  have st : stepT mayA h t best m = (if best.1 < wT m.1.1 (t m.2).1 then (wT m.1.1 (t m.2).1, (t m.2).2) else if wT m.1.1 (t m.2).1 = best.1 then (best.1, best.2 + (t m.2).2) else best) := by
    unfold stepT; exact if_pos rfl
  have hw : wT m.1.1 (t m.2).1 = (if m.1.1 = 3 then 0 else 1) + (t m.2).1 := by
    unfold wT
    by_cases c : m.1.1 = 3
    · rw [if_neg (fun h => h.2 c), if_pos c]; omega
    · rw [if_pos ⟨h0, c⟩, if_neg c]; omega
  obtain ⟨b1, b2⟩ := hb
  obtain ⟨d1, d2⟩ := hd
  have tn : ∀ r, toldN (m.1 :: r) = (if m.1.1 = 3 then 0 else 1) + toldN r := fun r => rfl
  rw [st]
  generalize wT m.1.1 (t m.2).1 = W at *
  generalize (if m.1.1 = 3 then (0 : Int) else 1) = e at *
  have c1 : ∀ v : Int, ((D.map fun r => m.1 :: r).countP fun r => decide (toldN r = v)) = D.countP fun r => decide (toldN r = v - e) := by
    intro v
    rw [List.countP_map]
    congr 1
    funext r
    simp only [Function.comp]
    rw [tn]
    apply decide_eq_decide.2
    omega
  have le : ∀ r ∈ D.map (fun r => m.1 :: r), toldN r ≤ W := by
    intro r hr
    obtain ⟨r', hr', rfl⟩ := List.mem_map.1 hr
    rw [tn]; have := d1 r' hr'; omega
  by_cases k1 : best.1 < W
  · rw [if_pos k1]
    refine ⟨fun r hr => ?_, ?_⟩
    · rcases List.mem_append.1 hr with hr | hr
      · have := b1 r hr; dsimp only; omega
      · exact le r hr
    · dsimp only
      rw [List.countP_append, c1, show W - e = (t m.2).1 by omega, countP_zero (l := C) (fun r hr => by have := b1 r hr; simp; omega), d2]
      simp
  · rw [if_neg k1]
    by_cases k2 : W = best.1
    · rw [if_pos k2]
      refine ⟨fun r hr => ?_, ?_⟩
      · rcases List.mem_append.1 hr with hr | hr
        · exact b1 r hr
        · have := le r hr; dsimp only; omega
      · dsimp only
        rw [List.countP_append, c1, show best.1 - e = (t m.2).1 by omega, b2, d2]
        omega
    · rw [if_neg k2]
      refine ⟨fun r hr => ?_, ?_⟩
      · rcases List.mem_append.1 hr with hr | hr
        · exact b1 r hr
        · have := le r hr; omega
      · rw [List.countP_append, c1, countP_zero (l := D) (fun r hr => by have := d1 r hr; simp; omega), b2]
        simp
end
end Go.Proofs.Ytgeijboidfadaaa
namespace Go.Proofs.Ytgeijboidfadaaa
set_option linter.all false
open Go

section
variable {N : Nat} {T : List (List Int)} {H A B : List Int} {f : Int}
abbrev keyT : Ty := .pair (.int .i64) (.pair (.int .i64) (.int .i64))
abbrev keyA (x : At3) : Int × Int × Int := (((x.1 : Nat) : Int), ((x.2.1 : Nat) : Int), ((x.2.2 : Nat) : Int))
/-- Whether a place is remembered. -/
def hasK (m : Memo) (x : At3) : Bool := (m.find? fun y => Ty.beq keyT y.1 (keyA x)).isSome
theorem hasK_cons {m : Memo} {x z : At3} {v : Int × Int} : hasK ((keyA x, v) :: m) z = true ↔ z = x ∨ hasK m z = true := by
  unfold hasK
  rw [List.find?_cons]
  by_cases e : Ty.beq keyT (keyA x) (keyA z) = true
  · rw [e]
    have := (beq_iff_ (y := keyT) rfl).1 e
    simp only [keyA, Prod.mk.injEq] at this
    have : z = x := by
      obtain ⟨a, b, c⟩ := x
      obtain ⟨a', b', c'⟩ := z
      dsimp only at this
      simp only [Prod.mk.injEq]; omega
    simp [this]
  · have e' : Ty.beq keyT (keyA x) (keyA z) = false := by simpa using e
    rw [e']
    constructor
    · exact fun h => .inr h
    · rintro (rfl | h)
      · exact absurd ((beq_iff_ (y := keyT) rfl).2 rfl) e
      · exact h
/-- What is remembered is right, and so is all that it came of. -/
def MOK (H A B : List Int) (m : Memo) : Prop := MapOK mayA H A B m ∧ ∀ x : At3, hasK m x = true → x.1 < H.length → ∀ mv ∈ movesL A B (H.getD x.1 0) x, mv.2.1 < H.length → hasK m mv.2 = true
theorem MOK.cons {m : Memo} (h : MOK H A B m) {x : At3} (hk : ∀ mv ∈ movesL A B (H.getD x.1 0) x, mv.2.1 < H.length → hasK m mv.2 = true) : MOK H A B ((keyA x, tv mayA H A B x) :: m) := by
  refine ⟨h.1.cons x, fun z hz hlt mv hmv hl => hasK_cons.2 (.inr ?_)⟩
  rcases hasK_cons.1 hz with rfl | hz
  · exact hk mv hmv hl
  · exact h.2 z hz hlt mv hmv hl
theorem MOK.nil : MOK H A B [] := ⟨MapOK.nil _ _ _ _, fun x h => by cases h⟩
end
end Go.Proofs.Ytgeijboidfadaaa
namespace Go.Proofs.Ytgeijboidfadaaa
set_option linter.all false
open Go

section
variable {N : Nat} {T : List (List Int)} {H A B : List Int} {f : Int}
end
end Go.Proofs.Ytgeijboidfadaaa
namespace Go.Proofs.Ytgeijboidfadaaa
set_option linter.all false
open Go

section
variable {N : Nat} {T : List (List Int)} {H A B : List Int} {f a b : Int}
/-- Whether places may be. -/
def mayR (may : Nat → Int × Int → Bool) : Nat → List (Int × Int) → Bool
  | _, [] => true
  | h, q :: r => may h q && mayR may (h + 1) r
/-- As many words are told in the best of these, of which there are so many, if there is one. -/
def Gd (C : List (List (Int × Int))) (v : Int × Int) : Prop := BestOf C v ∧ (C = [] ∧ v.1 = -1 ∨ ∃ r ∈ C, toldN r = v.1)
theorem Gd.ge {C : List (List (Int × Int))} {v : Int × Int} (h : Gd C v) : -1 ≤ v.1 := by
  rcases h.2 with ⟨_, h⟩ | ⟨r, _, h⟩
  · omega
  · have := toldN_bnd r; omega
theorem Gd.add {may : Nat → Int × Int → Bool} {h : Nat} {t : At3 → Int × Int} {m : Mv} {C D : List (List (Int × Int))} {best : Int × Int} (hb : Gd C best) (hd : Gd D (t m.2)) : Gd (C ++ if may h m.1 = true then D.map fun r => m.1 :: r else []) (stepT may h t best m) := by
  by_cases c : may h m.1 = true
  · rw [if_pos c]
    have st : stepT may h t best m = stepT mayA h t best m := by
      unfold stepT; rw [if_pos c]; exact (if_pos rfl).symm
    rw [st]
    have st2 : stepT mayA h t best m = (if best.1 < wT m.1.1 (t m.2).1 then (wT m.1.1 (t m.2).1, (t m.2).2) else if wT m.1.1 (t m.2).1 = best.1 then (best.1, best.2 + (t m.2).2) else best) := by
      unfold stepT; exact if_pos rfl
    have hge := hb.ge
    rcases hd.2 with ⟨rfl, hv⟩ | ⟨r, hr, hv⟩
    · have h2 := hd.1.2
      rw [List.countP_nil] at h2
      have hw : wT m.1.1 (t m.2).1 = -1 := by
        unfold wT; rw [hv]; exact if_neg (fun h => absurd h.1 (by decide))
      rw [st2, hw, List.map_nil, List.append_nil, if_neg (by omega)]
      by_cases k : -1 = best.1
      · rw [if_pos k, h2]
        rw [show ((best.1, best.2 + ((0 : Nat) : Int)) : Int × Int) = best by simp]
        exact hb
      · rw [if_neg k]; exact hb
    · have t0 := toldN_bnd r
      have h0 : 0 ≤ (t m.2).1 := by omega
      refine ⟨BestOf.add (n := 0) hb.1 hd.1 h0, .inr ?_⟩
      have hw : toldN (m.1 :: r) = wT m.1.1 (t m.2).1 := by
        unfold wT toldN
        by_cases c : m.1.1 = 3
        · rw [if_pos c, if_neg (fun h => h.2 c)]; omega
        · rw [if_neg c, if_pos ⟨h0, c⟩]; omega
      rw [st2]
      by_cases k1 : best.1 < wT m.1.1 (t m.2).1
      · rw [if_pos k1]
        exact ⟨m.1 :: r, List.mem_append.2 (.inr (List.mem_map.2 ⟨r, hr, rfl⟩)), hw⟩
      · rw [if_neg k1]
        have t1 := toldN_bnd (m.1 :: r)
        rcases hb.2 with ⟨_, e⟩ | ⟨r', hr', e⟩
        · omega
        · refine ⟨r', List.mem_append.2 (.inl hr'), ?_⟩
          split <;> exact e
  · have st : stepT may h t best m = best := by
      unfold stepT; rw [if_neg c]
    rw [if_neg c, st, List.append_nil]
    exact hb
end
end Go.Proofs.Ytgeijboidfadaaa
namespace Go.Proofs.Ytgeijboidfadaaa
set_option linter.all false
open Go

section
variable {N : Nat} {T : List (List Int)} {H A B : List Int} {f a b : Int}
end
end Go.Proofs.Ytgeijboidfadaaa
namespace Go.Proofs.Ytgeijboidfadaaa
set_option linter.all false
open Go

section
variable {N : Nat} {T : List (List Int)} {H : List Int} {f : Int}
theorem commons_v (hN : 20 ≤ N) (h : Fine T H f) {a b : Int} (ha : 0 ≤ a ∧ a < T.length) (hb : 0 ≤ b ∧ b < T.length) : commons_S N T H f a b = some (cw (T.getD a.toNat []) (T.getD b.toNat []), 0) := by
  unfold commons_S
  obtain ⟨_, _, _, e⟩ := opened_good hN (h.open ha hb)
  rw [e]
  have la := h.l (T.getD a.toNat []) (getD_mem (by omega))
  have lb := h.l (T.getD b.toNat []) (getD_mem (by omega))
  simp only [Option.bind_some, decide_true, Bool.not_true, br_false]
  rw [common_v hN la.2 lb.2]; rfl
end
end Go.Proofs.Ytgeijboidfadaaa

namespace Go.Proofs.Ytgeijboidfadaaa.Fd
set_option linter.all false
open Go

def sumN (f : Nat → Int) : Nat → Int
  | 0 => 0
  | n + 1 => sumN f n + f n
theorem sumN_congr {f g : Nat → Int} : ∀ {n : Nat}, (∀ i, i < n → f i = g i) → sumN f n = sumN g n
  | 0, _ => rfl
  | n + 1, h => by rw [sumN, sumN, sumN_congr (fun i hi => h i (by omega)), h n (by omega)]
def upd {α : Type} (J : Nat → α) (i : Nat) (v : α) : Nat → α := fun x => if x = i then v else J x
theorem upd_self {α : Type} (J : Nat → α) (i : Nat) (v : α) : upd J i v i = v := if_pos rfl
/-- What each lost thing is joined to: a found one, or -1. -/
structure Mt (n m : Nat) (can : Nat → Nat → Bool) (J : Nat → Int) : Prop where
  ok : ∀ i, i < n → J i = -1 ∨ ∃ k : Nat, J i = k ∧ k < m ∧ can i k = true
  inj : ∀ i j, i < n → j < n → i ≠ j → J i = J j → J i = -1
def pv (w : Nat → Nat → Int) (i : Nat) (x : Int) : Int := if x = -1 then 0 else w i x.toNat
def wt (w : Nat → Nat → Int) (n : Nat) (J : Nat → Int) : Int := sumN (fun i => pv w i (J i)) n
def Usd (n : Nat) (J : Nat → Int) (k : Nat) : Prop := ∃ i, i < n ∧ J i = k
section
variable {n m : Nat} {can : Nat → Nat → Bool} {w : Nat → Nat → Int}
theorem pv_some (i k : Nat) : pv w i (k : Int) = w i k := by
  unfold pv
  rw [if_neg (by omega), Int.toNat_natCast]
/-- What is worth most of all joins that leave some found things. -/
structure IsMax (n m : Nat) (can : Nat → Nat → Bool) (w : Nat → Nat → Int) (fr : Nat → Prop) (v : Int) : Prop where
  ex : ∃ J, Mt n m can J ∧ (∀ k, fr k → ¬ Usd n J k) ∧ wt w n J = v
  le : ∀ J, Mt n m can J → (∀ k, fr k → ¬ Usd n J k) → wt w n J ≤ v
end
end Go.Proofs.Ytgeijboidfadaaa.Fd
namespace Go.Proofs.Ytgeijboidfadaaa.Fd
set_option linter.all false
open Go

/-- The found things with which a lost one can be joined. -/
def mayL (can : Nat → Nat → Bool) (m i : Nat) : List Nat := (List.range m).filter (can i)
theorem mem_mayL {can : Nat → Nat → Bool} {m i k : Nat} : k ∈ mayL can m i ↔ k < m ∧ can i k = true := by
  unfold mayL
  rw [List.mem_filter, List.mem_range]
/-- All joins of the lost things from one on, which leave some found things. -/
def joinsL (can : Nat → Nat → Bool) (m : Nat) : Nat → Nat → Nat → List (List Int)
  | 0, _, _ => [[]]
  | d + 1, i, u => (joinsL can m d (i + 1) u).map ((-1) :: ·) ++ (mayL can m i).flatMap fun k => if u.testBit k then [] else (joinsL can m d (i + 1) (u ||| 2 ^ k)).map ((k : Int) :: ·)
/-- What joins count. -/
def valJ (t : Nat → Nat → Int) : Nat → List Int → Int
  | _, [] => 0
  | i, x :: l => pv t i x + valJ t (i + 1) l
/-- Joins of the lost things from one on. -/
def okJ (can : Nat → Nat → Bool) (m : Nat) : Nat → Nat → List Int → Prop
  | _, _, [] => True
  | i, u, x :: l => (x = -1 ∧ okJ can m (i + 1) u l) ∨ ∃ k : Nat, x = k ∧ k < m ∧ can i k = true ∧ u.testBit k = false ∧ okJ can m (i + 1) (u ||| 2 ^ k) l
section
variable {can : Nat → Nat → Bool} {m : Nat} {t : Nat → Nat → Int}
theorem mem_joinsL : ∀ {d i u : Nat} {l : List Int}, l ∈ joinsL can m d i u ↔ l.length = d ∧ okJ can m i u l
  | 0, i, u, l => by
    simp only [joinsL, List.mem_singleton]
    constructor
    · rintro rfl; exact ⟨rfl, trivial⟩
    · rintro ⟨h, _⟩; exact List.eq_nil_of_length_eq_zero h
  | d + 1, i, u, l => by
    simp only [joinsL, List.mem_append, List.mem_map, List.mem_flatMap]
    constructor
    · rintro (⟨a, ha, rfl⟩ | ⟨k, hk, hl⟩)
      · obtain ⟨h1, h2⟩ := mem_joinsL.1 ha
        exact ⟨by simp [h1], .inl ⟨rfl, h2⟩⟩
      · obtain ⟨k1, k2⟩ := mem_mayL.1 hk
        cases hb : u.testBit k
        · rw [hb] at hl
          simp only [Bool.false_eq_true, if_false, List.mem_map] at hl
          obtain ⟨a, ha, rfl⟩ := hl
          obtain ⟨h1, h2⟩ := mem_joinsL.1 ha
          exact ⟨by simp [h1], .inr ⟨k, rfl, k1, k2, hb, h2⟩⟩
        · rw [hb] at hl
          simp at hl
    · rintro ⟨h, ho⟩
      cases l with
      | nil => simp at h
      | cons x l =>
        have hl : l.length = d := by simpa using h
        rcases ho with ⟨rfl, h2⟩ | ⟨k, rfl, k1, k2, hb, h2⟩
        · exact .inl ⟨l, mem_joinsL.2 ⟨hl, h2⟩, rfl⟩
        · refine .inr ⟨k, mem_mayL.2 ⟨k1, k2⟩, ?_⟩
          rw [hb]
          simp only [Bool.false_eq_true, if_false, List.mem_map]
          exact ⟨l, mem_joinsL.2 ⟨hl, h2⟩, rfl⟩
/-- One found thing more is looked at. -/
def rsS (t : Nat → Nat → Int) (rec : Nat → Int × Int × Int) (i u : Nat) (b : Int × Int × Int) (k : Nat) : Int × Int × Int :=
  if u.testBit k then b else if b.2.1 < (rec (u ||| 2 ^ k)).2.1 + t i k then ((k : Int), (rec (u ||| 2 ^ k)).2.1 + t i k, (rec (u ||| 2 ^ k)).2.2)
    else if (rec (u ||| 2 ^ k)).2.1 + t i k = b.2.1 then (b.1, b.2.1, b.2.2 + (rec (u ||| 2 ^ k)).2.2) else b
/-- The found thing of the first lost one, what all counts, in how many ways. -/
def rsR (can : Nat → Nat → Bool) (t : Nat → Nat → Int) (m : Nat) : Nat → Nat → Nat → Int × Int × Int
  | 0, _, _ => (-1, 0, 1)
  | d + 1, i, u => (mayL can m i).foldl (rsS t (rsR can t m d (i + 1)) i u) (-1, (rsR can t m d (i + 1) u).2.1, (rsR can t m d (i + 1) u).2.2)
/-- What is known of the best of some joins. -/
structure Bst (t : Nat → Nat → Int) (i : Nat) (C : List (List Int)) (c w : Int) : Prop where
  le : ∀ l ∈ C, valJ t i l ≤ c
  ways : (C.countP (fun l => decide (valJ t i l = c)) : Int) = w
theorem Bst.same {i : Nat} {C G : List (List Int)} {c w w' : Int} (h : Bst t i C c w) (h' : Bst t i G c w') : Bst t i (C ++ G) c (w + w') := by
  refine ⟨fun l hl => ?_, ?_⟩
  · rcases List.mem_append.1 hl with hl | hl
    · exact h.le l hl
    · exact h'.le l hl
  · rw [List.countP_append]
    have := h.ways
    have := h'.ways
    omega
theorem bit_or {u k j : Nat} : (u ||| 2 ^ k).testBit j = (u.testBit j || decide (k = j)) := by rw [Nat.testBit_or, Nat.testBit_two_pow]
theorem okJ_iff : ∀ {l : List Int} {i u : Nat}, okJ can m i u l ↔ (∀ j, j < l.length → l.getD j (-1) = -1 ∨ ∃ k : Nat, l.getD j (-1) = k ∧ k < m ∧ can (i + j) k = true ∧ u.testBit k = false) ∧ ∀ a b, a < b → b < l.length → l.getD a (-1) = l.getD b (-1) → l.getD a (-1) = -1
  | [], i, u => by
    constructor
    · exact fun _ => ⟨fun j h => by simp at h, fun a b _ h => by simp at h⟩
    · exact fun _ => trivial
  | x :: l, i, u => by
    have e0 : (x :: l).getD 0 (-1) = x := rfl
    have es : ∀ j, (x :: l).getD (j + 1) (-1) = l.getD j (-1) := fun j => rfl
    unfold okJ
    constructor
    · rintro (⟨rfl, h⟩ | ⟨k, rfl, k1, k2, k3, h⟩)
      · obtain ⟨h1, h2⟩ := okJ_iff.1 h
        refine ⟨fun j hj => ?_, fun a b hab hb he => ?_⟩
        · cases j with
          | zero => exact .inl rfl
          | succ j =>
            rw [es, show i + (j + 1) = i + 1 + j by omega]
            exact h1 j (by simpa using hj)
        · cases a with
          | zero => rfl
          | succ a =>
            cases b with
            | zero => omega
            | succ b => rw [es] at he ⊢; rw [es] at he; exact h2 a b (by omega) (by simpa using hb) he
      · obtain ⟨h1, h2⟩ := okJ_iff.1 h
        refine ⟨fun j hj => ?_, fun a b hab hb he => ?_⟩
        · cases j with
          | zero => exact .inr ⟨k, rfl, k1, by simpa using k2, k3⟩
          | succ j =>
            rw [es, show i + (j + 1) = i + 1 + j by omega]
            rcases h1 j (by simpa using hj) with h | ⟨q, a, b, c, d⟩
            · exact .inl h
            · rw [bit_or, Bool.or_eq_false_iff] at d
              exact .inr ⟨q, a, b, c, d.1⟩
        · cases b with
          | zero => omega
          | succ b =>
            cases a with
            | zero =>
              rw [e0, es] at he
              rcases h1 b (by simpa using hb) with h | ⟨q, a, _, _, d⟩
              · omega
              · rw [bit_or, Bool.or_eq_false_iff] at d
                have : k = q := by omega
                simp [this] at d
            | succ a => rw [es] at he ⊢; rw [es] at he; exact h2 a b (by omega) (by simpa using hb) he
    · rintro ⟨h1, h2⟩
      have g2 : ∀ a b, a < b → b < l.length → l.getD a (-1) = l.getD b (-1) → l.getD a (-1) = -1 := fun a b hab hb he => h2 (a + 1) (b + 1) (by omega) (by simpa using hb) he
      rcases h1 0 (by simp) with h | ⟨k, ha, hb, hc, hd⟩
      · refine .inl ⟨h, okJ_iff.2 ⟨fun j hj => ?_, g2⟩⟩
        have := h1 (j + 1) (by simpa using hj)
        rw [es, show i + (j + 1) = i + 1 + j by omega] at this
        exact this
      · rw [e0] at ha
        refine .inr ⟨k, ha, hb, by simpa using hc, hd, okJ_iff.2 ⟨fun j hj => ?_, g2⟩⟩
        have := h1 (j + 1) (by simpa using hj)
        rw [es, show i + (j + 1) = i + 1 + j by omega] at this
        rcases this with h | ⟨q, q1, q2, q3, q4⟩
        · exact .inl h
        · refine .inr ⟨q, q1, q2, q3, ?_⟩
          rw [bit_or, q4, Bool.false_or, decide_eq_false_iff_not]
          intro e
          have := h2 0 (j + 1) (by omega) (by simpa using hj) (by rw [e0, es, ha, q1, e])
          rw [e0] at this
          omega
def fnJ (l : List Int) : Nat → Int := fun j => l.getD j (-1)
theorem okJ_mt {l : List Int} {u : Nat} : okJ can m 0 u l ↔ Mt l.length m can (fnJ l) ∧ ∀ k, u.testBit k = true → ¬ Usd l.length (fnJ l) k := by
  rw [okJ_iff]
  unfold fnJ
  constructor
  · rintro ⟨h1, h2⟩
    refine ⟨⟨fun i hi => ?_, fun i j hi hj hij he => ?_⟩, fun k hk => ?_⟩
    · rcases h1 i hi with h | ⟨k, a, b, c, d⟩
      · exact .inl h
      · exact .inr ⟨k, a, b, by simpa using c⟩
    · rcases Nat.lt_or_gt_of_ne hij with h | h
      · exact h2 i j h hj he
      · have := h2 j i h hi he.symm
        rw [he]; exact this
    · rintro ⟨i, hi, e⟩
      dsimp only at e
      rcases h1 i hi with h | ⟨q, a, b, c, d⟩
      · omega
      · have : q = k := by omega
        subst this
        rw [hk] at d; cases d
  · rintro ⟨h1, h2⟩
    refine ⟨fun j hj => ?_, fun a b hab hb he => h1.inj a b (by omega) hb (by omega) he⟩
    rcases h1.ok j hj with h | ⟨k, a, b, c⟩
    · exact .inl h
    · refine .inr ⟨k, a, b, by simpa using c, ?_⟩
      cases hk : u.testBit k
      · rfl
      · exact absurd ⟨j, hj, a⟩ (h2 k hk)
theorem sumN_shift (f : Nat → Int) : ∀ n : Nat, sumN f (n + 1) = f 0 + sumN (fun i => f (i + 1)) n
  | 0 => by simp [sumN]
  | n + 1 => by
    rw [sumN, sumN_shift f n, sumN]; omega
theorem valJ_sum : ∀ (l : List Int) (i : Nat), valJ t i l = sumN (fun j => pv t (i + j) (l.getD j (-1))) l.length
  | [], _ => rfl
  | x :: l, i => by
    rw [valJ, valJ_sum l (i + 1), List.length_cons, sumN_shift]
    congr 1
    refine sumN_congr fun j _ => ?_
    rw [show i + (j + 1) = i + 1 + j by omega]; rfl
theorem valJ_wt (l : List Int) : valJ t 0 l = wt t l.length (fnJ l) := by
  rw [valJ_sum]
  refine sumN_congr fun j _ => ?_
  rw [Nat.zero_add]; rfl
theorem range_getD {f : Nat → Int} {n j : Nat} (h : j < n) : ((List.range n).map f).getD j (-1) = f j := by
  simp [List.getD, h]
theorem list_mt {n u : Nat} {l : List Int} (h : l ∈ joinsL can m n 0 u) : Mt n m can (fnJ l) ∧ (∀ k, u.testBit k = true → ¬ Usd n (fnJ l) k) ∧ valJ t 0 l = wt t n (fnJ l) := by
  obtain ⟨hl, ho⟩ := mem_joinsL.1 h
  obtain ⟨h1, h2⟩ := okJ_mt.1 ho
  rw [hl] at h1 h2
  exact ⟨h1, h2, by rw [valJ_wt, hl]⟩
end
end Go.Proofs.Ytgeijboidfadaaa.Fd
namespace Go.Proofs.Ytgeijboidfadaaa.Fd
set_option linter.all false
open Go

def up (i x : Nat) : Nat := if x < i then x else x + 1
section
variable {n m : Nat} {can : Nat → Nat → Bool} {t : Nat → Nat → Int}
theorem Mt.bd {J : Nat → Int} (h : Mt n m can J) {i : Nat} (hi : i < n) : -1 ≤ J i ∧ J i < m := by
  rcases h.ok i hi with e | ⟨k, e, hk, _⟩ <;> omega
theorem IsMax.congr {fr fr' : Nat → Prop} {v : Int} (h : IsMax n m can t fr v) (hf : ∀ k, fr k ↔ fr' k) : IsMax n m can t fr' v := by
  have : fr = fr' := funext fun k => propext (hf k)
  rw [← this]; exact h
theorem mem_joins {l : List Int} {u : Nat} : l ∈ joinsL can m n 0 u ↔ l.length = n ∧ Mt n m can (fnJ l) ∧ ∀ k, u.testBit k = true → ¬ Usd n (fnJ l) k := by
  constructor
  · intro h
    obtain ⟨h1, h2, _⟩ := list_mt (t := fun _ _ => 0) h
    exact ⟨(mem_joinsL.1 h).1, h1, h2⟩
  · rintro ⟨h1, h2⟩
    exact mem_joinsL.2 ⟨h1, okJ_mt.2 (by rw [h1]; exact h2)⟩
theorem val_joins {l : List Int} (h : l.length = n) : valJ t 0 l = wt t n (fnJ l) := by rw [valJ_wt, h]
theorem fn_map {f : Nat → Int} {j : Nat} (h : j < n) : fnJ ((List.range n).map f) j = f j := range_getD h
theorem Mt.congr {J J' : Nat → Int} (h : Mt n m can J) (he : ∀ i, i < n → J i = J' i) : Mt n m can J' := by
  refine ⟨fun i hi => by rw [← he i hi]; exact h.ok i hi, fun i j hi hj hij e => ?_⟩
  rw [← he i hi, ← he j hj] at e
  rw [← he i hi]
  exact h.inj i j hi hj hij e
end
end Go.Proofs.Ytgeijboidfadaaa.Fd
namespace Go.Proofs.Ytgeijboidfadaaa.Fd
set_option linter.all false
open Go

theorem gets {α : Type} {l : List α} {k : Nat} (h : k < l.length) (d : α) : l[((k : Nat) : Int).toNat]? = some (l.getD k d) := by simp [List.getD, h]
theorem getD_mem {α : Type} {l : List α} {i : Nat} {d : α} (h : i < l.length) : l.getD i d ∈ l := by
  simp [List.getD, h]
theorem nat_succ (k : Nat) : ((k + 1 : Nat) : Int) = (k : Int) + 1 := by omega
theorem in_v (N : Nat) (n lo hi : Int) : in__S N n lo hi = some (decide (lo ≤ n ∧ n ≤ hi)) := by
  unfold in__S br
  by_cases h : lo ≤ n <;> simp [h]
theorem every_gen {α : Type} {f : α → Option Bool} {p : α → Bool} {s : List α} {N : Nat} (hf : ∀ x ∈ s, f x = some (p x)) (hs : s.length ≤ 1000000) (hN : s.length < N) :
    (((ixS (fun x => (f x).bind fun c => some (!c)) N s).bind fun x => some (decide (0 ≤ x))).bind fun x => some (!x)) = some (s.all p) := by
  rw [ixS_any (p := fun x => !p x) (fun x hx => by rw [hf x hx]; rfl) hs hN]
  simp only [Option.bind_some, any_not]
/-- The limits of a desk's numbers. -/
def okv (x : Int) : Bool := decide (-1 ≤ x ∧ x ≤ 5)
def okw (x : Int) : Bool := decide (1 ≤ x ∧ x ≤ 9)
def okr (x : Int) : Bool := decide (0 ≤ x ∧ x ≤ 99)
def okl (n : Nat) (r : List Int) : Bool := decide (r.length = n)
/-- What is looked at is small. -/
structure Sm (W : List Int) (L F : List (List Int)) (R : List Int) : Prop where
  w : W.length ≤ 100
  l : L.length ≤ 100
  f : F.length ≤ 100
  r : R.length ≤ 100
  lr : ∀ x ∈ L, x.length ≤ 100
  fr : ∀ x ∈ F, x.length ≤ 100
section
variable (N : Nat)
theorem ixfv_gen : ∀ (n : Nat) (s : List Int) (u u2 : Int), ixfv_l1 N n s u u2 = ixL (every1v_S N) n s u u2
  | 0, _, _, _ => rfl
  | n + 1, s, u, u2 => by unfold ixfv_l1 ixL; simp only [ixfv_gen n]
theorem ixfva_gen : ∀ (n : Nat) (s : List (List Int)) (u u2 : Int), ixfva_l1 N n s u u2 = ixL (every1va_S N) n s u u2
  | 0, _, _, _ => rfl
  | n + 1, s, u, u2 => by unfold ixfva_l1 ixL; simp only [ixfva_gen n]
theorem ixfw_gen : ∀ (n : Nat) (s : List Int) (u u2 : Int), ixfw_l1 N n s u u2 = ixL (every1w_S N) n s u u2
  | 0, _, _, _ => rfl
  | n + 1, s, u, u2 => by unfold ixfw_l1 ixL; simp only [ixfw_gen n]
theorem ixfr_gen : ∀ (n : Nat) (s : List Int) (u u2 : Int), ixfr_l1 N n s u u2 = ixL (every1r_S N) n s u u2
  | 0, _, _, _ => rfl
  | n + 1, s, u, u2 => by unfold ixfr_l1 ixL; simp only [ixfr_gen n]
end
section
variable {N : Nat} {W : List Int} {s : Int} {L F : List (List Int)} {R : List Int}
theorem everyv_v {l : List Int} (h : l.length ≤ 1000000) (hN : l.length < N) : everyv_S N l = some (l.all okv) := by
  unfold everyv_S cofv_S ixfv_S
  rw [← every_gen (f := check21_S N) (p := okv) (s := l) (N := N) (fun x _ => ?_) h hN]
  · unfold ixS
    rw [ixfv_gen]
    rfl
  · unfold check21_S okv
    rw [in_v]; rfl
theorem everyw_v {l : List Int} (h : l.length ≤ 1000000) (hN : l.length < N) : everyw_S N l = some (l.all okw) := by
  unfold everyw_S cofw_S ixfw_S
  rw [← every_gen (f := check3_S N) (p := okw) (s := l) (N := N) (fun x _ => ?_) h hN]
  · unfold ixS
    rw [ixfw_gen]
    rfl
  · unfold check3_S okw
    rw [in_v]; rfl
theorem everyr_v {l : List Int} (h : l.length ≤ 1000000) (hN : l.length < N) : everyr_S N l = some (l.all okr) := by
  unfold everyr_S cofr_S ixfr_S
  rw [← every_gen (f := check4_S N) (p := okr) (s := l) (N := N) (fun x _ => ?_) h hN]
  · unfold ixS
    rw [ixfr_gen]
    rfl
  · unfold check4_S okr
    rw [in_v]; rfl
theorem everyva_v {l : List (List Int)} (h : l.length ≤ 1000000) (hN : l.length < N) (hr : ∀ x ∈ l, x.length ≤ 1000000 ∧ x.length < N) : everyva_S N l = some (l.all fun r => r.all okv) := by
  unfold everyva_S cofva_S ixfva_S
  rw [← every_gen (f := check2_S N) (p := fun r => r.all okv) (s := l) (N := N) (fun x hx => ?_) h hN]
  · unfold ixS
    rw [ixfva_gen]
    rfl
  · unfold check2_S
    rw [everyv_v (hr x hx).1 (hr x hx).2]; rfl
theorem ixflo_gen : ∀ (n : Nat) (l : List (List Int)) (u u2 : Int), ixflo_l1 N n l u u2 (W, s, L, F, R) = (ixL (fun x => some (!okl W.length x)) n l u u2).map fun r => match r with | .inl i => .inl (i, (W, s, L, F, R)) | .inr _ => .inr (W, s, L, F, R)
  | 0, _, _, _ => rfl
  | n + 1, l, u, u2 => by
    have e : ∀ x, every1lo_S N x (W, s, L, F, R) = some (!okl W.length x, (W, s, L, F, R)) := fun x => by
      unfold every1lo_S check1_S okl
      simp only [Option.bind_some]
      congr 3
      exact decide_eq_decide.2 (by omega)
    unfold ixflo_l1 ixL
    simp only [e, Option.bind_some, ixflo_gen n]
    unfold br
    split
    · unfold idx
      split
      · cases l[u2.toNat]? with
        | none => rfl
        | some a =>
          dsimp only
          cases okl W.length a
          · rfl
          · simp only [Bool.not_true, Bool.false_eq_true, if_false]
            unfold chk
            split <;> rfl
      · rfl
    · rfl
theorem everylo_v {l : List (List Int)} (h : l.length ≤ 1000000) (hN : l.length < N) : everylo_S N l (W, s, L, F, R) = some (l.all (okl W.length)) := by
  unfold everylo_S coflo_S ixflo_S
  rw [← every_gen (f := fun x => some (okl W.length x)) (p := okl W.length) (s := l) (N := N) (fun x _ => rfl) h hN]
  unfold ixS
  rw [ixflo_gen]
  simp only [Option.bind_some]
  cases ixL (fun x => some (!okl W.length x)) N l l.length 0 with
  | none => rfl
  | some r => cases r <;> rfl
end
/-- The error of a desk. -/
def errD (W : List Int) (s : Int) (L F : List (List Int)) (R : List Int) : Int :=
  if ¬ (1 ≤ (W.length : Int) ∧ (W.length : Int) ≤ 5) then 2 else if 6 < (L.length : Int) then 2 else if 6 < (F.length : Int) then 2 else if L.all (okl W.length) = false then 2 else if F.all (okl W.length) = false then 2 else
  if ¬ ((R.length : Int) = (L.length : Int)) then 2 else if (W.all okw && decide (0 ≤ s ∧ s ≤ 3) && R.all okr && (L.all fun r => r.all okv) && F.all fun r => r.all okv) = true then 0 else 3
section
variable {N : Nat} {W : List Int} {s : Int} {L F : List (List Int)} {R : List Int}
theorem check_v (hN : 110 ≤ N) (h : Sm W L F R) : check_S N W s L F R = some (errD W s L F R) := by
  obtain ⟨hw, hl, hf, hr, hlr, hfr⟩ := h
  unfold check_S errD
  rw [in_v]
  simp only [Option.bind_some]
  by_cases c1 : 1 ≤ (W.length : Int) ∧ (W.length : Int) ≤ 5
  rotate_left
  · rw [br_nnd c1, if_pos c1]
  rw [br_nd c1, if_neg (by simpa using c1)]
  by_cases c2 : 6 < (L.length : Int)
  · rw [br_dec c2, if_pos c2]
  rw [br_ndec c2, if_neg c2]
  by_cases c3 : 6 < (F.length : Int)
  · rw [br_dec c3, if_pos c3]
  rw [br_ndec c3, if_neg c3, everylo_v (by omega) (by omega), everylo_v (by omega) (by omega), everyw_v (by omega) (by omega), in_v, everyr_v (by omega) (by omega),
    everyva_v (by omega) (by omega) (fun x hx => ⟨by have := hlr x hx; omega, by have := hlr x hx; omega⟩), everyva_v (by omega) (by omega) (fun x hx => ⟨by have := hfr x hx; omega, by have := hfr x hx; omega⟩)]
  simp only [Option.bind_some]
  cases L.all (okl W.length)
  · rfl
  cases F.all (okl W.length)
  · rfl
  by_cases c4 : (R.length : Int) = (L.length : Int)
  rotate_left
  · simp only [Bool.not_true, br_false, Bool.true_eq_false, if_false]
    rw [br_nnd c4, if_pos c4]
  simp only [Bool.not_true, br_false, Bool.true_eq_false, if_false]
  rw [br_nd c4, if_neg (not_not_intro c4)]
  cases W.all okw <;> cases decide (0 ≤ s ∧ s ≤ 3) <;> cases R.all okr <;> cases (L.all fun r => r.all okv) <;> cases (F.all fun r => r.all okv) <;> rfl
end
section
variable {N : Nat}
theorem copyi_v {l : List Int} (h : l.length ≤ 1000000) : copyi_S N l = some l := by
  unfold copyi_S
  rw [grd_eq (lmI_iff.2 (by omega))]
  simp
theorem take_succ' {α : Type} {l : List α} {k : Nat} (c : k < l.length) (d : α) : l.take (k + 1) = l.take k ++ [l.getD k d] := by
  rw [List.take_add_one]; simp [List.getD, c]
end
end Go.Proofs.Ytgeijboidfadaaa.Fd
namespace Go.Proofs.Ytgeijboidfadaaa.Fd
set_option linter.all false
open Go

def tabA (g : Nat → Int) : List Int := (List.range 36).map g
theorem tabA_len (g : Nat → Int) : (tabA g).length = 36 := by simp [tabA]
theorem tabA_get {g : Nat → Int} {x : Nat} (h : x < 36) : (tabA g).getD x 0 = g x := by simp [tabA, List.getD, h]
theorem tabA_set (g : Nat → Int) (x : Nat) (v : Int) : (tabA g).set x v = tabA (upd g x v) := by
  refine List.ext_getElem (by simp [tabA]) fun i h1 h2 => ?_
  simp only [tabA, List.getElem_set, List.getElem_map, List.getElem_range, upd]
  by_cases e : x = i
  · rw [if_pos e, if_pos e.symm]
  · rw [if_neg e, if_neg (Ne.symm e)]
/-- What two descriptions agree in, and how often they slip, up to a trait. -/
def agA (W a b : List Int) (t : Nat) : Int := if a.getD t 0 = b.getD t 0 ∧ a.getD t 0 ≠ -1 then W.getD t 0 else 0
def slA (a b : List Int) (t : Nat) : Int := if a.getD t 0 ≠ -1 ∧ b.getD t 0 ≠ -1 ∧ a.getD t 0 ≠ b.getD t 0 then 1 else 0
def agP (W a b : List Int) (k : Nat) : Int := sumN (agA W a b) k
def slP (a b : List Int) (k : Nat) : Int := sumN (slA a b) k
def agF (W : List Int) (L F : List (List Int)) (i k : Nat) : Int := if i < L.length ∧ k < F.length then agP W (L.getD i []) (F.getD k []) W.length else 0
def slF (W : List Int) (L F : List (List Int)) (i k : Nat) : Int := if i < L.length ∧ k < F.length then slP (L.getD i []) (F.getD k []) W.length else 0
theorem sumN_bound {f : Nat → Int} {m : Int} (h : ∀ i, 0 ≤ f i ∧ f i ≤ m) (hm : 0 ≤ m ∧ m ≤ 10) : ∀ n : Nat, n ≤ 1000 → 0 ≤ sumN f n ∧ sumN f n ≤ 10 * n
  | 0, _ => by simp [sumN]
  | n + 1, hn => by
    have h1 := sumN_bound h hm n (by omega)
    have h2 := h n
    rw [sumN]; omega
/-- A desk without an error. -/
structure Fine (W : List Int) (s : Int) (L F : List (List Int)) (R : List Int) : Prop where
  w1 : 1 ≤ W.length
  w5 : W.length ≤ 5
  l6 : L.length ≤ 6
  f6 : F.length ≤ 6
  lw : ∀ x ∈ L, x.length = W.length
  fw : ∀ x ∈ F, x.length = W.length
  rl : R.length = L.length
  w : ∀ x ∈ W, 1 ≤ x ∧ x ≤ 9
  s : 0 ≤ s ∧ s ≤ 3
  r : ∀ x ∈ R, 0 ≤ x ∧ x ≤ 99
  lv : ∀ r ∈ L, ∀ x ∈ r, -1 ≤ x ∧ x ≤ 5
  fv : ∀ r ∈ F, ∀ x ∈ r, -1 ≤ x ∧ x ≤ 5
section
variable {W : List Int} {s : Int} {L F : List (List Int)} {R : List Int}
theorem errD_iff : errD W s L F R = 0 ↔ Fine W s L F R := by
  unfold errD
  constructor
  · intro h
    split at h
    · cases h
    rename_i c1
    split at h
    · cases h
    rename_i c2
    split at h
    · cases h
    rename_i c3
    split at h
    · cases h
    rename_i c4
    split at h
    · cases h
    rename_i c5
    split at h
    · cases h
    rename_i c6
    split at h
    rotate_left
    · cases h
    rename_i c7
    simp only [Bool.and_eq_true, List.all_eq_true, okw, okr, okv, decide_eq_true_eq] at c7
    simp only [Bool.not_eq_false, List.all_eq_true, okl, decide_eq_true_eq] at c4 c5
    exact ⟨by omega, by omega, by omega, by omega, c4, c5, by omega, c7.1.1.1.1, c7.1.1.1.2, c7.1.1.2, c7.1.2, c7.2⟩
  · intro h
    have c4 : L.all (okl W.length) = true := by simpa [okl] using h.lw
    have c5 : F.all (okl W.length) = true := by simpa [okl] using h.fw
    have h1 := h.w1; have h2 := h.w5; have h3 := h.l6; have h4 := h.f6; have h5 := h.rl
    rw [if_neg (by omega), if_neg (by omega), if_neg (by omega), if_neg (by simp [c4]), if_neg (by simp [c5]), if_neg (by omega), if_pos]
    simp only [Bool.and_eq_true, List.all_eq_true, okw, okr, okv, decide_eq_true_eq]
    exact ⟨⟨⟨⟨h.w, h.s⟩, h.r⟩, h.lv⟩, h.fv⟩
theorem Fine.sm (h : Fine W s L F R) : Sm W L F R := by
  have h1 := h.w1; have h2 := h.w5; have h3 := h.l6; have h4 := h.f6; have h5 := h.rl
  exact ⟨by omega, by omega, by omega, by omega, fun x hx => by have := h.lw x hx; omega, fun x hx => by have := h.fw x hx; omega⟩
/-- The desk at work. -/
def dkT (W : List Int) (s : Int) (L F : List (List Int)) (R : List Int) (A B : Nat → Nat → Int) : Dk := (W, s, L, F, R, tabA (fun x => A (x / 6) (x % 6)), tabA (fun x => B (x / 6) (x % 6)), ())
def dkO (W : List Int) (s : Int) (L F : List (List Int)) (R : List Int) : Dk := dkT W s L F R (agF W L F) (slF W L F)
theorem getD_W (hw : ∀ x ∈ W, 1 ≤ x ∧ x ≤ 9) (t : Nat) : 0 ≤ W.getD t 0 ∧ W.getD t 0 ≤ 9 := by
  by_cases h : t < W.length
  · have := hw _ (getD_mem (d := 0) h); omega
  · have : W.getD t 0 = 0 := by simp [List.getD, List.getElem?_eq_none (show W.length ≤ t by omega)]
    omega
theorem agA_bound (hw : ∀ x ∈ W, 1 ≤ x ∧ x ≤ 9) (a b : List Int) (t : Nat) : 0 ≤ agA W a b t ∧ agA W a b t ≤ 9 := by
  have := getD_W hw t
  unfold agA; split <;> omega
theorem slA_bound (a b : List Int) (t : Nat) : 0 ≤ slA a b t ∧ slA a b t ≤ 1 := by unfold slA; split <;> omega
theorem agP_bound (hw : ∀ x ∈ W, 1 ≤ x ∧ x ≤ 9) (a b : List Int) {t : Nat} (ht : t ≤ 5) : 0 ≤ agP W a b t ∧ agP W a b t ≤ 50 := by
  have := sumN_bound (agA_bound hw a b) (by omega) t (by omega)
  unfold agP; omega
theorem slP_bound (a b : List Int) {t : Nat} (ht : t ≤ 5) : 0 ≤ slP a b t ∧ slP a b t ≤ 50 := by
  have := sumN_bound (slA_bound a b) (by omega) t (by omega)
  unfold slP; omega
theorem upd_upd {α : Type} (J : Nat → α) (i : Nat) (v w : α) : upd (upd J i v) i w = upd J i w := by
  funext x; unfold upd; split <;> rfl
theorem upd_id {α : Type} (J : Nat → α) (i : Nat) : upd J i (J i) = J := by
  funext x; unfold upd; split
  · rename_i e; rw [e]
  · rfl
theorem opened_l3_p {N : Nat} (h : Fine W s L F R) {i k : Nat} (hi : i < 6) (hk : k < 6) {a b : List Int} (ha : a.length = W.length) (hb : b.length = W.length) {u u4 : List (List Int)} {u2 u3 u5 u6 : Int} {o1 o5 : List Int} {o2 : Int} {o3 o4 : List (List Int)} :
    ∀ (n t : Nat) (g g' : Nat → Int), W.length < n + t → t ≤ W.length → g (i * 6 + k) = agP W a b t → g' (i * 6 + k) = slP a b t →
      opened_l3 N n i a k b u u2 u3 u4 u5 u6 a a.length t W s L F R o1 o2 o3 o4 o5 (tabA g) (tabA g') = some ((i : Int), a, u, u2, u3, u4, u5, u6, W, s, L, F, R, o1, o2, o3, o4, o5, tabA (upd g (i * 6 + k) (agP W a b W.length)), tabA (upd g' (i * 6 + k) (slP a b W.length)))
  | 0, t, _, _, hn, ht, _, _ => by omega
  | n + 1, t, g, g', hn, ht, e1, e2 => by
    unfold opened_l3
    have hw5 := h.w5
    by_cases c : t < W.length
    · have hx : i * 6 + k < 36 := by omega
      have hj : ∀ g g' : Nat → Int, opened_j1 N (opened_l3 N n) i a k b u u2 u3 u4 u5 u6 a a.length t W s L F R o1 o2 o3 o4 o5 (tabA g) (tabA g') = opened_l3 N n i a k b u u2 u3 u4 u5 u6 a a.length ((t + 1 : Nat) : Int) W s L F R o1 o2 o3 o4 o5 (tabA g) (tabA g') := fun g g' => by
        unfold opened_j1
        rw [chk_eq (by omega)]; rfl
      have b1 := agP_bound h.w a b (t := t) (by omega)
      have b2 := slP_bound a b (t := t) (by omega)
      have b3 := getD_W h.w t
      have s1 : agP W a b (t + 1) = agP W a b t + agA W a b t := rfl
      have s2 : slP a b (t + 1) = slP a b t + slA a b t := rfl
      rw [br_dec (by omega), idx_eq (by omega) (gets (by omega) 0)]
      unfold agA at s1
      unfold slA at s2
      by_cases c1 : a.getD t 0 = -1
      · rw [if_neg (by omega)] at s1 s2
        rw [br_dec c1, hj, opened_l3_p h hi hk ha hb n (t + 1) g g' (by omega) (by omega) (by omega) (by omega)]
      rw [br_ndec c1, idx_eq (by omega) (gets (by omega) 0)]
      by_cases c2 : b.getD t 0 = -1
      · rw [if_neg (by omega)] at s1 s2
        rw [br_dec c2, hj, opened_l3_p h hi hk ha hb n (t + 1) g g' (by omega) (by omega) (by omega) (by omega)]
      rw [br_ndec c2, idx_eq (by omega) (gets (by omega) 0)]
      by_cases c3 : a.getD t 0 = b.getD t 0
      · rw [if_pos ⟨c3, c1⟩] at s1
        rw [if_neg (by omega)] at s2
        rw [br_dec c3, rng_eq (by omega), rng_eq (by omega)]
        simp only [Int.toNat_natCast]
        rw [get_get 0 (by rw [tabA_len]; exact hx), tabA_get hx, e1, idx_eq (by omega) (gets (k := t) (l := W) (by omega) 0), chk_eq (by omega), rng_eq (by omega), rng_eq (by omega), get_get 0 (by rw [tabA_len]; exact hx), tabA_set, hj,
          opened_l3_p h hi hk ha hb n (t + 1) _ _ (by omega) (by omega) (by rw [upd_self]; omega) (by omega), upd_upd]
      · rw [if_neg (by omega)] at s1
        rw [if_pos ⟨c1, c2, c3⟩] at s2
        rw [br_ndec c3, rng_eq (by omega), rng_eq (by omega)]
        simp only [Int.toNat_natCast]
        rw [get_get 0 (by rw [tabA_len]; exact hx), tabA_get hx, e2, chk_eq (by omega), rng_eq (by omega), rng_eq (by omega), get_get 0 (by rw [tabA_len]; exact hx), tabA_set, hj,
          opened_l3_p h hi hk ha hb n (t + 1) _ _ (by omega) (by omega) (by omega) (by rw [upd_self]; omega), upd_upd]
    · obtain rfl : t = W.length := by omega
      rw [br_ndec (by omega), ← e1, ← e2, upd_id, upd_id]
/-- Tables that are filled up to a pair. -/
def gK (A : Nat → Nat → Int) (i k : Nat) : Nat → Int := fun x => if x / 6 < i ∨ (x / 6 = i ∧ x % 6 < k) then A (x / 6) (x % 6) else 0
theorem gK_step (A : Nat → Nat → Int) {i k : Nat} (hk : k < 6) : upd (gK A i k) (i * 6 + k) (A i k) = gK A i (k + 1) := by
  funext x
  unfold upd gK
  by_cases e : x = i * 6 + k
  · rw [if_pos e, if_pos (by omega), show x / 6 = i by omega, show x % 6 = k by omega]
  · rw [if_neg e]
    by_cases c : x / 6 < i ∨ (x / 6 = i ∧ x % 6 < k)
    · rw [if_pos c, if_pos (by omega)]
    · rw [if_neg c, if_neg (by omega)]
theorem gK_self (A : Nat → Nat → Int) {i k : Nat} (hk : k < 6) : gK A i k (i * 6 + k) = 0 := if_neg (by omega)
theorem gK_row {A : Nat → Nat → Int} {i m : Nat} (h : ∀ k, m ≤ k → A i k = 0) : gK A i m = gK A (i + 1) 0 := by
  funext x
  unfold gK
  by_cases c : x / 6 < i ∨ (x / 6 = i ∧ x % 6 < m)
  · rw [if_pos c, if_pos (by omega)]
  · rw [if_neg c]
    by_cases d : x / 6 = i
    · rw [if_pos (by omega), d, h _ (by omega)]
    · rw [if_neg (by omega)]
theorem gK_all {A : Nat → Nat → Int} {n : Nat} (h : ∀ i k, n ≤ i → A i k = 0) : gK A n 0 = fun x => A (x / 6) (x % 6) := by
  funext x
  unfold gK
  by_cases c : x / 6 < n
  · rw [if_pos (.inl c)]
  · rw [if_neg (by omega), h _ _ (by omega)]
theorem opened_l2_p {N : Nat} (hN : 110 ≤ N) (h : Fine W s L F R) {i : Nat} (hi : i < L.length) {u : List (List Int)} {u2 u3 : Int} {o1 o5 : List Int} {o2 : Int} {o3 o4 : List (List Int)} :
    ∀ (n k : Nat), F.length < n + k → k ≤ F.length →
      opened_l2 N n i (L.getD i []) u u2 u3 F F.length k W s L F R o1 o2 o3 o4 o5 (tabA (gK (agF W L F) i k)) (tabA (gK (slF W L F) i k)) = some (u, u2, u3, W, s, L, F, R, o1, o2, o3, o4, o5, tabA (gK (agF W L F) (i + 1) 0), tabA (gK (slF W L F) (i + 1) 0))
  | 0, k, hn, hk => by omega
  | n + 1, k, hn, hk => by
    unfold opened_l2
    have hl6 := h.l6; have hf6 := h.f6; have hw5 := h.w5
    by_cases c : k < F.length
    · have ih := opened_l2_p hN h hi (u := u) (u2 := u2) (u3 := u3) (o1 := o1) (o5 := o5) (o2 := o2) (o3 := o3) (o4 := o4) n (k + 1) (by omega) (by omega)
      rw [nat_succ] at ih
      have e := opened_l3_p (N := N) h (i := i) (k := k) (by omega) (by omega) (h.lw _ (getD_mem (d := []) hi)) (h.fw _ (getD_mem (d := []) c)) (u := u) (u4 := F) (u2 := u2) (u3 := u3) (u5 := F.length) (u6 := k) (o1 := o1) (o5 := o5) (o2 := o2) (o3 := o3) (o4 := o4)
        N 0 (gK (agF W L F) i k) (gK (slF W L F) i k) (by omega) (by omega) (gK_self _ (by omega)) (gK_self _ (by omega))
      have a1 : agP W (L.getD i []) (F.getD k []) W.length = agF W L F i k := (if_pos ⟨hi, c⟩).symm
      have a2 : slP (L.getD i []) (F.getD k []) W.length = slF W L F i k := (if_pos ⟨hi, c⟩).symm
      rw [a1, a2, gK_step _ (by omega), gK_step _ (by omega), show ((0 : Nat) : Int) = 0 from rfl] at e
      rw [br_dec (by omega), idx_eq (by omega) (gets c []), e]
      simp only [Option.bind_some]
      rw [chk_eq (by omega)]
      exact ih
    · obtain rfl : k = F.length := by omega
      rw [br_ndec (by omega), gK_row (A := agF W L F) (i := i) (m := F.length) (fun k hk => by unfold agF; exact if_neg (by omega)), gK_row (A := slF W L F) (i := i) (m := F.length) (fun k hk => by unfold slF; exact if_neg (by omega))]
theorem opened_l1_p {N : Nat} (hN : 110 ≤ N) (h : Fine W s L F R) {o1 o5 : List Int} {o2 : Int} {o3 o4 : List (List Int)} :
    ∀ (n i : Nat), L.length < n + i → i ≤ L.length →
      opened_l1 N n L L.length i W s L F R o1 o2 o3 o4 o5 (tabA (gK (agF W L F) i 0)) (tabA (gK (slF W L F) i 0)) = some (o1, o2, o3, o4, o5, tabA (fun x => agF W L F (x / 6) (x % 6)), tabA (fun x => slF W L F (x / 6) (x % 6)))
  | 0, i, hn, hi => by omega
  | n + 1, i, hn, hi => by
    unfold opened_l1
    have hl6 := h.l6; have hf6 := h.f6
    by_cases c : i < L.length
    · have ih := opened_l1_p hN h (o1 := o1) (o5 := o5) (o2 := o2) (o3 := o3) (o4 := o4) n (i + 1) (by omega) (by omega)
      rw [nat_succ] at ih
      have e := opened_l2_p hN h c (u := L) (u2 := L.length) (u3 := i) (o1 := o1) (o5 := o5) (o2 := o2) (o3 := o3) (o4 := o4) N 0 (by omega) (by omega)
      rw [show ((0 : Nat) : Int) = 0 from rfl] at e
      rw [br_dec (by omega), idx_eq (by omega) (gets c []), e]
      simp only [Option.bind_some]
      rw [chk_eq (by omega)]
      exact ih
    · obtain rfl : i = L.length := by omega
      rw [br_ndec (by omega), gK_all (A := agF W L F) (fun i k hi => by unfold agF; exact if_neg (by omega)), gK_all (A := slF W L F) (fun i k hi => by unfold slF; exact if_neg (by omega))]
theorem opened_v {N : Nat} (hN : 110 ≤ N) (h : Sm W L F R) : opened_S N W s L F R = some (if errD W s L F R = 0 then .inl (dkO W s L F R, 0) else .inr (errD W s L F R)) := by
  unfold opened_S
  rw [check_v hN h]
  simp only [Option.bind_some]
  by_cases c : errD W s L F R = 0
  · have hF := errD_iff.1 c
    have e := opened_l1_p hN hF (o1 := W) (o2 := s) (o3 := L) (o4 := F) (o5 := R) N 0 (by have := hF.l6; omega) (by omega)
    have z : ∀ A : Nat → Nat → Int, tabA (gK A 0 0) = List.replicate 36 (0 : Int) := fun A => by
      rw [show gK A 0 0 = fun _ => 0 by funext x; exact if_neg (by omega)]; rfl
    rw [z, z, show ((0 : Nat) : Int) = 0 from rfl] at e
    rw [br_nd c, if_pos c, e]; rfl
  · rw [br_nnd c, if_neg c]
end
end Go.Proofs.Ytgeijboidfadaaa.Fd
namespace Go.Proofs.Ytgeijboidfadaaa.Fd
set_option linter.all false
open Go

def canT (A B : Nat → Nat → Int) (s : Int) (i k : Nat) : Bool := decide (0 < A i k) && decide (B i k ≤ s)
section
variable {W : List Int} {s : Int} {L F : List (List Int)} {R : List Int} {A B : Nat → Nat → Int} {N : Nat}
theorem agD_T {i k : Nat} (hi : i < 6) (hk : k < 6) : agD (dkT W s L F R A B) i k = A i k := by
  unfold agD dkT
  rw [tabA_get (by omega), show (i * 6 + k) / 6 = i by omega, show (i * 6 + k) % 6 = k by omega]
theorem slD_T {i k : Nat} (hi : i < 6) (hk : k < 6) : slD (dkT W s L F R A B) i k = B i k := by
  unfold slD dkT
  rw [tabA_get (by omega), show (i * 6 + k) / 6 = i by omega, show (i * 6 + k) % 6 = k by omega]
theorem can_T {i k : Nat} (hi : i < 6) (hk : k < 6) : can_S N (dkT W s L F R A B) i k = some (canT A B s i k) := by
  rw [can_v (tabA_len _) (tabA_len _) hi hk]
  unfold canD canT
  rw [agD_T hi hk, slD_T hi hk]; rfl
theorem get_T {i k : Nat} (hi : i < 6) (hk : k < 6) {Z : Type} {f : Int → Option Z} : get (dkT W s L F R A B).2.2.2.2.2.1 (i * 6 + k) f = f (A i k) := by
  have e := agD_T (W := W) (s := s) (L := L) (F := F) (R := R) (A := A) (B := B) hi hk
  unfold agD at e
  rw [get_get 0 (by unfold dkT; rw [tabA_len]; omega), e]
theorem get_T2 {i k : Nat} (hi : i < 6) (hk : k < 6) {Z : Type} {f : Int → Option Z} : get (dkT W s L F R A B).2.2.2.2.2.2.1 (i * 6 + k) f = f (B i k) := by
  have e := slD_T (W := W) (s := s) (L := L) (F := F) (R := R) (A := A) (B := B) hi hk
  unfold slD at e
  rw [get_get 0 (by unfold dkT; rw [tabA_len]; omega), e]
abbrev canF (W : List Int) (s : Int) (L F : List (List Int)) : Nat → Nat → Bool := canT (agF W L F) (slF W L F) s
theorem dfound_v (h : F.length ≤ 1000000) (x : Int) : dfound_S N (dkT W s L F R A B) x = some (decide (0 ≤ x ∧ x ≤ (F.length : Int) - 1)) := by
  unfold dfound_S
  rw [in_v]
  exact chk_eq (by simp only [dkT]; omega)
theorem dlost_v (h : L.length ≤ 1000000) (x : Int) : dlost_S N (dkT W s L F R A B) x = some (decide (0 ≤ x ∧ x ≤ (L.length : Int) - 1)) := by
  unfold dlost_S
  rw [in_v]
  exact chk_eq (by simp only [dkT]; omega)
end
end Go.Proofs.Ytgeijboidfadaaa.Fd
namespace Go.Proofs.Ytgeijboidfadaaa.Fd
set_option linter.all false
open Go

section
variable {W : List Int} {s : Int} {L F : List (List Int)} {R : List Int} {A B : Nat → Nat → Int} {N : Nat}
def mayE (can : Nat → Nat → Bool) (m i : Nat) : List (Int × Unit) := (mayL can m i).map fun (j : Nat) => ((j : Int), ())
theorem mayR_T (hF : F.length ≤ 6) {i : Nat} (hi : i < 6) : mayR (dkT W s L F R A B) (dkT W s L F R A B) i = some (mayE (canT A B s) F.length i) := by
  unfold mayR mayE mayL mayF
  rw [if_pos ⟨⟨by omega, by omega⟩, hF, tabA_len _, tabA_len _⟩]
  congr 2
  simp only [Int.toNat_natCast, Nat.sub_zero]
  rw [← List.range_eq_range']
  refine List.filter_congr fun k hk => ?_
  have hk : k < F.length := by simpa [dkT] using hk
  unfold canD canT
  rw [agD_T hi (by omega), slD_T hi (by omega)]; rfl
end
end Go.Proofs.Ytgeijboidfadaaa.Fd
namespace Go.Proofs.Ytgeijboidfadaaa.Fd
set_option linter.all false
open Go

abbrev MK := List ((Int × Int) × (Int × (Int × Int)))
def lkM (g : MK) (i u : Int) : Option (Int × (Int × Int)) := (g.find? fun (y : (Int × Int) × (Int × (Int × Int))) => Ty.beq (.pair (.int .i64) (.int .i64)) y.1 (i, u)).map (·.2)
theorem lkM_cons (a b : Int) (v : Int × (Int × Int)) (g : MK) (i u : Int) : lkM (((a, b), v) :: g) i u = if a = i ∧ b = u then some v else lkM g i u := by
  have e : Ty.beq (.pair (.int .i64) (.int .i64)) (a, b) (i, u) = decide (a = i ∧ b = u) := by
    show (decide (a = i) && decide (b = u)) = _
    by_cases h1 : a = i <;> by_cases h2 : b = u <;> simp [h1, h2]
  unfold lkM
  rw [List.find?_cons]
  by_cases h : a = i ∧ b = u
  · rw [if_pos h, show (Ty.beq (.pair (.int .i64) (.int .i64)) (((a, b), v) : (Int × Int) × (Int × (Int × Int))).1 (i, u)) = true by rw [e, decide_eq_true h]]; rfl
  · rw [if_neg h, show (Ty.beq (.pair (.int .i64) (.int .i64)) (((a, b), v) : (Int × Int) × (Int × (Int × Int))).1 (i, u)) = false by rw [e, decide_eq_false h]]
def hasM (g : MK) (i u : Nat) : Prop := (lkM g i u).isSome = true
def subM (g g' : MK) : Prop := ∀ i u : Nat, hasM g i u → hasM g' i u
theorem subM.trans {a b c : MK} (h : subM a b) (k : subM b c) : subM a c := fun i u x => k i u (h i u x)
/-- What is remembered is right, and so is what follows from it. -/
structure MOK (can : Nat → Nat → Bool) (t : Nat → Nat → Int) (m n : Nat) (g : MK) : Prop where
  val : ∀ (i u : Nat) v, lkM g i u = some v → v = rsR can t m (n - i) i u
  clo : ∀ i u : Nat, hasM g i u → i + 1 < n → hasM g (i + 1) u ∧ ∀ k ∈ mayL can m i, u.testBit k = false → hasM g (i + 1) (u ||| 2 ^ k)
theorem MOK.nil {can : Nat → Nat → Bool} {t : Nat → Nat → Int} {m n : Nat} : MOK can t m n [] := ⟨fun i u v h => by simp [lkM] at h, fun i u h => by simp [hasM, lkM] at h⟩
theorem MOK.cons {can : Nat → Nat → Bool} {t : Nat → Nat → Int} {m n : Nat} {g : MK} (h : MOK can t m n g) {i u : Nat} (h1 : i + 1 < n → hasM g (i + 1) u ∧ ∀ k ∈ mayL can m i, u.testBit k = false → hasM g (i + 1) (u ||| 2 ^ k)) :
    MOK can t m n ((((i : Int), (u : Int)), rsR can t m (n - i) i u) :: g) ∧ subM g ((((i : Int), (u : Int)), rsR can t m (n - i) i u) :: g) ∧ hasM ((((i : Int), (u : Int)), rsR can t m (n - i) i u) :: g) i u := by
  have hsub : subM g ((((i : Int), (u : Int)), rsR can t m (n - i) i u) :: g) := fun i' u' hh => by
    unfold hasM at *
    rw [lkM_cons]
    split
    · rfl
    · exact hh
  refine ⟨⟨fun i' u' v hv => ?_, fun i' u' hh hi => ?_⟩, hsub, ?_⟩
  · rw [lkM_cons] at hv
    split at hv
    · rename_i e
      obtain rfl : i = i' := by omega
      obtain rfl : u = u' := by omega
      simp only [Option.some.injEq] at hv
      exact hv.symm
    · exact h.val i' u' v hv
  · unfold hasM at hh
    rw [lkM_cons] at hh
    split at hh
    · rename_i e
      obtain rfl : i = i' := by omega
      obtain rfl : u = u' := by omega
      exact ⟨hsub _ _ (h1 hi).1, fun k hk hb => hsub _ _ ((h1 hi).2 k hk hb)⟩
    · obtain ⟨x, y⟩ := h.clo i' u' hh hi
      exact ⟨hsub _ _ x, fun k hk hb => hsub _ _ (y k hk hb)⟩
  · unfold hasM
    rw [lkM_cons, if_pos ⟨rfl, rfl⟩]; rfl
theorem MOK.get {can : Nat → Nat → Bool} {t : Nat → Nat → Int} {m n : Nat} {g : MK} (h : MOK can t m n g) {i u : Nat} (hh : hasM g i u) : lkM g i u = some (rsR can t m (n - i) i u) := by
  unfold hasM at hh
  cases e : lkM g i u with
  | none => rw [e] at hh; cases hh
  | some v => rw [h.val i u v e]
end Go.Proofs.Ytgeijboidfadaaa.Fd
namespace Go.Proofs.Ytgeijboidfadaaa.Fd
set_option linter.all false
open Go

section
variable {W : List Int} {s : Int} {L F : List (List Int)} {R : List Int} {A B : Nat → Nat → Int} {N : Nat}
theorem map_succ (f : Nat → Int) (k : Nat) : (List.range (k + 1)).map f = (List.range k).map f ++ [f k] := by rw [List.range_succ, List.map_append]; rfl
theorem mapR_sum (f : Nat → Int) : ∀ n : Nat, ((List.range n).map f).sum = sumN f n
  | 0 => rfl
  | n + 1 => by rw [map_succ, List.sum_append, mapR_sum f n, sumN]; simp
end
end Go.Proofs.Ytgeijboidfadaaa.Fd
namespace Go.Proofs.Ytgeijboidfadaaa.Fd
set_option linter.all false
open Go

section
variable {W : List Int} {s : Int} {L F : List (List Int)} {R : List Int} {A B : Nat → Nat → Int} {N : Nat}
/-- Those of the numbers below n that are so. -/
def selN (p : Nat → Bool) (n : Nat) : List Int := ((List.range n).filter p).map fun (k : Nat) => (k : Int)
theorem selN_len (p : Nat → Bool) (n : Nat) : (selN p n).length ≤ n := by
  have := List.length_filter_le p (List.range n)
  simpa [selN] using this
theorem mem_selN {p : Nat → Bool} {n i : Nat} : (i : Int) ∈ selN p n ↔ i < n ∧ p i = true := by
  unfold selN
  rw [List.mem_map]
  constructor
  · rintro ⟨j, hj, e⟩
    rw [List.mem_filter, List.mem_range] at hj
    obtain rfl : j = i := by omega
    exact hj
  · rintro ⟨h1, h2⟩
    exact ⟨i, List.mem_filter.2 ⟨List.mem_range.2 h1, h2⟩, rfl⟩
end
end Go.Proofs.Ytgeijboidfadaaa.Fd
namespace Go.Proofs.Ytgeijboidfadaaa.Fd
set_option linter.all false
open Go

section
variable {W : List Int} {s : Int} {L F : List (List Int)} {R : List Int} {N : Nat}
theorem agree_v (hN : 110 ≤ N) (h : Sm W L F R) (a b : Int) : agree__S N W s L F R a b = some (if errD W s L F R = 0 then if ¬ (0 ≤ a ∧ a ≤ (L.length : Int) - 1) then (0, 0, false, 1) else if ¬ (0 ≤ b ∧ b ≤ (F.length : Int) - 1) then (0, 0, false, 1) else (agF W L F a.toNat b.toNat, slF W L F a.toNat b.toNat, canF W s L F a.toNat b.toNat, 0) else (0, 0, false, errD W s L F R)) := by
  unfold agree__S
  rw [opened_v hN h]
  by_cases c : errD W s L F R = 0
  rotate_left
  · rw [if_neg c, if_neg c]
    simp only [Option.bind_some]
    rw [br_nnd c]
  have hF := errD_iff.1 c
  have hl6 := hF.l6; have hf6 := hF.f6
  rw [if_pos c, if_pos c]
  simp only [Option.bind_some]
  rw [br_nd (by first | trivial | rfl)]
  unfold dkO
  rw [dlost_v (by omega), dfound_v (by omega)]
  simp only [Option.bind_some]
  by_cases c1 : 0 ≤ a ∧ a ≤ (L.length : Int) - 1
  rotate_left
  · rw [br_nnd c1, if_pos c1]
  rw [br_nd c1, if_neg (not_not_intro c1)]
  by_cases c2 : 0 ≤ b ∧ b ≤ (F.length : Int) - 1
  rotate_left
  · rw [br_nnd c2, if_pos c2]
  rw [br_nd c2, if_neg (not_not_intro c2)]
  obtain ⟨i, rfl⟩ : ∃ i : Nat, a = i := ⟨a.toNat, (Int.toNat_of_nonneg c1.1).symm⟩
  obtain ⟨k, rfl⟩ : ∃ k : Nat, b = k := ⟨b.toNat, (Int.toNat_of_nonneg c2.1).symm⟩
  rw [rng_eq (by omega), rng_eq (by omega)]
  simp only [Int.toNat_natCast]
  rw [get_T (by omega) (by omega), rng_eq (by omega), rng_eq (by omega), get_T2 (by omega) (by omega), can_T (by omega) (by omega)]
  rfl
theorem lmay_v (hN : 110 ≤ N) (h : Sm W L F R) (a : Int) : lmay_S N W s L F R a = some (if errD W s L F R = 0 then if ¬ (0 ≤ a ∧ a ≤ (L.length : Int) - 1) then ([], 1) else (selN (canF W s L F a.toNat) F.length, 0) else ([], errD W s L F R)) := by
  unfold lmay_S
  rw [opened_v hN h]
  by_cases c : errD W s L F R = 0
  rotate_left
  · rw [if_neg c, if_neg c]
    simp only [Option.bind_some]
    rw [br_nnd c]
  have hF := errD_iff.1 c
  have hl6 := hF.l6; have hf6 := hF.f6
  rw [if_pos c, if_pos c]
  simp only [Option.bind_some]
  rw [br_nd (by first | trivial | rfl), show dlost_S N (dkO W s L F R) a = _ from dlost_v (by omega) a]
  simp only [Option.bind_some]
  by_cases c1 : 0 ≤ a ∧ a ≤ (L.length : Int) - 1
  rotate_left
  · rw [br_nnd c1, if_pos c1]
  rw [br_nd c1, if_neg (not_not_intro c1)]
  obtain ⟨i, rfl⟩ : ∃ i : Nat, a = i := ⟨a.toNat, (Int.toNat_of_nonneg c1.1).symm⟩
  rw [show may_S N (dkO W s L F R) (i : Int) = some (dkO W s L F R, dkO W s L F R, (i : Int)) from rfl]
  simp only [Option.bind_some]
  unfold collect_S appseq_S dkO
  rw [mayR_T hf6 (by omega)]
  simp only [Option.map_some, Option.bind_some, Int.toNat_natCast]
  unfold mayE selN mayL
  rw [List.map_map]
  rfl
end
end Go.Proofs.Ytgeijboidfadaaa.Fd
namespace Go.Proofs.Ytgeijboidfadaaa.Fd
set_option linter.all false
open Go
theorem wrap32 (x : Int) : 0 ≤ IntKind.u32.wrap x ∧ IntKind.u32.wrap x < 4294967296 := by
  have := wrap_inR .u32 x
  have h1 : IntKind.u32.min = 0 := by decide
  have h2 : IntKind.u32.max = 4294967295 := by decide
  unfold inR at this
  rw [h1, h2] at this
  omega
def Bell (b : List Int) (b2 : Int) : Prop := b.length ≤ 9223372036854775807 ∧ 0 ≤ b2 ∧ b2 ≤ b.length
abbrev BellR (b : List Int) (r : List Int × Int × Int) : Prop := r.1 = b ∧ Bell b r.2.1
theorem and_small (n : Nat) : 0 ≤ IntKind.i64.wrap ((n &&& 65535 : Nat) : Int) ∧ IntKind.i64.wrap ((n &&& 65535 : Nat) : Int) ≤ 65535 := by
  have : n &&& 65535 ≤ 65535 := Nat.and_le_right
  rw [wrap64 (by omega)]
  omega
theorem fdiv_nonneg {x : Int} (h : 0 ≤ x) : 0 ≤ Int.fdiv x (2 ^ 7) := by
  rw [Int.fdiv_eq_ediv_of_nonneg _ (by decide)]
  exact Int.ediv_nonneg h (by decide)
theorem ring_j1_ok (N : Nat) {b : List Int} {b2 b3 : Int} (hb : b.length ≤ 9223372036854775807) (h0 : 0 ≤ b2) (h1 : b2 < b.length ∨ b.length = 0 ∧ b2 = 0) : Ok (ring_j1 N b b2 b3) fun r => (0 ≤ r.1 ∧ r.1 ≤ 65535) ∧ BellR b r.2 := by
  unfold ring_j1
  refine Ok.brd (fun h => ?_) (fun h => ?_)
  · refine Ok.idx h0 (by omega) (fun a _ _ => Ok.chk (by omega) (Ok.grd ?_ (Ok.grd ?_ (Ok.some ?_))))
    · simp only [decide_eq_true_eq]; exact ⟨(wrap32 _).1, fdiv_nonneg (wrap32 _).1⟩
    · simp only [decide_eq_true_eq]; exact ⟨Int.natCast_nonneg _, by decide⟩
    · exact ⟨and_small _, rfl, hb, by dsimp only; omega, by dsimp only; omega⟩
  · refine Ok.grd ?_ (Ok.grd ?_ (Ok.some ?_))
    · simp only [decide_eq_true_eq]; exact ⟨(wrap32 _).1, fdiv_nonneg (wrap32 _).1⟩
    · simp only [decide_eq_true_eq]; exact ⟨Int.natCast_nonneg _, by decide⟩
    · exact ⟨and_small _, rfl, hb, by dsimp only; omega, by dsimp only; omega⟩
theorem ring_ok (N : Nat) {b : List Int} {b2 b3 : Int} (hb : Bell b b2) : Ok (ring_S N b b2 b3) fun r => (0 ≤ r.1 ∧ r.1 ≤ 65535) ∧ BellR b r.2 := by
  obtain ⟨h1, h2, h3⟩ := hb
  unfold ring_S
  refine Ok.brd (fun h => ring_j1_ok N h1 (by omega) (by omega)) (fun h => ring_j1_ok N h1 h2 (by omega))
theorem stroke_ok (N : Nat) {n : Int} {b : List Int} {b2 b3 : Int} (hb : Bell b b2) (hn : -1000000 ≤ n ∧ n ≤ 1000000) : Ok (stroke_S N n b b2 b3) fun r => (0 ≤ r.1 ∧ r.1 ≤ max 0 n) ∧ BellR b r.2 := by
  unfold stroke_S
  refine Ok.bind (ring_ok N hb) (fun r hr => ?_)
  obtain ⟨x, c, c2, c3⟩ := r
  refine Ok.chk (by omega) (Ok.grd (by simp only [Bool.not_eq_true', decide_eq_false_iff_not]; omega) (Ok.some ⟨?_, hr.2⟩))
  obtain ⟨⟨h1, h2⟩, _⟩ := hr
  dsimp only at *
  have hm : 0 < max 1 (n + 1) := by omega
  have := Int.tmod_lt_of_pos x hm
  have := Int.tmod_nonneg (max 1 (n + 1)) h1
  omega
theorem strike_ok (N : Nat) {lo hi : Int} {b : List Int} {b2 b3 : Int} (hb : Bell b b2) (hn : (-1000 ≤ lo ∧ lo ≤ 1000) ∧ -1000 ≤ hi ∧ hi ≤ 1000) : Ok (strike_S N lo hi b b2 b3) fun r => (lo ≤ r.1 ∧ r.1 ≤ max lo hi) ∧ BellR b r.2 := by
  unfold strike_S
  refine Ok.chk (by omega) (Ok.bind (stroke_ok N hb (by omega)) (fun r hr => ?_))
  obtain ⟨x, c, c2, c3⟩ := r
  obtain ⟨h, h2⟩ := hr
  dsimp only at *
  refine Ok.chk (by omega) (Ok.some ⟨by dsimp only; omega, h2⟩)
theorem seldom_ok (N : Nat) {n : Int} {b : List Int} {b2 b3 : Int} (hb : Bell b b2) (hn : -1000 ≤ n ∧ n ≤ 1000) : Ok (seldom_S N n b b2 b3) fun r => BellR b r.2 := by
  unfold seldom_S
  refine Ok.chk (by omega) (Ok.bind (stroke_ok N hb (by omega)) (fun r hr => ?_))
  obtain ⟨x, c, c2, c3⟩ := r
  exact Ok.some hr.2

def BelR (b b' : List Int) (b2 : Int) : Prop := b' = b ∧ Bell b b2
section
variable {N : Nat} {b : List Int}
theorem made1_ok {often b2 b3 : Int} (ho : -1000 ≤ often ∧ often ≤ 1000) (hb : Bell b b2) : Ok (made1_S N often b b2 b3) fun r => (-1 ≤ r.1 ∧ r.1 ≤ 2) ∧ BelR b r.2.1 r.2.2.1 := by
  unfold made1_S
  refine Ok.bind (seldom_ok N hb ho) ?_
  rintro ⟨x, c1, c2, c3⟩ ⟨hc, hb1⟩
  dsimp only at hc hb1 ⊢
  obtain rfl := hc.symm
  refine Ok.br (fun _ => Ok.some ⟨by dsimp only; omega, rfl, hb1⟩) (fun _ => ?_)
  refine Ok.bind (stroke_ok N hb1 (by omega)) ?_
  rintro ⟨y, d1, d2, d3⟩ ⟨hy, hc, hb2⟩
  dsimp only at hy hc hb2 ⊢
  obtain rfl := hc.symm
  exact Ok.some ⟨by dsimp only; omega, rfl, hb2⟩
theorem made_l1_p {things u g d : Int} (hu : 0 ≤ u ∧ u ≤ 100) : ∀ (n k : Nat) (b2 b3 : Int) (W : List Int), u < n + k → (k : Int) ≤ u → Bell b b2 → W.length = k → (∀ x ∈ W, 1 ≤ x ∧ x ≤ 9) →
    Ok (made_l1 N n things u k b b2 b3 g d W) fun z => z.1 = things ∧ BelR b z.2.1 z.2.2.1 ∧ z.2.2.2.2.1 = g ∧ z.2.2.2.2.2.1 = d ∧ (z.2.2.2.2.2.2.length : Int) = u ∧ ∀ x ∈ z.2.2.2.2.2.2, 1 ≤ x ∧ x ≤ 9
  | 0, k, b2, b3, W, h, _, _, _, _ => by omega
  | n + 1, k, b2, b3, W, h, hk, hb, hW, hw => by
    unfold made_l1
    refine Ok.brd (fun c => ?_) (fun c => Ok.some ⟨rfl, ⟨rfl, hb⟩, rfl, rfl, by dsimp only; omega, hw⟩)
    refine Ok.bind (strike_ok N hb (by omega)) ?_
    rintro ⟨x, c1, c2, c3⟩ ⟨hx, hc, hb1⟩
    dsimp only at hx hc hb1 ⊢
    obtain rfl := hc.symm
    refine Ok.lim (by simp; omega) (Ok.chk (by omega) ?_)
    have := made_l1_p (things := things) (g := g) (d := d) hu n (k + 1) c2 c3 (W ++ [x]) (by omega) (by omega) hb1 (by simp [hW]) (fun w hm => by
      rcases List.mem_append.1 hm with hm | hm
      · exact hw w hm
      · simp at hm; subst hm; omega)
    rw [nat_succ] at this
    exact this
theorem made_l3_p {many often u u2 u3 g d : Int} {d2 : List Int} {d3 : List (List Int)} {d4 : List Int} (ho : 2 ≤ often ∧ often ≤ 5) (hu : 0 ≤ u3 ∧ u3 ≤ 100) : ∀ (n k : Nat) (b2 b3 : Int) (l : List Int), u3 < n + k → (k : Int) ≤ u3 → Bell b b2 → l.length = k → (∀ x ∈ l, -1 ≤ x ∧ x ≤ 2) →
    Ok (made_l3 N n many often u u2 u3 k b b2 b3 g d l d2 d3 d4) fun z => ∃ b2' b3' l', z = (many, often, u, u2, b, b2', b3', g, d, l', d2, d3, d4) ∧ Bell b b2' ∧ (l'.length : Int) = u3 ∧ ∀ x ∈ l', -1 ≤ x ∧ x ≤ 2
  | 0, k, b2, b3, l, h, _, _, _, _ => by omega
  | n + 1, k, b2, b3, l, h, hk, hb, hW, hw => by
    unfold made_l3
    refine Ok.brd (fun c => ?_) (fun c => Ok.some ⟨b2, b3, l, rfl, hb, by omega, hw⟩)
    refine Ok.bind (made1_ok (by omega) hb) ?_
    rintro ⟨x, c1, c2, c3⟩ ⟨hx, hc, hb1⟩
    dsimp only at hx hc hb1 ⊢
    obtain rfl := hc.symm
    refine Ok.lim (by simp; omega) (Ok.chk (by omega) ?_)
    have := made_l3_p (many := many) (often := often) (u := u) (u2 := u2) (g := g) (d := d) (d2 := d2) (d3 := d3) (d4 := d4) ho hu n (k + 1) c2 c3 (l ++ [x]) (by omega) (by omega) hb1 (by simp [hW]) (fun w hm => by
      rcases List.mem_append.1 hm with hm | hm
      · exact hw w hm
      · simp at hm; subst hm; omega)
    rw [nat_succ] at this
    exact this
theorem made_l5_p {often u u2 u3 g d : Int} {d2 : List Int} {d3 d4 : List (List Int)} {d5 : List Int} (ho : 2 ≤ often ∧ often ≤ 5) (hu : 0 ≤ u3 ∧ u3 ≤ 100) : ∀ (n k : Nat) (b2 b3 : Int) (l : List Int), u3 < n + k → (k : Int) ≤ u3 → Bell b b2 → l.length = k → (∀ x ∈ l, -1 ≤ x ∧ x ≤ 2) →
    Ok (made_l5 N n often u u2 u3 k b b2 b3 g d l d2 d3 d4 d5) fun z => ∃ b2' b3' l', z = (often, u, u2, b, b2', b3', g, d, l', d2, d3, d4, d5) ∧ Bell b b2' ∧ (l'.length : Int) = u3 ∧ ∀ x ∈ l', -1 ≤ x ∧ x ≤ 2
  | 0, k, b2, b3, l, h, _, _, _, _ => by omega
  | n + 1, k, b2, b3, l, h, hk, hb, hW, hw => by
    unfold made_l5
    refine Ok.brd (fun c => ?_) (fun c => Ok.some ⟨b2, b3, l, rfl, hb, by omega, hw⟩)
    refine Ok.bind (made1_ok (by omega) hb) ?_
    rintro ⟨x, c1, c2, c3⟩ ⟨hx, hc, hb1⟩
    dsimp only at hx hc hb1 ⊢
    obtain rfl := hc.symm
    refine Ok.lim (by simp; omega) (Ok.chk (by omega) ?_)
    have := made_l5_p (often := often) (u := u) (u2 := u2) (g := g) (d := d) (d2 := d2) (d3 := d3) (d4 := d4) (d5 := d5) ho hu n (k + 1) c2 c3 (l ++ [x]) (by omega) (by omega) hb1 (by simp [hW]) (fun w hm => by
      rcases List.mem_append.1 hm with hm | hm
      · exact hw w hm
      · simp at hm; subst hm; omega)
    rw [nat_succ] at this
    exact this
/-- Descriptions of so many traits. -/
def okRow (m : Nat) (r : List Int) : Prop := r.length = m ∧ ∀ x ∈ r, -1 ≤ x ∧ x ≤ 2
theorem made_l2_p (hN : 110 ≤ N) {many often u g d : Int} {W : List Int} (hW : W.length ≤ 5) (ho : 2 ≤ often ∧ often ≤ 5) (hu : 0 ≤ u ∧ u ≤ 6) : ∀ (n k : Nat) (b2 b3 : Int) (L : List (List Int)) (R : List Int), u < n + k → (k : Int) ≤ u → Bell b b2 → L.length = k → R.length = k → (∀ r ∈ L, okRow W.length r) → (∀ x ∈ R, 0 ≤ x ∧ x ≤ 99) →
    Ok (made_l2 N n many often u k b b2 b3 g d W L R) fun z => ∃ b2' b3' L' R', z = (many, often, b, b2', b3', g, d, W, L', R') ∧ Bell b b2' ∧ ((L'.length : Int) = u ∧ R'.length = L'.length) ∧ (∀ r ∈ L', okRow W.length r) ∧ ∀ x ∈ R', 0 ≤ x ∧ x ≤ 99
  | 0, k, b2, b3, L, R, h, _, _, _, _, _, _ => by omega
  | n + 1, k, b2, b3, L, R, h, hk, hb, hL, hR, hl, hr => by
    unfold made_l2
    refine Ok.brd (fun c => ?_) (fun c => Ok.some ⟨b2, b3, L, R, rfl, hb, ⟨by omega, by omega⟩, hl, hr⟩)
    have e := made_l3_p (N := N) (many := many) (often := often) (u := u) (u2 := (k : Int)) (u3 := W.length) (g := g) (d := d) (d2 := W) (d3 := L) (d4 := R) ho (by omega) N 0 b2 b3 [] (by omega) (by omega) hb rfl (fun x h => by cases h)
    rw [show ((0 : Nat) : Int) = 0 from rfl] at e
    refine Ok.bind e ?_
    rintro _ ⟨b2', b3', l', rfl, hb1, hl1, hl2⟩
    dsimp only
    refine Ok.lim (by simp; omega) (Ok.bind (stroke_ok N hb1 (by omega)) ?_)
    rintro ⟨y, d1, d2, d3⟩ ⟨hy, hc, hb2⟩
    dsimp only at hy hc hb2 ⊢
    obtain rfl := hc.symm
    refine Ok.lim (by simp; omega) (Ok.chk (by omega) ?_)
    have := made_l2_p hN (many := many) (g := g) (d := d) hW ho hu n (k + 1) d2 d3 (L ++ [l']) (R ++ [y]) (by omega) (by omega) hb2 (by simp [hL]) (by simp [hR]) (fun r hm => by
      rcases List.mem_append.1 hm with hm | hm
      · exact hl r hm
      · simp at hm; subst hm; exact ⟨by omega, hl2⟩) (fun x hm => by
      rcases List.mem_append.1 hm with hm | hm
      · exact hr x hm
      · simp at hm; subst hm; omega)
    rw [nat_succ] at this
    exact this
theorem made_l4_p (hN : 110 ≤ N) {often u g d : Int} {W R : List Int} {L : List (List Int)} (hW : W.length ≤ 5) (ho : 2 ≤ often ∧ often ≤ 5) (hu : 0 ≤ u ∧ u ≤ 6) : ∀ (n k : Nat) (b2 b3 : Int) (F : List (List Int)), u < n + k → (k : Int) ≤ u → Bell b b2 → F.length = k → (∀ r ∈ F, okRow W.length r) →
    Ok (made_l4 N n often u k b b2 b3 g d W L F R) fun z => ∃ b2' b3' F', z = (b, b2', b3', g, d, W, L, F', R) ∧ Bell b b2' ∧ (F'.length : Int) = u ∧ ∀ r ∈ F', okRow W.length r
  | 0, k, b2, b3, F, h, _, _, _, _ => by omega
  | n + 1, k, b2, b3, F, h, hk, hb, hL, hl => by
    unfold made_l4
    refine Ok.brd (fun c => ?_) (fun c => Ok.some ⟨b2, b3, F, rfl, hb, by omega, hl⟩)
    have e := made_l5_p (N := N) (often := often) (u := u) (u2 := (k : Int)) (u3 := W.length) (g := g) (d := d) (d2 := W) (d3 := L) (d4 := F) (d5 := R) ho (by omega) N 0 b2 b3 [] (by omega) (by omega) hb rfl (fun x h => by cases h)
    rw [show ((0 : Nat) : Int) = 0 from rfl] at e
    refine Ok.bind e ?_
    rintro _ ⟨b2', b3', l', rfl, hb1, hl1, hl2⟩
    dsimp only
    refine Ok.lim (by simp; omega) (Ok.chk (by omega) ?_)
    have := made_l4_p hN (g := g) (d := d) (L := L) (R := R) hW ho hu n (k + 1) b2' b3' (F ++ [l']) (by omega) (by omega) hb1 (by simp [hL]) (fun r hm => by
      rcases List.mem_append.1 hm with hm | hm
      · exact hl r hm
      · simp at hm; subst hm; exact ⟨by omega, hl2⟩)
    rw [nat_succ] at this
    exact this
theorem made_v (hN : 110 ≤ N) {things b2 b3 : Int} (ht : 0 ≤ things ∧ things ≤ 6) (hb : Bell b b2) :
    Ok (made_S N things b b2 b3) fun z => Fine z.1 z.2.1 z.2.2.1 z.2.2.2.1 z.2.2.2.2.1 ∧ ((z.2.2.1.length : Int) ≤ things ∧ (z.2.2.2.1.length : Int) ≤ things) ∧ ((∀ r ∈ z.2.2.1, ∀ x ∈ r, x ≤ 2) ∧ ∀ r ∈ z.2.2.2.1, ∀ x ∈ r, x ≤ 2) ∧ z.2.1 ≤ 2 ∧ BelR b z.2.2.2.2.2.1 z.2.2.2.2.2.2.1 := by
  unfold made_S
  refine Ok.bind (stroke_ok N hb (by omega)) ?_
  rintro ⟨x, c1, c2, c3⟩ ⟨hx, hc, hb1⟩
  dsimp only at hx hc hb1 ⊢
  obtain rfl := hc.symm
  refine Ok.bind (strike_ok N hb1 (by omega)) ?_
  rintro ⟨m, d1, d2, d3⟩ ⟨hm, hc, hb2⟩
  dsimp only at hm hc hb2 ⊢
  obtain rfl := hc.symm
  have e1 := made_l1_p (N := N) (things := things) (g := 0) (d := x) (u := m) (by omega) N 0 d2 d3 [] (by omega) (by omega) hb2 rfl (fun w h => by cases h)
  rw [show ((0 : Nat) : Int) = 0 from rfl] at e1
  refine Ok.bind e1 ?_
  rintro ⟨t', f1, f2, f3, g', x', W⟩ ⟨q1, ⟨q2, hb3⟩, q3, q4, hl, hW⟩
  dsimp only at q1 q2 q3 q4 hb3 hl hW ⊢
  obtain rfl := q1.symm
  obtain rfl := q2.symm
  obtain rfl := q3.symm
  obtain rfl := q4.symm
  refine Ok.bind (stroke_ok N hb3 (by omega)) ?_
  rintro ⟨many, h1, h2, h3⟩ ⟨hmany, hc, hb4⟩
  dsimp only at hmany hc hb4 ⊢
  obtain rfl := hc.symm
  refine Ok.bind (strike_ok N hb4 (by omega)) ?_
  rintro ⟨often, i1, i2, i3⟩ ⟨hoften, hc, hb5⟩
  dsimp only at hoften hc hb5 ⊢
  obtain rfl := hc.symm
  refine Ok.bind (stroke_ok N hb5 (by omega)) ?_
  rintro ⟨u, j1, j2, j3⟩ ⟨hu, hc, hb6⟩
  dsimp only at hu hc hb6 ⊢
  obtain rfl := hc.symm
  have e2 := made_l2_p hN (many := many) (often := often) (u := u) (g := 0) (d := x) (W := W) (by omega) (by omega) (by omega) N 0 j2 j3 [] [] (by omega) (by omega) hb6 rfl rfl (fun x h => by cases h) (fun x h => by cases h)
  rw [show ((0 : Nat) : Int) = 0 from rfl] at e2
  refine Ok.bind e2 ?_
  rintro _ ⟨k2, k3, L, R, rfl, hb7, ⟨hL, hR⟩, hl2, hr2⟩
  dsimp only
  have e3 := made_l4_p hN (often := often) (u := many) (g := 0) (d := x) (W := W) (L := L) (R := R) (by omega) (by omega) (by omega) N 0 k2 k3 [] (by omega) (by omega) hb7 rfl (fun x h => by cases h)
  rw [show ((0 : Nat) : Int) = 0 from rfl] at e3
  refine Ok.bind e3 ?_
  rintro _ ⟨l2, l3, F, rfl, hb8, hF, hf2⟩
  dsimp only
  exact Ok.some ⟨⟨by dsimp only; omega, by dsimp only; omega, by dsimp only; omega, by dsimp only; omega, fun r hr => (hl2 r hr).1, fun r hr => (hf2 r hr).1, hR, hW, by dsimp only; omega, hr2, fun r hr x hx => by have := (hl2 r hr).2 x hx; omega, fun r hr x hx => by have := (hf2 r hr).2 x hx; omega⟩, ⟨by dsimp only; omega, by dsimp only; omega⟩, ⟨fun r hr x hx => ((hl2 r hr).2 x hx).2, fun r hr x hx => ((hf2 r hr).2 x hx).2⟩, by dsimp only; omega, rfl, hb8⟩
end
end Go.Proofs.Ytgeijboidfadaaa.Fd
namespace Go.Proofs.Ytgeijboidfadaaa.Fd
set_option linter.all false
open Go

section
variable {W : List Int} {s : Int} {L F : List (List Int)} {R : List Int} {N : Nat}
theorem lmay_f (hN : 110 ≤ N) (h : Fine W s L F R) {i : Nat} (hi : i < L.length) : lmay_S N W s L F R i = some (selN (canF W s L F i) F.length, 0) := by
  rw [lmay_v hN h.sm, if_pos (errD_iff.2 h), if_neg (by omega)]
  rfl
end
end Go.Proofs.Ytgeijboidfadaaa.Fd
namespace Go.Proofs.Ytgeijboidfadaaa.Fd
set_option linter.all false
open Go

structure PermL (u : Nat) (p : List Int) (τ : Nat → Nat) : Prop where
  len : p.length = u
  bd : ∀ i, i < u → ∃ q : Nat, p.getD i 0 = q ∧ q < u ∧ τ q = i
  inv : ∀ x, x < u → τ x < u ∧ p.getD (τ x) 0 = x
/-- Two ways to and fro. -/
structure TwoW (n : Nat) (a b : Nat → Nat) : Prop where
  la : ∀ x, x < n → a x < n ∧ b (a x) = x
  lb : ∀ x, x < n → b x < n ∧ a (b x) = x
theorem TwoW.symm {n : Nat} {a b : Nat → Nat} (h : TwoW n a b) : TwoW n b a := ⟨h.lb, h.la⟩
theorem perm_sum {l l' : List Int} (h : l.Perm l') : l.sum = l'.sum := by
  induction h with
  | nil => rfl
  | cons x _ ih => simp [ih]
  | swap x y l => simp only [List.sum_cons]; omega
  | trans _ _ h1 h2 => exact h1.trans h2
theorem TwoW.perm {n : Nat} {a b : Nat → Nat} (h : TwoW n a b) : ((List.range n).map a).Perm (List.range n) := by
  refine (List.perm_ext_iff_of_nodup ?_ List.nodup_range).2 fun x => ?_
  · unfold List.Nodup
    rw [List.pairwise_map]
    refine List.Pairwise.imp_of_mem ?_ List.nodup_range
    intro x y hx hy hxy e
    rw [List.mem_range] at hx hy
    exact hxy (by rw [← (h.la x hx).2, e, (h.la y hy).2])
  · rw [List.mem_map]
    constructor
    · rintro ⟨y, hy, rfl⟩
      exact List.mem_range.2 (h.la y (List.mem_range.1 hy)).1
    · intro hx
      have hx' := List.mem_range.1 hx
      exact ⟨b x, List.mem_range.2 (h.lb x hx').1, (h.lb x hx').2⟩
theorem TwoW.sum {n : Nat} {a b : Nat → Nat} (h : TwoW n a b) (f : Nat → Int) : sumN (fun x => f (a x)) n = sumN f n := by
  rw [← mapR_sum, ← mapR_sum]
  have := perm_sum (h.perm.map f)
  rw [List.map_map] at this
  exact this
def mvI (b2 : Nat → Nat) (v : Int) : Int := if v = -1 then -1 else (b2 v.toNat : Nat)
def rnJ (n : Nat) (a1 b2 : Nat → Nat) (l : List Int) : List Int := (List.range n).map fun x => mvI b2 (fnJ l (a1 x))
section
variable {n m : Nat} {a1 b1 a2 b2 : Nat → Nat} {can can' : Nat → Nat → Bool} {t t' : Nat → Nat → Int}
theorem rn_val (h1 : TwoW n a1 b1) (h2 : TwoW m a2 b2) (ht : ∀ i k, i < n → k < m → t' i k = t (a1 i) (a2 k)) {l : List Int} (hl : l ∈ joinsL can m n 0 0) : valJ t' 0 (rnJ n a1 b2 l) = valJ t 0 l := by
  obtain ⟨l1, l2, _⟩ := mem_joins.1 hl
  rw [val_joins (n := n) (by simp [rnJ]), val_joins l1]
  unfold wt
  rw [← h1.sum (fun i => pv t i (fnJ l i))]
  refine sumN_congr fun i hi => ?_
  rw [show fnJ (rnJ n a1 b2 l) i = mvI b2 (fnJ l (a1 i)) from fn_map hi]
  rcases l2.ok (a1 i) (h1.la i hi).1 with h | ⟨k, x, y, _⟩
  · rw [h]; simp [mvI, pv]
  · unfold mvI
    rw [if_neg (by omega), x, Int.toNat_natCast, pv_some, pv_some, ht i _ hi (h2.lb k y).1, (h2.lb k y).2]
end
end Go.Proofs.Ytgeijboidfadaaa.Fd
namespace Go.Proofs.Ytgeijboidfadaaa.Fd
set_option linter.all false
open Go

/-- The same desk, but for the order of its things. -/
structure OrdD (L F : List (List Int)) (R : List Int) (Lo Fo : List (List Int)) (Ro : List Int) (a1 b1 a2 b2 : Nat → Nat) : Prop where
  ll : Lo.length = L.length
  fl : Fo.length = F.length
  w1 : TwoW L.length a1 b1
  w2 : TwoW F.length a2 b2
  gl : ∀ x, x < L.length → Lo.getD x [] = L.getD (a1 x) []
  gr : ∀ x, x < L.length → Ro.getD x 0 = R.getD (a1 x) 0
  gf : ∀ x, x < F.length → Fo.getD x [] = F.getD (a2 x) []
section
variable {W : List Int} {s : Int} {L F Lo Fo : List (List Int)} {R Ro : List Int} {a1 b1 a2 b2 : Nat → Nat} {N : Nat}
theorem OrdD.symm (h : OrdD L F R Lo Fo Ro a1 b1 a2 b2) : OrdD Lo Fo Ro L F R b1 a1 b2 a2 :=
  ⟨h.ll.symm, h.fl.symm, by rw [h.ll]; exact h.w1.symm, by rw [h.fl]; exact h.w2.symm,
   fun x hx => by rw [h.ll] at hx; rw [h.gl _ (h.w1.lb x hx).1, (h.w1.lb x hx).2], fun x hx => by rw [h.ll] at hx; rw [h.gr _ (h.w1.lb x hx).1, (h.w1.lb x hx).2],
   fun x hx => by rw [h.fl] at hx; rw [h.gf _ (h.w2.lb x hx).1, (h.w2.lb x hx).2]⟩
theorem OrdD.ag (h : OrdD L F R Lo Fo Ro a1 b1 a2 b2) {i k : Nat} (hi : i < L.length) (hk : k < F.length) : agF W Lo Fo i k = agF W L F (a1 i) (a2 k) := by
  unfold agF
  rw [if_pos ⟨by rw [h.ll]; exact hi, by rw [h.fl]; exact hk⟩, if_pos ⟨(h.w1.la i hi).1, (h.w2.la k hk).1⟩, h.gl i hi, h.gf k hk]
theorem OrdD.sl (h : OrdD L F R Lo Fo Ro a1 b1 a2 b2) {i k : Nat} (hi : i < L.length) (hk : k < F.length) : slF W Lo Fo i k = slF W L F (a1 i) (a2 k) := by
  unfold slF
  rw [if_pos ⟨by rw [h.ll]; exact hi, by rw [h.fl]; exact hk⟩, if_pos ⟨(h.w1.la i hi).1, (h.w2.la k hk).1⟩, h.gl i hi, h.gf k hk]
theorem OrdD.can (h : OrdD L F R Lo Fo Ro a1 b1 a2 b2) {i k : Nat} (hi : i < L.length) (hk : k < F.length) : canF W s Lo Fo i k = canF W s L F (a1 i) (a2 k) := by
  unfold canF canT
  rw [h.ag hi hk, h.sl hi hk]
theorem OrdD.val (h : OrdD L F R Lo Fo Ro a1 b1 a2 b2) {l : List Int} (hl : l ∈ joinsL (canF W s L F) F.length L.length 0 0) : valJ (agF W Lo Fo) 0 (rnJ L.length a1 b2 l) = valJ (agF W L F) 0 l := rn_val h.w1 h.w2 (fun i k hi hk => h.ag hi hk) hl
theorem PermL.two {u : Nat} {p : List Int} {τ : Nat → Nat} (h : PermL u p τ) : TwoW u τ (fun i => (p.getD i 0).toNat) := by
  refine ⟨fun x hx => ⟨(h.inv x hx).1, by rw [(h.inv x hx).2, Int.toNat_natCast]⟩, fun x hx => ?_⟩
  obtain ⟨q, e, h1, h2⟩ := h.bd x hx
  rw [e, Int.toNat_natCast]
  exact ⟨h1, h2⟩
theorem copyro_l1_p {l : List (List Int)} (hl : l.length ≤ 1000000) (hr : ∀ x ∈ l, x.length ≤ 1000000) : ∀ n k : Nat, l.length < n + k → k ≤ l.length → copyro_l1 N n l l.length k (l.take k ++ List.replicate (l.length - k) []) = some l
  | 0, k, h, _ => by omega
  | n + 1, k, h, hk => by
    unfold copyro_l1
    by_cases c : k < l.length
    · have ih := copyro_l1_p hl hr n (k + 1) (by omega) (by omega)
      rw [nat_succ, take_succ' c []] at ih
      rw [br_dec (by omega), idx_eq (by omega) (gets c []), copyi_v (hr _ (getD_mem c))]
      simp only [Option.bind_some, Int.toNat_natCast]
      have hlen : (l.take k ++ List.replicate (l.length - k) ([] : List Int)).length = l.length := by simp; omega
      rw [rng_eq (by rw [hlen]; omega), get_get [] (by rw [hlen]; exact c), chk_eq (by omega), ← ih]
      congr 1
      rw [List.set_append_right _ _ (by simp; omega), show k - (l.take k).length = 0 by simp; omega, show l.length - k = (l.length - (k + 1)) + 1 by omega, List.replicate_succ]
      simp
    · rw [br_ndec (by omega), List.take_of_length_le (by omega), show l.length - k = 0 by omega]; simp
theorem copyro_v {l : List (List Int)} (hl : l.length ≤ 1000000) (hN : l.length < N) (hr : ∀ x ∈ l, x.length ≤ 1000000) : copyro_S N l = some l := by
  unfold copyro_S
  have e := copyro_l1_p (N := N) hl hr N 0 (by omega) (by omega)
  simp only [List.take_zero, List.nil_append, Nat.sub_zero, Int.natCast_zero] at e
  rw [grd_eq (lmI_iff.2 (by omega)), Int.toNat_natCast, e]; rfl
theorem copyol_v {l : List Int} (h : l.length ≤ 1000000) : copyo_S N l = some l := by
  unfold copyo_S
  rw [grd_eq (lmI_iff.2 (by omega))]
  simp
theorem copydo_v (hN : 110 ≤ N) (h : Sm W L F R) : copydo_S N W s L F R = some (W, s, L, F, R) := by
  obtain ⟨hw, hl, hf, hr, hlr, hfr⟩ := h
  unfold copydo_S
  rw [copyol_v (by omega), copyro_v (by omega) (by omega) (fun x hx => by have := hlr x hx; omega), copyro_v (by omega) (by omega) (fun x hx => by have := hfr x hx; omega), copyol_v (by omega)]; rfl
end
end Go.Proofs.Ytgeijboidfadaaa.Fd

namespace Go.Proofs.Ytgeijboidfadaaa
set_option linter.all false
open Go

/-- The words of a description, from a trait on. -/
def wsF (t : Int) : List Int → List Int
  | [] => []
  | v :: l => if v = -1 then wsF (t + 1) l else (3 * t + v) :: wsF (t + 1) l
/-- In how many traits two descriptions agree. -/
def cntA : List Int → List Int → Nat
  | v :: a, u :: b => cntA a b + if v = u ∧ v ≠ -1 then 1 else 0
  | _, _ => 0
def okV (l : List Int) : Prop := ∀ x ∈ l, -1 ≤ x ∧ x ≤ 2
theorem okV.tail {v : Int} {l : List Int} (h : okV (v :: l)) : okV l := fun x hx => h x (List.mem_cons_of_mem _ hx)
theorem wsF_bnd : ∀ (l : List Int) (t : Int), okV l → ∀ x ∈ wsF t l, 3 * t ≤ x ∧ x ≤ 3 * (t + l.length) - 1
  | [], t, _, x, hx => by cases hx
  | v :: l, t, h, x, hx => by
    have hv := h v (by simp)
    rw [wsF] at hx
    rw [List.length_cons]
    split at hx
    · have := wsF_bnd l (t + 1) h.tail x hx
      omega
    · rcases List.mem_cons.1 hx with rfl | hx
      · omega
      · have := wsF_bnd l (t + 1) h.tail x hx
        omega
theorem wsF_len : ∀ (l : List Int) (t : Int), (wsF t l).length ≤ l.length
  | [], _ => Nat.le_refl _
  | v :: l, t => by
    rw [wsF]
    have := wsF_len l (t + 1)
    split
    · rw [List.length_cons]; omega
    · rw [List.length_cons, List.length_cons]; omega
theorem cntA_max : ∀ (a b : List Int) (t : Int), okV a → okV b → ∀ c : List Int, c.Sublist (wsF t a) → c.Sublist (wsF t b) → c.length ≤ cntA a b
  | [], b, t, _, _, c, h1, _ => by
    rw [wsF] at h1
    rw [List.sublist_nil.1 h1]; exact Nat.zero_le _
  | v :: a, [], t, _, _, c, _, h2 => by
    rw [wsF] at h2
    rw [List.sublist_nil.1 h2]; exact Nat.zero_le _
  | v :: a, u :: b, t, ha, hb, c, h1, h2 => by
    have hv := ha v (by simp)
    have hu := hb u (by simp)
    have ih := cntA_max a b (t + 1) ha.tail hb.tail
    have ga : ∀ x ∈ wsF (t + 1) a, 3 * (t + 1) ≤ x := fun x hx => (wsF_bnd a (t + 1) ha.tail x hx).1
    have gb : ∀ x ∈ wsF (t + 1) b, 3 * (t + 1) ≤ x := fun x hx => (wsF_bnd b (t + 1) hb.tail x hx).1
    rw [wsF] at h1 h2
    rw [cntA]
    -- what doesn't begin with the word of this trait
    have skip : ∀ (w : Int) (B : List Int), w < 3 * (t + 1) → (∀ x ∈ c, 3 * (t + 1) ≤ x) → c.Sublist (w :: B) → c.Sublist B := fun w B hw hc h => by
      cases h with
      | cons _ h => exact h
      | cons_cons _ h => have := hc w (by simp); omega
    by_cases cv : v = -1
    · rw [if_pos cv] at h1
      have hc : ∀ x ∈ c, 3 * (t + 1) ≤ x := fun x hx => ga x (h1.mem hx)
      by_cases cu : u = -1
      · rw [if_pos cu] at h2
        have := ih c h1 h2; omega
      · rw [if_neg cu] at h2
        have := ih c h1 (skip _ _ (by omega) hc h2); omega
    · rw [if_neg cv] at h1
      by_cases cu : u = -1
      · rw [if_pos cu] at h2
        have hc : ∀ x ∈ c, 3 * (t + 1) ≤ x := fun x hx => gb x (h2.mem hx)
        have := ih c (skip _ _ (by omega) hc h1) h2; omega
      · rw [if_neg cu] at h2
        by_cases e : v = u
        · subst e
          rw [if_pos ⟨rfl, cv⟩]
          cases h1 with
          | cons _ h1 =>
            have hc : ∀ x ∈ c, 3 * (t + 1) ≤ x := fun x hx => ga x (h1.mem hx)
            have := ih c h1 (skip _ _ (by omega) hc h2); omega
          | @cons_cons c' _ _ h1 =>
            have h2' : c'.Sublist (wsF (t + 1) b) := by
              generalize 3 * t + v = w at *
              cases h2 with
              | cons _ h2 => exact (List.sublist_cons_self _ _).trans h2
              | cons_cons _ h2 => exact h2
            have := ih c' h1 h2'; rw [List.length_cons]; omega
        · rw [if_neg (fun h => e h.1)]
          have hc : ∀ x ∈ c, 3 * (t + 1) ≤ x := by
            cases h1 with
            | cons _ h1 => exact fun x hx => ga x (h1.mem hx)
            | @cons_cons c' _ _ h1 =>
              have hm := h2.mem (List.mem_cons_self)
              rcases List.mem_cons.1 hm with hm | hm
              · omega
              · have := gb _ hm; omega
          have := ih c (skip _ _ (by omega) hc h1) (skip _ _ (by omega) hc h2)
          omega
theorem cntA_has : ∀ (a b : List Int) (t : Int), ∃ c : List Int, c.Sublist (wsF t a) ∧ c.Sublist (wsF t b) ∧ c.length = cntA a b
  | [], b, t => ⟨[], List.nil_sublist _, List.nil_sublist _, rfl⟩
  | v :: a, [], t => ⟨[], List.nil_sublist _, List.nil_sublist _, rfl⟩
  | v :: a, u :: b, t => by
    obtain ⟨c, h1, h2, h3⟩ := cntA_has a b (t + 1)
    rw [wsF, wsF, cntA]
    by_cases e : v = u ∧ v ≠ -1
    · obtain ⟨e1, cv⟩ := e
      subst e1
      rw [if_neg cv, if_neg cv, if_pos ⟨rfl, cv⟩]
      exact ⟨(3 * t + v) :: c, h1.cons_cons _, h2.cons_cons _, by rw [List.length_cons, h3]⟩
    · rw [if_neg e]
      refine ⟨c, ?_, ?_, by rw [h3, Nat.add_zero]⟩
      · split
        · exact h1
        · exact h1.cons _
      · split
        · exact h2
        · exact h2.cons _
theorem lc_words {a b : List Int} (ha : okV a) (hb : okV b) : lc (wsF 0 a) (wsF 0 b) = cntA a b := by
  obtain ⟨c, h1, h2, h3⟩ := cntA_has a b 0
  obtain ⟨c', k1, k2, k3⟩ := lc_has (wsF 0 a) (wsF 0 b)
  have e1 := lc_max (wsF 0 a) (wsF 0 b) c h1 h2
  have e2 := cntA_max a b 0 ha hb c' k1 k2
  omega
theorem agP_cnt : ∀ (a b : List Int) (n : Nat), a.length = n → b.length = n → Fd.sumN (fun t => if a.getD t 0 = b.getD t 0 ∧ a.getD t 0 ≠ -1 then (1 : Int) else 0) n = cntA a b
  | [], b, n, h, _ => by
    obtain rfl : n = 0 := h.symm
    rfl
  | v :: a, [], n, h, h' => by
    rw [List.length_cons] at h
    rw [List.length_nil] at h'
    omega
  | v :: a, u :: b, n, h, h' => by
    obtain ⟨m, rfl⟩ : ∃ m, n = m + 1 := ⟨n - 1, by rw [List.length_cons] at h; omega⟩
    rw [List.length_cons] at h h'
    have ih := agP_cnt a b m (by omega) (by omega)
    rw [Fd.sumN_shift, cntA]
    simp only [List.getD_cons_zero, List.getD_cons_succ]
    rw [ih]
    split <;> omega
section
variable {N : Nat}
theorem words_l1_p {l : List Int} (hl : l.length ≤ 1000) (hv : ∀ x ∈ l, -1 ≤ x ∧ x ≤ 5) : ∀ (n k : Nat) (out : List Int), l.length < n + k → k ≤ l.length → out.length ≤ k → words_l1 N n l (l.length : Int) k out = some (out ++ wsF k (l.drop k))
  | 0, k, out, h, _, _ => by omega
  | n + 1, k, out, h, hk, ho => by
    rw [words_l1]
    by_cases c : k < l.length
    · have hx := hv _ (getD_mem (l := l) (d := 0) c)
      have e : l.drop k = l.getD k 0 :: l.drop (k + 1) := by rw [List.drop_eq_getElem_cons c]; simp [List.getD, c]
      have next := fun out ho => words_l1_p hl hv n (k + 1) out (by omega) (by omega) ho
      rw [show ((k + 1 : Nat) : Int) = (k : Int) + 1 by omega] at next
      rw [br_dec (by omega), idx_get 0 (by omega) (by omega), e, wsF]
      simp only [Int.toNat_natCast]
      by_cases c1 : l.getD k 0 = -1
      · rw [br_nd c1, if_pos c1]
        unfold words_j1
        rw [chk_eq (by omega), next out (by omega)]
      · rw [br_nnd c1, if_neg c1, chk_eq (by omega), chk_eq (by omega), lim_eq (by simp; omega)]
        unfold words_j1
        rw [chk_eq (by omega), next _ (by simp; omega)]
        simp
    · rw [br_ndec (by omega), List.drop_of_length_le (by omega), wsF, List.append_nil]
theorem words_v {l : List Int} (hl : l.length ≤ 1000) (hN : l.length < N) (hv : ∀ x ∈ l, -1 ≤ x ∧ x ≤ 5) : words_S N l = some (wsF 0 l) := by
  unfold words_S
  have := words_l1_p (N := N) hl hv N 0 [] (by omega) (by omega) (by simp)
  rw [show ((0 : Nat) : Int) = 0 from rfl] at this
  rw [this]
  simp
/-- Descriptions of which the first k are shorter. -/
def tkT (m k : Nat) (l : List (List Int)) : List (List Int) := (l.take k).map (·.take m) ++ l.drop k
theorem tkT_len (m k : Nat) (l : List (List Int)) : (tkT m k l).length = l.length := by
  unfold tkT
  simp only [List.length_append, List.length_map, List.length_take, List.length_drop]
  omega
theorem tkT_get {m k : Nat} {l : List (List Int)} (h : k < l.length) : (tkT m k l)[k]? = some (l.getD k []) := by
  unfold tkT
  have e : ((l.take k).map (·.take m)).length = k := by simp; omega
  rw [List.getElem?_append_right (by omega), e]
  simp [List.getD, h]
theorem tkT_set {m k : Nat} {l : List (List Int)} (h : k < l.length) : (tkT m k l).set k ((l.getD k []).take m) = tkT m (k + 1) l := by
  unfold tkT
  have e : ((l.take k).map (·.take m)).length = k := by simp; omega
  have ed : l.drop k = l.getD k [] :: l.drop (k + 1) := by rw [List.drop_eq_getElem_cons h]; simp [List.getD, h]
  have et : l.take (k + 1) = l.take k ++ [l.getD k []] := by
    rw [List.take_succ, List.getElem?_eq_getElem h]
    simp [List.getD, h]
  rw [List.set_append_right _ _ (by omega), e, ed, et]
  simp
theorem tworded_l2_p {m : Nat} {l : List (List Int)} (hl : l.length ≤ 1000) (hm : ∀ x ∈ l, m ≤ x.length) {u u2 d2 : Int} {d d4 : List Int} {d3 : List (List Int)} : ∀ (n k : Nat), l.length < n + k → k ≤ l.length →
    tworded_l2 N n m u u2 (l.length : Int) k d d2 (tkT m k l) d3 d4 = some ((m : Int), u, u2, d, d2, tkT m l.length l, d3, d4)
  | 0, k, h, _ => by omega
  | n + 1, k, h, hk => by
    rw [tworded_l2]
    by_cases c : k < l.length
    · have ih := tworded_l2_p hl hm (u := u) (u2 := u2) (d2 := d2) (d := d) (d3 := d3) (d4 := d4) n (k + 1) (by omega) (by omega)
      rw [show ((k + 1 : Nat) : Int) = (k : Int) + 1 by omega] at ih
      have hx := hm _ (getD_mem (l := l) (d := []) c)
      have g := tkT_get (m := m) c
      have g' : (tkT m k l)[((k : Nat) : Int).toNat]? = some (l.getD k []) := by rw [Int.toNat_natCast]; exact g
      rw [br_dec (by omega), rng_eq (by rw [tkT_len]; omega), get_eq g', grd_eq (by rw [decide_eq_true_eq]; omega), rng_eq (by rw [tkT_len]; omega), get_eq g', chk_eq (by omega)]
      simp only [Int.toNat_natCast]
      rw [tkT_set c, ih]
    · obtain rfl : k = l.length := by omega
      rw [br_ndec (by omega)]
theorem tworded_l3_p {m : Nat} {l : List (List Int)} (hl : l.length ≤ 1000) (hm : ∀ x ∈ l, m ≤ x.length) {u u2 d2 : Int} {d d4 : List Int} {d3 : List (List Int)} : ∀ (n k : Nat), l.length < n + k → k ≤ l.length →
    tworded_l3 N n m u u2 (l.length : Int) k d d2 (tkT m k l) d3 d4 = some ((m : Int), u, u2, d, d2, d3, tkT m l.length l, d4)
  | 0, k, h, _ => by omega
  | n + 1, k, h, hk => by
    rw [tworded_l3]
    by_cases c : k < l.length
    · have ih := tworded_l3_p hl hm (u := u) (u2 := u2) (d2 := d2) (d := d) (d3 := d3) (d4 := d4) n (k + 1) (by omega) (by omega)
      rw [show ((k + 1 : Nat) : Int) = (k : Int) + 1 by omega] at ih
      have hx := hm _ (getD_mem (l := l) (d := []) c)
      have g := tkT_get (m := m) c
      have g' : (tkT m k l)[((k : Nat) : Int).toNat]? = some (l.getD k []) := by rw [Int.toNat_natCast]; exact g
      rw [br_dec (by omega), rng_eq (by rw [tkT_len]; omega), get_eq g', grd_eq (by rw [decide_eq_true_eq]; omega), rng_eq (by rw [tkT_len]; omega), get_eq g', chk_eq (by omega)]
      simp only [Int.toNat_natCast]
      rw [tkT_set c, ih]
    · obtain rfl : k = l.length := by omega
      rw [br_ndec (by omega)]
theorem tkT_all (m : Nat) (l : List (List Int)) : tkT m l.length l = l.map (·.take m) := by
  unfold tkT; simp
theorem tkT_none (m : Nat) (l : List (List Int)) : tkT m 0 l = l := by
  unfold tkT; simp
theorem tworded_l1_p (hN : 110 ≤ N) {m : Nat} {L F : List (List Int)} (hL : L.length ≤ 100) (hF : F.length ≤ 100) (hl : ∀ x ∈ L, m ≤ x.length) (hf : ∀ x ∈ F, m ≤ x.length) {d2 : Int} {d d3 : List Int} :
    tworded_l1 N N m 2 0 d d2 L F d3 = some (d, d2, L.map (·.take m), F.map (·.take m), d3) := by
  obtain ⟨n, rfl⟩ : ∃ n, N = n + 3 := ⟨N - 3, by omega⟩
  have e2 := tworded_l2_p (N := n + 3) (m := m) (l := L) (by omega) hl (u := 2) (u2 := 0) (d2 := d2) (d := d) (d4 := d3) (d3 := F) (n + 3) 0 (by omega) (by omega)
  have e3 := tworded_l3_p (N := n + 3) (m := m) (l := F) (by omega) hf (u := 2) (u2 := 1) (d2 := d2) (d := d) (d4 := d3) (d3 := L.map (·.take m)) (n + 3) 0 (by omega) (by omega)
  rw [tkT_none, tkT_all, show ((0 : Nat) : Int) = 0 from rfl] at e2 e3
  rw [tworded_l1, br_dec (by omega), br_dec (by rfl), e2]
  simp only [Option.bind_some]
  rw [chk_eq (by omega), show (0 : Int) + 1 = 1 from rfl, tworded_l1, br_dec (by omega), br_ndec (by omega), br_dec (by rfl), e3]
  simp only [Option.bind_some]
  rw [chk_eq (by omega), show (1 : Int) + 1 = 2 from rfl, tworded_l1, br_ndec (by omega)]

/-! ### Desks whose traits weigh 1 -/
structure One (W : List Int) (L F : List (List Int)) (R : List Int) : Prop where
  f : Fd.Fine W 3 L F R
  w : ∀ x ∈ W, x = 1
  n : W.length ≤ 3
  lv : ∀ r ∈ L, okV r
  fv : ∀ r ∈ F, okV r
variable {W R : List Int} {L F : List (List Int)}
theorem One.ag (h : One W L F R) {i k : Nat} (hi : i < L.length) (hk : k < F.length) : Fd.agF W L F i k = cntA (L.getD i []) (F.getD k []) := by
  unfold Fd.agF
  rw [if_pos ⟨hi, hk⟩]
  unfold Fd.agP
  rw [← agP_cnt _ _ W.length (h.f.lw _ (getD_mem (d := []) hi)) (h.f.fw _ (getD_mem (d := []) hk))]
  refine Fd.sumN_congr fun t ht => ?_
  unfold Fd.agA
  rw [h.w _ (getD_mem (d := 0) ht)]
theorem sumN_one {f : Nat → Int} (h : ∀ i, f i ≤ 1) : ∀ n : Nat, Fd.sumN f n ≤ n
  | 0 => Int.le_refl _
  | n + 1 => by
    have := sumN_one h n
    have := h n
    rw [Fd.sumN]; omega
theorem One.can (h : One W L F R) {i k : Nat} (hi : i < L.length) (hk : k < F.length) : Fd.canF W 3 L F i k = decide ((0 : Int) < cntA (L.getD i []) (F.getD k [])) := by
  have e : Fd.slF W L F i k ≤ 3 := by
    unfold Fd.slF
    rw [if_pos ⟨hi, hk⟩]
    unfold Fd.slP
    have := sumN_one (fun t => (Fd.slA_bound (L.getD i []) (F.getD k []) t).2) W.length
    have := h.n
    omega
  unfold Fd.canF Fd.canT
  rw [h.ag hi hk, decide_eq_true e, Bool.and_true]
theorem wsF_in {l : List Int} (hv : okV l) (hl : l.length ≤ 3) : InR 0 9 (wsF 0 l) := fun x hx => by
  have := wsF_bnd l 0 hv x hx
  omega
theorem fine_two {a b : List Int} (ha : okV a) (hb : okV b) (la : a.length ≤ 3) (lb : b.length ≤ 3) (ea : (wsF 0 a).length ≠ 0) (eb : (wsF 0 b).length ≠ 0) : Fine [wsF 0 a, wsF 0 b] [] 0 := by
  have h1 := wsF_len a 0
  have h2 := wsF_len b 0
  refine ⟨by simp, by simp, fun x hx => ?_, fun x hx => ?_, InR.nil, by omega⟩
  · simp only [List.mem_cons, List.not_mem_nil, or_false] at hx
    rcases hx with rfl | rfl <;> omega
  · simp only [List.mem_cons, List.not_mem_nil, or_false] at hx
    rcases hx with rfl | rfl
    · exact wsF_in ha la
    · exact wsF_in hb lb
theorem tworded_l5_p (hN : 110 ≤ N) (h : One W L F R) {i : Nat} (hi : i < L.length) {u : List (List Int)} {u2 u3 : Int} : ∀ (n k : Nat), F.length < n + k → k ≤ F.length →
    tworded_l5 N n i (L.getD i []) (Fd.selN (Fd.canF W 3 L F i) F.length) u u2 u3 F (F.length : Int) k W 3 L F R = some (.inr (.inr (.inr (u, u2, u3, W, 3, L, F, R))))
  | 0, k, hn, _ => by omega
  | n + 1, k, hn, hk => by
    have hl6 := h.f.l6; have hf6 := h.f.f6
    rw [tworded_l5]
    by_cases c : k < F.length
    rotate_left
    · rw [br_ndec (by omega)]
    have ih := tworded_l5_p hN h hi (u := u) (u2 := u2) (u3 := u3) n (k + 1) (by omega) (by omega)
    rw [show ((k + 1 : Nat) : Int) = (k : Int) + 1 by omega] at ih
    have hj : tworded_j1 N (tworded_l5 N n) i (L.getD i []) (Fd.selN (Fd.canF W 3 L F i) F.length) u u2 u3 F (F.length : Int) k W 3 L F R = some (.inr (.inr (.inr (u, u2, u3, W, 3, L, F, R)))) := by
      unfold tworded_j1
      rw [chk_eq (by omega), ih]
    have ma := getD_mem (l := L) (d := []) hi
    have mb := getD_mem (l := F) (d := []) c
    have la := h.f.lw _ ma; have lb := h.f.fw _ mb
    have va := h.lv _ ma; have vb := h.fv _ mb
    have hn3 := h.n
    have eag := Fd.agree_v hN h.f.sm (s := 3) (i : Int) (k : Int)
    rw [if_pos (Fd.errD_iff.2 h.f), if_neg (by omega), if_neg (by omega)] at eag
    simp only [Int.toNat_natCast] at eag
    rw [h.ag hi c, h.can hi c] at eag
    have hcan := Fd.mem_selN (p := Fd.canF W 3 L F i) (n := F.length) (i := k)
    have hcon := containsi_v (N := N) (s := Fd.selN (Fd.canF W 3 L F i) F.length) (v := (k : Int)) (by have := Fd.selN_len (Fd.canF W 3 L F i) F.length; omega) (by have := Fd.selN_len (Fd.canF W 3 L F i) F.length; omega)
    have eL := lc_words va vb
    have e1 := lc_le_left (wsF 0 (L.getD i [])) (wsF 0 (F.getD k []))
    have e2 := (cw_spec (wsF 0 (L.getD i [])) (wsF 0 (F.getD k []))).2.1.length_le
    have e3 := (cw_spec (wsF 0 (L.getD i [])) (wsF 0 (F.getD k []))).2.2
    have w1 := wsF_len (L.getD i []) 0
    have w2 := wsF_len (F.getD k []) 0
    rw [br_dec (by omega), idx_get [] (by omega) (by omega)]
    simp only [Int.toNat_natCast]
    rw [show fd_agree__S N W 3 L F R i k = _ from eag]
    simp only [Option.bind_some]
    rw [words_v (by omega) (by omega) (fun x hx => by have := va x hx; omega), words_v (by omega) (by omega) (fun x hx => by have := vb x hx; omega)]
    simp only [Option.bind_some]
    rw [br_nd (by first | trivial | rfl)]
    by_cases c1 : (wsF 0 (L.getD i [])).length = 0
    · rw [br_dec (by omega), br_nd (by omega), decide_eq_false (by omega), br_false, hj]
    rw [br_ndec (by omega)]
    by_cases c2 : (wsF 0 (F.getD k [])).length = 0
    · rw [br_dec (by omega), br_nd (by omega), decide_eq_false (by omega), br_false, hj]
    rw [br_ndec (by omega)]
    have hF := fine_two va vb (by omega) (by omega) c1 c2
    rw [commons_v (by omega) hF (by simp) (by simp), dist_v (by omega) hF (by simp) (by simp)]
    have g0 : [wsF 0 (L.getD i []), wsF 0 (F.getD k [])].getD (0 : Int).toNat [] = wsF 0 (L.getD i []) := rfl
    have g1 : [wsF 0 (L.getD i []), wsF 0 (F.getD k [])].getD (1 : Int).toNat [] = wsF 0 (F.getD k []) := rfl
    rw [g0, g1]
    simp only [Option.bind_some]
    rw [br_nd (by first | trivial | rfl), br_nd (by first | trivial | rfl), br_nd (by omega), chk_eq (by omega), chk_eq (by omega), chk_eq (by omega), br_nd (by rw [distI_eq, eL]), beq_self_eq_true, Bool.not_true, br_false, hcon]
    simp only [Option.bind_some]
    have : (decide ((0 : Int) < cntA (L.getD i []) (F.getD k []))) = (Fd.selN (Fd.canF W 3 L F i) F.length).contains (k : Int) := by
      rw [← h.can hi c, Bool.eq_iff_iff, List.contains_iff_mem, hcan]
      exact ⟨fun x => ⟨c, x⟩, fun x => x.2⟩
    rw [this, beq_self_eq_true, Bool.not_true, br_false, hj]
theorem tworded_l4_p (hN : 110 ≤ N) (h : One W L F R) : ∀ (n k : Nat), L.length < n + k → k ≤ L.length →
    tworded_l4 N n L (L.length : Int) k W 3 L F R = some (.inr (.inr (.inr (.inr ()))))
  | 0, k, hn, _ => by omega
  | n + 1, k, hn, hk => by
    have hl6 := h.f.l6; have hf6 := h.f.f6
    rw [tworded_l4]
    by_cases c : k < L.length
    rotate_left
    · rw [br_ndec (by omega)]
    have ih := tworded_l4_p hN h n (k + 1) (by omega) (by omega)
    rw [show ((k + 1 : Nat) : Int) = (k : Int) + 1 by omega] at ih
    have e5 := tworded_l5_p hN h c (u := L) (u2 := L.length) (u3 := k) N 0 (by omega) (by omega)
    rw [show ((0 : Nat) : Int) = 0 from rfl] at e5
    rw [br_dec (by omega), idx_get [] (by omega) (by omega)]
    simp only [Int.toNat_natCast]
    rw [show fd_lmay_S N W 3 L F R k = _ from Fd.lmay_f hN h.f c]
    simp only [Option.bind_some]
    rw [br_nd (by first | trivial | rfl), e5]
    simp only [Option.bind_some]
    rw [chk_eq (by omega), ih]
end
theorem awake10_v : awake10_S 1100 = some true := by kernel_rfl
theorem take_ones (m : Nat) (hm : m ≤ 3) : ∀ x ∈ ([1, 1, 1] : List Int).take m, x = 1 := fun x hx => by
  have := List.mem_of_mem_take hx
  simpa using this
theorem tworded_true {ns : List Int} (h0 : (Ty.sl (.int .u8)).inB ns) : tworded_S 1100 ns = some true := by
  unfold tworded_S hang_S
  simp only [Option.bind_some]
  obtain ⟨⟨W, s, L, F, R, b', y2, y3⟩, e1, hF, ⟨hL, hFl⟩, ⟨vL, vF⟩, -⟩ := Fd.made_v (N := 1100) (by omega) (things := 3) (b := ns) (b2 := 0) (b3 := 0) (by omega) ⟨h0.1, by omega, by omega⟩
  dsimp only at hF hL hFl vL vF
  have e1 : fd_made_S 1100 3 ns 0 0 = some (W, s, L, F, R, b', y2, y3) := e1
  have e2 : fd_copydo_S 1100 W s L F R = some (W, s, L, F, R) := Fd.copydo_v (by omega) hF.sm
  rw [e1]
  simp only [Option.bind_some]
  rw [e2]
  simp only [Option.bind_some]
  have hw1 := hF.w1; have hw5 := hF.w5
  obtain ⟨m, hm⟩ : ∃ m : Nat, m = min 3 W.length := ⟨_, rfl⟩
  have em : min 3 (W.length : Int) = (m : Int) := by omega
  have hlw : ∀ x ∈ L, m ≤ x.length := fun x hx => by have := hF.lw x hx; omega
  have hfw : ∀ x ∈ F, m ≤ x.length := fun x hx => by have := hF.fw x hx; omega
  rw [em, grd_eq (by simp; omega), tworded_l1_p (by omega) (by omega) (by omega) hlw hfw]
  simp only [Option.bind_some, Int.toNat_natCast]
  have hlen : (([1, 1, 1] : List Int).take m).length = m := by simp; omega
  have hO : One (([1, 1, 1] : List Int).take m) (L.map (·.take m)) (F.map (·.take m)) R := by
    have h1 : ∀ x ∈ ([1, 1, 1] : List Int).take m, x = 1 := take_ones m (by omega)
    refine ⟨⟨by omega, by omega, by simp; omega, by simp; omega, fun x hx => ?_, fun x hx => ?_, by simp [hF.rl], fun x hx => by have := h1 x hx; omega, by omega, hF.r, fun r hr x hx => ?_, fun r hr x hx => ?_⟩, h1, by omega, fun r hr x hx => ?_, fun r hr x hx => ?_⟩
    · obtain ⟨y, hy, rfl⟩ := List.mem_map.1 hx
      have := hlw y hy
      rw [hlen]; simp; omega
    · obtain ⟨y, hy, rfl⟩ := List.mem_map.1 hx
      have := hfw y hy
      rw [hlen]; simp; omega
    · obtain ⟨y, hy, rfl⟩ := List.mem_map.1 hr
      exact hF.lv y hy x (List.mem_of_mem_take hx)
    · obtain ⟨y, hy, rfl⟩ := List.mem_map.1 hr
      exact hF.fv y hy x (List.mem_of_mem_take hx)
    · obtain ⟨y, hy, rfl⟩ := List.mem_map.1 hr
      exact ⟨(hF.lv y hy x (List.mem_of_mem_take hx)).1, vL y hy x (List.mem_of_mem_take hx)⟩
    · obtain ⟨y, hy, rfl⟩ := List.mem_map.1 hr
      exact ⟨(hF.fv y hy x (List.mem_of_mem_take hx)).1, vF y hy x (List.mem_of_mem_take hx)⟩
  have e4 := tworded_l4_p (N := 1100) (by omega) hO 1100 0 (by simp; omega) (by omega)
  rw [show ((0 : Nat) : Int) = 0 from rfl] at e4
  rw [e4]
  simp only [Option.bind_some]
  rw [awake10_v]; rfl
end Go.Proofs.Ytgeijboidfadaaa

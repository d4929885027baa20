/-
  Parts of a proof, put together: X4, X5, TD6, TD7, TD8, TD9, TB, TL1, TL2, TL3, TL4, TL5, TL6, TL7, TL8, TL9, TM1, TM2, X7, TM3, TShl, X8, TM4.
  Conditions: none.
-/
import Derived.Ground.Names2Prog
import Derived.Shelf.Lay
import Derived.Shelf.Slices.Delete
import Derived.Test.YtfamlpbdhhikdaaZd
import Derived.Test.YtfamlpbdhhikdaaZf
namespace Go.Proofs.Ytfamlpbdhhikdaa
set_option linter.all false
open Go

def made_l1 (N : Nat) : Nat → Int → Int → Int → (List Int) → Int → Int → Int → Int → (List (Int × (Int × Bool))) → Option (Int × List Int × Int × Int × Int × Int × (List (Int × (Int × Bool))))
  | 0, _, _, _, _, _, _, _, _, _ => none
  | n_ + 1, turns, u, u2, b, b2, b3, g, t, t2 =>
    br (decide (u2 < u))
      ((strike_S N 1 4 b b2 b3).bind fun (x_9, y_10, y_11, y_12) =>
      (stroke_S N 9 y_10 y_11 y_12).bind fun (x_13, y_14, y_15, y_16) =>
      (seldom_S N 3 y_14 y_15 y_16).bind fun (x_17, y_18, y_19, y_20) =>
      lim (t2.length + [(x_9, x_13, (!x_17))].length) <|
      chk (u2 + 1) <|
      made_l1 N n_ turns u (u2 + 1) y_18 y_19 y_20 g t (t2 ++ [(x_9, x_13, (!x_17))]))
      (some ((turns, b, b2, b3, g, t, t2)))
def made_j1 (N : Nat) (rec : Int → Int → (List Int) → Int → Int → Int → Int → (List (Int × (Int × Bool))) → (List (Int × (Int × Int))) → Option (List Int × Int × Int × Int × Int × (List (Int × (Int × Bool))) × (List (Int × (Int × Int))))) (u : Int) (u2 : Int) (b : List Int) (b2 : Int) (b3 : Int) (g : Int) (t : Int) (t2 : List (Int × (Int × Bool))) (t3 : List (Int × (Int × Int))) : Option (List Int × Int × Int × Int × Int × (List (Int × (Int × Bool))) × (List (Int × (Int × Int)))) :=
  chk (u2 + 1) <|
  rec u (u2 + 1) b b2 b3 g t t2 t3
def made_l2 (N : Nat) : Nat → Int → Int → (List Int) → Int → Int → Int → Int → (List (Int × (Int × Bool))) → (List (Int × (Int × Int))) → Option (List Int × Int × Int × Int × Int × (List (Int × (Int × Bool))) × (List (Int × (Int × Int))))
  | 0, _, _, _, _, _, _, _, _, _ => none
  | n_ + 1, u, u2, b, b2, b3, g, t, t2, t3 =>
    br (decide (u2 < u))
      (br (decide ((t2.length : Int) < 2))
        (some ((b, b2, b3, g, t, t2, t3)))
        (chk ((t2.length : Int) - 1) <|
        (stroke_S N ((t2.length : Int) - 1) b b2 b3).bind fun (x_32, y_33, y_34, y_35) =>
        chk ((t2.length : Int) - 1) <|
        (stroke_S N 2 y_33 y_34 y_35).bind fun (x_36, y_37, y_38, y_39) =>
        chk (x_32 + x_36) <|
        chk ((t2.length : Int) - 1) <|
        (stroke_S N ((t2.length : Int) - 1) y_37 y_38 y_39).bind fun (x_40, y_41, y_42, y_43) =>
        br (decide (x_40 < x_32))
          (lim (t3.length + [(x_40, x_32, (min ((t2.length : Int) - 1) (x_32 + x_36)))].length) <|
          made_j1 N (made_l2 N n_) u u2 y_41 y_42 y_43 g t t2 (t3 ++ [(x_40, x_32, (min ((t2.length : Int) - 1) (x_32 + x_36)))]))
          (br (decide ((min ((t2.length : Int) - 1) (x_32 + x_36)) < x_40))
            (lim (t3.length + [(x_40, x_32, (min ((t2.length : Int) - 1) (x_32 + x_36)))].length) <|
            made_j1 N (made_l2 N n_) u u2 y_41 y_42 y_43 g t t2 (t3 ++ [(x_40, x_32, (min ((t2.length : Int) - 1) (x_32 + x_36)))]))
            (made_j1 N (made_l2 N n_) u u2 y_41 y_42 y_43 g t t2 t3))))
      (some ((b, b2, b3, g, t, t2, t3)))
def made_S (N : Nat) (words : Int) (turns : Int) (b : List Int) (b2 : Int) (b3 : Int) : Option ((List (Int × (Int × Bool))) × (List (Int × (Int × Int))) × Int × List Int × Int × Int) :=
  (strike_S N 3 14 b b2 b3).bind fun (x_1, y_2, y_3, y_4) =>
  (strike_S N 1 words y_2 y_3 y_4).bind fun (x_5, y_6, y_7, y_8) =>
  (made_l1 N N turns x_5 0 y_6 y_7 y_8 0 x_1 []).bind fun (turns_21, b_22, b2_23, b3_24, g_25, t_26, t2_27) =>
  (stroke_S N turns_21 b_22 b2_23 b3_24).bind fun (x_28, y_29, y_30, y_31) =>
  (made_l2 N N x_28 0 y_29 y_30 y_31 g_25 t_26 t2_27 []).bind fun (g_44, g2_45, g3_46, g4_47, t_48, t2_49, t3_50) =>
  some (t2_49, t3_50, t_48, g_44, g2_45, g3_46)
noncomputable def made_sp (N : Nat) : List Spec := [sp_stroke N, sp_strike N, sp_seldom N]
theorem made_all (N : Nat) : AllP (SpecOK Try.prog) (made_sp N) := ⟨sp_stroke_ok N, sp_strike_ok N, sp_seldom_ok N, trivial⟩
noncomputable def made_c : Code := (Try.f36.body).getD .skip
noncomputable abbrev made_B : Body := { c := made_c, n := 83, res := [.cell 6 25], outs := [⟨[.agg [.sl (.pair (.int .i64) (.pair (.int .i64) .bool)), .sl (.pair (.int .i64) (.pair (.int .i64) (.int .i64))), .i .i64]], [.segs [.sl (.int .u8), .i .i64, .i .u32]]⟩], m0 := 1 }
abbrev made_rt : altD made_B.outs → Option ((List (Int × (Int × Bool))) × (List (Int × (Int × Int))) × Int × List Int × Int × Int) := fun r => some (r.1.1.1, r.1.1.2.1, r.1.1.2.2.1, r.2.1.1, r.2.1.2.1, r.2.1.2.2.1)
abbrev made_l1_at : List PI := [.c [1, 1, 0, 1, 0, 0, 0], .c [1, 1, 0, 1, 0, 0, 1], .l [1, 1, 0, 1, 0, 0], .b 0, .c [1, 1, 1]]
abbrev made_l1_st : Sta := ⟨[0, 2, 6, 7, 16, 17], ⟨[.own 0 0, .i .i64, .own 1 0, .own 2 0, .i .i64, .i .i64], [.segs [.sl (.int .u8), .i .i64, .i .u32], .segs [.nils, .nils, .i .i64], .segs [.ols 3, .nils, .i .i64], .lst (.pair (.int .i64) (.pair (.int .i64) .bool))]⟩⟩
abbrev made_l1_h (rec : Int → Int → Int → (List Int) → Int → Int → Int → Int → (List (Int × (Int × Bool))) → Option (Int × List Int × Int × Int × Int × Int × (List (Int × (Int × Bool))))) : Leaf (Int × List Int × Int × Int × Int × Int × (List (Int × (Int × Bool)))) := ⟨made_l1_at, made_l1_st, fun p => rec p.1.2.1 p.1.2.2.2.2.1 p.1.2.2.2.2.2.1 p.2.1.1 p.2.1.2.1 p.2.1.2.2.1 p.2.2.1.2.2.1 p.2.2.2.1.2.2.1 p.2.2.2.2.1⟩
abbrev made_l1_e0 : Leaf (Int × List Int × Int × Int × Int × Int × (List (Int × (Int × Bool)))) := ⟨[.c [1, 1, 1, 0, 0], .c [1, 1, 1, 0, 1], .c [1, 1, 1, 1]], ⟨[0, 2, 6, 7], ⟨[.own 0 0, .i .i64, .own 1 0, .own 2 0], [.segs [.sl (.int .u8), .i .i64, .i .u32], .segs [.nils, .nils, .i .i64], .segs [.ols 3, .nils, .i .i64], .lst (.pair (.int .i64) (.pair (.int .i64) .bool))]⟩⟩, fun p => some ((p.1.2.1, p.2.1.1, p.2.1.2.1, p.2.1.2.2.1, p.2.2.1.2.2.1, p.2.2.2.1.2.2.1, p.2.2.2.2.1))⟩
noncomputable def made_l1_L (N : Nat) : LoopS := { at_ := made_l1_at, sta := made_l1_st, exits := [([.c [1, 1, 1, 0, 0], .c [1, 1, 1, 0, 1], .c [1, 1, 1, 1]], ⟨[0, 2, 6, 7], ⟨[.own 0 0, .i .i64, .own 1 0, .own 2 0], [.segs [.sl (.int .u8), .i .i64, .i .u32], .segs [.nils, .nils, .i .i64], .segs [.ols 3, .nils, .i .i64], .lst (.pair (.int .i64) (.pair (.int .i64) .bool))]⟩⟩)], run := fun p k => (made_l1 N N p.1.2.1 p.1.2.2.2.2.1 p.1.2.2.2.2.2.1 p.2.1.1 p.2.1.2.1 p.2.1.2.2.1 p.2.2.1.2.2.1 p.2.2.2.1.2.2.1 p.2.2.2.2.1).bind fun e => k (.inl (((), e.1, (), (), ()), ((e.2.1, e.2.2.1, e.2.2.2.1, ()), ((), (), e.2.2.2.2.1, ()), ((), (), e.2.2.2.2.2.1, ()), e.2.2.2.2.2.2, ()))) }
theorem made_l1_eq (N n_ : Nat) (turns : Int) (u : Int) (u2 : Int) (b : List Int) (b2 : Int) (b3 : Int) (g : Int) (t : Int) (t2 : List (Int × (Int × Bool))) : ev (Z := Int × List Int × Int × Int × Int × Int × (List (Int × (Int × Bool)))) Try.prog (made_sp N) made_B [] [made_l1_h (made_l1 N n_), made_l1_e0] none 400 true made_l1_at (stL made_l1_st (((), turns, (), (), u, u2, ()), ((b, b2, b3, ()), ((), (), g, ()), ((), (), t, ()), t2, ()))) (stH made_l1_st (((), turns, (), (), u, u2, ()), ((b, b2, b3, ()), ((), (), g, ()), ((), (), t, ()), t2, ()))) = made_l1 N (n_ + 1) turns u u2 b b2 b3 g t t2 := by kernel_rfl
theorem made_l1_ok (N : Nat) {top : Bool} : LoopOK Try.prog made_B.c made_B.n made_B.m0 top (made_l1_L N) := loop_of_ev (Z := Int × List Int × Int × Int × Int × Int × (List (Int × (Int × Bool)))) (N := N) (fun m p => made_l1 N m p.1.2.1 p.1.2.2.2.2.1 p.1.2.2.2.2.2.1 p.2.1.1 p.2.1.2.1 p.2.1.2.2.1 p.2.2.1.2.2.1 p.2.2.2.1.2.2.1 p.2.2.2.2.1) (fun e => .inl (((), e.1, (), (), ()), ((e.2.1, e.2.2.1, e.2.2.2.1, ()), ((), (), e.2.2.2.2.1, ()), ((), (), e.2.2.2.2.2.1, ()), e.2.2.2.2.2.2, ()))) (fun _ _ _ => rfl) (fun _ => rfl) (fun m z E Xc hE hX hrec hx => leaf_of_ev (B := made_B) (loops := []) (leaves := [made_l1_h (made_l1 N m), made_l1_e0]) (made_all N) mixed trivial hE hX ⟨hrec, (fun p hp => by obtain rfl := Option.some.inj hp; exact hx), trivial⟩ RetOK.no (fun p => made_l1_eq N m p.1.2.1 p.1.2.2.2.2.1 p.1.2.2.2.2.2.1 p.2.1.1 p.2.1.2.1 p.2.1.2.2.1 p.2.2.1.2.2.1 p.2.2.2.1.2.2.1 p.2.2.2.2.1))
abbrev made_l2_at : List PI := [.c [1, 1, 1, 0, 1, 0, 0, 0], .c [1, 1, 1, 0, 1, 0, 0, 1], .l [1, 1, 1, 0, 1, 0, 0], .b 2, .c [1, 1, 1, 1]]
abbrev made_l2_st : Sta := ⟨[0, 6, 7, 35, 36], ⟨[.own 0 0, .own 1 0, .own 2 0, .i .i64, .i .i64], [.segs [.sl (.int .u8), .i .i64, .i .u32], .segs [.nils, .nils, .i .i64], .segs [.ols 3, .ols 4, .i .i64], .lst (.pair (.int .i64) (.pair (.int .i64) .bool)), .lst (.pair (.int .i64) (.pair (.int .i64) (.int .i64)))]⟩⟩
abbrev made_l2_h (rec : Int → Int → (List Int) → Int → Int → Int → Int → (List (Int × (Int × Bool))) → (List (Int × (Int × Int))) → Option (List Int × Int × Int × Int × Int × (List (Int × (Int × Bool))) × (List (Int × (Int × Int))))) : Leaf (List Int × Int × Int × Int × Int × (List (Int × (Int × Bool))) × (List (Int × (Int × Int)))) := ⟨made_l2_at, made_l2_st, fun p => rec p.1.2.2.2.1 p.1.2.2.2.2.1 p.2.1.1 p.2.1.2.1 p.2.1.2.2.1 p.2.2.1.2.2.1 p.2.2.2.1.2.2.1 p.2.2.2.2.1 p.2.2.2.2.2.1⟩
abbrev made_l2_e0 : Leaf (List Int × Int × Int × Int × Int × (List (Int × (Int × Bool))) × (List (Int × (Int × Int)))) := ⟨[.c [1, 1, 1, 1, 0], .c [1, 1, 1, 1, 1]], ⟨[6, 7], ⟨[.own 1 0, .own 2 0], [.segs [.sl (.int .u8), .i .i64, .i .u32], .segs [.nils, .nils, .i .i64], .segs [.ols 3, .ols 4, .i .i64], .lst (.pair (.int .i64) (.pair (.int .i64) .bool)), .lst (.pair (.int .i64) (.pair (.int .i64) (.int .i64)))]⟩⟩, fun p => some ((p.2.1.1, p.2.1.2.1, p.2.1.2.2.1, p.2.2.1.2.2.1, p.2.2.2.1.2.2.1, p.2.2.2.2.1, p.2.2.2.2.2.1))⟩
abbrev made_j1_at : List PI := [.c [1, 1, 1, 0, 1, 0, 0, 1, 1, 1], .l [1, 1, 1, 0, 1, 0, 0], .b 2, .c [1, 1, 1, 1]]
abbrev made_j1_st : Sta := ⟨[0, 6, 7, 35, 36], ⟨[.own 0 0, .own 1 0, .own 2 0, .i .i64, .i .i64], [.segs [.sl (.int .u8), .i .i64, .i .u32], .segs [.nils, .nils, .i .i64], .segs [.ols 3, .ols 4, .i .i64], .lst (.pair (.int .i64) (.pair (.int .i64) .bool)), .lst (.pair (.int .i64) (.pair (.int .i64) (.int .i64)))]⟩⟩
abbrev made_j1_k (N : Nat) (rec : Int → Int → (List Int) → Int → Int → Int → Int → (List (Int × (Int × Bool))) → (List (Int × (Int × Int))) → Option (List Int × Int × Int × Int × Int × (List (Int × (Int × Bool))) × (List (Int × (Int × Int))))) : Leaf (List Int × Int × Int × Int × Int × (List (Int × (Int × Bool))) × (List (Int × (Int × Int)))) := ⟨made_j1_at, made_j1_st, fun p => made_j1 N rec p.1.2.2.2.1 p.1.2.2.2.2.1 p.2.1.1 p.2.1.2.1 p.2.1.2.2.1 p.2.2.1.2.2.1 p.2.2.2.1.2.2.1 p.2.2.2.2.1 p.2.2.2.2.2.1⟩
theorem made_j1_eq (N : Nat) (rec : Int → Int → (List Int) → Int → Int → Int → Int → (List (Int × (Int × Bool))) → (List (Int × (Int × Int))) → Option (List Int × Int × Int × Int × Int × (List (Int × (Int × Bool))) × (List (Int × (Int × Int))))) (u : Int) (u2 : Int) (b : List Int) (b2 : Int) (b3 : Int) (g : Int) (t : Int) (t2 : List (Int × (Int × Bool))) (t3 : List (Int × (Int × Int))) : ev (Z := List Int × Int × Int × Int × Int × (List (Int × (Int × Bool))) × (List (Int × (Int × Int)))) Try.prog (made_sp N) made_B [made_l1_L N] [made_l2_h rec, made_l2_e0] none 400 true made_j1_at (stL made_j1_st (((), (), (), u, u2, ()), ((b, b2, b3, ()), ((), (), g, ()), ((), (), t, ()), t2, t3, ()))) (stH made_j1_st (((), (), (), u, u2, ()), ((b, b2, b3, ()), ((), (), g, ()), ((), (), t, ()), t2, t3, ()))) = made_j1 N rec u u2 b b2 b3 g t t2 t3 := by kernel_rfl
theorem made_j1_lf (N : Nat) (rec : Int → Int → (List Int) → Int → Int → Int → Int → (List (Int × (Int × Bool))) → (List (Int × (Int × Int))) → Option (List Int × Int × Int × Int × Int × (List (Int × (Int × Bool))) × (List (Int × (Int × Int))))) {z : List Int × Int × Int × Int × Int × (List (Int × (Int × Bool))) × (List (Int × (Int × Int)))} {top : Bool} {E : EE} {Xc : Ctx} (hE : EOK made_B.m0 E) (hX : CxOK top Xc) (hrec : LeafOK Try.prog made_B.c made_B.n made_B.m0 E Xc z (made_l2_h rec)) (h0 : LeafOK Try.prog made_B.c made_B.n made_B.m0 E Xc z made_l2_e0) : LeafOK Try.prog made_B.c made_B.n made_B.m0 E Xc z (made_j1_k N rec) := leaf_of_ev (B := made_B) (loops := [made_l1_L N]) (leaves := [made_l2_h rec, made_l2_e0]) (made_all N) mixed ⟨made_l1_ok N, trivial⟩ hE hX ⟨hrec, h0, trivial⟩ RetOK.no (fun p => made_j1_eq N rec p.1.2.2.2.1 p.1.2.2.2.2.1 p.2.1.1 p.2.1.2.1 p.2.1.2.2.1 p.2.2.1.2.2.1 p.2.2.2.1.2.2.1 p.2.2.2.2.1 p.2.2.2.2.2.1)
noncomputable def made_l2_L (N : Nat) : LoopS := { at_ := made_l2_at, sta := made_l2_st, exits := [([.c [1, 1, 1, 1, 0], .c [1, 1, 1, 1, 1]], ⟨[6, 7], ⟨[.own 1 0, .own 2 0], [.segs [.sl (.int .u8), .i .i64, .i .u32], .segs [.nils, .nils, .i .i64], .segs [.ols 3, .ols 4, .i .i64], .lst (.pair (.int .i64) (.pair (.int .i64) .bool)), .lst (.pair (.int .i64) (.pair (.int .i64) (.int .i64)))]⟩⟩)], run := fun p k => (made_l2 N N p.1.2.2.2.1 p.1.2.2.2.2.1 p.2.1.1 p.2.1.2.1 p.2.1.2.2.1 p.2.2.1.2.2.1 p.2.2.2.1.2.2.1 p.2.2.2.2.1 p.2.2.2.2.2.1).bind fun e => k (.inl (((), (), ()), ((e.1, e.2.1, e.2.2.1, ()), ((), (), e.2.2.2.1, ()), ((), (), e.2.2.2.2.1, ()), e.2.2.2.2.2.1, e.2.2.2.2.2.2, ()))) }
theorem made_l2_eq (N n_ : Nat) (u : Int) (u2 : Int) (b : List Int) (b2 : Int) (b3 : Int) (g : Int) (t : Int) (t2 : List (Int × (Int × Bool))) (t3 : List (Int × (Int × Int))) : ev (Z := List Int × Int × Int × Int × Int × (List (Int × (Int × Bool))) × (List (Int × (Int × Int)))) Try.prog (made_sp N) made_B [made_l1_L N] [made_l2_h (made_l2 N n_), made_l2_e0, made_j1_k N (made_l2 N n_)] none 400 true made_l2_at (stL made_l2_st (((), (), (), u, u2, ()), ((b, b2, b3, ()), ((), (), g, ()), ((), (), t, ()), t2, t3, ()))) (stH made_l2_st (((), (), (), u, u2, ()), ((b, b2, b3, ()), ((), (), g, ()), ((), (), t, ()), t2, t3, ()))) = made_l2 N (n_ + 1) u u2 b b2 b3 g t t2 t3 := by kernel_rfl
theorem made_l2_ok (N : Nat) {top : Bool} : LoopOK Try.prog made_B.c made_B.n made_B.m0 top (made_l2_L N) := loop_of_ev (Z := List Int × Int × Int × Int × Int × (List (Int × (Int × Bool))) × (List (Int × (Int × Int)))) (N := N) (fun m p => made_l2 N m p.1.2.2.2.1 p.1.2.2.2.2.1 p.2.1.1 p.2.1.2.1 p.2.1.2.2.1 p.2.2.1.2.2.1 p.2.2.2.1.2.2.1 p.2.2.2.2.1 p.2.2.2.2.2.1) (fun e => .inl (((), (), ()), ((e.1, e.2.1, e.2.2.1, ()), ((), (), e.2.2.2.1, ()), ((), (), e.2.2.2.2.1, ()), e.2.2.2.2.2.1, e.2.2.2.2.2.2, ()))) (fun _ _ _ => rfl) (fun _ => rfl) (fun m z E Xc hE hX hrec hx => leaf_of_ev (B := made_B) (loops := [made_l1_L N]) (leaves := [made_l2_h (made_l2 N m), made_l2_e0, made_j1_k N (made_l2 N m)]) (made_all N) mixed ⟨made_l1_ok N, trivial⟩ hE hX ⟨hrec, (fun p hp => by obtain rfl := Option.some.inj hp; exact hx), made_j1_lf N _ hE hX hrec (fun p hp => by obtain rfl := Option.some.inj hp; exact hx), trivial⟩ RetOK.no (fun p => made_l2_eq N m p.1.2.2.2.1 p.1.2.2.2.2.1 p.2.1.1 p.2.1.2.1 p.2.1.2.2.1 p.2.2.1.2.2.1 p.2.2.2.1.2.2.1 p.2.2.2.2.1 p.2.2.2.2.2.1))
abbrev made_st : Sta := ⟨[0, 1, 2], ⟨[.own 0 0, .i .i64, .i .i64], [.segs [.sl (.int .u8), .i .i64, .i .u32]]⟩⟩
theorem made_eq (N : Nat) (words : Int) (turns : Int) (b : List Int) (b2 : Int) (b3 : Int) : ev (Z := (List (Int × (Int × Bool))) × (List (Int × (Int × Int))) × Int × List Int × Int × Int) Try.prog (made_sp N) made_B [made_l1_L N, made_l2_L N] [] (some made_rt) 400 false [.c [0], .c [1]] (stL made_st (((), words, turns, ()), ((b, b2, b3, ()), ()))) (stH made_st (((), words, turns, ()), ((b, b2, b3, ()), ()))) = made_S N words turns b b2 b3 := by kernel_rfl
noncomputable def sp_made (N : Nat) : Spec := { f := 36, ins := ⟨[.own 0 0, .i .i64, .i .i64], [.segs [.sl (.int .u8), .i .i64, .i .u32]]⟩, outs := [⟨[.agg [.sl (.pair (.int .i64) (.pair (.int .i64) .bool)), .sl (.pair (.int .i64) (.pair (.int .i64) (.int .i64))), .i .i64]], [.segs [.sl (.int .u8), .i .i64, .i .u32]]⟩], run := fun p k => (made_S N p.1.2.1 p.1.2.2.1 p.2.1.1 p.2.1.2.1 p.2.1.2.2.1).bind fun r => k (((r.1, r.2.1, r.2.2.1, ()), ()), ((r.2.2.2.1, r.2.2.2.2.1, r.2.2.2.2.2, ()), ())) }
theorem sp_made_ok (N : Nat) : SpecOK Try.prog (sp_made N) := fn_sound (B := made_B) (loops := [made_l1_L N, made_l2_L N]) (leaves := []) (fun p => made_S N p.1.2.1 p.1.2.2.1 p.2.1.1 p.2.1.2.1 p.2.1.2.2.1) (fun r => (((r.1, r.2.1, r.2.2.1, ()), ()), ((r.2.2.2.1, r.2.2.2.2.1, r.2.2.2.2.2, ()), ()))) made_rt (fun _ _ _ => rfl) (fun r z h => by cases h; rfl) Try.func36 (by kernel_rfl) (by kernel_rfl) (by kernel_rfl) rfl rfl (by kernel_rfl) (fun args w => Sem.pv_run _ _ _ (by kernel_rfl) w) (made_all N) mixed ⟨made_l1_ok N, made_l2_ok N, trivial⟩ (fun z E Xc hE hX hret => trivial) (fun p => made_eq N p.1.2.1 p.1.2.2.1 p.2.1.1 p.2.1.2.1 p.2.1.2.2.1)

def lsays1_S (N : Nat) (x : Int) (x2 : Int) (x3 : Int) (u : Int) (u2 : Int) : Option Bool :=
  br (decide (u ≤ x2))
    (br (decide (x3 < u2))
      (br (decide (x < u))
        (some true)
        (some (decide (u2 ≤ x))))
      (some false))
    (some false)
noncomputable def lsays1_sp (N : Nat) : List Spec := []
theorem lsays1_all (N : Nat) : AllP (SpecOK Try.prog) (lsays1_sp N) := trivial
noncomputable def lsays1_c : Code := (Try.f151.body).getD .skip
noncomputable abbrev lsays1_B : Body := { c := lsays1_c, n := 29, res := [.tmp 4], outs := [⟨[.b], []⟩], m0 := 0 }
abbrev lsays1_rt : altD lsays1_B.outs → Option Bool := fun r => some r.1.1
abbrev lsays1_st : Sta := ⟨[0, 1, 2], ⟨[.agg [.i .i64, .i .i64, .i .i64], .fe (.int .i64), .fe (.int .i64)], []⟩⟩
theorem lsays1_eq (N : Nat) (x : Int) (x2 : Int) (x3 : Int) (u : Int) (u2 : Int) : ev (Z := Bool) Try.prog (lsays1_sp N) lsays1_B [] [] (some lsays1_rt) 400 false [.c [0], .c [1]] (stL lsays1_st (((x, x2, x3, ()), u, u2, ()), ())) (stH lsays1_st (((x, x2, x3, ()), u, u2, ()), ())) = lsays1_S N x x2 x3 u u2 := by kernel_rfl
noncomputable def sp_lsays1 (N : Nat) : Spec := { f := 151, ins := ⟨[.agg [.i .i64, .i .i64, .i .i64], .fe (.int .i64), .fe (.int .i64)], []⟩, outs := [⟨[.b], []⟩], run := fun p k => (lsays1_S N p.1.1.1 p.1.1.2.1 p.1.1.2.2.1 p.1.2.1 p.1.2.2.1).bind fun r => k ((r, ()), ()) }
theorem sp_lsays1_ok (N : Nat) : SpecOK Try.prog (sp_lsays1 N) := fn_sound (B := lsays1_B) (loops := []) (leaves := []) (fun p => lsays1_S N p.1.1.1 p.1.1.2.1 p.1.1.2.2.1 p.1.2.1 p.1.2.2.1) (fun r => ((r, ()), ())) lsays1_rt (fun _ _ _ => rfl) (fun r z h => by cases h; rfl) Try.func151 (by kernel_rfl) (by kernel_rfl) (by kernel_rfl) rfl rfl (by kernel_rfl) (fun args w => Sem.pv_run _ _ _ (by kernel_rfl) w) (lsays1_all N) mixed trivial (fun z E Xc hE hX hret => trivial) (fun p => lsays1_eq N p.1.1.1 p.1.1.2.1 p.1.1.2.2.1 p.1.2.1 p.1.2.2.1)

def ixfls_l1 (N : Nat) : Nat → (List (Int × (Int × Int))) → Int → Int → Int → Int → Option ((Int) ⊕ (Unit))
  | 0, _, _, _, _, _ => none
  | n_ + 1, s, f, f2, u, u2 =>
    br (decide (u2 < u))
      (idx s u2 fun x_1 =>
      (lsays1_S N x_1.1 x_1.2.1 x_1.2.2 f f2).bind fun x_2 =>
      br x_2
        (some (.inl u2))
        (chk (u2 + 1) <|
        ixfls_l1 N n_ s f f2 u (u2 + 1)))
      (some (.inr ()))
def ixfls_S (N : Nat) (s : List (Int × (Int × Int))) (f : Int) (f2 : Int) : Option Int :=
  (ixfls_l1 N N s f f2 (s.length : Int) 0).bind fun e => match e with
  | .inl i_3 =>
    some i_3
  | .inr _ =>
    some (-1)
noncomputable def ixfls_sp (N : Nat) : List Spec := [sp_lsays1 N]
theorem ixfls_all (N : Nat) : AllP (SpecOK Try.prog) (ixfls_sp N) := ⟨sp_lsays1_ok N, trivial⟩
noncomputable def ixfls_c : Code := (Try.f134.body).getD .skip
noncomputable abbrev ixfls_B : Body := { c := ixfls_c, n := 19, res := [.tmp 4], outs := [⟨[.i .i64], []⟩], m0 := 0 }
abbrev ixfls_rt : altD ixfls_B.outs → Option Int := fun r => some r.1.1
abbrev ixfls_l1_at : List PI := [.c [1, 0, 1, 0, 0, 0], .c [1, 0, 1, 0, 0, 1], .l [1, 0, 1, 0, 0], .b 0, .c [1, 1]]
abbrev ixfls_l1_st : Sta := ⟨[0, 1, 7, 8], ⟨[.sl (.pair (.int .i64) (.pair (.int .i64) (.int .i64))), .fn 151 [] [.fe (.int .i64), .fe (.int .i64)], .i .i64, .i .i64], []⟩⟩
abbrev ixfls_l1_h (rec : (List (Int × (Int × Int))) → Int → Int → Int → Int → Option ((Int) ⊕ (Unit))) : Leaf ((Int) ⊕ (Unit)) := ⟨ixfls_l1_at, ixfls_l1_st, fun p => rec p.1.1 p.1.2.1.2.1 p.1.2.1.2.2.1 p.1.2.2.1 p.1.2.2.2.1⟩
abbrev ixfls_l1_e0 : Leaf ((Int) ⊕ (Unit)) := ⟨[.c [1, 0, 1, 0, 0, 1, 1, 0, 0, 1, 1, 0, 0], .c [1, 0, 1, 0, 0, 1, 1, 0, 0, 1, 1, 0, 1], .b 1, .c [1, 0, 1, 0, 0, 1, 1, 1], .l [1, 0, 1, 0, 0], .b 0, .c [1, 1]], ⟨[5], ⟨[.i .i64], []⟩⟩, fun p => some (.inl p.1.1)⟩
abbrev ixfls_l1_e1 : Leaf ((Int) ⊕ (Unit)) := ⟨[.c [1, 1, 0], .c [1, 1, 1]], ⟨[], ⟨[], []⟩⟩, fun p => some (.inr ())⟩
noncomputable def ixfls_l1_L (N : Nat) : LoopS := { at_ := ixfls_l1_at, sta := ixfls_l1_st, exits := [([.c [1, 0, 1, 0, 0, 1, 1, 0, 0, 1, 1, 0, 0], .c [1, 0, 1, 0, 0, 1, 1, 0, 0, 1, 1, 0, 1], .b 1, .c [1, 0, 1, 0, 0, 1, 1, 1], .l [1, 0, 1, 0, 0], .b 0, .c [1, 1]], ⟨[5], ⟨[.i .i64], []⟩⟩), ([.c [1, 1, 0], .c [1, 1, 1]], ⟨[], ⟨[], []⟩⟩)], run := fun p k => (ixfls_l1 N N p.1.1 p.1.2.1.2.1 p.1.2.1.2.2.1 p.1.2.2.1 p.1.2.2.2.1).bind fun e => match e with | .inl x => k (.inl ((x, ()), ())) | .inr x => k (.inr (.inl ((), ()))) }
theorem ixfls_l1_eq (N n_ : Nat) (s : List (Int × (Int × Int))) (f : Int) (f2 : Int) (u : Int) (u2 : Int) : ev (Z := (Int) ⊕ (Unit)) Try.prog (ixfls_sp N) ixfls_B [] [ixfls_l1_h (ixfls_l1 N n_), ixfls_l1_e0, ixfls_l1_e1] none 400 true ixfls_l1_at (stL ixfls_l1_st ((s, ((), (f, f2, ())), u, u2, ()), ())) (stH ixfls_l1_st ((s, ((), (f, f2, ())), u, u2, ()), ())) = ixfls_l1 N (n_ + 1) s f f2 u u2 := by kernel_rfl
theorem ixfls_l1_ok (N : Nat) {top : Bool} : LoopOK Try.prog ixfls_B.c ixfls_B.n ixfls_B.m0 top (ixfls_l1_L N) := loop_of_ev (Z := (Int) ⊕ (Unit)) (N := N) (fun m p => ixfls_l1 N m p.1.1 p.1.2.1.2.1 p.1.2.1.2.2.1 p.1.2.2.1 p.1.2.2.2.1) (fun e => match e with | .inl x => .inl ((x, ()), ()) | .inr x => .inr (.inl ((), ()))) (fun _ p k => bind_congr_ (ixfls_l1 N N p.1.1 p.1.2.1.2.1 p.1.2.1.2.2.1 p.1.2.2.1 p.1.2.2.2.1) _ _ (fun e => by rcases e with x | x <;> rfl)) (fun _ => rfl) (fun m z E Xc hE hX hrec hx => leaf_of_ev (B := ixfls_B) (loops := []) (leaves := [ixfls_l1_h (ixfls_l1 N m), ixfls_l1_e0, ixfls_l1_e1]) (ixfls_all N) mixed trivial hE hX ⟨hrec, (fun p hp => by obtain rfl := Option.some.inj hp; exact hx), (fun p hp => by obtain rfl := Option.some.inj hp; exact hx), trivial⟩ RetOK.no (fun p => ixfls_l1_eq N m p.1.1 p.1.2.1.2.1 p.1.2.1.2.2.1 p.1.2.2.1 p.1.2.2.2.1))
abbrev ixfls_st : Sta := ⟨[0, 1], ⟨[.sl (.pair (.int .i64) (.pair (.int .i64) (.int .i64))), .fn 151 [] [.fe (.int .i64), .fe (.int .i64)]], []⟩⟩
theorem ixfls_eq (N : Nat) (s : List (Int × (Int × Int))) (f : Int) (f2 : Int) : ev (Z := Int) Try.prog (ixfls_sp N) ixfls_B [ixfls_l1_L N] [] (some ixfls_rt) 400 false [.c [0], .c [1]] (stL ixfls_st ((s, ((), (f, f2, ())), ()), ())) (stH ixfls_st ((s, ((), (f, f2, ())), ()), ())) = ixfls_S N s f f2 := by kernel_rfl
noncomputable def sp_ixfls (N : Nat) : Spec := { f := 134, ins := ⟨[.sl (.pair (.int .i64) (.pair (.int .i64) (.int .i64))), .fn 151 [] [.fe (.int .i64), .fe (.int .i64)]], []⟩, outs := [⟨[.i .i64], []⟩], run := fun p k => (ixfls_S N p.1.1 p.1.2.1.2.1 p.1.2.1.2.2.1).bind fun r => k ((r, ()), ()) }
theorem sp_ixfls_ok (N : Nat) : SpecOK Try.prog (sp_ixfls N) := fn_sound (B := ixfls_B) (loops := [ixfls_l1_L N]) (leaves := []) (fun p => ixfls_S N p.1.1 p.1.2.1.2.1 p.1.2.1.2.2.1) (fun r => ((r, ()), ())) ixfls_rt (fun _ _ _ => rfl) (fun r z h => by cases h; rfl) Try.func134 (by kernel_rfl) (by kernel_rfl) (by kernel_rfl) rfl rfl (by kernel_rfl) (fun args w => Sem.pv_run _ _ _ (by kernel_rfl) w) (ixfls_all N) mixed ⟨ixfls_l1_ok N, trivial⟩ (fun z E Xc hE hX hret => trivial) (fun p => ixfls_eq N p.1.1 p.1.2.1.2.1 p.1.2.1.2.2.1)

def cofls_S (N : Nat) (s : List (Int × (Int × Int))) (f : Int) (f2 : Int) : Option Bool :=
  (ixfls_S N s f f2).bind fun x_1 =>
  some (decide (0 ≤ x_1))
noncomputable def cofls_sp (N : Nat) : List Spec := [sp_ixfls N]
theorem cofls_all (N : Nat) : AllP (SpecOK Try.prog) (cofls_sp N) := ⟨sp_ixfls_ok N, trivial⟩
noncomputable def cofls_c : Code := (Try.f75.body).getD .skip
noncomputable abbrev cofls_B : Body := { c := cofls_c, n := 9, res := [.tmp 4], outs := [⟨[.b], []⟩], m0 := 0 }
abbrev cofls_rt : altD cofls_B.outs → Option Bool := fun r => some r.1.1
abbrev cofls_st : Sta := ⟨[0, 1], ⟨[.sl (.pair (.int .i64) (.pair (.int .i64) (.int .i64))), .fn 151 [] [.fe (.int .i64), .fe (.int .i64)]], []⟩⟩
theorem cofls_eq (N : Nat) (s : List (Int × (Int × Int))) (f : Int) (f2 : Int) : ev (Z := Bool) Try.prog (cofls_sp N) cofls_B [] [] (some cofls_rt) 400 false [.c [0], .c [1]] (stL cofls_st ((s, ((), (f, f2, ())), ()), ())) (stH cofls_st ((s, ((), (f, f2, ())), ()), ())) = cofls_S N s f f2 := by kernel_rfl
noncomputable def sp_cofls (N : Nat) : Spec := { f := 75, ins := ⟨[.sl (.pair (.int .i64) (.pair (.int .i64) (.int .i64))), .fn 151 [] [.fe (.int .i64), .fe (.int .i64)]], []⟩, outs := [⟨[.b], []⟩], run := fun p k => (cofls_S N p.1.1 p.1.2.1.2.1 p.1.2.1.2.2.1).bind fun r => k ((r, ()), ()) }
theorem sp_cofls_ok (N : Nat) : SpecOK Try.prog (sp_cofls N) := fn_sound (B := cofls_B) (loops := []) (leaves := []) (fun p => cofls_S N p.1.1 p.1.2.1.2.1 p.1.2.1.2.2.1) (fun r => ((r, ()), ())) cofls_rt (fun _ _ _ => rfl) (fun r z h => by cases h; rfl) Try.func75 (by kernel_rfl) (by kernel_rfl) (by kernel_rfl) rfl rfl (by kernel_rfl) (fun args w => Sem.pv_run _ _ _ (by kernel_rfl) w) (cofls_all N) mixed trivial (fun z E Xc hE hX hret => trivial) (fun p => cofls_eq N p.1.1 p.1.2.1.2.1 p.1.2.1.2.2.1)

def lsays_S (N : Nat) (t : List (Int × (Int × Bool))) (t2 : List (Int × (Int × Int))) (t3 : Int) (from_ : Int) (to : Int) : Option Bool :=
  (cofls_S N t2 from_ to).bind fun x_1 =>
  some x_1
noncomputable def lsays_sp (N : Nat) : List Spec := [sp_cofls N]
theorem lsays_all (N : Nat) : AllP (SpecOK Try.prog) (lsays_sp N) := ⟨sp_cofls_ok N, trivial⟩
noncomputable def lsays_c : Code := (Try.f114.body).getD .skip
noncomputable abbrev lsays_B : Body := { c := lsays_c, n := 11, res := [.tmp 6], outs := [⟨[.b], []⟩], m0 := 0 }
abbrev lsays_rt : altD lsays_B.outs → Option Bool := fun r => some r.1.1
abbrev lsays_st : Sta := ⟨[0, 1, 2], ⟨[.agg [.sl (.pair (.int .i64) (.pair (.int .i64) .bool)), .sl (.pair (.int .i64) (.pair (.int .i64) (.int .i64))), .i .i64], .i .i64, .i .i64], []⟩⟩
theorem lsays_eq (N : Nat) (t : List (Int × (Int × Bool))) (t2 : List (Int × (Int × Int))) (t3 : Int) (from_ : Int) (to : Int) : ev (Z := Bool) Try.prog (lsays_sp N) lsays_B [] [] (some lsays_rt) 400 false [.c [0], .c [1]] (stL lsays_st (((t, t2, t3, ()), from_, to, ()), ())) (stH lsays_st (((t, t2, t3, ()), from_, to, ()), ())) = lsays_S N t t2 t3 from_ to := by kernel_rfl
noncomputable def sp_lsays (N : Nat) : Spec := { f := 114, ins := ⟨[.agg [.sl (.pair (.int .i64) (.pair (.int .i64) .bool)), .sl (.pair (.int .i64) (.pair (.int .i64) (.int .i64))), .i .i64], .i .i64, .i .i64], []⟩, outs := [⟨[.b], []⟩], run := fun p k => (lsays_S N p.1.1.1 p.1.1.2.1 p.1.1.2.2.1 p.1.2.1 p.1.2.2.1).bind fun r => k ((r, ()), ()) }
theorem sp_lsays_ok (N : Nat) : SpecOK Try.prog (sp_lsays N) := fn_sound (B := lsays_B) (loops := []) (leaves := []) (fun p => lsays_S N p.1.1.1 p.1.1.2.1 p.1.1.2.2.1 p.1.2.1 p.1.2.2.1) (fun r => ((r, ()), ())) lsays_rt (fun _ _ _ => rfl) (fun r z h => by cases h; rfl) Try.func114 (by kernel_rfl) (by kernel_rfl) (by kernel_rfl) rfl rfl (by kernel_rfl) (fun args w => Sem.pv_run _ _ _ (by kernel_rfl) w) (lsays_all N) mixed trivial (fun z E Xc hE hX hret => trivial) (fun p => lsays_eq N p.1.1.1 p.1.1.2.1 p.1.1.2.2.1 p.1.2.1 p.1.2.2.1)

def fits_l1 (N : Nat) : Nat → Int → Int → Int → (List (Int × (Int × Bool))) → Int → Int → (List (Int × (Int × Bool))) → (List (Int × (Int × Int))) → Int → Option (Int × Int × Int × (List (Int × (Int × Bool))) × (List (Int × (Int × Int))) × Int)
  | 0, _, _, _, _, _, _, _, _, _ => none
  | n_ + 1, from_, to, n, u, u2, u3, t, t2, t3 =>
    br (decide (u3 < u2))
      (idx u u3 fun x_1 =>
      chk (n + x_1.1) <|
      chk (u3 + 1) <|
      fits_l1 N n_ from_ to (n + x_1.1) u u2 (u3 + 1) t t2 t3)
      (some ((from_, to, n, t, t2, t3)))
def fits_S (N : Nat) (t : List (Int × (Int × Bool))) (t2 : List (Int × (Int × Int))) (t3 : Int) (from_ : Int) (to : Int) : Option Bool :=
  grd (decide ((0 : Int) ≤ from_ ∧ (from_ : Int) ≤ to ∧ to ≤ (t.length : Int))) <|
  (fits_l1 N N from_ to 0 ((t.take to.toNat).drop from_.toNat) (((t.take to.toNat).drop from_.toNat).length : Int) 0 t t2 t3).bind fun (from__2, to_3, n_4, t_5, t2_6, t3_7) =>
  br (decide (n_4 ≤ t3_7))
    (br (decide (from__2 = 0))
      (br (decide (to_3 = (t_5.length : Int)))
        ((lsays_S N t_5 t2_6 t3_7 from__2 to_3).bind fun x_8 =>
        some (!x_8))
        (chk (to_3 - 1) <|
        idx t_5 (to_3 - 1) fun x_9 =>
        br x_9.2.2
          ((lsays_S N t_5 t2_6 t3_7 from__2 to_3).bind fun x_10 =>
          some (!x_10))
          (some false)))
      (chk (from__2 - 1) <|
      idx t_5 (from__2 - 1) fun x_11 =>
      br x_11.2.2
        (br (decide (to_3 = (t_5.length : Int)))
          ((lsays_S N t_5 t2_6 t3_7 from__2 to_3).bind fun x_12 =>
          some (!x_12))
          (chk (to_3 - 1) <|
          idx t_5 (to_3 - 1) fun x_13 =>
          br x_13.2.2
            ((lsays_S N t_5 t2_6 t3_7 from__2 to_3).bind fun x_14 =>
            some (!x_14))
            (some false)))
        (some false)))
    (some false)
noncomputable def fits_sp (N : Nat) : List Spec := [sp_lsays N]
theorem fits_all (N : Nat) : AllP (SpecOK Try.prog) (fits_sp N) := ⟨sp_lsays_ok N, trivial⟩
noncomputable def fits_c : Code := (Try.f64.body).getD .skip
noncomputable abbrev fits_B : Body := { c := fits_c, n := 65, res := [.tmp 6], outs := [⟨[.b], []⟩], m0 := 0 }
abbrev fits_rt : altD fits_B.outs → Option Bool := fun r => some r.1.1
abbrev fits_l1_at : List PI := [.c [1, 1, 0, 1, 0, 0, 0], .c [1, 1, 0, 1, 0, 0, 1], .l [1, 1, 0, 1, 0, 0], .b 0, .c [1, 1, 1]]
abbrev fits_l1_st : Sta := ⟨[1, 2, 3, 7, 14, 15, 16], ⟨[.i .i64, .i .i64, .own 0 0, .i .i64, .sl (.pair (.int .i64) (.pair (.int .i64) .bool)), .i .i64, .i .i64], [.segs [.sl (.pair (.int .i64) (.pair (.int .i64) .bool)), .sl (.pair (.int .i64) (.pair (.int .i64) (.int .i64))), .i .i64]]⟩⟩
abbrev fits_l1_h (rec : Int → Int → Int → (List (Int × (Int × Bool))) → Int → Int → (List (Int × (Int × Bool))) → (List (Int × (Int × Int))) → Int → Option (Int × Int × Int × (List (Int × (Int × Bool))) × (List (Int × (Int × Int))) × Int)) : Leaf (Int × Int × Int × (List (Int × (Int × Bool))) × (List (Int × (Int × Int))) × Int) := ⟨fits_l1_at, fits_l1_st, fun p => rec p.1.1 p.1.2.1 p.1.2.2.2.1 p.1.2.2.2.2.1 p.1.2.2.2.2.2.1 p.1.2.2.2.2.2.2.1 p.2.1.1 p.2.1.2.1 p.2.1.2.2.1⟩
abbrev fits_l1_e0 : Leaf (Int × Int × Int × (List (Int × (Int × Bool))) × (List (Int × (Int × Int))) × Int) := ⟨[.c [1, 1, 1, 0], .c [1, 1, 1, 1]], ⟨[1, 2, 3, 7], ⟨[.i .i64, .i .i64, .own 0 0, .i .i64], [.segs [.sl (.pair (.int .i64) (.pair (.int .i64) .bool)), .sl (.pair (.int .i64) (.pair (.int .i64) (.int .i64))), .i .i64]]⟩⟩, fun p => some ((p.1.1, p.1.2.1, p.1.2.2.2.1, p.2.1.1, p.2.1.2.1, p.2.1.2.2.1))⟩
noncomputable def fits_l1_L (N : Nat) : LoopS := { at_ := fits_l1_at, sta := fits_l1_st, exits := [([.c [1, 1, 1, 0], .c [1, 1, 1, 1]], ⟨[1, 2, 3, 7], ⟨[.i .i64, .i .i64, .own 0 0, .i .i64], [.segs [.sl (.pair (.int .i64) (.pair (.int .i64) .bool)), .sl (.pair (.int .i64) (.pair (.int .i64) (.int .i64))), .i .i64]]⟩⟩)], run := fun p k => (fits_l1 N N p.1.1 p.1.2.1 p.1.2.2.2.1 p.1.2.2.2.2.1 p.1.2.2.2.2.2.1 p.1.2.2.2.2.2.2.1 p.2.1.1 p.2.1.2.1 p.2.1.2.2.1).bind fun e => k (.inl ((e.1, e.2.1, (), e.2.2.1, ()), ((e.2.2.2.1, e.2.2.2.2.1, e.2.2.2.2.2, ()), ()))) }
theorem fits_l1_eq (N n_ : Nat) (from_ : Int) (to : Int) (n : Int) (u : List (Int × (Int × Bool))) (u2 : Int) (u3 : Int) (t : List (Int × (Int × Bool))) (t2 : List (Int × (Int × Int))) (t3 : Int) : ev (Z := Int × Int × Int × (List (Int × (Int × Bool))) × (List (Int × (Int × Int))) × Int) Try.prog (fits_sp N) fits_B [] [fits_l1_h (fits_l1 N n_), fits_l1_e0] none 400 true fits_l1_at (stL fits_l1_st ((from_, to, (), n, u, u2, u3, ()), ((t, t2, t3, ()), ()))) (stH fits_l1_st ((from_, to, (), n, u, u2, u3, ()), ((t, t2, t3, ()), ()))) = fits_l1 N (n_ + 1) from_ to n u u2 u3 t t2 t3 := by kernel_rfl
theorem fits_l1_ok (N : Nat) {top : Bool} : LoopOK Try.prog fits_B.c fits_B.n fits_B.m0 top (fits_l1_L N) := loop_of_ev (Z := Int × Int × Int × (List (Int × (Int × Bool))) × (List (Int × (Int × Int))) × Int) (N := N) (fun m p => fits_l1 N m p.1.1 p.1.2.1 p.1.2.2.2.1 p.1.2.2.2.2.1 p.1.2.2.2.2.2.1 p.1.2.2.2.2.2.2.1 p.2.1.1 p.2.1.2.1 p.2.1.2.2.1) (fun e => .inl ((e.1, e.2.1, (), e.2.2.1, ()), ((e.2.2.2.1, e.2.2.2.2.1, e.2.2.2.2.2, ()), ()))) (fun _ _ _ => rfl) (fun _ => rfl) (fun m z E Xc hE hX hrec hx => leaf_of_ev (B := fits_B) (loops := []) (leaves := [fits_l1_h (fits_l1 N m), fits_l1_e0]) (fits_all N) mixed trivial hE hX ⟨hrec, (fun p hp => by obtain rfl := Option.some.inj hp; exact hx), trivial⟩ RetOK.no (fun p => fits_l1_eq N m p.1.1 p.1.2.1 p.1.2.2.2.1 p.1.2.2.2.2.1 p.1.2.2.2.2.2.1 p.1.2.2.2.2.2.2.1 p.2.1.1 p.2.1.2.1 p.2.1.2.2.1))
abbrev fits_st : Sta := ⟨[0, 1, 2], ⟨[.agg [.sl (.pair (.int .i64) (.pair (.int .i64) .bool)), .sl (.pair (.int .i64) (.pair (.int .i64) (.int .i64))), .i .i64], .i .i64, .i .i64], []⟩⟩
theorem fits_eq (N : Nat) (t : List (Int × (Int × Bool))) (t2 : List (Int × (Int × Int))) (t3 : Int) (from_ : Int) (to : Int) : ev (Z := Bool) Try.prog (fits_sp N) fits_B [fits_l1_L N] [] (some fits_rt) 400 false [.c [0], .c [1]] (stL fits_st (((t, t2, t3, ()), from_, to, ()), ())) (stH fits_st (((t, t2, t3, ()), from_, to, ()), ())) = fits_S N t t2 t3 from_ to := by kernel_rfl
noncomputable def sp_fits (N : Nat) : Spec := { f := 64, ins := ⟨[.agg [.sl (.pair (.int .i64) (.pair (.int .i64) .bool)), .sl (.pair (.int .i64) (.pair (.int .i64) (.int .i64))), .i .i64], .i .i64, .i .i64], []⟩, outs := [⟨[.b], []⟩], run := fun p k => (fits_S N p.1.1.1 p.1.1.2.1 p.1.1.2.2.1 p.1.2.1 p.1.2.2.1).bind fun r => k ((r, ()), ()) }
theorem sp_fits_ok (N : Nat) : SpecOK Try.prog (sp_fits N) := fn_sound (B := fits_B) (loops := [fits_l1_L N]) (leaves := []) (fun p => fits_S N p.1.1.1 p.1.1.2.1 p.1.1.2.2.1 p.1.2.1 p.1.2.2.1) (fun r => ((r, ()), ())) fits_rt (fun _ _ _ => rfl) (fun r z h => by cases h; rfl) Try.func64 (by kernel_rfl) (by kernel_rfl) (by kernel_rfl) rfl rfl (by kernel_rfl) (fun args w => Sem.pv_run _ _ _ (by kernel_rfl) w) (fits_all N) mixed ⟨fits_l1_ok N, trivial⟩ (fun z E Xc hE hX hret => trivial) (fun p => fits_eq N p.1.1.1 p.1.1.2.1 p.1.1.2.2.1 p.1.2.1 p.1.2.2.1)

end Go.Proofs.Ytfamlpbdhhikdaa

namespace Go.Proofs.Ytfamlpbdhhikdaa
set_option linter.all false
open Go

end Go.Proofs.Ytfamlpbdhhikdaa

namespace Go.Proofs.Ytfamlpbdhhikdaa
set_option linter.all false
open Go

section
variable {R : Nat → Nat → Bool} {m : Nat}
end
/-! ### The program of the reference -/
section
variable {N : Nat} (hN : 110 ≤ N)
include hN
end
section
variable {ws : List Wd} {ts : List Tn} {br_ : Int}
variable {N : Nat} (hN : 1030 ≤ N)
include hN
end
/-! ### The fewest breaths -/
section
variable {N : Nat} {l : List (List Int)} (hl : l.length ≤ 100000) (h1 : ∀ x ∈ l, 1 ≤ x.length)
include hl h1
end
end Go.Proofs.Ytfamlpbdhhikdaa

namespace Go.Proofs.Ytfamlpbdhhikdaa
set_option linter.all false
open Go

section
variable {N : Nat} {l : List (List Int)} {ws : List Wd} {ts : List Tn} {br_ : Int} {O : List Int}
end
section
variable {R : Nat → Nat → Bool} {m : Nat}
end
section
variable {N : Nat} {ws : List Wd} {ts : List Tn} {br_ : Int} (hF : TFine ws ts br_) (hN : 1030 ≤ N) (hm : ws.length ≤ 10)
include hF hm hN
end
/-- The fewest breaths: what is told. -/
theorem fewest_v {N : Nat} (hN : 110 ≤ N) {ws : List Wd} {ts : List Tn} {br_ : Int} (hw : ws.length ≤ 1000000) (ht : ts.length ≤ 1000000) :
    (checkT ws ts br_ ≠ 0 ∧ fewest_S N ws ts br_ = some ([], checkT ws ts br_)) ∨ (checkT ws ts br_ = 0 ∧
      ((∃ l, fewest_S N ws ts br_ = some (l, 0) ∧ goodB (rightR ws ts br_) ws.length 0 l = true ∧ IsMin (rightR ws ts br_) ws.length 0 l.length) ∨
       (fewest_S N ws ts br_ = some ([], 6) ∧ ∀ l, goodB (rightR ws ts br_) ws.length 0 l = false))) := by
  unfold fewest_S
  rw [opened_v (by omega) hw ht]
  by_cases c : checkT ws ts br_ = 0
  · refine .inr ⟨c, ?_⟩
    have hF := tfine_of c
    have := hF.t
    rw [if_pos c]
    simp only [Option.bind_some]
    rw [br_nd trivial]
    rcases fewestr_v (N := N) hN (d := (ws, ts, br_)) (r := (ws, ts, br_)) (R := rightR ws ts br_) (m := ws.length) rfl ⟨hF.n0, hF.n⟩ (fun a b h1 h2 => right_v hN hF.okW (by omega) (by omega) h2) with ⟨l, e, h1, h2⟩ | ⟨e, h1⟩
    · rw [e]; exact .inl ⟨l, rfl, h1, h2⟩
    · rw [e]; exact .inr ⟨rfl, h1⟩
  · refine .inl ⟨c, ?_⟩
    rw [if_neg c]
    simp only [Option.bind_some]
    rw [br_nnd c]
end Go.Proofs.Ytfamlpbdhhikdaa

namespace Go.Proofs.Ytfamlpbdhhikdaa
set_option linter.all false
open Go

section
variable {ws : List Wd} {ts : List Tn} {br_ : Int}
variable {N : Nat} (hN : 110 ≤ N) (hF : TFine ws ts br_)
include hN hF
end
/-! ### Sure readings -/
section
variable {ws : List Wd} {ts : List Tn} {br_ : Int} {N : Nat} (hN : 110 ≤ N) (hF : TFine ws ts br_)
include hN hF
end
/-! ### No run of a sure reading says a turn otherwise -/
section
variable {ws : List Wd} {ts : List Tn} {br_ : Int}
end
end Go.Proofs.Ytfamlpbdhhikdaa

namespace Go.Proofs.Ytfamlpbdhhikdaa
set_option linter.all false
open Go

section
variable {N : Nat} {ws : List Wd} {ts : List Tn} {br_ : Int} (hN : 110 ≤ N) (hF : TFine ws ts br_)
include hN hF
end
section
variable {N : Nat} {ws : List Wd} {ts : List Tn} {br_ : Int} (hF : TFine ws ts br_) (hN : 1030 ≤ N) (hm : ws.length ≤ 10)
include hF hm hN
end
end Go.Proofs.Ytfamlpbdhhikdaa

namespace Go.Proofs.Ytfamlpbdhhikdaa
set_option linter.all false
open Go

/-! ### Bells -/
theorem wrap32 (x : Int) : 0 ≤ IntKind.u32.wrap x ∧ IntKind.u32.wrap x < 4294967296 := by
  have := wrap_inR .u32 x
  have h1 : IntKind.u32.min = 0 := by decide
  have h2 : IntKind.u32.max = 4294967295 := by decide
  unfold inR at this
  rw [h1, h2] at this
  omega
def Bell (b : List Int) (b2 : Int) : Prop := b.length ≤ 9223372036854775807 ∧ 0 ≤ b2 ∧ b2 ≤ b.length
abbrev BellR (b : List Int) (r : List Int × Int × Int) : Prop := r.1 = b ∧ Bell b r.2.1
theorem and_small (n : Nat) : 0 ≤ IntKind.i64.wrap ((n &&& 65535 : Nat) : Int) ∧ IntKind.i64.wrap ((n &&& 65535 : Nat) : Int) ≤ 65535 := by
  have : n &&& 65535 ≤ 65535 := Nat.and_le_right
  rw [wrap64 (by omega)]
  omega
theorem fdiv_nonneg {x : Int} (h : 0 ≤ x) : 0 ≤ Int.fdiv x (2 ^ 7) := by
  rw [Int.fdiv_eq_ediv_of_nonneg _ (by decide)]
  exact Int.ediv_nonneg h (by decide)
theorem ring_j1_ok (N : Nat) {b : List Int} {b2 b3 : Int} (hb : b.length ≤ 9223372036854775807) (h0 : 0 ≤ b2) (h1 : b2 < b.length ∨ b.length = 0 ∧ b2 = 0) : Ok (ring_j1 N b b2 b3) fun r => (0 ≤ r.1 ∧ r.1 ≤ 65535) ∧ BellR b r.2 := by
  unfold ring_j1
  refine Ok.brd (fun h => ?_) (fun h => ?_)
  · refine Ok.idx h0 (by omega) (fun a _ _ => Ok.chk (by omega) (Ok.grd ?_ (Ok.grd ?_ (Ok.some ?_))))
    · simp only [decide_eq_true_eq]; exact ⟨(wrap32 _).1, fdiv_nonneg (wrap32 _).1⟩
    · simp only [decide_eq_true_eq]; exact ⟨Int.natCast_nonneg _, by decide⟩
    · exact ⟨and_small _, rfl, hb, by dsimp only; omega, by dsimp only; omega⟩
  · refine Ok.grd ?_ (Ok.grd ?_ (Ok.some ?_))
    · simp only [decide_eq_true_eq]; exact ⟨(wrap32 _).1, fdiv_nonneg (wrap32 _).1⟩
    · simp only [decide_eq_true_eq]; exact ⟨Int.natCast_nonneg _, by decide⟩
    · exact ⟨and_small _, rfl, hb, by dsimp only; omega, by dsimp only; omega⟩
theorem ring_ok (N : Nat) {b : List Int} {b2 b3 : Int} (hb : Bell b b2) : Ok (ring_S N b b2 b3) fun r => (0 ≤ r.1 ∧ r.1 ≤ 65535) ∧ BellR b r.2 := by
  obtain ⟨h1, h2, h3⟩ := hb
  unfold ring_S
  refine Ok.brd (fun h => ring_j1_ok N h1 (by omega) (by omega)) (fun h => ring_j1_ok N h1 h2 (by omega))
theorem stroke_ok (N : Nat) {n : Int} {b : List Int} {b2 b3 : Int} (hb : Bell b b2) (hn : -1000000 ≤ n ∧ n ≤ 1000000) : Ok (stroke_S N n b b2 b3) fun r => (0 ≤ r.1 ∧ r.1 ≤ max 0 n) ∧ BellR b r.2 := by
  unfold stroke_S
  refine Ok.bind (ring_ok N hb) (fun r hr => ?_)
  obtain ⟨x, c, c2, c3⟩ := r
  refine Ok.chk (by omega) (Ok.grd (by simp only [Bool.not_eq_true', decide_eq_false_iff_not]; omega) (Ok.some ⟨?_, hr.2⟩))
  obtain ⟨⟨h1, h2⟩, _⟩ := hr
  dsimp only at *
  have hm : 0 < max 1 (n + 1) := by omega
  have := Int.tmod_lt_of_pos x hm
  have := Int.tmod_nonneg (max 1 (n + 1)) h1
  omega
theorem strike_ok (N : Nat) {lo hi : Int} {b : List Int} {b2 b3 : Int} (hb : Bell b b2) (hn : (-1000 ≤ lo ∧ lo ≤ 1000) ∧ -1000 ≤ hi ∧ hi ≤ 1000) : Ok (strike_S N lo hi b b2 b3) fun r => (lo ≤ r.1 ∧ r.1 ≤ max lo hi) ∧ BellR b r.2 := by
  unfold strike_S
  refine Ok.chk (by omega) (Ok.bind (stroke_ok N hb (by omega)) (fun r hr => ?_))
  obtain ⟨x, c, c2, c3⟩ := r
  obtain ⟨h, h2⟩ := hr
  dsimp only at *
  refine Ok.chk (by omega) (Ok.some ⟨by dsimp only; omega, h2⟩)
theorem seldom_ok (N : Nat) {n : Int} {b : List Int} {b2 b3 : Int} (hb : Bell b b2) (hn : -1000 ≤ n ∧ n ≤ 1000) : Ok (seldom_S N n b b2 b3) fun r => BellR b r.2 := by
  unfold seldom_S
  refine Ok.chk (by omega) (Ok.bind (stroke_ok N hb (by omega)) (fun r hr => ?_))
  obtain ⟨x, c, c2, c3⟩ := r
  exact Ok.some hr.2

/-! ### Texts that are made -/
theorem checkT_of {ws : List Wd} {ts : List Tn} {br_ : Int} (h : TFine ws ts br_) : checkT ws ts br_ = 0 := by
  have h1 := h.n0; have h2 := h.n; have h3 := h.t; have h4 := h.b0; have h5 := h.b1
  have e1 : ws.all okw = true := by
    rw [List.all_eq_true]
    intro w hw
    have := h.w w hw
    simp [okw]; omega
  have e2 : ts.all (ok2 ws.length) = true := by
    rw [List.all_eq_true]
    intro x hx
    have := h.x x hx
    simp only [ok2, inT, Bool.and_eq_true, decide_eq_true_eq]; omega
  have e3 : ts.all ok3 = true := by
    rw [List.all_eq_true]
    intro x hx
    have := h.x x hx
    simp only [ok3, decide_eq_true_eq]; omega
  have e4 : ts.all ok4 = true := by
    rw [List.all_eq_true]
    intro x hx
    have := h.x x hx
    simp only [ok4, Bool.not_eq_true', decide_eq_false_iff_not]; omega
  unfold checkT
  rw [if_neg (by omega), if_neg (by omega), if_neg (by omega), if_neg (by simp [e1]), if_neg (by simp [e2]), if_neg (by simp [e3]), if_neg (by simp [e4])]
abbrev BelR (b : List Int) (c : List Int) (c2 : Int) : Prop := c = b ∧ Bell b c2
def okWd (w : Wd) : Prop := (1 ≤ w.1 ∧ w.1 ≤ 9) ∧ 0 ≤ w.2.1 ∧ w.2.1 ≤ 20
def okTn (m : Nat) (x : Tn) : Prop := (0 ≤ x.1 ∧ x.1 < m) ∧ (0 ≤ x.2.1 ∧ x.2.1 < m) ∧ (0 ≤ x.2.2 ∧ x.2.2 < m) ∧ x.2.1 ≤ x.2.2 ∧ ¬ (x.2.1 ≤ x.1 ∧ x.1 ≤ x.2.2)
section
variable {N : Nat} {b : List Int}
theorem made_l1_p {turns u g t : Int} (hu : 0 ≤ u ∧ u ≤ 100) : ∀ (n k : Nat) (b2 b3 : Int) (W : List Wd), u < n + k → (k : Int) ≤ u → Bell b b2 → W.length = k → (∀ w ∈ W, okWd w) →
    Ok (made_l1 N n turns u k b b2 b3 g t W) fun z => z.1 = turns ∧ BelR b z.2.1 z.2.2.1 ∧ z.2.2.2.2.1 = g ∧ z.2.2.2.2.2.1 = t ∧ (z.2.2.2.2.2.2.length : Int) = u ∧ ∀ w ∈ z.2.2.2.2.2.2, okWd w
  | 0, k, b2, b3, W, h, _, _, _, _ => by omega
  | n + 1, k, b2, b3, W, h, hk, hb, hW, hw => by
    unfold made_l1
    refine Ok.brd (fun c => ?_) (fun c => Ok.some ⟨rfl, ⟨rfl, hb⟩, rfl, rfl, by dsimp only; omega, hw⟩)
    refine Ok.bind (strike_ok N hb (by omega)) ?_
    rintro ⟨x, c1, c2, c3⟩ ⟨hx, hc, hb1⟩
    dsimp only at hx hc hb1 ⊢
    obtain rfl := hc.symm
    refine Ok.bind (stroke_ok N hb1 (by omega)) ?_
    rintro ⟨y, d1, d2, d3⟩ ⟨hy, hc, hb2⟩
    dsimp only at hy hc hb2 ⊢
    obtain rfl := hc.symm
    refine Ok.bind (seldom_ok N hb2 (by omega)) ?_
    rintro ⟨z, e1, e2, e3⟩ ⟨hc, hb3⟩
    dsimp only at hc hb3 ⊢
    obtain rfl := hc.symm
    refine Ok.lim (by simp; omega) (Ok.chk (by omega) ?_)
    have := made_l1_p (turns := turns) (g := g) (t := t) hu n (k + 1) e2 e3 (W ++ [(x, y, !z)]) (by omega) (by omega) hb3 (by simp [hW]) (fun w hm => by
      rcases List.mem_append.1 hm with hm | hm
      · exact hw w hm
      · simp at hm; subst hm; exact ⟨by dsimp only; omega, by dsimp only; omega, by dsimp only; omega⟩)
    rw [show ((k + 1 : Nat) : Int) = (k : Int) + 1 by omega] at this
    exact this
theorem made_l2_p {u g t : Int} {W : List Wd} (hu : u ≤ 100) (hW : W.length ≤ 100) : ∀ (n k : Nat) (b2 b3 : Int) (X : List Tn), u < n + k → 0 < n → Bell b b2 → X.length ≤ k → k ≤ 1000 → (∀ x ∈ X, okTn W.length x) → ((X.length : Int) ≤ max u 0) →
    Ok (made_l2 N n u k b b2 b3 g t W X) fun z => BelR b z.1 z.2.1 ∧ z.2.2.2.1 = g ∧ z.2.2.2.2.1 = t ∧ z.2.2.2.2.2.1 = W ∧ ((z.2.2.2.2.2.2.length : Int) ≤ max u 0) ∧ ∀ x ∈ z.2.2.2.2.2.2, okTn W.length x
  | 0, k, b2, b3, X, h, h0, _, _, _, _, _ => by omega
  | n + 1, k, b2, b3, X, h, h0, hb, hX, hk, hx, hl => by
    unfold made_l2
    refine Ok.brd (fun c => ?_) (fun c => Ok.some ⟨⟨rfl, hb⟩, rfl, rfl, rfl, hl, hx⟩)
    refine Ok.brd (fun c => Ok.some ⟨⟨rfl, hb⟩, rfl, rfl, rfl, hl, hx⟩) (fun c2 => ?_)
    refine Ok.chk (by omega) (Ok.bind (stroke_ok N hb (by omega)) ?_)
    rintro ⟨lo, c1, c2', c3⟩ ⟨hlo, hc, hb1⟩
    dsimp only at hlo hc hb1 ⊢
    obtain rfl := hc.symm
    refine Ok.chk (by omega) (Ok.bind (stroke_ok N hb1 (by omega)) ?_)
    rintro ⟨y, d1, d2, d3⟩ ⟨hy, hc, hb2⟩
    dsimp only at hy hc hb2 ⊢
    obtain rfl := hc.symm
    refine Ok.chk (by omega) (Ok.chk (by omega) (Ok.bind (stroke_ok N hb2 (by omega)) ?_))
    rintro ⟨w, e1, e2, e3⟩ ⟨hw, hc, hb3⟩
    dsimp only at hw hc hb3 ⊢
    obtain rfl := hc.symm
    have hj : ∀ X', made_j1 N (made_l2 N n) u k b e2 e3 g t W X' = made_l2 N n u ((k + 1 : Nat) : Int) b e2 e3 g t W X' := fun X' => by
      unfold made_j1
      rw [chk_eq (by omega)]; rfl
    simp only [hj]
    have put : (w < lo ∨ min ((W.length : Int) - 1) (lo + y) < w) → Ok (lim (X.length + [(w, lo, min ((W.length : Int) - 1) (lo + y))].length) <| made_l2 N n u ((k + 1 : Nat) : Int) b e2 e3 g t W (X ++ [(w, lo, min ((W.length : Int) - 1) (lo + y))])) fun z => BelR b z.1 z.2.1 ∧ z.2.2.2.1 = g ∧ z.2.2.2.2.1 = t ∧ z.2.2.2.2.2.1 = W ∧ ((z.2.2.2.2.2.2.length : Int) ≤ max u 0) ∧ ∀ x ∈ z.2.2.2.2.2.2, okTn W.length x := fun hc => by
      refine Ok.lim (by simp; omega) ?_
      exact made_l2_p hu hW n (k + 1) e2 e3 _ (by omega) (by omega) hb3 (by simp; omega) (by omega) (fun x hm => by
        rcases List.mem_append.1 hm with hm | hm
        · exact hx x hm
        · simp at hm; subst hm
          unfold okTn; dsimp only; omega) (by simp; omega)
    refine Ok.brd (fun q => put (.inl q)) (fun q => Ok.brd (fun q2 => put (.inr q2)) (fun q2 => ?_))
    exact made_l2_p hu hW n (k + 1) e2 e3 X (by omega) (by omega) hb3 (by omega) (by omega) hx hl
theorem made_v (hN : 110 ≤ N) {words turns b2 b3 : Int} (hw : 1 ≤ words ∧ words ≤ 12) (ht : 0 ≤ turns ∧ turns ≤ 6) (hb : Bell b b2) :
    Ok (made_S N words turns b b2 b3) fun z => TFine z.1 z.2.1 z.2.2.1 ∧ (z.1.length : Int) ≤ words ∧ BelR b z.2.2.2.1 z.2.2.2.2.1 := by
  unfold made_S
  refine Ok.bind (strike_ok N hb (by omega)) ?_
  rintro ⟨x, c1, c2, c3⟩ ⟨hx, hc, hb1⟩
  dsimp only at hx hc hb1 ⊢
  obtain rfl := hc.symm
  refine Ok.bind (strike_ok N hb1 (by omega)) ?_
  rintro ⟨m, d1, d2, d3⟩ ⟨hm, hc, hb2⟩
  dsimp only at hm hc hb2 ⊢
  obtain rfl := hc.symm
  have e1 := made_l1_p (N := N) (turns := turns) (g := 0) (t := x) (u := m) (by omega) N 0 d2 d3 [] (by omega) (by omega) hb2 rfl (fun w h => by cases h)
  simp only [Int.natCast_zero] at e1
  refine Ok.bind e1 ?_
  rintro ⟨t', f1, f2, f3, g', x', W⟩ ⟨q1, ⟨q2, hb3⟩, q3, q4, hl, hW⟩
  dsimp only at q1 q2 q3 q4 hb3 hl hW ⊢
  obtain rfl := q1.symm
  obtain rfl := q2.symm
  obtain rfl := q3.symm
  obtain rfl := q4.symm
  refine Ok.bind (stroke_ok N hb3 (by omega)) ?_
  rintro ⟨k, h1, h2, h3⟩ ⟨hk, hc, hb4⟩
  dsimp only at hk hc hb4 ⊢
  obtain rfl := hc.symm
  have e2 := made_l2_p (N := N) (u := k) (g := 0) (t := x) (W := W) (by omega) (by omega) N 0 h2 h3 [] (by omega) (by omega) hb4 (by simp) (by omega) (fun x h => by cases h) (by simp; omega)
  simp only [Int.natCast_zero] at e2
  refine Ok.bind e2 ?_
  rintro ⟨i1, i2, i3, g'', x'', W', X⟩ ⟨⟨q2, hb5⟩, q3, q4, q5, hl2, hX⟩
  dsimp only at q2 q3 q4 q5 hb5 hl2 hX ⊢
  obtain rfl := q2.symm
  obtain rfl := q3.symm
  obtain rfl := q4.symm
  obtain rfl := q5.symm
  refine Ok.some ⟨⟨by dsimp only; omega, by dsimp only; omega, by dsimp only; omega, by dsimp only; omega, by dsimp only; omega, hW, hX⟩, by dsimp only; omega, rfl, hb5⟩
/-! ### Readings that are tried -/
end
end Go.Proofs.Ytfamlpbdhhikdaa

namespace Go.Proofs.Ytfamlpbdhhikdaa
set_option linter.all false
open Go

theorem ixfls_gen (N : Nat) (a b : Int) : ∀ (n : Nat) (l : List Tn) (u u2 : Int), ixfls_l1 N n l a b u u2 = ixL (fun x => lsays1_S N x.1 x.2.1 x.2.2 a b) n l u u2
  | 0, _, _, _ => rfl
  | n + 1, l, u, u2 => by unfold ixfls_l1 ixL; simp only [ixfls_gen N a b n]
section
variable {N : Nat} {ws : List Wd} {ts : List Tn} {br_ : Int}
theorem lsays_v (ht : ts.length ≤ 1000) (hN : ts.length < N) (a b : Int) : lsays_S N ws ts br_ a b = some (ts.any (turnP a b)) := by
  have h := ixS_any (f := fun x : Tn => lsays1_S N x.1 x.2.1 x.2.2 a b) (p := turnP a b) (s := ts) (N := N) (fun x _ => by
    unfold lsays1_S turnP
    by_cases h1 : a ≤ x.2.1 <;> by_cases h2 : x.2.2 < b <;> by_cases h3 : x.1 < a <;> by_cases h4 : b ≤ x.1 <;> simp [br, h1, h2, h3, h4] <;> omega) (by omega) hN
  unfold lsays_S cofls_S ixfls_S
  unfold ixS at h
  rw [ixfls_gen]
  rw [show ∀ (o : Option Bool), (o.bind fun x => some x) = o from fun o => by cases o <;> rfl]
  exact h
theorem turnL_any (a b : Int) : decide (0 < ((turnL ts a b).length : Int)) = ts.any (turnP a b) := by
  rw [Bool.eq_iff_iff, decide_eq_true_eq, List.any_eq_true]
  constructor
  · intro h
    obtain ⟨x, hx⟩ := List.exists_mem_of_length_pos (l := turnL ts a b) (by omega)
    unfold turnL turnK at hx
    simp only [List.mem_map, List.mem_filter, List.mem_range] at hx
    obtain ⟨i, ⟨hi, hp⟩, _⟩ := hx
    exact ⟨_, getD_mem hi, hp⟩
  · rintro ⟨x, hx, hp⟩
    obtain ⟨i, hi, rfl⟩ := List.getElem_of_mem hx
    have : (i : Int) ∈ turnL ts a b := mem_turnK.2 ⟨hi, by simpa [List.getD, hi] using hp⟩
    have := List.length_pos_of_mem this
    omega
theorem rightR_eq (a b : Nat) : rightR ws ts br_ a b = (decide (sylR ws a b ≤ br_) && (stopR ws a && (stopR ws b && !(ts.any (turnP a b))))) := by
  unfold rightR faultR
  rw [turnL_any]
  by_cases c : br_ < sylR ws a b
  · rw [if_pos c, decide_eq_false (by omega)]; rfl
  · rw [if_neg c, decide_eq_true (by omega)]
    cases stopR ws a <;> cases stopR ws b <;> simp
theorem fits_l1_p {f t : Int} {u : List Wd} (hu : u.length ≤ 100) (hw : ∀ w ∈ u, 0 ≤ w.1 ∧ w.1 ≤ 1000) : ∀ (n k : Nat) (s : Int), u.length < n + k → k ≤ u.length → 0 ≤ s ∧ s ≤ 1000 * k → fits_l1 N n f t s u u.length k ws ts br_ = some (f, t, s + ((u.drop k).map (·.1)).sum, ws, ts, br_)
  | 0, k, s, h, hk, _ => by omega
  | n + 1, k, s, h, hk, hs => by
    unfold fits_l1
    by_cases hlt : k < u.length
    · rw [br_dec (by omega), idx_eq (by omega) (gets hlt (0, 0, false))]
      have hm := hw _ (getD_mem (d := (0, 0, false)) hlt)
      rw [drop_cons hlt (0, 0, false)]
      generalize u.getD k (0, 0, false) = x at *
      rw [chk_eq (by omega), chk_eq (by omega)]
      have := fits_l1_p (f := f) (t := t) hu hw n (k + 1) (s + x.1) (by omega) (by omega) (by omega)
      rw [show ((k + 1 : Nat) : Int) = (k : Int) + 1 by omega] at this
      rw [this]
      simp only [List.map_cons, List.sum_cons, Int.add_assoc]
    · rw [br_ndec (by omega), List.drop_of_length_le (by omega)]
      simp
variable (hN : 110 ≤ N) (hF : TFine ws ts br_)
include hN hF
theorem fits_v {a b : Nat} (hab : a < b) (hb : b ≤ ws.length) : fits_S N ws ts br_ a b = some (rightR ws ts br_ a b) := by
  have hn := hF.n; have ht := hF.t
  obtain ⟨h1, h2⟩ := okW_iff.1 hF.okW
  have hl : ((ws.take b).drop a).length ≤ 100 := by simp only [List.length_drop, List.length_take]; omega
  have e := fits_l1_p (N := N) (ws := ws) (ts := ts) (br_ := br_) (f := (a : Int)) (t := (b : Int)) (u := (ws.take b).drop a) hl (take_drop_mem h2 _ _) N 0 0 (by omega) (by omega) (by omega)
  simp only [Int.natCast_zero, List.drop_zero, Int.zero_add] at e
  have hst : ∀ p : Nat, 1 ≤ p → p ≤ ws.length → ws[((p : Int) - 1).toNat]? = some (ws.getD (p - 1) (0, 0, false)) := fun p h3 h4 => by
    rw [show (p : Int) - 1 = ((p - 1 : Nat) : Int) by omega]
    exact gets (l := ws) (by omega) _
  unfold fits_S
  rw [grd_eq (by simp; omega)]
  simp only [Int.toNat_natCast]
  rw [e]
  simp only [Option.bind_some]
  rw [rightR_eq, lsays_v (by omega) (by omega)]
  simp only [Option.bind_some]
  change br (decide (sylR ws a b ≤ br_)) _ _ = _
  by_cases c : sylR ws a b ≤ br_
  rotate_left
  · rw [br_ndec c, decide_eq_false c]; rfl
  rw [br_dec c, decide_eq_true c]
  by_cases c1 : a = 0
  · subst c1
    rw [br_dec (by omega)]
    by_cases c2 : b = ws.length
    · rw [br_dec (by omega)]; simp [stopR, c2]
    · rw [br_ndec (by omega), chk_eq (by omega), idx_eq (by omega) (hst b (by omega) hb)]
      have : stopR ws b = (ws.getD (b - 1) (0, 0, false)).2.2 := by
        unfold stopR; simp [c2, show ¬ b = 0 by omega]
      rw [← this]
      cases stopR ws b <;> simp [br, stopR]
  · rw [br_ndec (by omega), chk_eq (by omega), idx_eq (by omega) (hst a (by omega) (by omega))]
    have ea : stopR ws a = (ws.getD (a - 1) (0, 0, false)).2.2 := by
      unfold stopR; simp [show ¬ a = ws.length by omega, c1]
    rw [← ea]
    cases stopR ws a
    · rfl
    rw [br_true]
    by_cases c2 : b = ws.length
    · rw [br_dec (by omega)]; simp [stopR, c2]
    · rw [br_ndec (by omega), chk_eq (by omega), idx_eq (by omega) (hst b (by omega) hb)]
      have : stopR ws b = (ws.getD (b - 1) (0, 0, false)).2.2 := by
        unfold stopR; simp [c2, show ¬ b = 0 by omega]
      rw [← this]
      cases stopR ws b <;> simp [br]
omit hN hF
/-! ### Places -/
/-! ### Right readings -/
include hN hF
end
end Go.Proofs.Ytfamlpbdhhikdaa

namespace Go.Proofs.Ytfamlpbdhhikdaa
set_option linter.all false
open Go

section
variable {N : Nat} {ws : List Wd} {ts : List Tn} {br_ : Int} (hN : 110 ≤ N) (hF : TFine ws ts br_)
include hN hF
end
end Go.Proofs.Ytfamlpbdhhikdaa

namespace Go.Proofs.Ytfamlpbdhhikdaa
set_option linter.all false
open Go

/-! ### Runs that no turn is said otherwise by -/
section
variable {N : Nat} {ws : List Wd} {ts : List Tn} {br_ : Int} (hN : 110 ≤ N) (ht : ts.length ≤ 100)
include hN ht
end
/-! ### Turns that are parted -/
section
variable {ws : List Wd} {ts : List Tn} {br_ : Int}
end
section
variable {N : Nat} {ws : List Wd} {ts : List Tn} {br_ : Int} (hN : 110 ≤ N) (hF : TFine ws ts br_)
include hN hF
end
end Go.Proofs.Ytfamlpbdhhikdaa

namespace Go.Proofs.Ytfamlpbdhhikdaa
set_option linter.all false
open Go

section
variable {N : Nat} {ws : List Wd} {ts : List Tn} {br_ : Int} (hN : 110 ≤ N) (hF : TFine ws ts br_)
include hN hF
end
end Go.Proofs.Ytfamlpbdhhikdaa

namespace Go.Proofs.Ytfamlpbdhhikdaa
set_option linter.all false
open Go

/-- Marks from others, lowered at the places of right breaths from places ahead of one. -/
structure Low (R : Nat → Nat → Bool) (m f : Nat) (A M : List Int) : Prop where
  len : M.length = 13
  le : ∀ q, M.getD q 0 ≤ A.getD q 0
  hold : ∀ p q, p < f → p < q → q ≤ m → R p q = true → M.getD q 0 ≤ M.getD p 0 + 1
  why : ∀ q, M.getD q 0 = A.getD q 0 ∨ ∃ p, p < f ∧ p < q ∧ q ≤ m ∧ R p q = true ∧ M.getD q 0 = M.getD p 0 + 1
structure Mk (A : List Int) : Prop where
  len : A.length = 13
  bd : ∀ q, 0 ≤ A.getD q 0 ∧ A.getD q 0 ≤ 99
section
variable {R : Nat → Nat → Bool} {m : Nat} {A M : List Int}
theorem Low.start (h : Mk A) : Low R m 0 A A := ⟨h.len, fun q => Int.le_refl _, fun p q h => by omega, fun q => .inl rfl⟩
theorem Low.bd (hA : Mk A) {f : Nat} (h : Low R m f A M) : ∀ q, 0 ≤ M.getD q 0 ∧ M.getD q 0 ≤ 99 := by
  intro q
  induction q using Nat.strongRecOn with
  | ind q ih =>
    have h1 := h.le q
    have h2 := hA.bd q
    rcases h.why q with e | ⟨p, _, hp, _, _, e⟩
    · omega
    · have := ih p hp; omega
theorem Low.next {f : Nat} {M' : List Int} (h : Low R m f A M) (hl : M'.length = 13) (hM : ∀ q, M'.getD q 0 = if (f < q ∧ q ≤ m ∧ R f q = true) then min (M.getD q 0) (M.getD f 0 + 1) else M.getD q 0) : Low R m (f + 1) A M' := by
  have hle : ∀ q, M'.getD q 0 ≤ M.getD q 0 := fun q => by
    rw [hM q]; split <;> omega
  have hsm : ∀ p, p ≤ f → M'.getD p 0 = M.getD p 0 := fun p hp => by rw [hM p, if_neg (by omega)]
  refine ⟨hl, fun q => Int.le_trans (hle q) (h.le q), fun p q h1 h2 h3 h4 => ?_, fun q => ?_⟩
  · rw [hsm p (by omega)]
    by_cases e : p = f
    · subst e
      rw [hM q, if_pos ⟨h2, h3, h4⟩]; omega
    · have := h.hold p q (by omega) h2 h3 h4
      have := hle q; omega
  · by_cases e : M'.getD q 0 = M.getD q 0
    · rw [e]
      rcases h.why q with h1 | ⟨p, h1, h2, h3, h4, h5⟩
      · exact .inl h1
      · exact .inr ⟨p, by omega, h2, h3, h4, by rw [hsm p (by omega)]; exact h5⟩
    · by_cases c : f < q ∧ q ≤ m ∧ R f q = true
      · have h1 := hM q
        rw [if_pos c] at h1
        exact .inr ⟨f, by omega, c.1, c.2.1, c.2.2, by rw [hsm f (Nat.le_refl _)]; omega⟩
      · exact absurd (by rw [hM q, if_neg c]) e
theorem Low.holds (h : Low R m m A A) : ∀ p q, p < q → q ≤ m → R p q = true → A.getD q 0 ≤ A.getD p 0 + 1 := fun p q h1 h2 h3 => h.hold p q (by omega) h1 h2 h3
end
section
variable {N : Nat} {ws : List Wd} {ts : List Tn} {br_ : Int} (hN : 110 ≤ N) (hF : TFine ws ts br_)
include hF
include hN
end
end Go.Proofs.Ytfamlpbdhhikdaa

namespace Go.Proofs.Ytfamlpbdhhikdaa
set_option linter.all false
open Go

section
variable {N : Nat} {ws : List Wd} {ts : List Tn} {br_ : Int} (hN : 110 ≤ N) (hF : TFine ws ts br_)
include hN hF
end
end Go.Proofs.Ytfamlpbdhhikdaa

namespace Go.Proofs.Ytfamlpbdhhikdaa
set_option linter.all false
open Go

section
variable {N : Nat} {ws : List Wd} {ts : List Tn} {br_ : Int}
variable (hN : 110 ≤ N) (hF : TFine ws ts br_)
include hN hF
omit hN hF
def inW (ws : List Wd) (l : List Int) : Prop := ∀ w ∈ l, 0 ≤ w ∧ w < ws.length
include hF
end
/-! ### Errors of kept words -/
def ascB : List Int → Bool
  | a :: b :: r => decide (a < b) && ascB (b :: r)
  | _ => true
section
variable {N : Nat} {ws : List Wd} {ts : List Tn} {br_ : Int}
end
/-! ### Prices -/
section
variable {N : Nat} {ws : List Wd} {ts : List Tn} {br_ : Int}
end
end Go.Proofs.Ytfamlpbdhhikdaa

namespace Go.Proofs.Ytfamlpbdhhikdaa
set_option linter.all false
open Go

/-! ### Ascending lists -/
theorem asc_step : ∀ {l : List Int} (_ : ascB l = true) (i : Nat), i + 1 < l.length → l.getD i 0 < l.getD (i + 1) 0
  | [], _, i, h => by simp at h
  | [a], _, i, h => by simp at h
  | a :: b :: r, hl, i, h => by
    simp only [ascB, Bool.and_eq_true, decide_eq_true_eq] at hl
    cases i with
    | zero => simpa using hl.1
    | succ i => simpa using asc_step hl.2 i (by simpa using h)
theorem asc_get {l : List Int} (h : ascB l = true) (i : Nat) : ∀ (d : Nat), i + d < l.length → l.getD i 0 + d ≤ l.getD (i + d) 0
  | 0, _ => by simp
  | d + 1, hd => by
    have h1 := asc_get h i d (by omega)
    have h2 := asc_step h (i + d) (by omega)
    rw [show i + (d + 1) = i + d + 1 by omega]
    omega
theorem asc_lt {l : List Int} (h : ascB l = true) {i j : Nat} (hij : i < j) (hj : j < l.length) : l.getD i 0 + ((j : Int) - i) ≤ l.getD j 0 := by
  have := asc_get h i (j - i) (by omega)
  rw [show i + (j - i) = j by omega] at this
  omega
/-- Where a number would lie. -/
def posI : List Int → Int → Nat
  | [], _ => 0
  | a :: l, v => if a < v then posI l v + 1 else 0
theorem posI_lt {v : Int} : ∀ {l : List Int} {i : Nat}, i < posI l v → i < l.length ∧ l.getD i 0 < v
  | [], i, h => by simp [posI] at h
  | a :: l, i, h => by
    unfold posI at h
    split at h
    · rename_i c
      cases i with
      | zero => exact ⟨by simp, by simpa using c⟩
      | succ i =>
        have := posI_lt (v := v) (l := l) (i := i) (by omega)
        exact ⟨by simpa using this.1, by simpa using this.2⟩
    · omega
theorem posI_le {v : Int} : ∀ (l : List Int), posI l v ≤ l.length
  | [] => by simp [posI]
  | a :: l => by
    have := posI_le (v := v) l
    unfold posI
    split <;> simp <;> omega
theorem posI_at {v : Int} : ∀ {l : List Int}, posI l v < l.length → v ≤ l.getD (posI l v) 0
  | [], h => by simp at h
  | a :: l, h => by
    unfold posI at h ⊢
    split at h
    · rename_i c
      have := posI_at (v := v) (l := l) (by simpa using h)
      rw [if_pos c]
      simpa using this
    · rename_i c
      rw [if_neg c]
      simp; omega
theorem posI_uniq {v : Int} {l : List Int} {k : Nat} (hk : k ≤ l.length) (h1 : ∀ i, i < k → l.getD i 0 < v) (h2 : k < l.length → v ≤ l.getD k 0) : posI l v = k := by
  rcases Nat.lt_trichotomy (posI l v) k with h | h | h
  · have := posI_at (v := v) (l := l) (by omega)
    have := h1 _ h
    omega
  · exact h
  · have := posI_lt h
    have := h2 this.1
    omega
theorem posI_of {l : List Int} (h : ascB l = true) {i : Nat} (hi : i < l.length) : posI l (l.getD i 0) = i :=
  posI_uniq (by omega) (fun j hj => by have := asc_lt h hj hi; omega) (fun _ => by omega)
theorem contains_iff {l : List Int} (h : ascB l = true) {v : Int} : l.contains v = true ↔ posI l v < l.length ∧ l.getD (posI l v) 0 = v := by
  rw [List.contains_iff_mem]
  constructor
  · intro hm
    obtain ⟨i, hi, rfl⟩ := List.getElem_of_mem hm
    have : l[i] = l.getD i 0 := by simp [List.getD, hi]
    rw [this, posI_of h hi]
    exact ⟨hi, rfl⟩
  · rintro ⟨h1, h2⟩
    rw [← h2]; exact getD_mem h1
theorem posI_succ {l : List Int} (h : ascB l = true) (v : Int) : posI l (v + 1) = if l.contains v = true then posI l v + 1 else posI l v := by
  split
  · rename_i c
    obtain ⟨c1, c2⟩ := (contains_iff h).1 c
    refine posI_uniq (by omega) (fun i hi => ?_) (fun hl => ?_)
    · rcases Nat.lt_or_ge i (posI l v) with c3 | c3
      · have := (posI_lt c3).2; omega
      · obtain rfl : i = posI l v := by omega
        omega
    · have := asc_step h (posI l v) hl
      omega
  · rename_i c
    refine posI_uniq (posI_le l) (fun i hi => by have := (posI_lt hi).2; omega) (fun hl => ?_)
    have := posI_at hl
    rcases Int.lt_or_le v (l.getD (posI l v) 0) with c3 | c3
    · omega
    · exact absurd ((contains_iff h).2 ⟨hl, by omega⟩) c
/-- A stretch of words is kept whole just if its ends lie as far apart among the kept ones. -/
theorem stretch {l : List Int} (h : ascB l = true) {lo hi : Int} (hle : lo ≤ hi) : (wordsL lo (hi + 1)).all (fun w => l.contains w) = (l.contains lo && (l.contains hi && decide ((posI l hi : Int) - posI l lo = hi - lo))) := by
  rw [Bool.eq_iff_iff]
  simp only [Bool.and_eq_true, decide_eq_true_eq, List.all_eq_true, mem_wordsL]
  constructor
  · intro ha
    have key : ∀ (d : Nat), lo + d ≤ hi → posI l (lo + d) = posI l lo + d := by
      intro d
      induction d with
      | zero => intro _; simp
      | succ d ih =>
        intro hd
        have e := posI_succ h (lo + d)
        rw [if_pos (ha _ (by omega)), ih (by omega), show lo + (d : Int) + 1 = lo + ((d + 1 : Nat) : Int) by omega] at e
        rw [e]; omega
    refine ⟨ha _ (by omega), ha _ (by omega), ?_⟩
    have := key (hi - lo).toNat (by omega)
    rw [show lo + ((hi - lo).toNat : Int) = hi by omega] at this
    omega
  · rintro ⟨h1, h2, h3⟩ w ⟨hw1, hw2⟩
    obtain ⟨a1, a2⟩ := (contains_iff h).1 h1
    obtain ⟨b1, b2⟩ := (contains_iff h).1 h2
    rw [List.contains_iff_mem]
    have hi' : posI l lo + (w - lo).toNat < l.length := by omega
    have := asc_get h (posI l lo) (w - lo).toNat hi'
    have hj := asc_get h (posI l lo + (w - lo).toNat) (hi - w).toNat (by omega)
    rw [show posI l lo + (w - lo).toNat + (hi - w).toNat = posI l hi by omega, b2] at hj
    rw [a2] at this
    rw [show w = l.getD (posI l lo + (w - lo).toNat) 0 by omega]
    exact getD_mem hi'
/-! ### The binary search -/
/-! ### Kept words -/
section
variable {N : Nat} {ws : List Wd} {ts : List Tn} {br_ : Int}
variable (hN : 110 ≤ N) (hF : TFine ws ts br_)
include hN hF
omit hN hF
include hN hF
omit hN hF
/-! ### The reference -/
include hN hF
omit hN hF
end
/-! ### The statement -/
section
variable {N : Nat}
end
end Go.Proofs.Ytfamlpbdhhikdaa

namespace Go.Proofs.Ytfamlpbdhhikdaa
set_option linter.all false
open Go

/-- Ascending words from one on. -/
def okC (m : Int) : Int → List Int → Prop
  | _, [] => True
  | lo, a :: r => (lo ≤ a ∧ a < m) ∧ okC m (a + 1) r
theorem okC_mono {m lo lo' : Int} (h : lo' ≤ lo) : ∀ {c : List Int}, okC m lo c → okC m lo' c
  | [], _ => trivial
  | a :: r, ⟨⟨h1, h2⟩, h3⟩ => ⟨⟨by omega, h2⟩, h3⟩
theorem okC_len {m : Int} : ∀ {c : List Int} {lo : Int}, okC m lo c → c ≠ [] → lo + c.length ≤ m
  | [], _, _, h => absurd rfl h
  | [a], lo, ⟨⟨h1, h2⟩, _⟩, _ => by simp; omega
  | a :: b :: r, lo, ⟨⟨h1, h2⟩, h3⟩, _ => by
    have := okC_len h3 (by simp)
    simp at this ⊢; omega
theorem okC_mem {m : Int} : ∀ {c : List Int} {lo : Int}, okC m lo c → ∀ x ∈ c, lo ≤ x ∧ x < m
  | a :: r, lo, ⟨⟨h1, h2⟩, h3⟩, x, hx => by
    rcases List.mem_cons.1 hx with rfl | hx
    · exact ⟨h1, h2⟩
    · have := okC_mem h3 x hx; omega
/-- Which of two lists comes ahead. -/
def bef : List Int → List Int → Bool
  | a :: l, b :: r => if a = b then bef l r else decide (a < b)
  | _, _ => false
/-- What a choice of words comes to. -/
def ChF (m : Int) (P : List Int → Bool) (l : List Int) (lo : Int) (k : Nat) : Option (List Int) → Prop
  | none => ∀ c, okC m lo c → c.length = k → P (l ++ c) = false
  | some x => ∃ c, okC m lo c ∧ c.length = k ∧ x = l ++ c ∧ P x = true ∧ ∀ c', okC m lo c' → c'.length = k → P (l ++ c') = true → bef c' c = false
theorem ChF.step {m : Int} {P : List Int → Bool} {l : List Int} {w : Int} {k : Nat} {r : Option (List Int)} (h1 : ∀ c, okC m (w + 1) c → c.length = k → P ((l ++ [w]) ++ c) = false) (h2 : ChF m P l (w + 1) (k + 1) r) : ChF m P l w (k + 1) r := by
  have key : ∀ c, okC m w c → c.length = k + 1 → P (l ++ c) = true → okC m (w + 1) c := by
    intro c hc hl hp
    cases c with
    | nil => simp at hl
    | cons a c =>
      obtain ⟨⟨a1, a2⟩, a3⟩ := hc
      by_cases e : a = w
      · subst e
        have := h1 c a3 (by simpa using hl)
        rw [List.append_assoc, List.singleton_append, hp] at this
        cases this
      · exact ⟨⟨by omega, a2⟩, a3⟩
  cases r with
  | none =>
    intro c hc hl
    cases hp : P (l ++ c)
    · rfl
    · rw [← hp]; exact h2 c (key c hc hl hp) hl
  | some x =>
    obtain ⟨c, c1, c2, c3, c4, c5⟩ := h2
    exact ⟨c, okC_mono (by omega) c1, c2, c3, c4, fun c' d1 d2 d3 => c5 c' (key c' d1 d2 d3) d2 d3⟩
theorem ChF.found {m : Int} {P : List Int → Bool} {l : List Int} {w : Int} {k : Nat} {x : List Int} (hw : w < m) (h : ChF m P (l ++ [w]) (w + 1) k (some x)) : ChF m P l w (k + 1) (some x) := by
  obtain ⟨c, c1, c2, c3, c4, c5⟩ := h
  refine ⟨w :: c, ⟨⟨by omega, hw⟩, c1⟩, by simp [c2], by simp [c3], c4, fun c' d1 d2 d3 => ?_⟩
  cases c' with
  | nil => rfl
  | cons a c' =>
    obtain ⟨⟨a1, a2⟩, a3⟩ := d1
    unfold bef
    by_cases e : a = w
    · subst e
      rw [if_pos rfl]
      exact c5 c' a3 (by simpa using d2) (by simpa using d3)
    · rw [if_neg e, decide_eq_false (by omega)]
section
variable {N : Nat} {ws : List Wd} {ts : List Tn} {br_ : Int}
theorem cloneo_v {l : List Int} (h : l ≠ []) (hl : l.length ≤ 1000) : cloneo_S N l = some l := by
  unfold cloneo_S
  rw [grd_eq (by cases l <;> simp_all), lim_eq (by simp; omega)]; rfl
variable (hN : 110 ≤ N) (hF : TFine ws ts br_)
include hN hF
/-- What is told as the fewest words. -/
def LeastW (m : Int) (P : List Int → Bool) (l : List Int) : Prop := okC m 0 l ∧ l ≠ [] ∧ P l = true ∧ ∀ c, okC m 0 c → c ≠ [] → P c = true → l.length < c.length ∨ l.length = c.length ∧ bef c l = false
omit hN hF
end
/-! ### Words that can be left out -/
section
variable {N : Nat} {ws : List Wd} {ts : List Tn} {br_ : Int} (hN : 110 ≤ N) (hF : TFine ws ts br_)
include hN hF
omit hN hF
include hN hF
omit hN hF
end
end Go.Proofs.Ytfamlpbdhhikdaa

namespace Go.Proofs.Ytfamlpbdhhikdaa
set_option linter.all false
open Go

/-! ### Which list comes ahead -/
theorem bef_self : ∀ l : List Int, bef l l = false
  | [] => rfl
  | a :: l => by unfold bef; rw [if_pos rfl, bef_self l]
theorem bef_trans : ∀ {a b c : List Int}, bef a b = true → bef b c = true → bef a c = true
  | [], _, _, h, _ => by simp [bef] at h
  | _ :: _, [], _, h, _ => by simp [bef] at h
  | _ :: _, _ :: _, [], _, h => by simp [bef] at h
  | x :: a, y :: b, z :: c, h1, h2 => by
    unfold bef at h1 h2 ⊢
    by_cases e : x = y
    · subst e
      rw [if_pos rfl] at h1
      by_cases e2 : x = z
      · subst e2
        rw [if_pos rfl] at h2 ⊢
        exact bef_trans h1 h2
      · rw [if_neg e2] at h2 ⊢; exact h2
    · rw [if_neg e, decide_eq_true_eq] at h1
      by_cases e2 : y = z
      · subst e2
        rw [if_neg e, decide_eq_true_eq]; exact h1
      · rw [if_neg e2, decide_eq_true_eq] at h2
        rw [if_neg (by omega), decide_eq_true_eq]; omega
def prec (a b : List Int) : Prop := a.length < b.length ∨ a.length = b.length ∧ bef a b = true
theorem prec_trans {a b c : List Int} : prec a b → prec b c → prec a c := by
  rintro (h | ⟨h, h2⟩) (g | ⟨g, g2⟩)
  · exact .inl (by omega)
  · exact .inl (by omega)
  · exact .inl (by omega)
  · exact .inr ⟨by omega, bef_trans h2 g2⟩
theorem prec_self (l : List Int) : ¬ prec l l := by
  rintro (h | ⟨_, h⟩)
  · omega
  · rw [bef_self] at h; cases h
/-! ### Lists that numbers say -/
def lst : Nat → Int → Nat → List Int
  | 0, _, _ => []
  | k + 1, w, n => (if n % 2 = 1 then [w] else []) ++ lst k (w + 1) (n / 2)
theorem lst_zero : ∀ (k : Nat) (w : Int), lst k w 0 = []
  | 0, _ => rfl
  | k + 1, w => by unfold lst; rw [if_neg (by decide), List.nil_append, Nat.zero_div, lst_zero k]
theorem lst_ok : ∀ (k : Nat) (w : Int) (n : Nat), okC (w + k) w (lst k w n)
  | 0, _, _ => trivial
  | k + 1, w, n => by
    have := lst_ok k (w + 1) (n / 2)
    rw [show w + 1 + (k : Int) = w + ((k + 1 : Nat) : Int) by omega] at this
    unfold lst
    split
    · exact ⟨by omega, this⟩
    · exact okC_mono (by omega) this
theorem lst_all : ∀ (k : Nat) (w : Int) (c : List Int), okC (w + k) w c → ∃ n, n < 2 ^ k ∧ lst k w n = c
  | 0, w, c, h => by
    cases c with
    | nil => exact ⟨0, by decide, rfl⟩
    | cons a r => have := h.1; omega
  | k + 1, w, c, h => by
    have hp : 2 ^ (k + 1) = 2 * 2 ^ k := by rw [Nat.pow_succ]; omega
    have e : w + ((k + 1 : Nat) : Int) = w + 1 + (k : Int) := by omega
    rw [e] at h
    by_cases d : ∃ r, c = w :: r
    · obtain ⟨r, rfl⟩ := d
      obtain ⟨n, h1, h2⟩ := lst_all k (w + 1) r h.2
      refine ⟨2 * n + 1, by omega, ?_⟩
      unfold lst
      rw [if_pos (by omega), show (2 * n + 1) / 2 = n by omega, h2]; rfl
    · have h' : okC (w + 1 + (k : Int)) (w + 1) c := by
        cases c with
        | nil => trivial
        | cons a r =>
          have : a ≠ w := fun ha => d ⟨r, by rw [ha]⟩
          obtain ⟨⟨h1, h2⟩, h3⟩ := h
          exact ⟨⟨by omega, h2⟩, h3⟩
      obtain ⟨n, h1, h2⟩ := lst_all k (w + 1) c h'
      refine ⟨2 * n, by omega, ?_⟩
      unfold lst
      rw [if_neg (by omega), show (2 * n) / 2 = n by omega, h2]; rfl
theorem lst_ne {k : Nat} {w : Int} {n : Nat} (h : n < 2 ^ k) (h0 : n ≠ 0) : lst k w n ≠ [] := by
  induction k generalizing w n with
  | zero => simp at h; omega
  | succ k ih =>
    have hp : 2 ^ (k + 1) = 2 * 2 ^ k := by rw [Nat.pow_succ]; omega
    unfold lst
    split
    · simp
    · rw [List.nil_append]
      exact ih (by omega) (by omega)
section
variable {N : Nat} {ws : List Wd} {ts : List Tn} {br_ : Int}
/-- The best of the lists that were looked at. -/
def BestI (m : Nat) (P : List Int → Bool) (k : Nat) (best : List Int) : Prop :=
  best = [] ∧ (∀ i, 1 ≤ i → i < k → P (lst m 0 i) = false) ∨ (okC m 0 best ∧ best ≠ [] ∧ P best = true) ∧ ∀ i, 1 ≤ i → i < k → P (lst m 0 i) = true → ¬ prec (lst m 0 i) best
theorem BestI.skip {m : Nat} {P : List Int → Bool} {k : Nat} {best : List Int} (h : BestI m P k best) (hp : P (lst m 0 k) = false) : BestI m P (k + 1) best := by
  rcases h with ⟨h1, h2⟩ | ⟨h1, h2⟩
  · refine .inl ⟨h1, fun i a b => ?_⟩
    by_cases e : i = k
    · rw [e]; exact hp
    · exact h2 i a (by omega)
  · refine .inr ⟨h1, fun i a b c => ?_⟩
    by_cases e : i = k
    · rw [e, hp] at c; cases c
    · exact h2 i a (by omega) c
theorem BestI.keep {m : Nat} {P : List Int → Bool} {k : Nat} {best : List Int} (h : BestI m P k best) (hb : best ≠ []) (hp : ¬ prec (lst m 0 k) best) : BestI m P (k + 1) best := by
  rcases h with ⟨h1, h2⟩ | ⟨h1, h2⟩
  · exact absurd h1 hb
  · refine .inr ⟨h1, fun i a b c => ?_⟩
    by_cases e : i = k
    · rw [e]; exact hp
    · exact h2 i a (by omega) c
theorem BestI.take {m : Nat} {P : List Int → Bool} {k : Nat} {best : List Int} (h : BestI m P k best) (hk : 1 ≤ k ∧ k < 2 ^ m) (hp : P (lst m 0 k) = true) (hb : best = [] ∨ prec (lst m 0 k) best) : BestI m P (k + 1) (lst m 0 k) := by
  have ho := lst_ok m 0 k
  rw [Int.zero_add] at ho
  refine .inr ⟨⟨ho, lst_ne hk.2 (by omega), hp⟩, fun i a b c => ?_⟩
  by_cases e : i = k
  · rw [e]; exact prec_self _
  · rcases h with ⟨h1, h2⟩ | ⟨h1, h2⟩
    · rw [h2 i a (by omega)] at c; cases c
    · rcases hb with hb | hb
      · exact absurd hb h1.2.1
      · exact fun hpr => h2 i a (by omega) c (prec_trans hpr hb)
theorem BestI.done {m : Nat} {P : List Int → Bool} {best : List Int} (h : BestI m P (2 ^ m) best) : best ≠ [] ∧ LeastW m P best ∨ best = [] ∧ ∀ c, okC m 0 c → c ≠ [] → P c = false := by
  have key : ∀ c, okC (m : Int) 0 c → c ≠ [] → ∃ i, 1 ≤ i ∧ i < 2 ^ m ∧ lst m 0 i = c := by
    intro c hc hn
    obtain ⟨n, h1, h2⟩ := lst_all m 0 c (by rw [Int.zero_add]; exact hc)
    refine ⟨n, ?_, h1, h2⟩
    rcases Nat.eq_zero_or_pos n with e | e
    · subst e; rw [lst_zero] at h2; exact absurd h2.symm hn
    · exact e
  rcases h with ⟨h1, h2⟩ | ⟨⟨h1, h3, h4⟩, h2⟩
  · refine .inr ⟨h1, fun c hc hn => ?_⟩
    obtain ⟨i, a, b, rfl⟩ := key c hc hn
    exact h2 i a b
  · refine .inl ⟨h3, h1, h3, h4, fun c hc hn hp => ?_⟩
    obtain ⟨i, a, b, rfl⟩ := key c hc hn
    have := h2 i a b hp
    unfold prec at this
    rcases Nat.lt_trichotomy best.length (lst m 0 i).length with e | e | e
    · exact .inl e
    · refine .inr ⟨e, ?_⟩
      cases hb : bef (lst m 0 i) best
      · rfl
      · exact absurd (.inr ⟨e.symm, hb⟩) this
    · exact absurd (.inl e) this
variable (hN : 110 ≤ N) (hF : TFine ws ts br_)
include hN hF
omit hN hF
end
end Go.Proofs.Ytfamlpbdhhikdaa

namespace Go.Proofs.Ytfamlpbdhhikdaa
set_option linter.all false
open Go

theorem okC_asc {m : Int} : ∀ {c : List Int} {lo : Int}, okC m lo c → ascB c = true
  | [], _, _ => rfl
  | [_], _, _ => rfl
  | a :: b :: r, lo, ⟨_, h2⟩ => by
    have := h2.1.1
    simp only [ascB, Bool.and_eq_true, decide_eq_true_eq]
    exact ⟨by omega, okC_asc h2⟩
/-! ### All words -/
/-! ### Words of words -/
def pick (l k : List Int) : List Int := k.map fun i => l.getD i.toNat 0
section
variable {ws : List Wd} {ts : List Tn} {br_ : Int} {l : List Int} (hl : ascB l = true) (hw : inW ws l)
include hl hw
omit hw
omit hl
include hl
omit hl
end
end Go.Proofs.Ytfamlpbdhhikdaa

namespace Go.Proofs.Ytfamlpbdhhikdaa
set_option linter.all false
open Go

end Go.Proofs.Ytfamlpbdhhikdaa

namespace Go.Proofs.Ytfamlpbdhhikdaa
set_option linter.all false
open Go

section
variable {N : Nat} {ws : List Wd} {ts : List Tn} {br_ : Int} (hN : 110 ≤ N) {b : List Int}
include hN
omit hN
end
end Go.Proofs.Ytfamlpbdhhikdaa

namespace Go.Proofs.Ytfamlpbdhhikdaa
set_option linter.all false
open Go Go.Proofs

shelf_lay Lays2.n23 Nm2 23 at Try as layDel

theorem Fn.ofCalls {P : Program} {f : FuncId} {args : Array Value} {w : World} {R : Ending → World → Prop} {R' : Value → World → Prop} (h : Calls P f args w R) (hr : ∀ e w', R e w' → ∃ v, e = .returned v ∧ R' v w') : Fn P f args w R' := by
  intro cs
  obtain ⟨e, w', fr, r, s, x⟩ := h cs
  obtain ⟨v, rfl, r'⟩ := hr e w' r
  exact ⟨v, w', fr, r', s, x⟩
theorem RepL_int {M : Nat → Option Obj} {k : IntKind} : ∀ (l : List Int) (vs : List Value), RepL M (.int k) l vs → vs = l.map (.int k) ∧ ∀ x ∈ l, inR k x
  | [], vs, h => ⟨h, fun _ h => by cases h⟩
  | x :: l, vs, h => by
    obtain ⟨v1, v2, rfl, ⟨rfl, h1⟩, h2⟩ := h
    obtain ⟨rfl, h3⟩ := RepL_int l v2 h2
    refine ⟨rfl, fun y hy => ?_⟩
    rcases List.mem_cons.1 hy with rfl | hy
    · exact h1
    · exact h3 y hy
theorem RepL_int_mk {M : Nat → Option Obj} {k : IntKind} : ∀ (l : List Int), (∀ x ∈ l, inR k x) → RepL M (.int k) l (l.map (.int k))
  | [], _ => rfl
  | x :: l, h => ⟨[.int k x], l.map (.int k), rfl, ⟨rfl, h x (by simp)⟩, RepL_int_mk l (fun y hy => h y (by simp [hy]))⟩
theorem putCells_lst (enc : Int → Value) (d : List Int) (vs rest : List Value) (h : vs.length = d.length) : «Sort».putCells enc 0 d.toArray (vs ++ rest).toArray = (d.map enc ++ rest).toArray := by
  apply Array.ext_getElem?
  intro k
  simp only [«Sort».putCells, Array.getElem?_mapIdx, List.getElem?_toArray]
  by_cases c : k < d.length
  · rw [List.getElem?_append_left (by omega), List.getElem?_append_left (by simpa using c), List.getElem?_eq_getElem (by omega), List.getElem?_map, List.getElem?_eq_getElem c]
    simp [c]
  · rw [List.getElem?_append_right (by omega), List.getElem?_append_right (by simp; omega), List.length_map, h]
    cases rest[k - d.length]? with
    | none => rfl
    | some v => simp [c]
def delete_S (_N : Nat) (i j : Int) (l : List Int) : Option (List Int) := if 0 ≤ i ∧ i ≤ j ∧ j ≤ l.length ∧ 0 < l.length then some (l.take i.toNat ++ l.drop j.toNat) else none
noncomputable def sp_delete (N : Nat) : Spec := { f := 73, ins := ⟨[.ols 0, .i .i64, .i .i64], [.lst (.int .i64)]⟩, outs := [⟨[.ols 1], [.dead, .lst (.int .i64)]⟩], run := fun p k => (delete_S N p.1.2.1 p.1.2.2.1 p.2.1).bind fun r => k (((), ()), ((), r, ())) }
/-- An own list is written in place. -/
theorem Sim.inPlace {g : Gh} {w w' : World} {l l' : List Int} {b c n : Nat} {vs rest rest' : List Value} {ty : TypeId} {h0 : Nat → Option Blk'} (hs : Sim g h0 w) (hh : ∀ i k, h0 i = some k → i = 0) (h00 : h0 0 = some (.lst (.int .i64) l)) (he : g.ρ 0 = some (some (b, c, n))) (h1 : g.ρ 1 = none) (hM : g.M b = none) (hb : w.heap[b]? = some (.cells (vs ++ rest).toArray ty (0, 0)))
    (hos : w'.os = w.os) (htp : w'.tape = w.tape) (hout : w'.output = w.output) (hsz : w.heap.size ≤ w'.heap.size) (hsame : ∀ i, i < w.heap.size → i ≠ b → w'.heap[i]? = w.heap[i]?) (hb' : w'.heap[b]? = some (.cells ((l'.map (Value.int .i64)) ++ rest').toArray ty (0, 0))) (hr : ∀ x ∈ l', inR .i64 x) (hl : l'.length ≤ 1000000) (hc : l'.length ≤ c ∧ c ≤ 9223372036854775807) (hrl : rest'.length = c - l'.length) :
    ∃ g', Stp (Sw g h0 (List.range 1)) (fun i => 1 ≤ i ∧ i < 2) g w g' w' ∧ Sim g' (fun i => ([.dead, .lst (.int .i64) l'] : List Blk')[i]?) w' ∧ RepV g' (.ols 1) (.slice (some ⟨b, 0, none⟩) l'.length c) := by
  have hSw : Sw g h0 (List.range 1) b := ⟨0, by simp, _, c, n, h00, rfl, he⟩
  refine ⟨newG g 1 (some (b, c, l'.length)), ⟨hos, htp, hout, hsz, fun i hi hn => ?_, newG_ge h1, fun i h2 h3 => ?_, fun i b' c' n' h2 h3 => ?_, fun b' o h2 => .inl h2⟩, ⟨fun b' o h2 => ?_, fun i k hk => ?_, fun i j ki kj b' ci ni cj nj hi hj mi mj ei ej => ?_⟩, .inr ⟨b, c, l'.length, newG_self _ _ _, rfl⟩⟩
  · exact hsame i hi (fun e => hn (e ▸ hSw))
  · by_cases e : i = 1
    · omega
    · simp only [newG, if_neg e] at h3
      exact absurd h2 h3
  · by_cases e : i = 1
    · subst e
      rw [newG_self] at h3
      simp only [Option.some.injEq, Prod.mk.injEq] at h3
      exact .inr (h3.1 ▸ hSw)
    · simp only [newG, if_neg e] at h3
      rw [h2] at h3; cases h3
  · have h2' : g.M b' = some o := h2
    have hbb := hs.mem b' o h2'
    rw [hsame b' (lt_of_blk hbb) (fun e => by rw [e, hM] at h2'; cases h2')]
    exact hbb
  · match i, hk with
    | 0, hk => simp at hk; subst hk; trivial
    | 1, hk =>
      simp at hk; subst hk
      refine ⟨hl, .inr ⟨b, c, l'.map (Value.int .i64), rest', ty, newG_self _ _ _, hb', RepL_int_mk l' hr, hc, ?_, hM⟩⟩
      simp [Ty.cells, hrl]
    | i + 2, hk => simp at hk
  · match i, j, hi, hj with
    | 0, _, hi, _ => simp at hi; subst hi; cases mi
    | _, 0, _, hj => simp at hj; subst hj; cases mj
    | 1, 1, _, _ => rfl
    | i + 2, _, hi, _ => simp at hi
    | _, j + 2, _, hj => simp at hj
theorem sp_delete_ok (N : Nat) : SpecOK Try.prog (sp_delete N) := by
  refine ⟨fun Z p κ => ?_, fun args w => Sem.pv_run _ _ _ (by kernel_rfl) w, fun p r hpr g w vs hv hs hρ => ?_⟩
  · show ((delete_S N _ _ _).bind _) = ((delete_S N _ _ _).bind _).bind κ
    cases delete_S N _ _ _ <;> rfl
  · obtain ⟨⟨⟨⟩, (i : Int), (j : Int), ⟨⟩⟩, (l : List Int), ⟨⟩⟩ := p
    have hpr' : ((delete_S N i j l).bind fun r => some (((), ()), ((), r, ()))) = some r := hpr
    unfold delete_S at hpr'
    split at hpr'
    rotate_left
    · cases hpr'
    rename_i hc
    simp only [Option.bind_some] at hpr'
    cases hpr'
    obtain ⟨hi0, hij, hjl, hl0⟩ := hc
    -- the arguments
    simp only [encs, enc, RepVs] at hv
    obtain ⟨v0, us, rfl, h0, v1, us1, rfl, h1, v2, us2, rfl, h2, rfl⟩ := hv
    simp only [RepV] at h0 h1 h2
    obtain ⟨rfl, hi1⟩ := h1
    obtain ⟨rfl, hj1⟩ := h2
    have hB := hs.blk 0 (.lst (.int .i64) l) rfl
    obtain ⟨hlen, hB⟩ := hB
    rcases hB with ⟨_, e⟩ | ⟨b, c, cs, rest, ty, e0, hb, hL, hcap, hrest, hM⟩
    · rw [e] at hl0; simp at hl0
    rcases h0 with ⟨e, _⟩ | ⟨b2, c2, n2, e, rfl⟩
    · simp only [id] at e; rw [e0] at e; cases e
    simp only [id] at e
    rw [e0] at e
    simp only [Option.some.injEq, Prod.mk.injEq] at e
    obtain ⟨rfl, rfl, rfl⟩ := e
    obtain ⟨rfl, hr⟩ := RepL_int l cs hL
    obtain ⟨i, rfl⟩ : ∃ k : Nat, i = k := ⟨i.toNat, by omega⟩
    obtain ⟨j, rfl⟩ : ∃ k : Nat, j = k := ⟨j.toNat, by omega⟩
    simp only [Int.toNat_natCast] at *
    have hholds : «Sort».Holds (Value.int .i64) w b 0 l.toArray := by
      intro k hk
      simp only [List.size_toArray] at hk
      have hcell : (l.map (Value.int .i64) ++ rest)[k]? = some (.int .i64 l[k]!) := by
        rw [List.getElem?_append_left (by simpa using hk), List.getElem?_map, List.getElem?_eq_getElem hk]
        simp [hk]
      refine ⟨?_, ?_⟩
      · unfold World.cell?
        rw [hb]
        simpa using hcell
      · unfold World.frozen?
        rw [hb]
        simp
    have hC := Any.slices_Delete_int layDel b 0 c i j l w hholds hcap.1 hcap.2 (by omega) (by omega)
    refine Fn.ofCalls hC (fun e w' he => ?_)
    obtain ⟨rfl, q, hw⟩ := he
    refine ⟨_, rfl, ?_⟩
    have hsz : (l.take i ++ l.drop j).length = l.length - (j - i) := by simp; omega
    have hheap : w'.heap = w.heap.modify b («Sort».onCells («Sort».putCells (Value.int .i64) 0 (l.take i ++ l.drop j ++ List.replicate (j - i) 0).toArray)) := by rw [hw]; rfl
    have hb' : w'.heap[b]? = some (.cells (((l.take i ++ l.drop j).map (Value.int .i64)) ++ ((List.replicate (j - i) (0 : Int)).map (Value.int .i64) ++ rest)).toArray ty (0, 0)) := by
      rw [hheap, Array.getElem?_modify, if_pos rfl, hb]
      simp only [Option.map_some, «Sort».onCells]
      rw [putCells_lst _ _ _ _ (by simp; omega), List.map_append, List.append_assoc]
    obtain ⟨g', st, hs', hv'⟩ := Sim.inPlace (l' := l.take i ++ l.drop j) (w' := w') hs (fun i k hk => by
      match i, hk with
      | 0, _ => rfl
      | i + 1, hk =>
        have hk' : ([.lst (.int .i64) l] : List Blk')[i + 1]? = some k := hk
        simp at hk') rfl e0 (hρ 1 (Nat.le_refl 1)) hM hb (by rw [hw]; rfl) (by rw [hw]; rfl) (by rw [hw]; rfl) (by rw [hheap]; simp) (fun k hk hne => by rw [hheap, Array.getElem?_modify, if_neg (fun h => hne h.symm)]) hb' (fun x hx => by
        rcases List.mem_append.1 hx with hx | hx
        · exact hr x (List.mem_of_mem_take hx)
        · exact hr x (List.mem_of_mem_drop hx)) (by omega) (by omega) (by simp [Ty.cells] at hrest ⊢; omega)
    refine ⟨g', st, hs', ?_⟩
    rw [hsz] at hv'
    exact hv'
end Go.Proofs.Ytfamlpbdhhikdaa

namespace Go.Proofs.Ytfamlpbdhhikdaa
set_option linter.all false
open Go

end Go.Proofs.Ytfamlpbdhhikdaa

namespace Go.Proofs.Ytfamlpbdhhikdaa
set_option linter.all false
open Go

section
variable {N : Nat}
variable {ws : List Wd} {ts : List Tn} {br_ : Int} {b : List Int}
/-! ### To leave out one word -/
/-! ### The rounds -/
end
end Go.Proofs.Ytfamlpbdhhikdaa
